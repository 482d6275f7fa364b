/- Part of a proof: what stands for the program, and its walk. No condition. -/
import Derived.Below
import Derived.ChangeArms
import Derived.ChangeMaps5
import Derived.Laws.Cells
import Derived.Laws.IdiomCopy
import Derived.MapKept
import Derived.Orders
import Derived.Shelf.GgSortFunc.RowK
import Derived.Shelf.SlSortCmp.NoneTotal
import Derived.Shelf.SlSortCmp.WholeK
import Derived.Shelf.SortM.Plain
import Derived.Shelf.SortM.SortNone
import Derived.Shelf.Spec.SlicesInsertGrow
import Derived.SizedLaws
import Derived.WalkKit
import Derived.WalkLawsBesides
import GoSem.Claim
import Derived.Test.YteaieinpnpnkbaaDVb
set_option linter.unusedSimpArgs false
set_option linter.unusedVariables false
set_option linter.defProp false
set_option maxHeartbeats 1000000
namespace Go.Proofs.Yteaieinpnpnkbaa.VM
open Go.RowKit Go.Shelf Go.Sort
section
variable {P : Program} {φ φ' : Env} {w w' : World} {H : Heap}
theorem upd_none_ahead (n : Nat) : Upd none0 w none0 (Sort.ahead w n) := ⟨rfl, rfl, rfl, Nat.le_refl _, fun _ _ h => h, fun _ _ _ h => (by cases h), fun _ _ _ => rfl, fun _ _ h => h, by show w.drawn ≤ w.drawn + n; omega⟩
theorem grow_old (os : Array Obj) {B : Nat} (h : B < w.heap.size) : (grow w os).heap[B]? = w.heap[B]? := by
  show (w.heap ++ os)[B]? = _
  rw [Array.getElem?_append_left h]
theorem upd_none_grow (os : Array Obj) : Upd none0 w none0 (grow w os) := by
  refine ⟨rfl, rfl, rfl, ?_, fun _ _ h => h, fun _ _ _ h => (by cases h), fun B hB _ => grow_old os hB, fun B x hx => ?_, Nat.le_refl _⟩
  · show w.heap.size ≤ (w.heap ++ os).size
    rw [Array.size_append]; omega
  · have hB : B < w.heap.size := by
      rcases Nat.lt_or_ge B w.heap.size with h | h
      · exact h
      · unfold World.shape? at hx; rw [Array.getElem?_eq_none h] at hx; cases hx
    unfold World.shape? at hx ⊢
    rw [grow_old os hB]; exact hx
theorem setMany_all {F0 : Array Value} {vs : List Value} (h : vs.length = F0.size) : setMany F0 0 vs = vs.toArray := by
  refine ext_get! (by simp [h]) fun t ht => ?_
  rw [size_setMany] at ht
  rw [get_setMany _ _ _ _ ht, if_pos ⟨Nat.zero_le _, by omega⟩]
  simp
theorem putRow_id {B o : Nat} {F0 F : Array Value} (h : Holds id w B o F0) (hs : F.size = F0.size) : putRow id w B o F = w.setCells B o F.toList := by
  have e := setCells_putRow w B o F.toList 0 F0 (by simp [hs])
  rw [putRow_self id w B o F0 h, Nat.add_zero, setMany_all (by simp [hs])] at e
  exact e.symm
theorem putCells_map {α : Type} [Inhabited α] (enc : α → Value) (o : Nat) (d : Array α) (c : Array Value) : putCells enc o d c = putCells id o (d.map enc) c := by
  unfold putCells
  refine Array.ext (by simp) fun k h1 h2 => ?_
  simp only [Array.getElem_mapIdx, Array.size_map, id]
  by_cases hk : o ≤ k ∧ k < o + d.size
  · rw [if_pos hk, if_pos hk]
    have : k - o < d.size := by omega
    rw [getElem!_pos d _ this, getElem!_pos (d.map enc) _ (by simpa using this), Array.getElem_map]
  · rw [if_neg hk, if_neg hk]
theorem putRow_map {α : Type} [Inhabited α] (enc : α → Value) (w : World) (B o : Nat) (d : Array α) : putRow enc w B o d = putRow id w B o (d.map enc) := by
  unfold putRow
  congr 1
  funext c
  exact putCells_map enc o d c
theorem holds_map {α : Type} [Inhabited α] {enc : α → Value} {B o : Nat} {d : Array α} (h : Holds id w B o (d.map enc)) : Holds enc w B o d := by
  intro j hj
  have := h j (by simpa using hj)
  rw [getElem!_pos (d.map enc) _ (by simpa using hj), Array.getElem_map] at this
  rw [getElem!_pos d _ hj]
  exact this
theorem holds_of {b B o N : Nat} {e' : TypeId} {cs : List AV} {us : List Value} (q3 : VRm φ w cs B o) (u : VRs φ w cs us) (uc : ∀ j v, us[j]? = some v → w.cell? ⟨B, o + j, none⟩ = some v) (q4 : ∀ i, i ≤ N → w.frozen? ⟨B, i, none⟩ = false) (q5 : o + cs.length ≤ N) : Holds id w B o us.toArray := by
  intro j hj
  have hj' : j < us.length := by simpa using hj
  have hl := u.length
  rw [getElem!_pos us.toArray _ hj]
  exact ⟨uc j _ (by simp [List.getElem?_eq_getElem hj']), q4 _ (by omega)⟩
theorem VRs.ints : ∀ {zs : List Int} {us : List Value}, VRs φ w (zs.map (AV.int .i64)) us → us = zs.map (Value.int .i64)
  | [], _, h => by cases h; rfl
  | z :: zs, _, h => by
    cases h with | cons h t =>
    cases h
    rw [t.ints]; rfl
theorem VRs.ofInts : ∀ {zs : List Int}, VRs φ w (zs.map (AV.int .i64)) (zs.map (Value.int .i64))
  | [] => .nil
  | z :: zs => .cons (.int _ _) VRs.ofInts
/-- numbers, rising -/
def isort (zs : List Int) : List Int := zs.mergeSort fun x y => decide (x ≤ y)
theorem sortI_ok {ρ : Ren} (L : SlLaysM.n5 P ρ) {b n cap e ver : Nat} {zs : List Int} (hg : H.get b = some (.cells (zs.map (.int .i64)) e ver)) (hl : zs.length = n) (h0 : 0 < n) (hsm : n < 4611686018427387904) :
    OK P (ρ.f 5) [.sl b 0 n cap 1] H (.tup []) (H.put b (.cells ((isort zs).map (.int .i64)) e (ver + 1))) := by
  refine ⟨?_, fun φ w us hr hus => ?_⟩
  · obtain ⟨nm, hn, hf⟩ := L.f5
    refine ⟨_, hf, rfl, fun e => ?_⟩
    rw [show nm = "runtime.NumGoroutine" from e] at hn
    simp at hn
  obtain ⟨B, o, e', N, q1, q2, q3, q4, q5⟩ := hr.cells hg
  cases us with | mk us =>
  simp only at hus
  cases hus with | cons h1 t =>
  cases t
  cases h1 with
  | sl0 a => omega
  | sl hb1 hc1 hl1 hs1 hr1 =>
    rename_i oB oo c oN oE
    rw [q1] at hb1
    cases hb1
    obtain ⟨vs, v1, v2⟩ := q3.vals
    obtain rfl := v1.ints
    have hH : Holds id w B o (zs.map (Value.int .i64)).toArray := holds_of (b := b) (e' := e') q3 v1 v2 q4 q5
    have hH' : Holds (Value.int .i64) w B o zs.toArray := holds_map (by simpa using hH)
    have C := AnyM.slices_Sort_int L B o c zs w hH' (hr.lt _ _ q1) (by omega)
    rw [hl] at C
    refine Calls.mono C ?_
    rintro en w' ⟨rfl, m, os, rfl⟩
    have hlen : (isort zs).length = zs.length := by simp [isort]
    have ep : putRow (Value.int .i64) (Sort.ahead w m) B o (zs.mergeSort fun x y => decide (x ≤ y)).toArray = (Sort.ahead w m).setCells B (o + 0) ((isort zs).map (Value.int .i64)) := by
      rw [putRow_map, putRow_id (w := Sort.ahead w m) (F0 := (zs.map (Value.int .i64)).toArray) hH (by simp)]
      simp [isort]
    rw [ep]
    obtain ⟨r1, u1⟩ := hr.same (upd_none_ahead (w := w) m)
    have hw : writeAt H b 0 ((isort zs).map (AV.int .i64)) = some (H.put b (.cells ((isort zs).map (.int .i64)) e (ver + 1))) := by
      rw [writeAt_go, hg, wrB_some, if_pos ⟨by simp [hlen], by simp [List.all_eq_true, AV.one]⟩]
      have hd : ((zs.map (AV.int .i64)).drop (0 + ((isort zs).map (AV.int .i64)).length)) = [] := List.drop_of_length_le (by simp [hlen])
      rw [hd]; simp
    obtain ⟨r2, _, _⟩ := hr_write r1 q1 hw (VRs.ofInts (zs := isort zs))
    have u2 := updH_write (w := Sort.ahead w m) (at_ := o + 0) (us := (isort zs).map (Value.int .i64)) q1 hw
    obtain ⟨r3, u3⟩ := r2.same (upd_none_grow (w := (Sort.ahead w m).setCells B (o + 0) ((isort zs).map (Value.int .i64))) os)
    exact ⟨φ, _, rfl, .tup .nil, r3, (u1.trans u2).trans u3⟩
theorem sortI_nil {ρ : Ren} (L : SlLaysM.n5 P ρ) : OK P (ρ.f 5) [.nils] H (.tup []) H := by
  refine ⟨?_, fun φ w us hr hus => ?_⟩
  · obtain ⟨nm, hn, hf⟩ := L.f5
    refine ⟨_, hf, rfl, fun e => ?_⟩
    rw [show nm = "runtime.NumGoroutine" from e] at hn
    simp at hn
  cases us with | mk us =>
  simp only at hus
  cases hus with | cons h1 t =>
  cases t
  cases h1
  refine Calls.mono (AnyM.slices_Sort_int_none L none 0 w) ?_
  rintro en w' ⟨rfl, rfl⟩
  exact ⟨φ, _, rfl, .tup .nil, hr, UpdH.refl _ _ _⟩
end
end Go.Proofs.Yteaieinpnpnkbaa.VM
namespace Go.Proofs.Yteaieinpnpnkbaa.VM
open Go.RowKit Go.Shelf Go.Sort
theorem flatn_at {β : Type} {k : Nat} : ∀ {L : List (List β)} {i : Nat} (hi : i < L.length), (∀ l ∈ L, l.length = k) → (L.flatten.drop (i * k)).take k = L[i]
  | l :: L, 0, _, h => by simp [List.take_left' (h l (.head _))]
  | l :: L, i + 1, hi, h => by
    rw [List.flatten_cons, Nat.add_mul, Nat.one_mul, Nat.add_comm, ← List.drop_drop, List.drop_left' (h l (.head _)), flatn_at (by simpa using hi) fun m hm => h m (.tail _ hm)]
    rfl
theorem flatn_len {β : Type} {k : Nat} : ∀ {L : List (List β)}, (∀ l ∈ L, l.length = k) → L.flatten.length = L.length * k
  | [], _ => by simp
  | l :: L, h => by rw [List.flatten_cons, List.length_append, h l (.head _), flatn_len fun m hm => h m (.tail _ hm), List.length_cons, Nat.add_mul, Nat.one_mul, Nat.add_comm]
theorem flatn_get {β : Type} [Inhabited β] {k : Nat} (hk : 0 < k) {L : List (List β)} (h : ∀ l ∈ L, l.length = k) {t : Nat} (ht : t < L.length * k) : L.flatten[t]'(by rw [flatn_len h]; exact ht) = (L[t / k]'(Nat.div_lt_of_lt_mul (by rw [Nat.mul_comm]; exact ht)))[t % k]! := by
  have hi : t / k < L.length := Nat.div_lt_of_lt_mul (by rw [Nat.mul_comm]; exact ht)
  have e := flatn_at hi h
  have hl : (L[t / k]).length = k := h _ (List.getElem_mem _)
  have hm : t % k < k := Nat.mod_lt _ hk
  rw [← e]
  have e2 : t / k * k + t % k = t := by have := Nat.div_add_mod t k; rw [Nat.mul_comm] at this; exact this
  rw [getElem!_pos _ _ (by rw [e, hl]; exact hm)]
  simp only [List.getElem_take, List.getElem_drop, e2]
theorem flatK_list {α : Type} [Inhabited α] {enc : α → List Value} {k : Nat} (hk : 0 < k) (h : ∀ x, (enc x).length = k) (d : Array α) : (flatK enc k d).toList = (d.toList.map enc).flatten := by
  have hl : ∀ l ∈ d.toList.map enc, l.length = k := fun l hl => by obtain ⟨x, _, rfl⟩ := List.mem_map.1 hl; exact h x
  apply List.ext_getElem
  · simp only [Array.length_toList, size_flatK, flatn_len hl, List.length_map]
  · intro t h1 h2
    have h1' : t < d.size * k := by simpa using h1
    have ht : t < (d.toList.map enc).length * k := by simpa using h1'
    have hd : t / k < d.size := Nat.div_lt_of_lt_mul (by rw [Nat.mul_comm]; exact h1')
    rw [flatn_get hk hl ht]
    have := get_flatK enc k d t h1'
    rw [getElem!_pos _ _ (by simpa using h1')] at this
    rw [Array.getElem_toList, this]
    rw [getElem!_pos d (t / k) hd]; simp
section
variable {P : Program} {φ φ' : Env} {w w' : World} {H : Heap}
mutual
theorem Fz.undead {r : Bool} {b : Nat} {X : Blk} : ∀ {x y : AV}, Fz r (H.put b .dead) x y → Fz r (H.put b X) x y
  | _, _, .undef => .undef
  | _, _, .bool b => .bool b
  | _, _, .int k n => .int k n
  | _, _, .str s => .str s
  | _, _, .nilp => .nilp
  | _, _, .nils => .nils
  | _, _, .nilm => .nilm
  | _, _, .nilf => .nilf
  | _, _, .sl (b := c) hl hg hc t => .sl hl (by
      rw [Heap.get_put] at hg ⊢
      by_cases e : c = b
      · rw [if_pos e] at hg; cases hg
      · rw [if_neg e] at hg ⊢; exact hg) hc t.undead
  | _, _, .sl0 => .sl0
  | _, _, .ptr (b := c) hg t => .ptr (by
      rw [Heap.get_put] at hg ⊢
      by_cases e : c = b
      · rw [if_pos e] at hg; cases hg
      · rw [if_neg e] at hg ⊢; exact hg) t.undead
  | _, _, .agg t => .agg t.undead
  | _, _, .tup t => .tup t.undead
  | _, _, .fn t => .fn t.undead
  | _, _, .rs0 => .rs0
  | _, _, .rs hr t => .rs hr t.undead
  | _, _, .rp hr t => .rp hr t.undead
theorem Fzs.undead {r : Bool} {b : Nat} {X : Blk} : ∀ {x y : List AV}, Fzs r (H.put b .dead) x y → Fzs r (H.put b X) x y
  | _, _, .nil => .nil
  | _, _, .cons f t => .cons f.undead t.undead
end
theorem grow_of_upd (u : Upd none0 w φ' w') : ∃ q os, w' = grow (w.drewN q) os := by
  refine ⟨w'.drawn - w.drawn, w'.heap.extract w.heap.size w'.heap.size, ?_⟩
  have hh : w'.heap = w.heap ++ w'.heap.extract w.heap.size w'.heap.size := by
    apply Array.ext_getElem?
    intro i
    rcases Nat.lt_or_ge i w.heap.size with c | c
    · rw [Array.getElem?_append_left c]
      exact u.keep i c fun _ _ e => by cases e
    · rw [Array.getElem?_append_right c, Array.getElem?_extract]
      by_cases d : i < w'.heap.size
      · rw [if_pos (by omega)]; congr 1; omega
      · rw [if_neg (by omega), Array.getElem?_eq_none (by omega)]
  have h1 := u.os; have h2 := u.tape; have h3 := u.output; have h4 := u.drawn
  obtain ⟨heap', tape', drawn', os', output'⟩ := w'
  simp only [grow, World.drewN] at *
  subst h1 h2 h3
  congr 1
  omega
theorem enters_call {g : Nat} (e : Enters P g) : ∀ args w, (callFunc g args).run P w = .ok (.enter g args) w := by
  obtain ⟨fn, h1, h2, h3⟩ := e
  obtain ⟨c, hc⟩ := Option.isSome_iff_exists.1 h2
  exact enters_of h1 (by simpa using h3) hc
theorem permIn_list {α : Type} [Inhabited α] {d d' : Array α} (h : PermIn 0 d.size d d') : d'.toList.Perm d.toList := by
  obtain ⟨h1, _, h3⟩ := h
  have e1 : (d'.extract 0 d.size) = d' := by rw [← h1]; simp
  have e2 : (d.extract 0 d.size) = d := by simp
  rwa [e1, e2] at h3
theorem VRs.flats {cell : Nat → List AV} {encV : Nat → List Value} : ∀ {l : List Nat}, (∀ i ∈ l, VRs φ w (cell i) (encV i)) → VRs φ w (l.map cell).flatten (l.map encV).flatten
  | [], _ => .nil
  | i :: l, h => by
    rw [List.map_cons, List.flatten_cons, List.map_cons, List.flatten_cons]
    exact (h i (.head _)).append (VRs.flats fun j hj => h j (.tail _ hj))
/-- the rows in which the sort lays the elements: by their places -/
structure SortP (n : Nat) (cf : Nat → Nat → Int) (p : List Nat) : Prop where
  perm : p.Perm (List.range n)
  rise : p.Pairwise fun i j => ¬ cf j i < 0
theorem sortF_ok {ρ : Ren} (L : SlLaysF0.n6 P ρ) {k : Nat} (aE : ∀ w, (isAgg (ρ.t 24)).run P w = .ok true w) (zE : ∀ w, (Go.sizeOf (ρ.t 24)).run P w = .ok k w) (hk : 0 < k) {b n cap e ver : Nat} {cell told : Nat → List AV} (h0 : 0 < n) (hsm : n < 4611686018427387904)
    (hlen : ∀ i, i < n → (cell i).length = k) (hone : ∀ i, i < n → (cell i).all AV.one = true) (hg : H.get b = some (.cells ((List.range n).map cell).flatten e ver)) {g : Nat} (eg : Enters P g) {cf : Nat → Nat → Int}
    (hO : SWO (ltOf fun x y : _root_.Fin n => cf x.1 y.1)) (ht : ∀ i, i < n → Fzs true (H.put b .dead) (cell i) (told i)) (hcmp : ∀ i j, i < n → j < n → Pu P g [.agg (told i), .agg (told j)] (fun v => v = .int .i64 (cf i j))) :
    ∃ p, SortP n cf p ∧ OK P (ρ.f 6) [.sl b 0 n cap k, .fn g []] H (.tup []) (H.put b (.cells (p.map cell).flatten e (ver + 1))) := by
  obtain ⟨m, rfl⟩ : ∃ m, n = m + 1 := ⟨n - 1, by omega⟩
  obtain ⟨D, hD⟩ : ∃ D : Array (_root_.Fin (m + 1)), D = Array.ofFn id := ⟨_, rfl⟩
  have hDs : D.size = m + 1 := by rw [hD]; simp
  have hDl : D.toList.map (·.1) = List.range (m + 1) := by
    rw [hD]
    apply List.ext_getElem
    · simp
    · intro i h1 h2
      rw [List.getElem_map, Array.getElem_toList, Array.getElem_ofFn, List.getElem_range]; rfl
  obtain ⟨R, hR⟩ : ∃ R, R = pdq (ltOf fun x y : _root_.Fin (m + 1) => cf x.1 y.1) D 0 D.size (Lib.bitLen D.size) true true := ⟨_, rfl⟩
  have hps := pdq_sorts (ltOf fun x y : _root_.Fin (m + 1) => cf x.1 y.1) hO D 0 D.size (Lib.bitLen D.size) true true (Nat.zero_le _) (Nat.le_refl _) (Or.inl rfl)
  rw [← hR] at hps
  have hRs : R.size = m + 1 := by rw [hps.1.1, hDs]
  refine ⟨R.toList.map (·.1), ⟨?_, ?_⟩, ?_, fun φ w us hr hus => ?_⟩
  · rw [← hDl]; exact (permIn_list hps.1).map _
  · rw [List.pairwise_iff_getElem]
    intro i j hi hj hij
    have h1 : j < D.size := by simpa [hRs, hDs] using hj
    have := hps.2 i j (Nat.zero_le _) hij h1
    rw [getElem!_pos R j (by omega), getElem!_pos R i (by omega)] at this
    simpa [ltOf] using this
  · obtain ⟨nm, hn, hf⟩ := L.f6
    refine ⟨_, hf, rfl, fun e => ?_⟩
    rw [show nm = "runtime.NumGoroutine" from e] at hn
    simp at hn
  obtain ⟨B, o, e', N, q1, q2, q3, q4, q5⟩ := hr.cells hg
  cases us with | mk us =>
  simp only at hus
  cases hus with | cons h1 t => cases t with | cons h2 t =>
  cases t
  cases h2 with | fn h2 =>
  rename_i vcap
  have hvc : vcap = #[] := by
    cases vcap with | mk l =>
    simp only at h2
    cases h2
    rfl
  subst hvc
  cases h1 with
  | sl hb1 hc1 hl1 hs1 hr1 =>
    rename_i oB oo c oN oE
    rw [q1] at hb1
    cases hb1
    obtain ⟨vs, v1, v2⟩ := q3.vals
    obtain ⟨encN, hencN⟩ : ∃ encN : Nat → List Value, encN = fun i => (vs.drop (i * k)).take k := ⟨_, rfl⟩
    have hcl : ∀ l ∈ (List.range (m + 1)).map cell, l.length = k := fun l hl => by
      obtain ⟨i, hi, rfl⟩ := List.mem_map.1 hl
      exact hlen i (List.mem_range.1 hi)
    have hV : ∀ i, i < m + 1 → VRs φ w (cell i) (encN i) := fun i hi => by
      have h3 := (v1.drop (i * k)).take k
      rw [flatn_at (by simpa using hi) hcl] at h3
      rw [hencN]
      simpa using h3
    obtain ⟨enc, henc⟩ : ∃ enc : _root_.Fin (m + 1) → List Value, enc = fun i => encN i.1 := ⟨_, rfl⟩
    have hVe : ∀ i : _root_.Fin (m + 1), VRs φ w (cell i.1) (enc i) := fun i => by rw [henc]; exact hV i.1 i.2
    have elen : ∀ i, (enc i).length = k := fun i => by rw [← (hVe i).length]; exact hlen i.1 i.2
    have eone : ∀ i, ∀ v ∈ enc i, v.oneCell' = true := fun i v hv => by
      obtain ⟨j, hj, rfl⟩ := List.getElem_of_mem hv
      exact (hVe i).one (hone i.1 i.2) _ hv
    have hHs : Holds id w B o vs.toArray := holds_of (b := b) (e' := e') q3 v1 v2 q4 q5
    have flatD : ∀ dk : Array (_root_.Fin (m + 1)), dk.size = m + 1 → (flatK enc k dk).size = vs.toArray.size := fun dk hdk => by
      have := v1.length
      rw [flatn_len hcl] at this
      simp [hdk]; simpa using this
    have hVd : ∀ dk : Array (_root_.Fin (m + 1)), VRs φ w ((dk.toList.map (·.1)).map cell).flatten (flatK enc k dk).toList := fun dk => by
      rw [flatK_list hk elen]
      have e1 : dk.toList.map enc = (dk.toList.map (·.1)).map encN := by rw [List.map_map, henc]; rfl
      rw [e1]
      exact VRs.flats fun i hi => by
        obtain ⟨j, _, rfl⟩ := List.mem_map.1 hi
        exact hV j.1 j.2
    have hfD : flatK enc k D = vs.toArray := by
      apply Array.ext'
      rw [flatK_list hk elen]
      have e1 : D.toList.map enc = (List.range (m + 1)).map encN := by rw [← hDl, List.map_map, henc]; rfl
      rw [e1]
      have hvl : vs.length = (m + 1) * k := by rw [← v1.length, flatn_len hcl]; simp
      have el : ∀ l ∈ (List.range (m + 1)).map encN, l.length = k := fun l hl => by
        obtain ⟨i, hi, rfl⟩ := List.mem_map.1 hl
        rw [← (hV i (List.mem_range.1 hi)).length]; exact hlen i (List.mem_range.1 hi)
      apply List.ext_getElem
      · rw [flatn_len el]; simp [hvl]
      · intro t g1 g2
        have ht1 : t < ((List.range (m + 1)).map encN).length * k := by rwa [flatn_len el] at g1
        rw [flatn_get hk el ht1]
        have hdm : t / k * k + t % k = t := by have := Nat.div_add_mod t k; rw [Nat.mul_comm] at this; exact this
        have hm : t % k < k := Nat.mod_lt _ hk
        have htv : t < vs.length := by simpa using g2
        simp only [List.getElem_map, List.getElem_range, hencN]
        rw [getElem!_pos _ _ (by rw [List.length_take, List.length_drop]; omega)]
        simp only [List.getElem_take, List.getElem_drop, hdm]
    have hH : HoldsK enc k w B o D := by
      show Holds id w B o (flatK enc k D)
      rw [hfD]; exact hHs
    -- the worlds of the sort
    have wld : ∀ (q : Nat) (os : Array Obj) (dk : Array (_root_.Fin (m + 1))), dk.size = m + 1 → HR φ (sortWorldK enc k w B o q dk os) (H.put b (.cells ((dk.toList.map (·.1)).map cell).flatten e (ver + 1))) ∧ UpdH φ w H φ (sortWorldK enc k w B o q dk os) (H.put b (.cells ((dk.toList.map (·.1)).map cell).flatten e (ver + 1))) := by
      intro q os dk hdk
      have ep : putRowK enc k (Sort.ahead w q) B o dk = (Sort.ahead w q).setCells B (o + 0) (flatK enc k dk).toList :=
        putRow_id (w := Sort.ahead w q) (F0 := vs.toArray) hHs (flatD dk hdk)
      unfold sortWorldK
      rw [ep]
      obtain ⟨r1, u1⟩ := hr.same (upd_none_ahead (w := w) q)
      have hcl2 : ∀ l ∈ (dk.toList.map (·.1)).map cell, l.length = k := fun l hl => by
        obtain ⟨i, hi, rfl⟩ := List.mem_map.1 hl
        obtain ⟨j, _, rfl⟩ := List.mem_map.1 hi
        exact hlen j.1 j.2
      have hfl : (((dk.toList.map (·.1)).map cell).flatten).length = (((List.range (m + 1)).map cell).flatten).length := by rw [flatn_len hcl, flatn_len hcl2]; simp [hdk]
      have hall : (((dk.toList.map (·.1)).map cell).flatten).all AV.one = true := by
        rw [List.all_eq_true]
        intro x hx
        obtain ⟨l, hl, hx⟩ := List.mem_flatten.1 hx
        obtain ⟨i, hi, rfl⟩ := List.mem_map.1 hl
        obtain ⟨j, _, rfl⟩ := List.mem_map.1 hi
        exact List.all_eq_true.1 (hone j.1 j.2) x hx
      have hd : (((List.range (m + 1)).map cell).flatten).drop (0 + (((dk.toList.map (·.1)).map cell).flatten).length) = [] := List.drop_of_length_le (by rw [hfl]; omega)
      have hw : writeAt H b 0 ((dk.toList.map (·.1)).map cell).flatten = some (H.put b (.cells ((dk.toList.map (·.1)).map cell).flatten e (ver + 1))) := by
        rw [writeAt_go, hg, wrB_some, if_pos ⟨by rw [hfl]; omega, hall⟩, hd, List.take_zero, List.nil_append, List.append_nil]
      have hv0 : VRs φ (Sort.ahead w q) ((dk.toList.map (·.1)).map cell).flatten (flatK enc k dk).toList := (hVd dk).upd u1.toUpd
      obtain ⟨r2, _, _⟩ := hr_write r1 q1 hw hv0
      have u2 := updH_write (w := Sort.ahead w q) (at_ := o + 0) (us := (flatK enc k dk).toList) q1 hw
      obtain ⟨r3, u3⟩ := r2.same (upd_none_grow (w := (Sort.ahead w q).setCells B (o + 0) (flatK enc k dk).toList) os)
      exact ⟨r3, (u1.trans u2).trans u3⟩
    have hC : CmpLays P g #[] enc k (fun x y : _root_.Fin (m + 1) => cf x.1 y.1) B o D.size w := by
      intro q os dk hdk x y
      rw [hDs] at hdk
      obtain ⟨r, u⟩ := wld q os dk hdk
      generalize sortWorldK enc k w B o q dk os = W at *
      obtain ⟨v, v', hp0, ok, hf, rfl⟩ := hcmp x.1 y.1 x.2 y.2
      have told_vr : ∀ i : _root_.Fin (m + 1), VRs none0 W (told i.1) (enc i) := fun i =>
        Fzs.vrs r (fun _ _ _ _ c p e => by cases e) (fun _ _ => rfl) (ht i.1 i.2).undead ((hVe i).upd u.toUpd)
      have hargs : VRs none0 W [.agg (told x.1), .agg (told y.1)] (#[Value.agg (enc x).toArray, Value.agg (enc y).toArray] ++ #[]).toList := .cons (.agg (by simpa using told_vr x)) (.cons (.agg (by simpa using told_vr y)) .nil)
      cases hf
      have C1 := ok.2 none0 W _ (hr_empty W) hargs
      refine Calls.mono C1 ?_
      rintro en W' ⟨φ', u', rfl, hv, _, hu⟩
      cases hv
      exact ⟨rfl, grow_of_upd hu.toUpd⟩
    have C := AnyQ.slices_SortFunc_eq L k aE zE enc elen eone (fun x y : _root_.Fin (m + 1) => cf x.1 y.1) hO g #[] B o c D w (enters_call eg) hC hH (hr.lt _ _ q1) (by omega)
    rw [← hR, hDs] at C
    refine Calls.mono C ?_
    rintro en w' ⟨rfl, q, os, rfl⟩
    obtain ⟨r, u⟩ := wld q os R hRs
    exact ⟨φ, _, rfl, .tup .nil, r, u⟩
theorem sortF_nil {ρ : Ren} (L : SlLaysF0.n6 P ρ) {g : Nat} : OK P (ρ.f 6) [.nils, .fn g []] H (.tup []) H := by
  refine ⟨?_, fun φ w us hr hus => ?_⟩
  · obtain ⟨nm, hn, hf⟩ := L.f6
    refine ⟨_, hf, rfl, fun e => ?_⟩
    rw [show nm = "runtime.NumGoroutine" from e] at hn
    simp at hn
  cases us with | mk us =>
  simp only at hus
  cases hus with | cons h1 t => cases t with | cons h2 t =>
  cases t
  cases h1
  refine Calls.mono (AnyF.slices_SortFunc_none L none 0 _ w) ?_
  rintro en w' ⟨rfl, rfl⟩
  exact ⟨φ, _, rfl, .tup .nil, hr, UpdH.refl _ _ _⟩
end
end Go.Proofs.Yteaieinpnpnkbaa.VM
namespace Go.Proofs.Yteaieinpnpnkbaa.VM
def tabX (T : List (Nat × List AV × AV)) : Told := fun f args h => match args.mapM (fz true h 40) with
  | none => none
  | some us => (T.find? fun p => Nat.beq p.1 f && AV.eqbs p.2.1 us).map fun p => (p.2.2, h)
theorem tabX_ok {P : Program} {T : List (Nat × List AV × AV)} (hT : ∀ p ∈ T, Pu P p.1 p.2.1 (fun v => v = p.2.2)) : CallOk P (tabX T) := by
  intro f args h v h' e
  unfold tabX at e
  split at e
  · cases e
  · rename_i us hm
    obtain ⟨p, hp, e2⟩ := Option.map_eq_some_iff.1 e
    cases e2
    have h1 := List.find?_some hp
    have h2 := List.mem_of_find?_eq_some hp
    simp only [Bool.and_eq_true] at h1
    obtain ⟨h3, h4⟩ := h1
    have h3 := Nat.eq_of_beq_eq_true h3
    have h4 := AV.eqbs_eq h4
    obtain ⟨v0, v', h0, o, hf, rfl⟩ := hT p h2
    rw [h3] at o
    rw [h4] at o
    exact OK.pure (fzs_of (fz_ok 40) hm) o hf
theorem Pg.runT {P : Program} {F : Nat → Option VFun} (g : Pg P F) {T : List (Nat × List AV × AV)} (hT : ∀ p ∈ T, Pu P p.1 p.2.1 (fun v => v = p.2.2)) {n f : Nat} {args : List AV} {w : AV} (hv : (vcall F (tabX T) n f args ⟨0, .e⟩).bind (fun r => fz false r.2 40 r.1) = some w) : Pu P f args (fun v => v = w) := by
  obtain ⟨⟨v, h'⟩, e1, e2⟩ := Option.bind_eq_some_iff.1 hv
  exact ⟨_, _, h', (vm_ok (drawn_ok g.hm) g.tb (tabX_ok hT) n).2.2 f args _ _ _ e1, fz_ok _ _ _ e2, rfl⟩
end Go.Proofs.Yteaieinpnpnkbaa.VM
namespace Go.Proofs.Yteaieinpnpnkbaa.VM
/-- furlong/furlonglaw6.Covers -/
def v3 : VFun := ⟨4, [(.tmp 8)], (.seq (.ops [⟨(some 4), none, .box 23 (.t 0)⟩, ⟨(some 8), none, .mov (.c (.bool false))⟩])
 (.seq (.ops [⟨(some 27), none, .mov (.t 1)⟩, ⟨(some 28), none, .call 9 [(.t 27)]⟩, ⟨(some 29), none, .mov (.t 2)⟩, ⟨(some 30), none, .call 9 [(.t 29)]⟩, ⟨(some 9), none, .mov (.t 28)⟩, ⟨(some 10), none, .mov (.t 30)⟩])
 (.seq (.ops [⟨(some 32), none, .load true 4 (.t 4)⟩, ⟨(some 33), none, .call 10 [(.t 32)]⟩, ⟨(some 31), none, .mov (.t 33)⟩, ⟨(some 34), none, .extract (.t 31) 0⟩, ⟨(some 35), none, .extract (.t 31) 1⟩, ⟨(some 11), none, .mov (.t 34)⟩, ⟨(some 12), none, .mov (.t 35)⟩])
 (.seq (.ops [⟨(some 37), none, .load true 4 (.t 4)⟩, ⟨(some 38), none, .call 11 [(.t 37)]⟩, ⟨(some 36), none, .mov (.t 38)⟩, ⟨(some 39), none, .extract (.t 36) 0⟩, ⟨(some 40), none, .extract (.t 36) 1⟩, ⟨(some 13), none, .mov (.t 39)⟩, ⟨(some 14), none, .mov (.t 40)⟩])
 (.seq (.seq (.ops [⟨(some 41), none, .mov (.t 11)⟩, ⟨(some 42), none, .mov (.t 13)⟩, ⟨(some 43), none, .call 12 [(.t 41), (.t 42)]⟩, ⟨(some 44), none, .un .not (.t 43)⟩, ⟨(some 45), none, .mov (.t 44)⟩, ⟨(some 46), (some (45, false)), .mov (.t 12)⟩, ⟨(some 47), (some (45, false)), .call 13 [(.t 46)]⟩, ⟨(some 48), (some (45, false)), .mov (.t 14)⟩, ⟨(some 49), (some (45, false)), .bin .neq (.t 47) (.t 48)⟩, ⟨(some 50), none, .pick (.t 45) (.c (.bool true)) (.t 49)⟩])
 (.cond (.t 50) (.seq (.ops [⟨(some 8), none, .mov (.c (.bool false))⟩])
 .ret) .skip))
 (.seq (.ops [⟨(some 52), none, .mov (.t 9)⟩, ⟨(some 53), none, .mov (.t 10)⟩, ⟨(some 54), none, .call 14 [(.t 52), (.t 53)]⟩, ⟨(some 51), none, .mov (.t 54)⟩, ⟨(some 55), none, .extract (.t 51) 0⟩, ⟨(some 56), none, .extract (.t 51) 1⟩, ⟨(some 15), none, .mov (.t 55)⟩, ⟨(some 16), none, .mov (.t 56)⟩])
 (.seq (.ops [⟨(some 58), none, .mov (.t 1)⟩, ⟨(some 59), none, .mov (.t 2)⟩, ⟨(some 60), none, .call 15 [(.c (.int .i64 0)), (.t 58), (.t 59)]⟩, ⟨(some 57), none, .mov (.t 60)⟩, ⟨(some 61), none, .extract (.t 57) 0⟩, ⟨(some 62), none, .extract (.t 57) 1⟩, ⟨(some 17), none, .mov (.t 61)⟩, ⟨(some 18), none, .mov (.t 62)⟩])
 (.seq (.ops [⟨(some 64), none, .mov (.t 9)⟩, ⟨(some 65), none, .mov (.t 10)⟩, ⟨(some 66), none, .call 16 [(.t 64), (.t 65)]⟩, ⟨(some 63), none, .mov (.t 66)⟩, ⟨(some 67), none, .extract (.t 63) 0⟩, ⟨(some 68), none, .extract (.t 63) 1⟩, ⟨(some 19), none, .mov (.t 67)⟩, ⟨(some 20), none, .mov (.t 68)⟩])
 (.seq (.ops [⟨(some 70), none, .mov (.t 1)⟩, ⟨(some 71), none, .mov (.t 2)⟩, ⟨(some 72), none, .call 15 [(.c (.int .i64 1)), (.t 70), (.t 71)]⟩, ⟨(some 69), none, .mov (.t 72)⟩, ⟨(some 73), none, .extract (.t 69) 0⟩, ⟨(some 74), none, .extract (.t 69) 1⟩, ⟨(some 21), none, .mov (.t 73)⟩, ⟨(some 22), none, .mov (.t 74)⟩])
 (.seq (.ops [⟨(some 76), none, .mov (.t 9)⟩, ⟨(some 77), none, .mov (.t 10)⟩, ⟨(some 78), none, .call 17 [(.t 76), (.t 77)]⟩, ⟨(some 75), none, .mov (.t 78)⟩, ⟨(some 79), none, .extract (.t 75) 0⟩, ⟨(some 80), none, .extract (.t 75) 1⟩, ⟨(some 23), none, .mov (.t 79)⟩, ⟨(some 24), none, .mov (.t 80)⟩])
 (.seq (.ops [⟨(some 82), none, .mov (.t 1)⟩, ⟨(some 83), none, .mov (.t 2)⟩, ⟨(some 84), none, .call 15 [(.c (.int .i64 2)), (.t 82), (.t 83)]⟩, ⟨(some 81), none, .mov (.t 84)⟩, ⟨(some 85), none, .extract (.t 81) 0⟩, ⟨(some 86), none, .extract (.t 81) 1⟩, ⟨(some 25), none, .mov (.t 85)⟩, ⟨(some 26), none, .mov (.t 86)⟩])
 (.seq (.ops [⟨(some 87), none, .mov (.t 15)⟩, ⟨(some 88), none, .mov (.t 17)⟩, ⟨(some 89), none, .call 12 [(.t 87), (.t 88)]⟩, ⟨(some 90), none, .mov (.t 89)⟩, ⟨(some 91), (some (90, true)), .mov (.t 16)⟩, ⟨(some 92), (some (90, true)), .call 13 [(.t 91)]⟩, ⟨(some 93), (some (90, true)), .mov (.t 18)⟩, ⟨(some 94), (some (90, true)), .bin .eql (.t 92) (.t 93)⟩, ⟨(some 95), none, .pick (.t 90) (.t 94) (.c (.bool false))⟩, ⟨(some 96), none, .mov (.t 95)⟩, ⟨(some 97), (some (96, true)), .mov (.t 19)⟩, ⟨(some 98), (some (96, true)), .mov (.t 21)⟩, ⟨(some 99), (some (96, true)), .call 12 [(.t 97), (.t 98)]⟩, ⟨(some 100), none, .pick (.t 96) (.t 99) (.c (.bool false))⟩, ⟨(some 101), none, .mov (.t 100)⟩, ⟨(some 102), (some (101, true)), .mov (.t 20)⟩, ⟨(some 103), (some (101, true)), .call 13 [(.t 102)]⟩, ⟨(some 104), (some (101, true)), .mov (.t 22)⟩, ⟨(some 105), (some (101, true)), .bin .eql (.t 103) (.t 104)⟩, ⟨(some 106), none, .pick (.t 101) (.t 105) (.c (.bool false))⟩, ⟨(some 107), none, .mov (.t 106)⟩, ⟨(some 108), (some (107, true)), .mov (.t 23)⟩, ⟨(some 109), (some (107, true)), .mov (.t 25)⟩, ⟨(some 110), (some (107, true)), .call 12 [(.t 108), (.t 109)]⟩, ⟨(some 111), none, .pick (.t 107) (.t 110) (.c (.bool false))⟩, ⟨(some 112), none, .mov (.t 111)⟩, ⟨(some 113), (some (112, true)), .mov (.t 24)⟩, ⟨(some 114), (some (112, true)), .call 13 [(.t 113)]⟩, ⟨(some 115), (some (112, true)), .mov (.t 26)⟩, ⟨(some 116), (some (112, true)), .bin .eql (.t 114) (.t 115)⟩, ⟨(some 117), none, .pick (.t 112) (.t 116) (.c (.bool false))⟩, ⟨(some 118), none, .mov (.t 117)⟩, ⟨(some 119), (some (118, true)), .mov (.t 9)⟩, ⟨(some 120), (some (118, true)), .call 18 [(.t 119)]⟩, ⟨(some 121), (some (118, true)), .mov (.t 1)⟩, ⟨(some 122), (some (118, true)), .call 19 [(.t 121)]⟩, ⟨(some 123), (some (118, true)), .eqs .bool false (.t 120) (.t 122)⟩, ⟨(some 124), none, .pick (.t 118) (.t 123) (.c (.bool false))⟩, ⟨(some 125), none, .mov (.t 124)⟩, ⟨(some 126), (some (125, true)), .mov (.t 9)⟩, ⟨(some 127), (some (125, true)), .mov (.t 3)⟩, ⟨(some 128), (some (125, true)), .call 20 [(.t 126), (.t 127)]⟩, ⟨(some 129), (some (125, true)), .mov (.t 1)⟩, ⟨(some 130), (some (125, true)), .mov (.t 3)⟩, ⟨(some 131), (some (125, true)), .call 21 [(.t 129), (.t 130)]⟩, ⟨(some 132), (some (125, true)), .eqs .bool false (.t 128) (.t 131)⟩, ⟨(some 133), none, .pick (.t 125) (.t 132) (.c (.bool false))⟩, ⟨(some 134), none, .mov (.t 133)⟩, ⟨(some 135), (some (134, true)), .mov (.t 9)⟩, ⟨(some 136), (some (134, true)), .mov (.t 1)⟩, ⟨(some 137), (some (134, true)), .call 22 [(.t 135), (.t 136)]⟩, ⟨(some 138), none, .pick (.t 134) (.t 137) (.c (.bool false))⟩, ⟨(some 139), none, .mov (.t 138)⟩, ⟨(some 140), (some (139, true)), .mov (.t 10)⟩, ⟨(some 141), (some (139, true)), .mov (.t 2)⟩, ⟨(some 142), (some (139, true)), .call 22 [(.t 140), (.t 141)]⟩, ⟨(some 143), none, .pick (.t 139) (.t 142) (.c (.bool false))⟩, ⟨(some 144), none, .mov (.t 143)⟩, ⟨(some 145), (some (144, true)), .call 23 []⟩, ⟨(some 146), none, .pick (.t 144) (.t 145) (.c (.bool false))⟩, ⟨(some 8), none, .mov (.t 146)⟩])
 .ret))))))))))))⟩
/-- furlong/furlonglaw0.LendRanges -/
def v9 : VFun := ⟨1, [(.tmp 2)], (.seq (.ops [⟨(some 2), none, .mov (.c .nils)⟩])
 (.seq (.ops [⟨(some 4), none, .mov (.t 0)⟩, ⟨(some 5), none, .call 27 [(.t 4)]⟩, ⟨(some 6), none, .build [(.int .i64 0), (.int .i64 0)] [(0, 1, (.c (.int .i64 77777)))]⟩, ⟨(some 7), none, .build [(.int .i64 0), (.int .i64 0)] [(0, 1, (.c (.int .i64 77777)))]⟩, ⟨(some 8), none, .bslice [(.int .i64 0), (.int .i64 0)] 41 2 [(0, 2, (.t 6)), (2, 2, (.t 7))]⟩, ⟨(some 9), none, .bi (.append 2 16 41) [(.t 5), (.t 8)]⟩, ⟨(some 3), none, .mov (.t 9)⟩])
 (.seq (.ops [⟨(some 10), none, .mov (.t 3)⟩, ⟨(some 11), none, .mov (.t 0)⟩, ⟨(some 12), none, .bi (.len 1) [(.t 11)]⟩, ⟨(some 13), none, .slice 2 (.t 10) none (some (.t 12)) none⟩, ⟨(some 2), none, .mov (.t 13)⟩])
 .ret)))⟩
def b10_0 : VCode := (.seq (.seq (.ops [⟨(some 28), none, .mov (.t 6)⟩, ⟨(some 29), none, .faddr 3 (.t 1)⟩, ⟨(some 30), none, .load false 1 (.t 29)⟩, ⟨(some 31), none, .bin .shr (.t 30) (.c (.int .u64 26))⟩, ⟨(some 32), none, .bin .leq (.t 28) (.t 31)⟩])
 (.cond (.t 32) .skip (.exit 2)))
 (.seq (.block 3 (.seq (.ops [⟨(some 36), none, .mov (.t 5)⟩, ⟨(some 37), none, .mov (.t 6)⟩, ⟨(some 38), none, .call 29 [(.t 36), (.t 37), (.c (.int .i64 6))]⟩, ⟨(some 35), none, .mov (.t 38)⟩, ⟨(some 39), none, .extract (.t 35) 0⟩, ⟨(some 40), none, .extract (.t 35) 1⟩, ⟨(some 7), none, .mov (.t 39)⟩, ⟨(some 8), none, .mov (.t 40)⟩])
 (.ops [⟨(some 41), none, .mov (.t 4)⟩, ⟨(some 42), none, .mov (.t 7)⟩, ⟨(some 43), none, .bslice [(.int .i64 0)] 3 1 [(0, 1, (.t 42))]⟩, ⟨(some 44), none, .bi (.append 1 8 3) [(.t 41), (.t 43)]⟩, ⟨(some 4), none, .mov (.t 44)⟩])))
 (.ops [⟨(some 33), none, .mov (.t 6)⟩, ⟨(some 34), none, .bin .add (.t 33) (.c (.int .i64 1))⟩, ⟨(some 6), none, .mov (.t 34)⟩])))
def b10_1 : VCode := (.seq (.seq (.ops [⟨(some 18), none, .mov (.t 5)⟩, ⟨(some 19), none, .faddr 2 (.t 1)⟩, ⟨(some 20), none, .load false 1 (.t 19)⟩, ⟨(some 21), none, .bin .shr (.t 20) (.c (.int .u64 26))⟩, ⟨(some 22), none, .bin .leq (.t 18) (.t 21)⟩])
 (.cond (.t 22) .skip (.exit 0)))
 (.seq (.block 1 (.seq (.ops [⟨(some 25), none, .faddr 1 (.t 1)⟩, ⟨(some 26), none, .load false 1 (.t 25)⟩, ⟨(some 27), none, .bin .shr (.t 26) (.c (.int .u64 26))⟩, ⟨(some 6), none, .mov (.t 27)⟩])
 (.block 2 (.loop b10_0))))
 (.ops [⟨(some 23), none, .mov (.t 5)⟩, ⟨(some 24), none, .bin .add (.t 23) (.c (.int .i64 1))⟩, ⟨(some 5), none, .mov (.t 24)⟩])))
def b10_2 : VCode := (.seq (.ops [⟨(some 50), none, .bin .lss (.t 49) (.t 48)⟩])
 (.seq (.cond (.t 50) .skip (.exit 4))
 (.seq (.block 5 (.seq (.ops [⟨(some 51), none, .iaddr 1 none (.t 47) (.t 49)⟩, ⟨(some 52), none, .load false 1 (.t 51)⟩, ⟨(some 11), none, .mov (.t 52)⟩])
 (.ops [⟨(some 53), none, .mov (.t 9)⟩, ⟨(some 54), none, .mov (.t 11)⟩, ⟨(some 55), none, .bin .shl (.t 54) (.c (.int .u64 20))⟩, ⟨(some 56), none, .mov (.t 11)⟩, ⟨(some 57), none, .bin .add (.t 56) (.c (.int .i64 1))⟩, ⟨(some 58), none, .bin .shl (.t 57) (.c (.int .u64 20))⟩, ⟨(some 59), none, .build [(.int .i64 0), (.int .i64 0)] [(0, 1, (.t 55)), (1, 1, (.t 58))]⟩, ⟨(some 60), none, .call 31 [(.t 53), (.t 59)]⟩, ⟨(some 9), none, .mov (.t 60)⟩])))
 (.ops [⟨(some 61), none, .bin .add (.t 49) (.c (.int .i64 1))⟩, ⟨(some 49), none, .mov (.t 61)⟩]))))
/-- furlong/cover.Of -/
def v10 : VFun := ⟨1, [(.tmp 2), (.tmp 3)], (.seq (.ops [⟨(some 1), none, .box 23 (.t 0)⟩, ⟨(some 2), none, .mov (.c .nils)⟩, ⟨(some 3), none, .mov (.c (.int .i64 0))⟩])
 (.seq (.seq (.ops [⟨(some 12), none, .load true 4 (.t 1)⟩, ⟨(some 13), none, .call 28 [(.t 12)]⟩, ⟨(some 14), none, .un .not (.t 13)⟩])
 (.cond (.t 14) (.seq (.ops [⟨(some 2), none, .mov (.c .nils)⟩, ⟨(some 3), none, .mov (.c (.int .i64 600))⟩])
 .ret) .skip))
 (.seq (.ops [⟨(some 4), none, .mov (.c .nils)⟩])
 (.seq (.seq (.ops [⟨(some 15), none, .faddr 0 (.t 1)⟩, ⟨(some 16), none, .load false 1 (.t 15)⟩, ⟨(some 17), none, .bin .shr (.t 16) (.c (.int .u64 26))⟩, ⟨(some 5), none, .mov (.t 17)⟩])
 (.block 0 (.loop b10_1)))
 (.seq (.ops [⟨(some 45), none, .mov (.t 4)⟩, ⟨(some 46), none, .call 30 [(.t 45)]⟩])
 (.seq (.ops [⟨(some 9), none, .mov (.c .nils)⟩])
 (.seq (.seq (.ops [⟨(some 47), none, .mov (.t 4)⟩, ⟨(some 48), none, .bi (.len 1) [(.t 47)]⟩, ⟨(some 49), none, .mov (.c (.int .i64 0))⟩])
 (.block 4 (.loop b10_2)))
 (.seq (.ops [⟨(some 62), none, .mov (.t 9)⟩, ⟨(some 2), none, .mov (.t 62)⟩, ⟨(some 3), none, .mov (.c (.int .i64 0))⟩])
 .ret))))))))⟩
def b11_0 : VCode := (.seq (.seq (.ops [⟨(some 32), none, .mov (.t 7)⟩, ⟨(some 33), none, .faddr 3 (.t 1)⟩, ⟨(some 34), none, .load false 1 (.t 33)⟩, ⟨(some 35), none, .mov (.t 5)⟩, ⟨(some 36), none, .bin .quo (.t 34) (.t 35)⟩, ⟨(some 37), none, .bin .leq (.t 32) (.t 36)⟩])
 (.cond (.t 37) .skip (.exit 2)))
 (.seq (.block 3 (.seq (.ops [⟨(some 41), none, .mov (.t 6)⟩, ⟨(some 42), none, .mov (.t 7)⟩, ⟨(some 43), none, .call 33 [(.t 41), (.t 42), (.c (.int .i64 6))]⟩, ⟨(some 40), none, .mov (.t 43)⟩, ⟨(some 44), none, .extract (.t 40) 0⟩, ⟨(some 45), none, .extract (.t 40) 1⟩, ⟨(some 8), none, .mov (.t 44)⟩, ⟨(some 9), none, .mov (.t 45)⟩])
 (.ops [⟨(some 46), none, .mov (.t 8)⟩, ⟨(some 47), none, .iaddr 1 (some 4096) (.t 4) (.t 46)⟩, ⟨none, none, .store 1 (.t 47) (.c (.bool true))⟩])))
 (.ops [⟨(some 38), none, .mov (.t 7)⟩, ⟨(some 39), none, .bin .add (.t 38) (.c (.int .i64 1))⟩, ⟨(some 7), none, .mov (.t 39)⟩])))
def b11_1 : VCode := (.seq (.seq (.ops [⟨(some 20), none, .mov (.t 6)⟩, ⟨(some 21), none, .faddr 2 (.t 1)⟩, ⟨(some 22), none, .load false 1 (.t 21)⟩, ⟨(some 23), none, .mov (.t 5)⟩, ⟨(some 24), none, .bin .quo (.t 22) (.t 23)⟩, ⟨(some 25), none, .bin .leq (.t 20) (.t 24)⟩])
 (.cond (.t 25) .skip (.exit 0)))
 (.seq (.block 1 (.seq (.ops [⟨(some 28), none, .faddr 1 (.t 1)⟩, ⟨(some 29), none, .load false 1 (.t 28)⟩, ⟨(some 30), none, .mov (.t 5)⟩, ⟨(some 31), none, .bin .quo (.t 29) (.t 30)⟩, ⟨(some 7), none, .mov (.t 31)⟩])
 (.block 2 (.loop b11_0))))
 (.ops [⟨(some 26), none, .mov (.t 6)⟩, ⟨(some 27), none, .bin .add (.t 26) (.c (.int .i64 1))⟩, ⟨(some 6), none, .mov (.t 27)⟩])))
def b11_2 : VCode := (.seq (.seq (.ops [⟨(some 48), none, .mov (.t 12)⟩, ⟨(some 49), none, .bin .lss (.t 48) (.c (.int .i64 4096))⟩])
 (.cond (.t 49) .skip (.exit 4)))
 (.seq (.block 5 (.seq (.seq (.ops [⟨(some 52), none, .mov (.t 12)⟩, ⟨(some 53), none, .iaddr 1 (some 4096) (.t 4) (.t 52)⟩, ⟨(some 54), none, .load false 1 (.t 53)⟩, ⟨(some 55), none, .un .not (.t 54)⟩])
 (.cond (.t 55) (.exit 5) .skip))
 (.seq (.ops [⟨(some 56), none, .mov (.t 12)⟩, ⟨(some 57), none, .bin .gtr (.t 56) (.c (.int .i64 0))⟩, ⟨(some 58), none, .mov (.t 57)⟩, ⟨(some 59), (some (58, true)), .mov (.t 12)⟩, ⟨(some 60), (some (58, true)), .bin .sub (.t 59) (.c (.int .i64 1))⟩, ⟨(some 61), (some (58, true)), .iaddr 1 (some 4096) (.t 4) (.t 60)⟩, ⟨(some 62), (some (58, true)), .load false 1 (.t 61)⟩, ⟨(some 63), none, .pick (.t 58) (.t 62) (.c (.bool false))⟩])
 (.cond (.t 63) (.ops [⟨(some 64), none, .mov (.t 10)⟩, ⟨(some 65), none, .mov (.t 10)⟩, ⟨(some 66), none, .bi (.len 1) [(.t 65)]⟩, ⟨(some 67), none, .bin .sub (.t 66) (.c (.int .i64 1))⟩, ⟨(some 68), none, .mov (.t 12)⟩, ⟨(some 69), none, .bin .add (.t 68) (.c (.int .i64 1))⟩, ⟨(some 70), none, .mov (.t 11)⟩, ⟨(some 71), none, .bin .mul (.t 69) (.t 70)⟩, ⟨(some 72), none, .iaddr 2 none (.t 64) (.t 67)⟩, ⟨(some 73), none, .faddr 1 (.t 72)⟩, ⟨none, none, .store 1 (.t 73) (.t 71)⟩]) (.ops [⟨(some 74), none, .mov (.t 10)⟩, ⟨(some 75), none, .mov (.t 12)⟩, ⟨(some 76), none, .mov (.t 11)⟩, ⟨(some 77), none, .bin .mul (.t 75) (.t 76)⟩, ⟨(some 78), none, .mov (.t 12)⟩, ⟨(some 79), none, .bin .add (.t 78) (.c (.int .i64 1))⟩, ⟨(some 80), none, .mov (.t 11)⟩, ⟨(some 81), none, .bin .mul (.t 79) (.t 80)⟩, ⟨(some 82), none, .build [(.int .i64 0), (.int .i64 0)] [(0, 1, (.t 77)), (1, 1, (.t 81))]⟩, ⟨(some 83), none, .bslice [(.int .i64 0), (.int .i64 0)] 41 1 [(0, 2, (.t 82))]⟩, ⟨(some 84), none, .bi (.append 2 16 41) [(.t 74), (.t 83)]⟩, ⟨(some 10), none, .mov (.t 84)⟩])))))
 (.ops [⟨(some 50), none, .mov (.t 12)⟩, ⟨(some 51), none, .bin .add (.t 50) (.c (.int .i64 1))⟩, ⟨(some 12), none, .mov (.t 51)⟩])))
/-- furlong/furlongref1.Of -/
def v11 : VFun := ⟨1, [(.tmp 2), (.tmp 3)], (.seq (.ops [⟨(some 1), none, .box 23 (.t 0)⟩, ⟨(some 2), none, .mov (.c .nils)⟩, ⟨(some 3), none, .mov (.c (.int .i64 0))⟩])
 (.seq (.seq (.ops [⟨(some 13), none, .load true 4 (.t 1)⟩, ⟨(some 14), none, .call 32 [(.t 13)]⟩, ⟨(some 15), none, .un .not (.t 14)⟩])
 (.cond (.t 15) (.seq (.ops [⟨(some 2), none, .mov (.c .nils)⟩, ⟨(some 3), none, .mov (.c (.int .i64 600))⟩])
 .ret) .skip))
 (.seq (.ops [⟨(some 4), none, .alloc (List.replicate 4096 (.bool false)) 57⟩])
 (.seq (.ops [⟨(some 5), none, .mov (.c (.int .i64 67108864))⟩])
 (.seq (.seq (.ops [⟨(some 16), none, .faddr 0 (.t 1)⟩, ⟨(some 17), none, .load false 1 (.t 16)⟩, ⟨(some 18), none, .mov (.t 5)⟩, ⟨(some 19), none, .bin .quo (.t 17) (.t 18)⟩, ⟨(some 6), none, .mov (.t 19)⟩])
 (.block 0 (.loop b11_1)))
 (.seq (.ops [⟨(some 10), none, .mov (.c .nils)⟩])
 (.seq (.ops [⟨(some 11), none, .mov (.c (.int .i64 1048576))⟩])
 (.seq (.seq (.ops [⟨(some 12), none, .mov (.c (.int .i64 0))⟩])
 (.block 4 (.loop b11_2)))
 (.seq (.ops [⟨(some 85), none, .mov (.t 10)⟩, ⟨(some 2), none, .mov (.t 85)⟩, ⟨(some 3), none, .mov (.c (.int .i64 0))⟩])
 .ret)))))))))⟩
def b12_0 : VCode := (.seq (.seq (.ops [⟨(some 11), none, .mov (.t 5)⟩, ⟨(some 12), none, .mov (.t 0)⟩, ⟨(some 13), none, .bi (.len 1) [(.t 12)]⟩, ⟨(some 14), none, .bin .lss (.t 11) (.t 13)⟩])
 (.cond (.t 14) .skip (.exit 0)))
 (.seq (.block 1 (.seq (.drawn [⟨(some 17), none, .mov (.t 0)⟩, ⟨(some 18), none, .mov (.t 5)⟩, ⟨(some 19), none, .iaddr 2 none (.t 17) (.t 18)⟩, ⟨(some 20), none, .load true 2 (.t 19)⟩, ⟨(some 21), none, .mov (.t 1)⟩, ⟨(some 22), none, .mov (.t 5)⟩, ⟨(some 23), none, .iaddr 2 none (.t 21) (.t 22)⟩, ⟨(some 24), none, .load true 2 (.t 23)⟩, ⟨(some 25), none, .eqs (.flat [.int, .int]) true (.t 20) (.t 24)⟩] [])
 (.cond (.t 25) (.seq (.ops [⟨(some 4), none, .mov (.c (.bool false))⟩])
 .ret) .skip)))
 (.ops [⟨(some 15), none, .mov (.t 5)⟩, ⟨(some 16), none, .bin .add (.t 15) (.c (.int .i64 1))⟩, ⟨(some 5), none, .mov (.t 16)⟩])))
/-- furlong/furlonglaw0.SameRanges -/
def v12 : VFun := ⟨2, [(.tmp 4)], (.seq (.ops [⟨(some 4), none, .mov (.c (.bool false))⟩])
 (.seq (.seq (.ops [⟨(some 6), none, .mov (.t 0)⟩, ⟨(some 7), none, .bi (.len 1) [(.t 6)]⟩, ⟨(some 8), none, .mov (.t 1)⟩, ⟨(some 9), none, .bi (.len 1) [(.t 8)]⟩, ⟨(some 10), none, .bin .neq (.t 7) (.t 9)⟩])
 (.cond (.t 10) (.seq (.ops [⟨(some 4), none, .mov (.c (.bool false))⟩])
 .ret) .skip))
 (.seq (.seq (.ops [⟨(some 5), none, .mov (.c (.int .i64 0))⟩])
 (.block 0 (.loop b12_0)))
 (.seq (.ops [⟨(some 4), none, .mov (.c (.bool true))⟩])
 .ret))))⟩
/-- furlong/furlonglaw0.Num -/
def v13 : VFun := ⟨1, [(.tmp 2)], (.seq (.ops [⟨(some 2), none, .mov (.c (.int .i64 0))⟩])
 (.seq (.ops [⟨(some 3), none, .mov (.t 0)⟩, ⟨(some 2), none, .mov (.t 3)⟩])
 .ret))⟩
/-- furlong/cover.Union -/
def v14 : VFun := ⟨2, [(.tmp 4), (.tmp 5)], (.seq (.ops [⟨(some 4), none, .mov (.c .nils)⟩, ⟨(some 5), none, .mov (.c (.int .i64 0))⟩])
 (.seq (.ops [⟨(some 6), none, .mov (.t 0)⟩, ⟨(some 7), none, .mov (.t 1)⟩, ⟨(some 8), none, .call 34 [(.t 6), (.t 7), (.c (.fn 35 []))]⟩, ⟨(some 9), none, .extract (.t 8) 0⟩, ⟨(some 10), none, .extract (.t 8) 1⟩, ⟨(some 4), none, .mov (.t 9)⟩, ⟨(some 5), none, .mov (.t 10)⟩])
 .ret))⟩
def b15_0 : VCode := (.seq (.seq (.ops [⟨(some 22), none, .mov (.t 9)⟩, ⟨(some 23), none, .bin .lss (.t 22) (.c (.int .i64 4294967296))⟩])
 (.cond (.t 23) .skip (.exit 0)))
 (.block 1 (.seq (.ops [⟨(some 24), none, .mov (.t 1)⟩, ⟨(some 25), none, .mov (.t 9)⟩, ⟨(some 26), none, .call 21 [(.t 24), (.t 25)]⟩, ⟨(some 27), none, .mov (.t 2)⟩, ⟨(some 28), none, .mov (.t 9)⟩, ⟨(some 29), none, .call 21 [(.t 27), (.t 28)]⟩, ⟨(some 10), none, .mov (.t 26)⟩, ⟨(some 11), none, .mov (.t 29)⟩])
 (.seq (.ops [⟨(some 30), none, .mov (.t 9)⟩, ⟨(some 31), none, .bin .geq (.t 30) (.c (.int .i64 0))⟩, ⟨(some 32), none, .mov (.t 31)⟩, ⟨(some 33), (some (32, true)), .mov (.t 0)⟩, ⟨(some 34), (some (32, true)), .bin .eql (.t 33) (.c (.int .i64 0))⟩, ⟨(some 35), (some (32, true)), .mov (.t 34)⟩, ⟨(some 36), (some (35, true)), .mov (.t 10)⟩, ⟨(some 37), (some (35, true)), .mov (.t 36)⟩, ⟨(some 38), (some (37, false)), .mov (.t 11)⟩, ⟨(some 39), (some (35, true)), .pick (.t 37) (.c (.bool true)) (.t 38)⟩, ⟨(some 40), (some (32, true)), .pick (.t 35) (.t 39) (.c (.bool false))⟩, ⟨(some 41), (some (32, true)), .mov (.t 40)⟩, ⟨(some 42), (some (41, false)), .mov (.t 0)⟩, ⟨(some 43), (some (41, false)), .bin .eql (.t 42) (.c (.int .i64 1))⟩, ⟨(some 44), (some (41, false)), .mov (.t 43)⟩, ⟨(some 45), (some (44, true)), .mov (.t 10)⟩, ⟨(some 46), (some (41, false)), .pick (.t 44) (.t 45) (.c (.bool false))⟩, ⟨(some 47), (some (41, false)), .mov (.t 46)⟩, ⟨(some 48), (some (47, true)), .mov (.t 11)⟩, ⟨(some 49), (some (41, false)), .pick (.t 47) (.t 48) (.c (.bool false))⟩, ⟨(some 50), (some (32, true)), .pick (.t 41) (.c (.bool true)) (.t 49)⟩, ⟨(some 51), (some (32, true)), .mov (.t 50)⟩, ⟨(some 52), (some (51, false)), .mov (.t 0)⟩, ⟨(some 53), (some (51, false)), .bin .eql (.t 52) (.c (.int .i64 2))⟩, ⟨(some 54), (some (51, false)), .mov (.t 53)⟩, ⟨(some 55), (some (54, true)), .mov (.t 10)⟩, ⟨(some 56), (some (51, false)), .pick (.t 54) (.t 55) (.c (.bool false))⟩, ⟨(some 57), (some (51, false)), .mov (.t 56)⟩, ⟨(some 58), (some (57, true)), .mov (.t 11)⟩, ⟨(some 59), (some (57, true)), .un .not (.t 58)⟩, ⟨(some 60), (some (51, false)), .pick (.t 57) (.t 59) (.c (.bool false))⟩, ⟨(some 61), (some (32, true)), .pick (.t 51) (.c (.bool true)) (.t 60)⟩, ⟨(some 62), none, .pick (.t 32) (.t 61) (.c (.bool false))⟩, ⟨(some 12), none, .mov (.t 62)⟩])
 (.seq (.ops [⟨(some 63), none, .mov (.t 1)⟩, ⟨(some 64), none, .mov (.t 9)⟩, ⟨(some 65), none, .call 36 [(.t 63), (.t 64)]⟩, ⟨(some 66), none, .mov (.t 2)⟩, ⟨(some 67), none, .mov (.t 9)⟩, ⟨(some 68), none, .call 36 [(.t 66), (.t 67)]⟩, ⟨(some 69), none, .bi .min [(.t 65), (.t 68)]⟩, ⟨(some 13), none, .mov (.t 69)⟩])
 (.seq (.seq (.ops [⟨(some 70), none, .mov (.t 12)⟩, ⟨(some 71), none, .mov (.t 70)⟩, ⟨(some 72), (some (71, true)), .mov (.t 8)⟩, ⟨(some 73), (some (71, true)), .bi (.len 1) [(.t 72)]⟩, ⟨(some 74), (some (71, true)), .bin .gtr (.t 73) (.c (.int .i64 0))⟩, ⟨(some 75), none, .pick (.t 71) (.t 74) (.c (.bool false))⟩, ⟨(some 76), none, .mov (.t 75)⟩, ⟨(some 77), (some (76, true)), .mov (.t 8)⟩, ⟨(some 78), (some (76, true)), .mov (.t 8)⟩, ⟨(some 79), (some (76, true)), .bi (.len 1) [(.t 78)]⟩, ⟨(some 80), (some (76, true)), .bin .sub (.t 79) (.c (.int .i64 1))⟩, ⟨(some 81), (some (76, true)), .iaddr 2 none (.t 77) (.t 80)⟩, ⟨(some 82), (some (76, true)), .faddr 1 (.t 81)⟩, ⟨(some 83), (some (76, true)), .load false 1 (.t 82)⟩, ⟨(some 84), (some (76, true)), .mov (.t 9)⟩, ⟨(some 85), (some (76, true)), .bin .eql (.t 83) (.t 84)⟩, ⟨(some 86), none, .pick (.t 76) (.t 85) (.c (.bool false))⟩])
 (.cond (.t 86) (.ops [⟨(some 87), none, .mov (.t 8)⟩, ⟨(some 88), none, .mov (.t 8)⟩, ⟨(some 89), none, .bi (.len 1) [(.t 88)]⟩, ⟨(some 90), none, .bin .sub (.t 89) (.c (.int .i64 1))⟩, ⟨(some 91), none, .mov (.t 13)⟩, ⟨(some 92), none, .iaddr 2 none (.t 87) (.t 90)⟩, ⟨(some 93), none, .faddr 1 (.t 92)⟩, ⟨none, none, .store 1 (.t 93) (.t 91)⟩]) (.seq (.ops [⟨(some 94), none, .mov (.t 12)⟩])
 (.cond (.t 94) (.ops [⟨(some 95), none, .mov (.t 8)⟩, ⟨(some 96), none, .mov (.t 9)⟩, ⟨(some 97), none, .mov (.t 13)⟩, ⟨(some 98), none, .build [(.int .i64 0), (.int .i64 0)] [(0, 1, (.t 96)), (1, 1, (.t 97))]⟩, ⟨(some 99), none, .bslice [(.int .i64 0), (.int .i64 0)] 41 1 [(0, 2, (.t 98))]⟩, ⟨(some 100), none, .bi (.append 2 16 41) [(.t 95), (.t 99)]⟩, ⟨(some 8), none, .mov (.t 100)⟩]) .skip))))
 (.ops [⟨(some 101), none, .mov (.t 13)⟩, ⟨(some 9), none, .mov (.t 101)⟩])))))))
/-- furlong/furlongref1.Mix -/
def v15 : VFun := ⟨3, [(.tmp 6), (.tmp 7)], (.seq (.ops [⟨(some 6), none, .mov (.c .nils)⟩, ⟨(some 7), none, .mov (.c (.int .i64 0))⟩])
 (.seq (.seq (.ops [⟨(some 14), none, .mov (.t 1)⟩, ⟨(some 15), none, .call 19 [(.t 14)]⟩, ⟨(some 16), none, .un .not (.t 15)⟩, ⟨(some 17), none, .mov (.t 16)⟩, ⟨(some 18), (some (17, false)), .mov (.t 2)⟩, ⟨(some 19), (some (17, false)), .call 19 [(.t 18)]⟩, ⟨(some 20), (some (17, false)), .un .not (.t 19)⟩, ⟨(some 21), none, .pick (.t 17) (.c (.bool true)) (.t 20)⟩])
 (.cond (.t 21) (.seq (.ops [⟨(some 6), none, .mov (.c .nils)⟩, ⟨(some 7), none, .mov (.c (.int .i64 600))⟩])
 .ret) .skip))
 (.seq (.ops [⟨(some 8), none, .mov (.c .nils)⟩])
 (.seq (.ops [⟨(some 9), none, .mov (.c (.int .i64 (-1)))⟩])
 (.seq (.block 0 (.loop b15_0))
 (.seq (.ops [⟨(some 102), none, .mov (.t 8)⟩, ⟨(some 6), none, .mov (.t 102)⟩, ⟨(some 7), none, .mov (.c (.int .i64 0))⟩])
 .ret))))))⟩
/-- furlong/cover.Common -/
def v16 : VFun := ⟨2, [(.tmp 4), (.tmp 5)], (.seq (.ops [⟨(some 4), none, .mov (.c .nils)⟩, ⟨(some 5), none, .mov (.c (.int .i64 0))⟩])
 (.seq (.ops [⟨(some 6), none, .mov (.t 0)⟩, ⟨(some 7), none, .mov (.t 1)⟩, ⟨(some 8), none, .call 34 [(.t 6), (.t 7), (.c (.fn 37 []))]⟩, ⟨(some 9), none, .extract (.t 8) 0⟩, ⟨(some 10), none, .extract (.t 8) 1⟩, ⟨(some 4), none, .mov (.t 9)⟩, ⟨(some 5), none, .mov (.t 10)⟩])
 .ret))⟩
/-- furlong/cover.Less -/
def v17 : VFun := ⟨2, [(.tmp 4), (.tmp 5)], (.seq (.ops [⟨(some 4), none, .mov (.c .nils)⟩, ⟨(some 5), none, .mov (.c (.int .i64 0))⟩])
 (.seq (.ops [⟨(some 6), none, .mov (.t 0)⟩, ⟨(some 7), none, .mov (.t 1)⟩, ⟨(some 8), none, .call 34 [(.t 6), (.t 7), (.c (.fn 38 []))]⟩, ⟨(some 9), none, .extract (.t 8) 0⟩, ⟨(some 10), none, .extract (.t 8) 1⟩, ⟨(some 4), none, .mov (.t 9)⟩, ⟨(some 5), none, .mov (.t 10)⟩])
 .ret))⟩
def b18_0 : VCode := (.seq (.ops [⟨(some 8), none, .bin .lss (.t 7) (.t 6)⟩])
 (.seq (.cond (.t 8) .skip (.exit 0))
 (.seq (.block 1 (.seq (.ops [⟨(some 9), none, .mov (.t 7)⟩, ⟨(some 10), none, .iaddr 2 none (.t 5) (.t 7)⟩, ⟨(some 11), none, .load true 2 (.t 10)⟩, ⟨(some 4), none, .alloc [(.int .i64 0), (.int .i64 0)] 41⟩, ⟨(some 3), none, .mov (.t 9)⟩, ⟨none, none, .store 2 (.t 4) (.t 11)⟩])
 (.seq (.drawn [⟨(some 12), none, .faddr 0 (.t 4)⟩, ⟨(some 13), none, .load false 1 (.t 12)⟩, ⟨(some 14), none, .bin .lss (.t 13) (.c (.int .i64 0))⟩, ⟨(some 15), none, .mov (.t 14)⟩, ⟨(some 16), (some (15, false)), .faddr 0 (.t 4)⟩, ⟨(some 17), (some (15, false)), .load false 1 (.t 16)⟩, ⟨(some 18), (some (15, false)), .faddr 1 (.t 4)⟩, ⟨(some 19), (some (15, false)), .load false 1 (.t 18)⟩, ⟨(some 20), (some (15, false)), .bin .geq (.t 17) (.t 19)⟩, ⟨(some 21), none, .pick (.t 15) (.c (.bool true)) (.t 20)⟩, ⟨(some 22), none, .mov (.t 21)⟩, ⟨(some 23), (some (22, false)), .faddr 1 (.t 4)⟩, ⟨(some 24), (some (22, false)), .load false 1 (.t 23)⟩, ⟨(some 25), (some (22, false)), .bin .gtr (.t 24) (.c (.int .i64 4294967296))⟩, ⟨(some 26), none, .pick (.t 22) (.c (.bool true)) (.t 25)⟩, ⟨(some 27), none, .mov (.t 26)⟩, ⟨(some 28), (some (27, false)), .mov (.t 3)⟩, ⟨(some 29), (some (27, false)), .bin .gtr (.t 28) (.c (.int .i64 0))⟩, ⟨(some 30), (some (27, false)), .mov (.t 29)⟩, ⟨(some 31), (some (30, true)), .faddr 0 (.t 4)⟩, ⟨(some 32), (some (30, true)), .load false 1 (.t 31)⟩, ⟨(some 33), (some (30, true)), .mov (.t 0)⟩, ⟨(some 34), (some (30, true)), .mov (.t 3)⟩, ⟨(some 35), (some (30, true)), .bin .sub (.t 34) (.c (.int .i64 1))⟩, ⟨(some 36), (some (30, true)), .iaddr 2 none (.t 33) (.t 35)⟩, ⟨(some 37), (some (30, true)), .faddr 1 (.t 36)⟩, ⟨(some 38), (some (30, true)), .load false 1 (.t 37)⟩, ⟨(some 39), (some (30, true)), .bin .leq (.t 32) (.t 38)⟩, ⟨(some 40), (some (27, false)), .pick (.t 30) (.t 39) (.c (.bool false))⟩, ⟨(some 41), none, .pick (.t 27) (.c (.bool true)) (.t 40)⟩] [])
 (.cond (.t 41) (.seq (.ops [⟨(some 2), none, .mov (.c (.bool false))⟩])
 .ret) .skip))))
 (.ops [⟨(some 42), none, .bin .add (.t 7) (.c (.int .i64 1))⟩, ⟨(some 7), none, .mov (.t 42)⟩]))))
/-- furlong/cover.May -/
def v18 : VFun := ⟨1, [(.tmp 2)], (.seq (.ops [⟨(some 2), none, .mov (.c (.bool false))⟩])
 (.seq (.seq (.ops [⟨(some 5), none, .mov (.t 0)⟩, ⟨(some 6), none, .bi (.len 1) [(.t 5)]⟩, ⟨(some 7), none, .mov (.c (.int .i64 0))⟩])
 (.block 0 (.loop b18_0)))
 (.seq (.ops [⟨(some 2), none, .mov (.c (.bool true))⟩])
 .ret)))⟩
def b19_0 : VCode := (.seq (.seq (.ops [⟨(some 4), none, .mov (.t 3)⟩, ⟨(some 5), none, .mov (.t 0)⟩, ⟨(some 6), none, .bi (.len 1) [(.t 5)]⟩, ⟨(some 7), none, .bin .lss (.t 4) (.t 6)⟩])
 (.cond (.t 7) .skip (.exit 0)))
 (.seq (.block 1 (.seq (.drawn [⟨(some 10), none, .mov (.t 0)⟩, ⟨(some 11), none, .mov (.t 3)⟩, ⟨(some 12), none, .iaddr 2 none (.t 10) (.t 11)⟩, ⟨(some 13), none, .faddr 0 (.t 12)⟩, ⟨(some 14), none, .load false 1 (.t 13)⟩, ⟨(some 15), none, .bin .lss (.t 14) (.c (.int .i64 0))⟩, ⟨(some 16), none, .mov (.t 15)⟩, ⟨(some 17), (some (16, false)), .mov (.t 0)⟩, ⟨(some 18), (some (16, false)), .mov (.t 3)⟩, ⟨(some 19), (some (16, false)), .iaddr 2 none (.t 17) (.t 18)⟩, ⟨(some 20), (some (16, false)), .faddr 0 (.t 19)⟩, ⟨(some 21), (some (16, false)), .load false 1 (.t 20)⟩, ⟨(some 22), (some (16, false)), .mov (.t 0)⟩, ⟨(some 23), (some (16, false)), .mov (.t 3)⟩, ⟨(some 24), (some (16, false)), .iaddr 2 none (.t 22) (.t 23)⟩, ⟨(some 25), (some (16, false)), .faddr 1 (.t 24)⟩, ⟨(some 26), (some (16, false)), .load false 1 (.t 25)⟩, ⟨(some 27), (some (16, false)), .bin .geq (.t 21) (.t 26)⟩, ⟨(some 28), none, .pick (.t 16) (.c (.bool true)) (.t 27)⟩, ⟨(some 29), none, .mov (.t 28)⟩, ⟨(some 30), (some (29, false)), .mov (.t 0)⟩, ⟨(some 31), (some (29, false)), .mov (.t 3)⟩, ⟨(some 32), (some (29, false)), .iaddr 2 none (.t 30) (.t 31)⟩, ⟨(some 33), (some (29, false)), .faddr 1 (.t 32)⟩, ⟨(some 34), (some (29, false)), .load false 1 (.t 33)⟩, ⟨(some 35), (some (29, false)), .bin .gtr (.t 34) (.c (.int .i64 4294967296))⟩, ⟨(some 36), none, .pick (.t 29) (.c (.bool true)) (.t 35)⟩, ⟨(some 37), none, .mov (.t 36)⟩, ⟨(some 38), (some (37, false)), .mov (.t 3)⟩, ⟨(some 39), (some (37, false)), .bin .gtr (.t 38) (.c (.int .i64 0))⟩, ⟨(some 40), (some (37, false)), .mov (.t 39)⟩, ⟨(some 41), (some (40, true)), .mov (.t 0)⟩, ⟨(some 42), (some (40, true)), .mov (.t 3)⟩, ⟨(some 43), (some (40, true)), .bin .sub (.t 42) (.c (.int .i64 1))⟩, ⟨(some 44), (some (40, true)), .iaddr 2 none (.t 41) (.t 43)⟩, ⟨(some 45), (some (40, true)), .faddr 1 (.t 44)⟩, ⟨(some 46), (some (40, true)), .load false 1 (.t 45)⟩, ⟨(some 47), (some (40, true)), .mov (.t 0)⟩, ⟨(some 48), (some (40, true)), .mov (.t 3)⟩, ⟨(some 49), (some (40, true)), .iaddr 2 none (.t 47) (.t 48)⟩, ⟨(some 50), (some (40, true)), .faddr 0 (.t 49)⟩, ⟨(some 51), (some (40, true)), .load false 1 (.t 50)⟩, ⟨(some 52), (some (40, true)), .bin .geq (.t 46) (.t 51)⟩, ⟨(some 53), (some (37, false)), .pick (.t 40) (.t 52) (.c (.bool false))⟩, ⟨(some 54), none, .pick (.t 37) (.c (.bool true)) (.t 53)⟩] [])
 (.cond (.t 54) (.seq (.ops [⟨(some 2), none, .mov (.c (.bool false))⟩])
 .ret) .skip)))
 (.ops [⟨(some 8), none, .mov (.t 3)⟩, ⟨(some 9), none, .bin .add (.t 8) (.c (.int .i64 1))⟩, ⟨(some 3), none, .mov (.t 9)⟩])))
/-- furlong/furlongref1.RangesMay -/
def v19 : VFun := ⟨1, [(.tmp 2)], (.seq (.ops [⟨(some 2), none, .mov (.c (.bool false))⟩])
 (.seq (.seq (.ops [⟨(some 3), none, .mov (.c (.int .i64 0))⟩])
 (.block 0 (.loop b19_0)))
 (.seq (.ops [⟨(some 2), none, .mov (.c (.bool true))⟩])
 .ret)))⟩
/-- furlong/cover.Has -/
def v20 : VFun := ⟨2, [(.tmp 4)], (.seq (.ops [⟨(some 3), none, .box 3 (.t 1)⟩, ⟨(some 4), none, .mov (.c (.bool false))⟩])
 (.seq (.ops [⟨(some 5), none, .mov (.t 0)⟩, ⟨(some 6), none, .mkfn 40 [(.t 3)]⟩, ⟨(some 7), none, .call 39 [(.t 5), (.t 6)]⟩, ⟨(some 4), none, .mov (.t 7)⟩])
 .ret))⟩
def b21_0 : VCode := (.seq (.seq (.ops [⟨(some 6), none, .mov (.t 5)⟩, ⟨(some 7), none, .mov (.t 0)⟩, ⟨(some 8), none, .bi (.len 1) [(.t 7)]⟩, ⟨(some 9), none, .bin .lss (.t 6) (.t 8)⟩])
 (.cond (.t 9) .skip (.exit 0)))
 (.seq (.block 1 (.seq (.ops [⟨(some 12), none, .mov (.t 1)⟩, ⟨(some 13), none, .mov (.t 0)⟩, ⟨(some 14), none, .mov (.t 5)⟩, ⟨(some 15), none, .iaddr 2 none (.t 13) (.t 14)⟩, ⟨(some 16), none, .faddr 0 (.t 15)⟩, ⟨(some 17), none, .load false 1 (.t 16)⟩, ⟨(some 18), none, .bin .geq (.t 12) (.t 17)⟩, ⟨(some 19), none, .mov (.t 18)⟩, ⟨(some 20), (some (19, true)), .mov (.t 1)⟩, ⟨(some 21), (some (19, true)), .mov (.t 0)⟩, ⟨(some 22), (some (19, true)), .mov (.t 5)⟩, ⟨(some 23), (some (19, true)), .iaddr 2 none (.t 21) (.t 22)⟩, ⟨(some 24), (some (19, true)), .faddr 1 (.t 23)⟩, ⟨(some 25), (some (19, true)), .load false 1 (.t 24)⟩, ⟨(some 26), (some (19, true)), .bin .lss (.t 20) (.t 25)⟩, ⟨(some 27), none, .pick (.t 19) (.t 26) (.c (.bool false))⟩])
 (.cond (.t 27) (.seq (.ops [⟨(some 4), none, .mov (.c (.bool true))⟩])
 .ret) .skip)))
 (.ops [⟨(some 10), none, .mov (.t 5)⟩, ⟨(some 11), none, .bin .add (.t 10) (.c (.int .i64 1))⟩, ⟨(some 5), none, .mov (.t 11)⟩])))
/-- furlong/furlongref1.HasRange -/
def v21 : VFun := ⟨2, [(.tmp 4)], (.seq (.ops [⟨(some 4), none, .mov (.c (.bool false))⟩])
 (.seq (.seq (.ops [⟨(some 5), none, .mov (.c (.int .i64 0))⟩])
 (.block 0 (.loop b21_0)))
 (.seq (.ops [⟨(some 4), none, .mov (.c (.bool false))⟩])
 .ret)))⟩
/-- furlong/furlonglaw0.KeptRanges -/
def v22 : VFun := ⟨2, [(.tmp 4)], (.seq (.ops [⟨(some 4), none, .mov (.c (.bool false))⟩])
 (.seq (.ops [⟨(some 6), none, .mov (.t 0)⟩, ⟨(some 7), none, .mov (.t 0)⟩, ⟨(some 8), none, .bi (.len 1) [(.t 7)]⟩, ⟨(some 9), none, .bin .add (.t 8) (.c (.int .i64 2))⟩, ⟨(some 10), none, .slice 2 (.t 6) none (some (.t 9)) none⟩, ⟨(some 5), none, .mov (.t 10)⟩])
 (.seq (.ops [⟨(some 11), none, .mov (.t 0)⟩, ⟨(some 12), none, .mov (.t 1)⟩, ⟨(some 13), none, .call 12 [(.t 11), (.t 12)]⟩, ⟨(some 14), none, .mov (.t 13)⟩, ⟨(some 15), (some (14, true)), .mov (.t 5)⟩, ⟨(some 16), (some (14, true)), .mov (.t 1)⟩, ⟨(some 17), (some (14, true)), .bi (.len 1) [(.t 16)]⟩, ⟨(some 18), (some (14, true)), .iaddr 2 none (.t 15) (.t 17)⟩, ⟨(some 19), (some (14, true)), .load true 2 (.t 18)⟩, ⟨(some 20), (some (14, true)), .build [(.int .i64 0), (.int .i64 0)] [(0, 1, (.c (.int .i64 77777)))]⟩, ⟨(some 21), (some (14, true)), .eqs (.flat [.int, .int]) false (.t 19) (.t 20)⟩, ⟨(some 22), none, .pick (.t 14) (.t 21) (.c (.bool false))⟩, ⟨(some 23), none, .mov (.t 22)⟩, ⟨(some 24), (some (23, true)), .mov (.t 5)⟩, ⟨(some 25), (some (23, true)), .mov (.t 1)⟩, ⟨(some 26), (some (23, true)), .bi (.len 1) [(.t 25)]⟩, ⟨(some 27), (some (23, true)), .bin .add (.t 26) (.c (.int .i64 1))⟩, ⟨(some 28), (some (23, true)), .iaddr 2 none (.t 24) (.t 27)⟩, ⟨(some 29), (some (23, true)), .load true 2 (.t 28)⟩, ⟨(some 30), (some (23, true)), .build [(.int .i64 0), (.int .i64 0)] [(0, 1, (.c (.int .i64 77777)))]⟩, ⟨(some 31), (some (23, true)), .eqs (.flat [.int, .int]) false (.t 29) (.t 30)⟩, ⟨(some 32), none, .pick (.t 23) (.t 31) (.c (.bool false))⟩, ⟨(some 4), none, .mov (.t 32)⟩])
 .ret)))⟩
/-- furlong/furlonglaw6.awake -/
def v23 : VFun := ⟨0, [(.tmp 0)], (.seq (.ops [⟨(some 0), none, .mov (.c (.bool false))⟩])
 (.seq (.ops [⟨(some 16), none, .build [(.int .i64 0), (.int .i64 0), (.int .i64 0), (.int .i64 0)] [(2, 1, (.c (.int .i64 4294967295))), (3, 1, (.c (.int .i64 4294967295)))]⟩, ⟨(some 17), none, .call 10 [(.t 16)]⟩, ⟨(some 15), none, .mov (.t 17)⟩, ⟨(some 18), none, .extract (.t 15) 0⟩, ⟨(some 19), none, .extract (.t 15) 1⟩, ⟨(some 1), none, .mov (.t 18)⟩, ⟨(some 2), none, .mov (.t 19)⟩])
 (.seq (.ops [⟨(some 21), none, .build [(.int .i64 0), (.int .i64 0), (.int .i64 0), (.int .i64 0)] []⟩, ⟨(some 22), none, .call 10 [(.t 21)]⟩, ⟨(some 20), none, .mov (.t 22)⟩, ⟨(some 23), none, .extract (.t 20) 0⟩, ⟨(some 24), none, .extract (.t 20) 1⟩, ⟨(some 3), none, .mov (.t 23)⟩, ⟨(some 4), none, .mov (.t 24)⟩])
 (.seq (.ops [⟨(some 26), none, .build [(.int .i64 0), (.int .i64 0), (.int .i64 0), (.int .i64 0)] [(0, 1, (.c (.int .i64 1)))]⟩, ⟨(some 27), none, .call 10 [(.t 26)]⟩, ⟨(some 25), none, .mov (.t 27)⟩, ⟨(some 28), none, .extract (.t 25) 0⟩, ⟨(some 29), none, .extract (.t 25) 1⟩, ⟨(some 5), none, .mov (.t 28)⟩, ⟨(some 6), none, .mov (.t 29)⟩])
 (.seq (.ops [⟨(some 31), none, .build [(.int .i64 0), (.int .i64 0)] [(0, 1, (.c (.int .i64 0))), (1, 1, (.c (.int .i64 5)))]⟩, ⟨(some 32), none, .bslice [(.int .i64 0), (.int .i64 0)] 41 1 [(0, 2, (.t 31))]⟩, ⟨(some 33), none, .build [(.int .i64 0), (.int .i64 0)] [(0, 1, (.c (.int .i64 5))), (1, 1, (.c (.int .i64 9)))]⟩, ⟨(some 34), none, .bslice [(.int .i64 0), (.int .i64 0)] 41 1 [(0, 2, (.t 33))]⟩, ⟨(some 35), none, .call 14 [(.t 32), (.t 34)]⟩, ⟨(some 30), none, .mov (.t 35)⟩, ⟨(some 36), none, .extract (.t 30) 0⟩, ⟨(some 37), none, .extract (.t 30) 1⟩, ⟨(some 7), none, .mov (.t 36)⟩, ⟨(some 8), none, .mov (.t 37)⟩])
 (.seq (.ops [⟨(some 39), none, .build [(.int .i64 0), (.int .i64 0)] [(0, 1, (.c (.int .i64 0))), (1, 1, (.c (.int .i64 5)))]⟩, ⟨(some 40), none, .bslice [(.int .i64 0), (.int .i64 0)] 41 1 [(0, 2, (.t 39))]⟩, ⟨(some 41), none, .build [(.int .i64 0), (.int .i64 0)] [(0, 1, (.c (.int .i64 4))), (1, 1, (.c (.int .i64 9)))]⟩, ⟨(some 42), none, .bslice [(.int .i64 0), (.int .i64 0)] 41 1 [(0, 2, (.t 41))]⟩, ⟨(some 43), none, .call 16 [(.t 40), (.t 42)]⟩, ⟨(some 38), none, .mov (.t 43)⟩, ⟨(some 44), none, .extract (.t 38) 0⟩, ⟨(some 45), none, .extract (.t 38) 1⟩, ⟨(some 9), none, .mov (.t 44)⟩, ⟨(some 10), none, .mov (.t 45)⟩])
 (.seq (.ops [⟨(some 47), none, .build [(.int .i64 0), (.int .i64 0)] [(0, 1, (.c (.int .i64 0))), (1, 1, (.c (.int .i64 5)))]⟩, ⟨(some 48), none, .bslice [(.int .i64 0), (.int .i64 0)] 41 1 [(0, 2, (.t 47))]⟩, ⟨(some 49), none, .build [(.int .i64 0), (.int .i64 0)] [(0, 1, (.c (.int .i64 1))), (1, 1, (.c (.int .i64 2)))]⟩, ⟨(some 50), none, .bslice [(.int .i64 0), (.int .i64 0)] 41 1 [(0, 2, (.t 49))]⟩, ⟨(some 51), none, .call 17 [(.t 48), (.t 50)]⟩, ⟨(some 46), none, .mov (.t 51)⟩, ⟨(some 52), none, .extract (.t 46) 0⟩, ⟨(some 53), none, .extract (.t 46) 1⟩, ⟨(some 11), none, .mov (.t 52)⟩, ⟨(some 12), none, .mov (.t 53)⟩])
 (.seq (.ops [⟨(some 55), none, .build [(.int .i64 0), (.int .i64 0)] [(0, 1, (.c (.int .i64 5))), (1, 1, (.c (.int .i64 5)))]⟩, ⟨(some 56), none, .bslice [(.int .i64 0), (.int .i64 0)] 41 1 [(0, 2, (.t 55))]⟩, ⟨(some 57), none, .call 14 [(.t 56), (.c .nils)]⟩, ⟨(some 54), none, .mov (.t 57)⟩, ⟨(some 58), none, .extract (.t 54) 0⟩, ⟨(some 59), none, .extract (.t 54) 1⟩, ⟨(some 13), none, .mov (.t 58)⟩, ⟨(some 14), none, .mov (.t 59)⟩])
 (.seq (.ops [⟨(some 60), none, .mov (.t 1)⟩, ⟨(some 61), none, .build [(.int .i64 0), (.int .i64 0)] [(0, 1, (.c (.int .i64 0))), (1, 1, (.c (.int .i64 4294967296)))]⟩, ⟨(some 62), none, .bslice [(.int .i64 0), (.int .i64 0)] 41 1 [(0, 2, (.t 61))]⟩, ⟨(some 63), none, .call 12 [(.t 60), (.t 62)]⟩, ⟨(some 64), none, .mov (.t 63)⟩, ⟨(some 65), (some (64, true)), .mov (.t 2)⟩, ⟨(some 66), (some (64, true)), .call 13 [(.t 65)]⟩, ⟨(some 67), (some (64, true)), .bin .eql (.t 66) (.c (.int .i64 0))⟩, ⟨(some 68), none, .pick (.t 64) (.t 67) (.c (.bool false))⟩, ⟨(some 69), none, .mov (.t 68)⟩, ⟨(some 70), (some (69, true)), .mov (.t 3)⟩, ⟨(some 71), (some (69, true)), .build [(.int .i64 0), (.int .i64 0)] [(0, 1, (.c (.int .i64 0))), (1, 1, (.c (.int .i64 1048576)))]⟩, ⟨(some 72), (some (69, true)), .bslice [(.int .i64 0), (.int .i64 0)] 41 1 [(0, 2, (.t 71))]⟩, ⟨(some 73), (some (69, true)), .call 12 [(.t 70), (.t 72)]⟩, ⟨(some 74), none, .pick (.t 69) (.t 73) (.c (.bool false))⟩, ⟨(some 75), none, .mov (.t 74)⟩, ⟨(some 76), (some (75, true)), .mov (.t 4)⟩, ⟨(some 77), (some (75, true)), .call 13 [(.t 76)]⟩, ⟨(some 78), (some (75, true)), .bin .eql (.t 77) (.c (.int .i64 0))⟩, ⟨(some 79), none, .pick (.t 75) (.t 78) (.c (.bool false))⟩, ⟨(some 80), none, .mov (.t 79)⟩, ⟨(some 81), (some (80, true)), .mov (.t 6)⟩, ⟨(some 82), (some (80, true)), .call 13 [(.t 81)]⟩, ⟨(some 83), (some (80, true)), .bin .eql (.t 82) (.c (.int .i64 600))⟩, ⟨(some 84), none, .pick (.t 80) (.t 83) (.c (.bool false))⟩, ⟨(some 85), none, .mov (.t 84)⟩, ⟨(some 86), (some (85, true)), .mov (.t 7)⟩, ⟨(some 87), (some (85, true)), .build [(.int .i64 0), (.int .i64 0)] [(0, 1, (.c (.int .i64 0))), (1, 1, (.c (.int .i64 9)))]⟩, ⟨(some 88), (some (85, true)), .bslice [(.int .i64 0), (.int .i64 0)] 41 1 [(0, 2, (.t 87))]⟩, ⟨(some 89), (some (85, true)), .call 12 [(.t 86), (.t 88)]⟩, ⟨(some 90), none, .pick (.t 85) (.t 89) (.c (.bool false))⟩, ⟨(some 91), none, .mov (.t 90)⟩, ⟨(some 92), (some (91, true)), .mov (.t 8)⟩, ⟨(some 93), (some (91, true)), .call 13 [(.t 92)]⟩, ⟨(some 94), (some (91, true)), .bin .eql (.t 93) (.c (.int .i64 0))⟩, ⟨(some 95), none, .pick (.t 91) (.t 94) (.c (.bool false))⟩, ⟨(some 96), none, .mov (.t 95)⟩, ⟨(some 97), (some (96, true)), .mov (.t 9)⟩, ⟨(some 98), (some (96, true)), .build [(.int .i64 0), (.int .i64 0)] [(0, 1, (.c (.int .i64 4))), (1, 1, (.c (.int .i64 5)))]⟩, ⟨(some 99), (some (96, true)), .bslice [(.int .i64 0), (.int .i64 0)] 41 1 [(0, 2, (.t 98))]⟩, ⟨(some 100), (some (96, true)), .call 12 [(.t 97), (.t 99)]⟩, ⟨(some 101), none, .pick (.t 96) (.t 100) (.c (.bool false))⟩, ⟨(some 102), none, .mov (.t 101)⟩, ⟨(some 103), (some (102, true)), .mov (.t 10)⟩, ⟨(some 104), (some (102, true)), .call 13 [(.t 103)]⟩, ⟨(some 105), (some (102, true)), .bin .eql (.t 104) (.c (.int .i64 0))⟩, ⟨(some 106), none, .pick (.t 102) (.t 105) (.c (.bool false))⟩, ⟨(some 107), none, .mov (.t 106)⟩, ⟨(some 108), (some (107, true)), .mov (.t 11)⟩, ⟨(some 109), (some (107, true)), .build [(.int .i64 0), (.int .i64 0)] [(0, 1, (.c (.int .i64 0))), (1, 1, (.c (.int .i64 1)))]⟩, ⟨(some 110), (some (107, true)), .build [(.int .i64 0), (.int .i64 0)] [(0, 1, (.c (.int .i64 2))), (1, 1, (.c (.int .i64 5)))]⟩, ⟨(some 111), (some (107, true)), .bslice [(.int .i64 0), (.int .i64 0)] 41 2 [(0, 2, (.t 109)), (2, 2, (.t 110))]⟩, ⟨(some 112), (some (107, true)), .call 12 [(.t 108), (.t 111)]⟩, ⟨(some 113), none, .pick (.t 107) (.t 112) (.c (.bool false))⟩, ⟨(some 114), none, .mov (.t 113)⟩, ⟨(some 115), (some (114, true)), .mov (.t 12)⟩, ⟨(some 116), (some (114, true)), .call 13 [(.t 115)]⟩, ⟨(some 117), (some (114, true)), .bin .eql (.t 116) (.c (.int .i64 0))⟩, ⟨(some 118), none, .pick (.t 114) (.t 117) (.c (.bool false))⟩, ⟨(some 119), none, .mov (.t 118)⟩, ⟨(some 120), (some (119, true)), .mov (.t 14)⟩, ⟨(some 121), (some (119, true)), .call 13 [(.t 120)]⟩, ⟨(some 122), (some (119, true)), .bin .eql (.t 121) (.c (.int .i64 600))⟩, ⟨(some 123), none, .pick (.t 119) (.t 122) (.c (.bool false))⟩, ⟨(some 124), none, .mov (.t 123)⟩, ⟨(some 125), (some (124, true)), .mov (.t 11)⟩, ⟨(some 126), (some (124, true)), .call 20 [(.t 125), (.c (.int .i64 4))]⟩, ⟨(some 127), none, .pick (.t 124) (.t 126) (.c (.bool false))⟩, ⟨(some 128), none, .mov (.t 127)⟩, ⟨(some 129), (some (128, true)), .mov (.t 11)⟩, ⟨(some 130), (some (128, true)), .call 20 [(.t 129), (.c (.int .i64 1))]⟩, ⟨(some 131), (some (128, true)), .un .not (.t 130)⟩, ⟨(some 132), none, .pick (.t 128) (.t 131) (.c (.bool false))⟩, ⟨(some 133), none, .mov (.t 132)⟩, ⟨(some 134), (some (133, true)), .mov (.t 11)⟩, ⟨(some 135), (some (133, true)), .call 18 [(.t 134)]⟩, ⟨(some 136), none, .pick (.t 133) (.t 135) (.c (.bool false))⟩, ⟨(some 0), none, .mov (.t 136)⟩])
 .ret)))))))))⟩
/-- furlong/furlongref1.PointMay -/
def v24 : VFun := ⟨1, [(.tmp 2)], (.seq (.ops [⟨(some 1), none, .box 47 (.t 0)⟩, ⟨(some 2), none, .mov (.c (.bool false))⟩])
 (.seq (.ops [⟨(some 3), none, .faddr 0 (.t 1)⟩, ⟨(some 4), none, .load false 1 (.t 3)⟩, ⟨(some 5), none, .bin .geq (.t 4) (.c (.int .i64 0))⟩, ⟨(some 6), none, .mov (.t 5)⟩, ⟨(some 7), (some (6, true)), .faddr 0 (.t 1)⟩, ⟨(some 8), (some (6, true)), .load false 1 (.t 7)⟩, ⟨(some 9), (some (6, true)), .bin .leq (.t 8) (.c (.int .i64 4294967295))⟩, ⟨(some 10), none, .pick (.t 6) (.t 9) (.c (.bool false))⟩, ⟨(some 11), none, .mov (.t 10)⟩, ⟨(some 12), (some (11, true)), .faddr 1 (.t 1)⟩, ⟨(some 13), (some (11, true)), .load false 1 (.t 12)⟩, ⟨(some 14), (some (11, true)), .bin .geq (.t 13) (.c (.int .i64 0))⟩, ⟨(some 15), none, .pick (.t 11) (.t 14) (.c (.bool false))⟩, ⟨(some 16), none, .mov (.t 15)⟩, ⟨(some 17), (some (16, true)), .faddr 1 (.t 1)⟩, ⟨(some 18), (some (16, true)), .load false 1 (.t 17)⟩, ⟨(some 19), (some (16, true)), .bin .leq (.t 18) (.c (.int .i64 4294967295))⟩, ⟨(some 20), none, .pick (.t 16) (.t 19) (.c (.bool false))⟩, ⟨(some 2), none, .mov (.t 20)⟩])
 .ret))⟩
/-- furlong/furlonglaw0.CopyRanges -/
def v27 : VFun := ⟨1, [(.tmp 2)], (.seq (.ops [⟨(some 2), none, .mov (.c .nils)⟩])
 (.seq (.ops [⟨(some 3), none, .bslice [(.int .i64 0), (.int .i64 0)] 41 0 []⟩, ⟨(some 4), none, .mov (.t 0)⟩, ⟨(some 5), none, .bi (.append 2 16 41) [(.t 3), (.t 4)]⟩, ⟨(some 2), none, .mov (.t 5)⟩])
 .ret))⟩
/-- furlong/geom.BoxMay -/
def v28 : VFun := ⟨1, [(.tmp 2)], (.seq (.ops [⟨(some 1), none, .box 23 (.t 0)⟩, ⟨(some 2), none, .mov (.c (.bool false))⟩])
 (.seq (.ops [⟨(some 3), none, .faddr 0 (.t 1)⟩, ⟨(some 4), none, .load false 1 (.t 3)⟩, ⟨(some 5), none, .call 42 [(.t 4)]⟩, ⟨(some 6), none, .mov (.t 5)⟩, ⟨(some 7), (some (6, true)), .faddr 1 (.t 1)⟩, ⟨(some 8), (some (6, true)), .load false 1 (.t 7)⟩, ⟨(some 9), (some (6, true)), .call 42 [(.t 8)]⟩, ⟨(some 10), none, .pick (.t 6) (.t 9) (.c (.bool false))⟩, ⟨(some 11), none, .mov (.t 10)⟩, ⟨(some 12), (some (11, true)), .faddr 2 (.t 1)⟩, ⟨(some 13), (some (11, true)), .load false 1 (.t 12)⟩, ⟨(some 14), (some (11, true)), .call 42 [(.t 13)]⟩, ⟨(some 15), none, .pick (.t 11) (.t 14) (.c (.bool false))⟩, ⟨(some 16), none, .mov (.t 15)⟩, ⟨(some 17), (some (16, true)), .faddr 3 (.t 1)⟩, ⟨(some 18), (some (16, true)), .load false 1 (.t 17)⟩, ⟨(some 19), (some (16, true)), .call 42 [(.t 18)]⟩, ⟨(some 20), none, .pick (.t 16) (.t 19) (.c (.bool false))⟩, ⟨(some 21), none, .mov (.t 20)⟩, ⟨(some 22), (some (21, true)), .faddr 0 (.t 1)⟩, ⟨(some 23), (some (21, true)), .load false 1 (.t 22)⟩, ⟨(some 24), (some (21, true)), .faddr 2 (.t 1)⟩, ⟨(some 25), (some (21, true)), .load false 1 (.t 24)⟩, ⟨(some 26), (some (21, true)), .bin .leq (.t 23) (.t 25)⟩, ⟨(some 27), none, .pick (.t 21) (.t 26) (.c (.bool false))⟩, ⟨(some 28), none, .mov (.t 27)⟩, ⟨(some 29), (some (28, true)), .faddr 1 (.t 1)⟩, ⟨(some 30), (some (28, true)), .load false 1 (.t 29)⟩, ⟨(some 31), (some (28, true)), .faddr 3 (.t 1)⟩, ⟨(some 32), (some (28, true)), .load false 1 (.t 31)⟩, ⟨(some 33), (some (28, true)), .bin .leq (.t 30) (.t 32)⟩, ⟨(some 34), none, .pick (.t 28) (.t 33) (.c (.bool false))⟩, ⟨(some 2), none, .mov (.t 34)⟩])
 .ret))⟩
def b29_0 : VCode := (.seq (.seq (.ops [⟨(some 41), none, .mov (.t 9)⟩, ⟨(some 42), none, .bin .geq (.t 41) (.c (.int .i64 0))⟩])
 (.cond (.t 42) .skip (.exit 0)))
 (.seq (.block 1 (.seq (.drawn [⟨(some 45), none, .mov (.t 0)⟩, ⟨(some 46), none, .mov (.t 9)⟩, ⟨(some 47), none, .bin .shr (.t 45) (.t 46)⟩, ⟨(some 48), none, .bin .and (.t 47) (.c (.int .i64 1))⟩, ⟨(some 49), none, .mov (.t 1)⟩, ⟨(some 50), none, .mov (.t 9)⟩, ⟨(some 51), none, .bin .shr (.t 49) (.t 50)⟩, ⟨(some 52), none, .bin .and (.t 51) (.c (.int .i64 1))⟩, ⟨(some 53), none, .mov (.t 9)⟩, ⟨(some 54), none, .bin .shl (.c (.int .i64 1)) (.t 53)⟩, ⟨(some 10), none, .mov (.t 48)⟩, ⟨(some 11), none, .mov (.t 52)⟩, ⟨(some 12), none, .mov (.t 54)⟩] [])
 (.seq (.ops [⟨(some 55), none, .mov (.t 8)⟩, ⟨(some 56), none, .mov (.t 12)⟩, ⟨(some 57), none, .mov (.t 12)⟩, ⟨(some 58), none, .bin .mul (.t 56) (.t 57)⟩, ⟨(some 59), none, .mov (.t 10)⟩, ⟨(some 60), none, .bin .mul (.c (.int .i64 3)) (.t 59)⟩, ⟨(some 61), none, .mov (.t 11)⟩, ⟨(some 62), none, .bin .xor (.t 60) (.t 61)⟩, ⟨(some 63), none, .bin .mul (.t 58) (.t 62)⟩, ⟨(some 64), none, .bin .add (.t 55) (.t 63)⟩, ⟨(some 8), none, .mov (.t 64)⟩])
 (.ops [⟨(some 66), none, .mov (.t 0)⟩, ⟨(some 67), none, .mov (.t 12)⟩, ⟨(some 68), none, .bin .sub (.t 67) (.c (.int .i64 1))⟩, ⟨(some 69), none, .bin .and (.t 66) (.t 68)⟩, ⟨(some 70), none, .mov (.t 1)⟩, ⟨(some 71), none, .mov (.t 12)⟩, ⟨(some 72), none, .bin .sub (.t 71) (.c (.int .i64 1))⟩, ⟨(some 73), none, .bin .and (.t 70) (.t 72)⟩, ⟨(some 74), none, .mov (.t 12)⟩, ⟨(some 75), none, .mov (.t 10)⟩, ⟨(some 76), none, .mov (.t 11)⟩, ⟨(some 77), none, .call 43 [(.t 69), (.t 73), (.t 74), (.t 75), (.t 76)]⟩, ⟨(some 65), none, .mov (.t 77)⟩, ⟨(some 78), none, .extract (.t 65) 0⟩, ⟨(some 79), none, .extract (.t 65) 1⟩, ⟨(some 0), none, .mov (.t 78)⟩, ⟨(some 1), none, .mov (.t 79)⟩]))))
 (.ops [⟨(some 43), none, .mov (.t 9)⟩, ⟨(some 44), none, .bin .sub (.t 43) (.c (.int .i64 1))⟩, ⟨(some 9), none, .mov (.t 44)⟩])))
/-- furlong/hilbert.Cell -/
def v29 : VFun := ⟨3, [(.tmp 6), (.tmp 7)], (.seq (.ops [⟨(some 6), none, .mov (.c (.int .i64 0))⟩, ⟨(some 7), none, .mov (.c (.int .i64 0))⟩])
 (.seq (.seq (.ops [⟨(some 13), none, .mov (.t 2)⟩, ⟨(some 14), none, .bin .lss (.t 13) (.c (.int .i64 1))⟩, ⟨(some 15), none, .mov (.t 14)⟩, ⟨(some 16), (some (15, false)), .mov (.t 2)⟩, ⟨(some 17), (some (15, false)), .bin .gtr (.t 16) (.c (.int .i64 16))⟩, ⟨(some 18), none, .pick (.t 15) (.c (.bool true)) (.t 17)⟩, ⟨(some 19), none, .mov (.t 18)⟩, ⟨(some 20), (some (19, false)), .mov (.t 0)⟩, ⟨(some 21), (some (19, false)), .bin .lss (.t 20) (.c (.int .i64 0))⟩, ⟨(some 22), none, .pick (.t 19) (.c (.bool true)) (.t 21)⟩, ⟨(some 23), none, .mov (.t 22)⟩, ⟨(some 24), (some (23, false)), .mov (.t 1)⟩, ⟨(some 25), (some (23, false)), .bin .lss (.t 24) (.c (.int .i64 0))⟩, ⟨(some 26), none, .pick (.t 23) (.c (.bool true)) (.t 25)⟩, ⟨(some 27), none, .mov (.t 26)⟩, ⟨(some 28), (some (27, false)), .mov (.t 0)⟩, ⟨(some 29), (some (27, false)), .mov (.t 2)⟩, ⟨(some 30), (some (27, false)), .bin .shl (.c (.int .i64 1)) (.t 29)⟩, ⟨(some 31), (some (27, false)), .bin .geq (.t 28) (.t 30)⟩, ⟨(some 32), none, .pick (.t 27) (.c (.bool true)) (.t 31)⟩, ⟨(some 33), none, .mov (.t 32)⟩, ⟨(some 34), (some (33, false)), .mov (.t 1)⟩, ⟨(some 35), (some (33, false)), .mov (.t 2)⟩, ⟨(some 36), (some (33, false)), .bin .shl (.c (.int .i64 1)) (.t 35)⟩, ⟨(some 37), (some (33, false)), .bin .geq (.t 34) (.t 36)⟩, ⟨(some 38), none, .pick (.t 33) (.c (.bool true)) (.t 37)⟩])
 (.cond (.t 38) (.seq (.ops [⟨(some 6), none, .mov (.c (.int .i64 0))⟩, ⟨(some 7), none, .mov (.c (.int .i64 500))⟩])
 .ret) .skip))
 (.seq (.ops [⟨(some 8), none, .mov (.c (.int .i64 0))⟩])
 (.seq (.seq (.ops [⟨(some 39), none, .mov (.t 2)⟩, ⟨(some 40), none, .bin .sub (.t 39) (.c (.int .i64 1))⟩, ⟨(some 9), none, .mov (.t 40)⟩])
 (.block 0 (.loop b29_0)))
 (.seq (.ops [⟨(some 80), none, .mov (.t 8)⟩, ⟨(some 6), none, .mov (.t 80)⟩, ⟨(some 7), none, .mov (.c (.int .i64 0))⟩])
 .ret)))))⟩
/-- furlong/cover.add -/
def v31 : VFun := ⟨2, [(.tmp 4)], (.seq (.ops [⟨(some 3), none, .box 41 (.t 1)⟩, ⟨(some 4), none, .mov (.c .nils)⟩])
 (.seq (.seq (.ops [⟨(some 6), none, .mov (.t 0)⟩, ⟨(some 7), none, .bi (.len 1) [(.t 6)]⟩, ⟨(some 5), none, .mov (.t 7)⟩])
 (.seq (.drawn [⟨(some 8), none, .mov (.t 5)⟩, ⟨(some 9), none, .bin .gtr (.t 8) (.c (.int .i64 0))⟩, ⟨(some 10), none, .mov (.t 9)⟩, ⟨(some 11), (some (10, true)), .mov (.t 0)⟩, ⟨(some 12), (some (10, true)), .mov (.t 5)⟩, ⟨(some 13), (some (10, true)), .bin .sub (.t 12) (.c (.int .i64 1))⟩, ⟨(some 14), (some (10, true)), .iaddr 2 none (.t 11) (.t 13)⟩, ⟨(some 15), (some (10, true)), .faddr 1 (.t 14)⟩, ⟨(some 16), (some (10, true)), .load false 1 (.t 15)⟩, ⟨(some 17), (some (10, true)), .faddr 0 (.t 3)⟩, ⟨(some 18), (some (10, true)), .load false 1 (.t 17)⟩, ⟨(some 19), (some (10, true)), .bin .eql (.t 16) (.t 18)⟩, ⟨(some 20), none, .pick (.t 10) (.t 19) (.c (.bool false))⟩] [])
 (.cond (.t 20) (.seq (.ops [⟨(some 21), none, .mov (.t 0)⟩, ⟨(some 22), none, .mov (.t 5)⟩, ⟨(some 23), none, .bin .sub (.t 22) (.c (.int .i64 1))⟩, ⟨(some 24), none, .faddr 1 (.t 3)⟩, ⟨(some 25), none, .load false 1 (.t 24)⟩, ⟨(some 26), none, .iaddr 2 none (.t 21) (.t 23)⟩, ⟨(some 27), none, .faddr 1 (.t 26)⟩, ⟨none, none, .store 1 (.t 27) (.t 25)⟩])
 (.seq (.ops [⟨(some 28), none, .mov (.t 0)⟩, ⟨(some 4), none, .mov (.t 28)⟩])
 .ret)) .skip)))
 (.seq (.ops [⟨(some 29), none, .mov (.t 0)⟩, ⟨(some 30), none, .load true 2 (.t 3)⟩, ⟨(some 31), none, .bslice [(.int .i64 0), (.int .i64 0)] 41 1 [(0, 2, (.t 30))]⟩, ⟨(some 32), none, .bi (.append 2 16 41) [(.t 29), (.t 31)]⟩, ⟨(some 4), none, .mov (.t 32)⟩])
 .ret)))⟩
/-- furlong/furlongref1.BoxMay -/
def v32 : VFun := ⟨1, [(.tmp 2)], (.seq (.ops [⟨(some 1), none, .box 23 (.t 0)⟩, ⟨(some 2), none, .mov (.c (.bool false))⟩])
 (.seq (.ops [⟨(some 3), none, .faddr 0 (.t 1)⟩, ⟨(some 4), none, .load false 1 (.t 3)⟩, ⟨(some 5), none, .faddr 1 (.t 1)⟩, ⟨(some 6), none, .load false 1 (.t 5)⟩, ⟨(some 7), none, .build [(.int .i64 0), (.int .i64 0)] [(0, 1, (.t 4)), (1, 1, (.t 6))]⟩, ⟨(some 8), none, .call 24 [(.t 7)]⟩, ⟨(some 9), none, .mov (.t 8)⟩, ⟨(some 10), (some (9, true)), .faddr 2 (.t 1)⟩, ⟨(some 11), (some (9, true)), .load false 1 (.t 10)⟩, ⟨(some 12), (some (9, true)), .faddr 3 (.t 1)⟩, ⟨(some 13), (some (9, true)), .load false 1 (.t 12)⟩, ⟨(some 14), (some (9, true)), .build [(.int .i64 0), (.int .i64 0)] [(0, 1, (.t 11)), (1, 1, (.t 13))]⟩, ⟨(some 15), (some (9, true)), .call 24 [(.t 14)]⟩, ⟨(some 16), none, .pick (.t 9) (.t 15) (.c (.bool false))⟩, ⟨(some 17), none, .mov (.t 16)⟩, ⟨(some 18), (some (17, true)), .faddr 0 (.t 1)⟩, ⟨(some 19), (some (17, true)), .load false 1 (.t 18)⟩, ⟨(some 20), (some (17, true)), .faddr 2 (.t 1)⟩, ⟨(some 21), (some (17, true)), .load false 1 (.t 20)⟩, ⟨(some 22), (some (17, true)), .bin .leq (.t 19) (.t 21)⟩, ⟨(some 23), none, .pick (.t 17) (.t 22) (.c (.bool false))⟩, ⟨(some 24), none, .mov (.t 23)⟩, ⟨(some 25), (some (24, true)), .faddr 1 (.t 1)⟩, ⟨(some 26), (some (24, true)), .load false 1 (.t 25)⟩, ⟨(some 27), (some (24, true)), .faddr 3 (.t 1)⟩, ⟨(some 28), (some (24, true)), .load false 1 (.t 27)⟩, ⟨(some 29), (some (24, true)), .bin .leq (.t 26) (.t 28)⟩, ⟨(some 30), none, .pick (.t 24) (.t 29) (.c (.bool false))⟩, ⟨(some 2), none, .mov (.t 30)⟩])
 .ret))⟩
def b33_0 : VCode := (.seq (.seq (.ops [⟨(some 42), none, .mov (.t 9)⟩, ⟨(some 43), none, .bin .gtr (.t 42) (.c (.int .i64 0))⟩])
 (.cond (.t 43) .skip (.exit 0)))
 (.seq (.block 1 (.seq (.drawn [⟨(some 46), none, .mov (.t 0)⟩, ⟨(some 47), none, .mov (.t 9)⟩, ⟨(some 48), none, .bin .quo (.t 46) (.t 47)⟩, ⟨(some 49), none, .bin .and (.t 48) (.c (.int .i64 1))⟩, ⟨(some 50), none, .mov (.t 1)⟩, ⟨(some 51), none, .mov (.t 9)⟩, ⟨(some 52), none, .bin .quo (.t 50) (.t 51)⟩, ⟨(some 53), none, .bin .and (.t 52) (.c (.int .i64 1))⟩, ⟨(some 10), none, .mov (.t 49)⟩, ⟨(some 11), none, .mov (.t 53)⟩] [])
 (.seq (.ops [⟨(some 54), none, .mov (.t 8)⟩, ⟨(some 55), none, .mov (.t 9)⟩, ⟨(some 56), none, .mov (.t 9)⟩, ⟨(some 57), none, .bin .mul (.t 55) (.t 56)⟩, ⟨(some 58), none, .mov (.t 10)⟩, ⟨(some 59), none, .bin .mul (.c (.int .i64 3)) (.t 58)⟩, ⟨(some 60), none, .mov (.t 11)⟩, ⟨(some 61), none, .bin .xor (.t 59) (.t 60)⟩, ⟨(some 62), none, .bin .mul (.t 57) (.t 61)⟩, ⟨(some 63), none, .bin .add (.t 54) (.t 62)⟩, ⟨(some 8), none, .mov (.t 63)⟩])
 (.seq (.ops [⟨(some 64), none, .mov (.t 0)⟩, ⟨(some 65), none, .mov (.t 9)⟩, ⟨(some 66), none, .bin .sub (.t 65) (.c (.int .i64 1))⟩, ⟨(some 67), none, .bin .and (.t 64) (.t 66)⟩, ⟨(some 0), none, .mov (.t 67)⟩])
 (.seq (.ops [⟨(some 68), none, .mov (.t 1)⟩, ⟨(some 69), none, .mov (.t 9)⟩, ⟨(some 70), none, .bin .sub (.t 69) (.c (.int .i64 1))⟩, ⟨(some 71), none, .bin .and (.t 68) (.t 70)⟩, ⟨(some 1), none, .mov (.t 71)⟩])
 (.seq (.ops [⟨(some 72), none, .mov (.t 11)⟩, ⟨(some 73), none, .bin .eql (.t 72) (.c (.int .i64 0))⟩])
 (.cond (.t 73) (.seq (.seq (.ops [⟨(some 74), none, .mov (.t 10)⟩, ⟨(some 75), none, .bin .eql (.t 74) (.c (.int .i64 1))⟩])
 (.cond (.t 75) (.seq (.ops [⟨(some 76), none, .mov (.t 9)⟩, ⟨(some 77), none, .bin .sub (.t 76) (.c (.int .i64 1))⟩, ⟨(some 78), none, .mov (.t 0)⟩, ⟨(some 79), none, .bin .sub (.t 77) (.t 78)⟩, ⟨(some 0), none, .mov (.t 79)⟩])
 (.ops [⟨(some 80), none, .mov (.t 9)⟩, ⟨(some 81), none, .bin .sub (.t 80) (.c (.int .i64 1))⟩, ⟨(some 82), none, .mov (.t 1)⟩, ⟨(some 83), none, .bin .sub (.t 81) (.t 82)⟩, ⟨(some 1), none, .mov (.t 83)⟩])) .skip))
 (.seq (.ops [⟨(some 84), none, .mov (.t 0)⟩, ⟨(some 12), none, .mov (.t 84)⟩])
 (.seq (.ops [⟨(some 85), none, .mov (.t 1)⟩, ⟨(some 0), none, .mov (.t 85)⟩])
 (.ops [⟨(some 86), none, .mov (.t 12)⟩, ⟨(some 1), none, .mov (.t 86)⟩])))) .skip)))))))
 (.ops [⟨(some 44), none, .mov (.t 9)⟩, ⟨(some 45), none, .bin .quo (.t 44) (.c (.int .i64 2))⟩, ⟨(some 9), none, .mov (.t 45)⟩])))
/-- furlong/furlongref1.Cell -/
def v33 : VFun := ⟨3, [(.tmp 6), (.tmp 7)], (.seq (.ops [⟨(some 6), none, .mov (.c (.int .i64 0))⟩, ⟨(some 7), none, .mov (.c (.int .i64 0))⟩])
 (.seq (.seq (.ops [⟨(some 13), none, .mov (.t 2)⟩, ⟨(some 14), none, .bin .lss (.t 13) (.c (.int .i64 1))⟩, ⟨(some 15), none, .mov (.t 14)⟩, ⟨(some 16), (some (15, false)), .mov (.t 2)⟩, ⟨(some 17), (some (15, false)), .bin .gtr (.t 16) (.c (.int .i64 16))⟩, ⟨(some 18), none, .pick (.t 15) (.c (.bool true)) (.t 17)⟩, ⟨(some 19), none, .mov (.t 18)⟩, ⟨(some 20), (some (19, false)), .mov (.t 0)⟩, ⟨(some 21), (some (19, false)), .bin .lss (.t 20) (.c (.int .i64 0))⟩, ⟨(some 22), none, .pick (.t 19) (.c (.bool true)) (.t 21)⟩, ⟨(some 23), none, .mov (.t 22)⟩, ⟨(some 24), (some (23, false)), .mov (.t 0)⟩, ⟨(some 25), (some (23, false)), .mov (.t 2)⟩, ⟨(some 26), (some (23, false)), .bin .shl (.c (.int .i64 1)) (.t 25)⟩, ⟨(some 27), (some (23, false)), .bin .geq (.t 24) (.t 26)⟩, ⟨(some 28), none, .pick (.t 23) (.c (.bool true)) (.t 27)⟩, ⟨(some 29), none, .mov (.t 28)⟩, ⟨(some 30), (some (29, false)), .mov (.t 1)⟩, ⟨(some 31), (some (29, false)), .bin .lss (.t 30) (.c (.int .i64 0))⟩, ⟨(some 32), none, .pick (.t 29) (.c (.bool true)) (.t 31)⟩, ⟨(some 33), none, .mov (.t 32)⟩, ⟨(some 34), (some (33, false)), .mov (.t 1)⟩, ⟨(some 35), (some (33, false)), .mov (.t 2)⟩, ⟨(some 36), (some (33, false)), .bin .shl (.c (.int .i64 1)) (.t 35)⟩, ⟨(some 37), (some (33, false)), .bin .geq (.t 34) (.t 36)⟩, ⟨(some 38), none, .pick (.t 33) (.c (.bool true)) (.t 37)⟩])
 (.cond (.t 38) (.seq (.ops [⟨(some 6), none, .mov (.c (.int .i64 0))⟩, ⟨(some 7), none, .mov (.c (.int .i64 500))⟩])
 .ret) .skip))
 (.seq (.ops [⟨(some 8), none, .mov (.c (.int .i64 0))⟩])
 (.seq (.seq (.ops [⟨(some 39), none, .mov (.t 2)⟩, ⟨(some 40), none, .bin .sub (.t 39) (.c (.int .i64 1))⟩, ⟨(some 41), none, .bin .shl (.c (.int .i64 1)) (.t 40)⟩, ⟨(some 9), none, .mov (.t 41)⟩])
 (.block 0 (.loop b33_0)))
 (.seq (.ops [⟨(some 87), none, .mov (.t 8)⟩, ⟨(some 6), none, .mov (.t 87)⟩, ⟨(some 7), none, .mov (.c (.int .i64 0))⟩])
 .ret)))))⟩
def b34_0 : VCode := (.seq (.ops [⟨(some 27), none, .bin .lss (.t 26) (.t 25)⟩])
 (.seq (.cond (.t 27) .skip (.exit 0))
 (.seq (.block 1 (.seq (.ops [⟨(some 28), none, .iaddr 2 none (.t 24) (.t 26)⟩, ⟨(some 29), none, .load true 2 (.t 28)⟩, ⟨(some 13), none, .alloc [(.int .i64 0), (.bool false)] 72⟩, ⟨none, none, .store 2 (.t 13) (.t 29)⟩])
 (.seq (.seq (.ops [⟨(some 30), none, .faddr 0 (.t 13)⟩, ⟨(some 31), none, .load false 1 (.t 30)⟩, ⟨(some 32), none, .mov (.t 11)⟩, ⟨(some 33), none, .bin .gtr (.t 31) (.t 32)⟩, ⟨(some 34), none, .mov (.t 33)⟩, ⟨(some 35), (some (34, true)), .mov (.t 2)⟩, ⟨(some 36), (some (34, true)), .mov (.t 9)⟩, ⟨(some 37), (some (34, true)), .mov (.t 10)⟩, ⟨(some 38), (some (34, true)), .callv (.t 35) [(.t 36), (.t 37)]⟩, ⟨(some 39), none, .pick (.t 34) (.t 38) (.c (.bool false))⟩])
 (.cond (.t 39) (.ops [⟨(some 40), none, .mov (.t 8)⟩, ⟨(some 41), none, .mov (.t 11)⟩, ⟨(some 42), none, .faddr 0 (.t 13)⟩, ⟨(some 43), none, .load false 1 (.t 42)⟩, ⟨(some 44), none, .build [(.int .i64 0), (.int .i64 0)] [(0, 1, (.t 41)), (1, 1, (.t 43))]⟩, ⟨(some 45), none, .call 31 [(.t 40), (.t 44)]⟩, ⟨(some 8), none, .mov (.t 45)⟩]) .skip))
 (.seq (.ops [⟨(some 46), none, .faddr 0 (.t 13)⟩, ⟨(some 47), none, .load false 1 (.t 46)⟩, ⟨(some 11), none, .mov (.t 47)⟩])
 (.seq (.ops [⟨(some 48), none, .faddr 1 (.t 13)⟩, ⟨(some 49), none, .load false 1 (.t 48)⟩])
 (.cond (.t 49) (.ops [⟨(some 50), none, .mov (.t 9)⟩, ⟨(some 51), none, .un .not (.t 50)⟩, ⟨(some 9), none, .mov (.t 51)⟩]) (.ops [⟨(some 52), none, .mov (.t 10)⟩, ⟨(some 53), none, .un .not (.t 52)⟩, ⟨(some 10), none, .mov (.t 53)⟩])))))))
 (.ops [⟨(some 54), none, .bin .add (.t 26) (.c (.int .i64 1))⟩, ⟨(some 26), none, .mov (.t 54)⟩]))))
/-- furlong/cover.mix -/
def v34 : VFun := ⟨3, [(.tmp 6), (.tmp 7)], (.seq (.ops [⟨(some 6), none, .mov (.c .nils)⟩, ⟨(some 7), none, .mov (.c (.int .i64 0))⟩])
 (.seq (.seq (.ops [⟨(some 14), none, .mov (.t 0)⟩, ⟨(some 15), none, .call 18 [(.t 14)]⟩, ⟨(some 16), none, .un .not (.t 15)⟩, ⟨(some 17), none, .mov (.t 16)⟩, ⟨(some 18), (some (17, false)), .mov (.t 1)⟩, ⟨(some 19), (some (17, false)), .call 18 [(.t 18)]⟩, ⟨(some 20), (some (17, false)), .un .not (.t 19)⟩, ⟨(some 21), none, .pick (.t 17) (.c (.bool true)) (.t 20)⟩])
 (.cond (.t 21) (.seq (.ops [⟨(some 6), none, .mov (.c .nils)⟩, ⟨(some 7), none, .mov (.c (.int .i64 600))⟩])
 .ret) .skip))
 (.seq (.ops [⟨(some 8), none, .mov (.c .nils)⟩])
 (.seq (.ops [⟨(some 9), none, .mov (.c (.bool false))⟩, ⟨(some 10), none, .mov (.c (.bool false))⟩, ⟨(some 11), none, .mov (.c (.int .i64 0))⟩])
 (.seq (.seq (.ops [⟨(some 22), none, .mov (.t 0)⟩, ⟨(some 23), none, .mov (.t 1)⟩, ⟨(some 24), none, .call 46 [(.t 22), (.t 23)]⟩, ⟨(some 25), none, .bi (.len 1) [(.t 24)]⟩, ⟨(some 26), none, .mov (.c (.int .i64 0))⟩])
 (.block 0 (.loop b34_0)))
 (.seq (.ops [⟨(some 55), none, .mov (.t 8)⟩, ⟨(some 6), none, .mov (.t 55)⟩, ⟨(some 7), none, .mov (.c (.int .i64 0))⟩])
 .ret))))))⟩
/-- furlong/cover.Union$1 -/
def v35 : VFun := ⟨2, [(.tmp 4)], (.seq (.ops [⟨(some 4), none, .mov (.c (.bool false))⟩])
 (.seq (.ops [⟨(some 5), none, .mov (.t 0)⟩, ⟨(some 6), none, .mov (.t 5)⟩, ⟨(some 7), (some (6, false)), .mov (.t 1)⟩, ⟨(some 8), none, .pick (.t 6) (.c (.bool true)) (.t 7)⟩, ⟨(some 4), none, .mov (.t 8)⟩])
 .ret))⟩
def b36_0 : VCode := (.seq (.seq (.ops [⟨(some 6), none, .mov (.t 5)⟩, ⟨(some 7), none, .mov (.t 0)⟩, ⟨(some 8), none, .bi (.len 1) [(.t 7)]⟩, ⟨(some 9), none, .bin .lss (.t 6) (.t 8)⟩])
 (.cond (.t 9) .skip (.exit 0)))
 (.seq (.block 1 (.seq (.seq (.ops [⟨(some 12), none, .mov (.t 0)⟩, ⟨(some 13), none, .mov (.t 5)⟩, ⟨(some 14), none, .iaddr 2 none (.t 12) (.t 13)⟩, ⟨(some 15), none, .faddr 0 (.t 14)⟩, ⟨(some 16), none, .load false 1 (.t 15)⟩, ⟨(some 17), none, .mov (.t 1)⟩, ⟨(some 18), none, .bin .gtr (.t 16) (.t 17)⟩])
 (.cond (.t 18) (.seq (.ops [⟨(some 19), none, .mov (.t 0)⟩, ⟨(some 20), none, .mov (.t 5)⟩, ⟨(some 21), none, .iaddr 2 none (.t 19) (.t 20)⟩, ⟨(some 22), none, .faddr 0 (.t 21)⟩, ⟨(some 23), none, .load false 1 (.t 22)⟩, ⟨(some 4), none, .mov (.t 23)⟩])
 .ret) .skip))
 (.seq (.ops [⟨(some 24), none, .mov (.t 0)⟩, ⟨(some 25), none, .mov (.t 5)⟩, ⟨(some 26), none, .iaddr 2 none (.t 24) (.t 25)⟩, ⟨(some 27), none, .faddr 1 (.t 26)⟩, ⟨(some 28), none, .load false 1 (.t 27)⟩, ⟨(some 29), none, .mov (.t 1)⟩, ⟨(some 30), none, .bin .gtr (.t 28) (.t 29)⟩])
 (.cond (.t 30) (.seq (.ops [⟨(some 31), none, .mov (.t 0)⟩, ⟨(some 32), none, .mov (.t 5)⟩, ⟨(some 33), none, .iaddr 2 none (.t 31) (.t 32)⟩, ⟨(some 34), none, .faddr 1 (.t 33)⟩, ⟨(some 35), none, .load false 1 (.t 34)⟩, ⟨(some 4), none, .mov (.t 35)⟩])
 .ret) .skip))))
 (.ops [⟨(some 10), none, .mov (.t 5)⟩, ⟨(some 11), none, .bin .add (.t 10) (.c (.int .i64 1))⟩, ⟨(some 5), none, .mov (.t 11)⟩])))
/-- furlong/furlongref1.after -/
def v36 : VFun := ⟨2, [(.tmp 4)], (.seq (.ops [⟨(some 4), none, .mov (.c (.int .i64 0))⟩])
 (.seq (.seq (.ops [⟨(some 5), none, .mov (.c (.int .i64 0))⟩])
 (.block 0 (.loop b36_0)))
 (.seq (.ops [⟨(some 4), none, .mov (.c (.int .i64 4294967296))⟩])
 .ret)))⟩
/-- furlong/cover.Common$1 -/
def v37 : VFun := ⟨2, [(.tmp 4)], (.seq (.ops [⟨(some 4), none, .mov (.c (.bool false))⟩])
 (.seq (.ops [⟨(some 5), none, .mov (.t 0)⟩, ⟨(some 6), none, .mov (.t 5)⟩, ⟨(some 7), (some (6, true)), .mov (.t 1)⟩, ⟨(some 8), none, .pick (.t 6) (.t 7) (.c (.bool false))⟩, ⟨(some 4), none, .mov (.t 8)⟩])
 .ret))⟩
/-- furlong/cover.Less$1 -/
def v38 : VFun := ⟨2, [(.tmp 4)], (.seq (.ops [⟨(some 4), none, .mov (.c (.bool false))⟩])
 (.seq (.ops [⟨(some 5), none, .mov (.t 0)⟩, ⟨(some 6), none, .mov (.t 5)⟩, ⟨(some 7), (some (6, true)), .mov (.t 1)⟩, ⟨(some 8), (some (6, true)), .un .not (.t 7)⟩, ⟨(some 9), none, .pick (.t 6) (.t 8) (.c (.bool false))⟩, ⟨(some 4), none, .mov (.t 9)⟩])
 .ret))⟩
/-- slices.ContainsFunc[[]furlong/api.Range,furlong/api.Range] -/
def v39 : VFun := ⟨2, [(.tmp 4)], (.seq (.ops [⟨(some 4), none, .mov (.c (.bool false))⟩])
 (.seq (.ops [⟨(some 5), none, .mov (.t 0)⟩, ⟨(some 6), none, .mov (.t 1)⟩, ⟨(some 7), none, .call 47 [(.t 5), (.t 6)]⟩, ⟨(some 8), none, .bin .geq (.t 7) (.c (.int .i64 0))⟩, ⟨(some 4), none, .mov (.t 8)⟩])
 .ret))⟩
/-- furlong/cover.Has$1 -/
def v40 : VFun := ⟨2, [(.tmp 3)], (.seq (.ops [⟨(some 2), none, .box 41 (.t 0)⟩, ⟨(some 3), none, .mov (.c (.bool false))⟩])
 (.seq (.ops [⟨(some 4), none, .load false 1 (.t 1)⟩, ⟨(some 5), none, .faddr 0 (.t 2)⟩, ⟨(some 6), none, .load false 1 (.t 5)⟩, ⟨(some 7), none, .bin .geq (.t 4) (.t 6)⟩, ⟨(some 8), none, .mov (.t 7)⟩, ⟨(some 9), (some (8, true)), .load false 1 (.t 1)⟩, ⟨(some 10), (some (8, true)), .faddr 1 (.t 2)⟩, ⟨(some 11), (some (8, true)), .load false 1 (.t 10)⟩, ⟨(some 12), (some (8, true)), .bin .lss (.t 9) (.t 11)⟩, ⟨(some 13), none, .pick (.t 8) (.t 12) (.c (.bool false))⟩, ⟨(some 3), none, .mov (.t 13)⟩])
 .ret))⟩
/-- furlong/geom.coord -/
def v42 : VFun := ⟨1, [(.tmp 2)], (.seq (.ops [⟨(some 2), none, .mov (.c (.bool false))⟩])
 (.seq (.ops [⟨(some 3), none, .mov (.t 0)⟩, ⟨(some 4), none, .bin .geq (.t 3) (.c (.int .i64 0))⟩, ⟨(some 5), none, .mov (.t 4)⟩, ⟨(some 6), (some (5, true)), .mov (.t 0)⟩, ⟨(some 7), (some (5, true)), .bin .leq (.t 6) (.c (.int .i64 4294967295))⟩, ⟨(some 8), none, .pick (.t 5) (.t 7) (.c (.bool false))⟩, ⟨(some 2), none, .mov (.t 8)⟩])
 .ret))⟩
/-- furlong/hilbert.turned -/
def v43 : VFun := ⟨5, [(.tmp 10), (.tmp 11)], (.seq (.ops [⟨(some 10), none, .mov (.c (.int .i64 0))⟩, ⟨(some 11), none, .mov (.c (.int .i64 0))⟩])
 (.seq (.seq (.ops [⟨(some 12), none, .mov (.t 4)⟩, ⟨(some 13), none, .bin .eql (.t 12) (.c (.int .i64 1))⟩])
 (.cond (.t 13) (.seq (.ops [⟨(some 14), none, .mov (.t 0)⟩, ⟨(some 15), none, .mov (.t 1)⟩, ⟨(some 10), none, .mov (.t 14)⟩, ⟨(some 11), none, .mov (.t 15)⟩])
 .ret) .skip))
 (.seq (.seq (.ops [⟨(some 16), none, .mov (.t 3)⟩, ⟨(some 17), none, .bin .eql (.t 16) (.c (.int .i64 1))⟩])
 (.cond (.t 17) (.ops [⟨(some 18), none, .mov (.t 2)⟩, ⟨(some 19), none, .bin .sub (.t 18) (.c (.int .i64 1))⟩, ⟨(some 20), none, .mov (.t 0)⟩, ⟨(some 21), none, .bin .sub (.t 19) (.t 20)⟩, ⟨(some 22), none, .mov (.t 2)⟩, ⟨(some 23), none, .bin .sub (.t 22) (.c (.int .i64 1))⟩, ⟨(some 24), none, .mov (.t 1)⟩, ⟨(some 25), none, .bin .sub (.t 23) (.t 24)⟩, ⟨(some 0), none, .mov (.t 21)⟩, ⟨(some 1), none, .mov (.t 25)⟩]) .skip))
 (.seq (.ops [⟨(some 26), none, .mov (.t 1)⟩, ⟨(some 27), none, .mov (.t 0)⟩, ⟨(some 10), none, .mov (.t 26)⟩, ⟨(some 11), none, .mov (.t 27)⟩])
 .ret))))⟩
def b46_0 : VCode := (.seq (.ops [⟨(some 20), none, .bin .lss (.t 19) (.t 18)⟩])
 (.seq (.cond (.t 20) .skip (.exit 2))
 (.seq (.block 3 (.seq (.ops [⟨(some 21), none, .iaddr 2 none (.t 17) (.t 19)⟩, ⟨(some 22), none, .load true 2 (.t 21)⟩, ⟨(some 9), none, .alloc [(.int .i64 0), (.int .i64 0)] 41⟩, ⟨none, none, .store 2 (.t 9) (.t 22)⟩])
 (.ops [⟨(some 23), none, .mov (.t 5)⟩, ⟨(some 24), none, .faddr 0 (.t 9)⟩, ⟨(some 25), none, .load false 1 (.t 24)⟩, ⟨(some 26), none, .mov (.t 6)⟩, ⟨(some 27), none, .bin .eql (.t 26) (.c (.int .i64 0))⟩, ⟨(some 28), none, .build [(.int .i64 0), (.bool false)] [(0, 1, (.t 25)), (1, 1, (.t 27))]⟩, ⟨(some 29), none, .faddr 1 (.t 9)⟩, ⟨(some 30), none, .load false 1 (.t 29)⟩, ⟨(some 31), none, .mov (.t 6)⟩, ⟨(some 32), none, .bin .eql (.t 31) (.c (.int .i64 0))⟩, ⟨(some 33), none, .build [(.int .i64 0), (.bool false)] [(0, 1, (.t 30)), (1, 1, (.t 32))]⟩, ⟨(some 34), none, .bslice [(.int .i64 0), (.bool false)] 72 2 [(0, 2, (.t 28)), (2, 2, (.t 33))]⟩, ⟨(some 35), none, .bi (.append 2 16 72) [(.t 23), (.t 34)]⟩, ⟨(some 5), none, .mov (.t 35)⟩])))
 (.ops [⟨(some 36), none, .bin .add (.t 19) (.c (.int .i64 1))⟩, ⟨(some 19), none, .mov (.t 36)⟩]))))
def b46_1 : VCode := (.seq (.ops [⟨(some 14), none, .bin .lss (.t 13) (.c (.int .i64 2))⟩])
 (.seq (.cond (.t 14) .skip (.exit 0))
 (.seq (.block 1 (.seq (.ops [⟨(some 15), none, .mov (.t 13)⟩, ⟨(some 16), none, .index false 1 2 (.t 12) (.t 13)⟩, ⟨(some 6), none, .mov (.t 15)⟩, ⟨(some 7), none, .mov (.t 16)⟩])
 (.seq (.ops [⟨(some 17), none, .mov (.t 7)⟩, ⟨(some 18), none, .bi (.len 1) [(.t 17)]⟩, ⟨(some 19), none, .mov (.c (.int .i64 0))⟩])
 (.block 2 (.loop b46_0)))))
 (.ops [⟨(some 37), none, .bin .add (.t 13) (.c (.int .i64 1))⟩, ⟨(some 13), none, .mov (.t 37)⟩]))))
/-- furlong/cover.ends -/
def v46 : VFun := ⟨2, [(.tmp 4)], (.seq (.ops [⟨(some 4), none, .mov (.c .nils)⟩])
 (.seq (.ops [⟨(some 5), none, .mov (.c .nils)⟩])
 (.seq (.seq (.ops [⟨(some 10), none, .mov (.t 0)⟩, ⟨(some 11), none, .mov (.t 1)⟩, ⟨(some 12), none, .build [.nils, .nils] [(0, 1, (.t 10)), (1, 1, (.t 11))]⟩, ⟨(some 13), none, .mov (.c (.int .i64 0))⟩])
 (.block 0 (.loop b46_1)))
 (.seq (.ops [⟨(some 38), none, .mov (.t 5)⟩, ⟨(some 39), none, .call 59 [(.t 38), (.c (.fn 60 []))]⟩])
 (.seq (.ops [⟨(some 40), none, .mov (.t 5)⟩, ⟨(some 4), none, .mov (.t 40)⟩])
 .ret)))))⟩
def b47_0 : VCode := (.seq (.ops [⟨(some 9), none, .bin .lss (.t 8) (.t 7)⟩])
 (.seq (.cond (.t 9) .skip (.exit 0))
 (.seq (.block 1 (.seq (.ops [⟨(some 10), none, .mov (.t 8)⟩, ⟨(some 5), none, .mov (.t 10)⟩])
 (.seq (.ops [⟨(some 11), none, .mov (.t 1)⟩, ⟨(some 12), none, .mov (.t 0)⟩, ⟨(some 13), none, .mov (.t 5)⟩, ⟨(some 14), none, .iaddr 2 none (.t 12) (.t 13)⟩, ⟨(some 15), none, .load true 2 (.t 14)⟩, ⟨(some 16), none, .callv (.t 11) [(.t 15)]⟩])
 (.cond (.t 16) (.seq (.ops [⟨(some 17), none, .mov (.t 5)⟩, ⟨(some 4), none, .mov (.t 17)⟩])
 .ret) .skip))))
 (.ops [⟨(some 18), none, .bin .add (.t 8) (.c (.int .i64 1))⟩, ⟨(some 8), none, .mov (.t 18)⟩]))))
/-- slices.IndexFunc[[]furlong/api.Range,furlong/api.Range] -/
def v47 : VFun := ⟨2, [(.tmp 4)], (.seq (.ops [⟨(some 4), none, .mov (.c (.int .i64 0))⟩])
 (.seq (.seq (.ops [⟨(some 6), none, .mov (.t 0)⟩, ⟨(some 7), none, .bi (.len 1) [(.t 6)]⟩, ⟨(some 8), none, .mov (.c (.int .i64 0))⟩])
 (.block 0 (.loop b47_0)))
 (.seq (.ops [⟨(some 4), none, .mov (.c (.int .i64 (-1)))⟩])
 .ret)))⟩
/-- furlong/cover.ends$1 -/
def v60 : VFun := ⟨2, [(.tmp 4)], (.seq (.ops [⟨(some 2), none, .box 72 (.t 0)⟩, ⟨(some 3), none, .box 72 (.t 1)⟩, ⟨(some 4), none, .mov (.c (.int .i64 0))⟩])
 (.seq (.ops [⟨(some 5), none, .faddr 0 (.t 2)⟩, ⟨(some 6), none, .load false 1 (.t 5)⟩, ⟨(some 7), none, .faddr 0 (.t 3)⟩, ⟨(some 8), none, .load false 1 (.t 7)⟩, ⟨(some 9), none, .bin .sub (.t 6) (.t 8)⟩, ⟨(some 4), none, .mov (.t 9)⟩])
 .ret))⟩
def tab : Nat → Option VFun := tableOf [(3, v3), (9, v9), (10, v10), (11, v11), (12, v12), (13, v13), (14, v14), (15, v15), (16, v16), (17, v17), (18, v18), (19, v19), (20, v20), (21, v21), (22, v22), (23, v23), (24, v24), (27, v27), (28, v28), (29, v29), (31, v31), (32, v32), (33, v33), (34, v34), (35, v35), (36, v36), (37, v37), (38, v38), (39, v39), (40, v40), (42, v42), (43, v43), (46, v46), (47, v47), (60, v60)]
end Go.Proofs.Yteaieinpnpnkbaa.VM
namespace Go.Proofs.Yteaieinpnpnkbaa.VM
/-- stretches of the curve: from, to -/
abbrev Rgs := List (Int × Int)
def rHas (l : Rgs) (d : Int) : Prop := ∃ r ∈ l, r.1 ≤ d ∧ d < r.2
def Sep : Int → Rgs → Prop
  | _, [] => True
  | lo, r :: t => lo < r.1 ∧ r.1 < r.2 ∧ r.2 ≤ 4294967296 ∧ Sep r.2 t
theorem rHas_nil {d : Int} : ¬ rHas [] d := fun ⟨_, h, _⟩ => by simp at h
theorem rHas_cons {r : Int × Int} {t : Rgs} {d : Int} : rHas (r :: t) d ↔ (r.1 ≤ d ∧ d < r.2) ∨ rHas t d := by simp [rHas]
theorem rHas_app {x y : Rgs} {d : Int} : rHas (x ++ y) d ↔ rHas x d ∨ rHas y d := by
  simp only [rHas, List.mem_append]
  exact ⟨fun ⟨r, h, k⟩ => h.elim (fun h => .inl ⟨r, h, k⟩) fun h => .inr ⟨r, h, k⟩, fun h => h.elim (fun ⟨r, h, k⟩ => ⟨r, .inl h, k⟩) fun ⟨r, h, k⟩ => ⟨r, .inr h, k⟩⟩
theorem Sep.weak {t : Rgs} {a b : Int} (h : Sep a t) (c : b ≤ a) : Sep b t := by
  cases t with
  | nil => trivial
  | cons r t => exact ⟨by have := h.1; omega, h.2⟩
theorem Sep.gt : ∀ {t : Rgs} {a : Int}, Sep a t → ∀ r ∈ t, a < r.1 ∧ r.1 < r.2 ∧ r.2 ≤ 4294967296
  | [], _, _, _, hr => by simp at hr
  | q :: t, a, h, r, hr => by
    rcases List.mem_cons.1 hr with rfl | hr
    · exact ⟨h.1, h.2.1, h.2.2.1⟩
    · have := h.2.2.2.gt r hr
      have := h.1; have := h.2.1
      exact ⟨by omega, by omega, by omega⟩
theorem Sep.has {t : Rgs} {a d : Int} (h : Sep a t) (k : rHas t d) : a < d ∧ d < 4294967296 := by
  obtain ⟨r, hr, h1, h2⟩ := k
  have := h.gt r hr
  omega
theorem Sep.uniq : ∀ {x y : Rgs} {a : Int}, Sep a x → Sep a y → (∀ d, rHas x d ↔ rHas y d) → x = y
  | [], [], _, _, _, _ => rfl
  | [], r :: t, a, _, h2, e => absurd ((e r.1).2 (rHas_cons.2 (.inl ⟨Int.le_refl _, h2.2.1⟩))) rHas_nil
  | r :: t, [], a, h1, _, e => absurd ((e r.1).1 (rHas_cons.2 (.inl ⟨Int.le_refl _, h1.2.1⟩))) rHas_nil
  | r :: t, q :: u, a, h1, h2, e => by
    have k1 : r.1 = q.1 := by
      have a1 := (e r.1).1 (rHas_cons.2 (.inl ⟨Int.le_refl _, h1.2.1⟩))
      have a2 := (e q.1).2 (rHas_cons.2 (.inl ⟨Int.le_refl _, h2.2.1⟩))
      have b1 : q.1 ≤ r.1 := by
        rcases rHas_cons.1 a1 with c | c
        · exact c.1
        · have := h2.2.2.2.has c; have := h2.2.1; omega
      have b2 : r.1 ≤ q.1 := by
        rcases rHas_cons.1 a2 with c | c
        · exact c.1
        · have := h1.2.2.2.has c; have := h1.2.1; omega
      omega
    have k2 : r.2 = q.2 := by
      rcases Int.lt_trichotomy r.2 q.2 with c | c | c
      · have a1 := (e r.2).2 (rHas_cons.2 (.inl ⟨by have := h1.2.1; omega, c⟩))
        rcases rHas_cons.1 a1 with d | d
        · omega
        · have := h1.2.2.2.has d; omega
      · exact c
      · have a1 := (e q.2).1 (rHas_cons.2 (.inl ⟨by have := h2.2.1; omega, c⟩))
        rcases rHas_cons.1 a1 with d | d
        · omega
        · have := h2.2.2.2.has d; omega
    have k3 : r = q := Prod.ext k1 k2
    subst k3
    refine congrArg (r :: ·) (Sep.uniq h1.2.2.2 h2.2.2.2 fun d => ?_)
    have h3 := e d
    rw [rHas_cons, rHas_cons] at h3
    constructor
    · intro k
      rcases h3.1 (.inr k) with c | c
      · have := h1.2.2.2.has k; omega
      · exact c
    · intro k
      rcases h3.2 (.inr k) with c | c
      · have := h2.2.2.2.has k; omega
      · exact c
/-- one more, onto the last one if there is no gap -/
def addR : Rgs → Int × Int → Rgs
  | [], r => [r]
  | [q], r => if q.2 = r.1 then [(q.1, r.2)] else [q, r]
  | q :: q' :: t, r => q :: addR (q' :: t) r
theorem addR_cons {q : Int × Int} {t : Rgs} {r : Int × Int} (h : t ≠ []) : addR (q :: t) r = q :: addR t r := by
  cases t with
  | nil => exact absurd rfl h
  | cons q' t => rfl
theorem addR_snoc {l : Rgs} {q r : Int × Int} : addR (l ++ [q]) r = if q.2 = r.1 then l ++ [(q.1, r.2)] else l ++ [q] ++ [r] := by
  induction l with
  | nil => rfl
  | cons x l ih =>
    rw [List.cons_append, addR_cons (by simp), ih]
    by_cases e : q.2 = r.1
    · rw [if_pos e, if_pos e]; rfl
    · rw [if_neg e, if_neg e]; rfl
/-- what was gathered, up to a place -/
def Upto (l : Rgs) (a : Int) (S : Int → Prop) : Prop := Sep (-1) l ∧ (∀ r ∈ l, r.2 ≤ a) ∧ ∀ d, rHas l d ↔ 0 ≤ d ∧ d < a ∧ S d
theorem Upto.nil {S : Int → Prop} : Upto [] 0 S := ⟨trivial, fun r h => by simp at h, fun d => ⟨fun h => absurd h rHas_nil, fun h => by omega⟩⟩
theorem Sep.app : ∀ {x y : Rgs} {a b : Int}, Sep a x → (∀ r ∈ x, r.2 ≤ b) → a ≤ b → (x = [] → Sep a y) → Sep b y → Sep a (x ++ y)
  | [], _, _, _, _, _, _, h, _ => h rfl
  | [r], y, a, b, h1, h2, h3, _, h4 => ⟨h1.1, h1.2.1, h1.2.2.1, h4.weak (h2 r (.head _))⟩
  | r :: r' :: x, y, a, b, h1, h2, h3, _, h4 => ⟨h1.1, h1.2.1, h1.2.2.1, Sep.app (x := r' :: x) h1.2.2.2 (fun q hq => h2 q (.tail _ hq)) (h2 r (.head _)) (fun e => by cases e) h4⟩
theorem Upto.skip {l : Rgs} {a b : Int} {S : Int → Prop} (u : Upto l a S) (h : a ≤ b) (k : ∀ d, a ≤ d → d < b → ¬ S d) : Upto l b S := by
  obtain ⟨u1, u2, u3⟩ := u
  refine ⟨u1, fun r hr => by have := u2 r hr; omega, fun d => ?_⟩
  rw [u3]
  constructor
  · rintro ⟨h1, h2, h3⟩; exact ⟨h1, by omega, h3⟩
  · rintro ⟨h1, h2, h3⟩
    refine ⟨h1, ?_, h3⟩
    rcases Int.lt_or_le d a with c | c
    · exact c
    · exact absurd h3 (k d c h2)
theorem snoc_cases (l : Rgs) : l = [] ∨ ∃ m q, l = m ++ [q] := by
  rcases List.eq_nil_or_concat l with h | ⟨m, q, h⟩
  · exact .inl h
  · exact .inr ⟨m, q, by rw [h]; simp⟩
theorem Sep.snoc_inv : ∀ {m : Rgs} {q : Int × Int} {a : Int}, Sep a (m ++ [q]) → Sep a m ∧ a < q.1 ∧ q.1 < q.2 ∧ q.2 ≤ 4294967296 ∧ ∀ r ∈ m, r.2 < q.1
  | [], q, a, h => ⟨trivial, h.1, h.2.1, h.2.2.1, fun r hr => by simp at hr⟩
  | p :: m, q, a, h => by
    obtain ⟨h1, h2, h3, h4⟩ := h
    obtain ⟨k1, k2, k3, k4, k5⟩ := h4.snoc_inv
    refine ⟨⟨h1, h2, h3, k1⟩, by omega, k3, k4, fun r hr => ?_⟩
    rcases List.mem_cons.1 hr with rfl | hr
    · exact k2
    · exact k5 r hr
theorem Sep.snoc : ∀ {m : Rgs} {q : Int × Int} {a : Int}, Sep a m → a < q.1 → q.1 < q.2 → q.2 ≤ 4294967296 → (∀ r ∈ m, r.2 < q.1) → Sep a (m ++ [q])
  | [], q, a, _, h1, h2, h3, _ => ⟨h1, h2, h3, trivial⟩
  | p :: m, q, a, h, h1, h2, h3, h4 => ⟨h.1, h.2.1, h.2.2.1, h.2.2.2.snoc (h4 p (.head _)) h2 h3 fun r hr => h4 r (.tail _ hr)⟩
theorem Upto.add {l : Rgs} {a b : Int} {S : Int → Prop} (u : Upto l a S) (h0 : 0 ≤ a) (h : a < b) (hb : b ≤ 4294967296) (k : ∀ d, a ≤ d → d < b → S d) : Upto (addR l (a, b)) b S := by
  obtain ⟨u1, u2, u3⟩ := u
  have key : ∀ d, (rHas l d ∨ a ≤ d ∧ d < b) ↔ 0 ≤ d ∧ d < b ∧ S d := by
    intro d
    rw [u3]
    constructor
    · rintro (⟨h1, h2, h3⟩ | ⟨h1, h2⟩)
      · exact ⟨h1, by omega, h3⟩
      · exact ⟨by omega, h2, k d h1 h2⟩
    · rintro ⟨h1, h2, h3⟩
      rcases Int.lt_or_le d a with c | c
      · exact .inl ⟨h1, c, h3⟩
      · exact .inr ⟨c, h2⟩
  rcases snoc_cases l with rfl | ⟨m, q, rfl⟩
  · refine ⟨⟨by show -1 < a; omega, h, hb, trivial⟩, fun r hr => by simp [addR] at hr; subst hr; exact Int.le_refl _, fun d => ?_⟩
    rw [← key]
    simp [addR, rHas]
  · obtain ⟨s1, s2, s3, s4, s5⟩ := u1.snoc_inv
    have hq := u2 q (by simp)
    rw [addR_snoc]
    by_cases e : q.2 = a
    · rw [if_pos e]
      refine ⟨s1.snoc s2 (by show q.1 < b; omega) hb s5, fun r hr => ?_, fun d => ?_⟩
      · rcases List.mem_append.1 hr with hr | hr
        · have := u2 r (List.mem_append_left _ hr); omega
        · simp at hr; subst hr; exact Int.le_refl _
      · rw [← key, rHas_app, rHas_app, rHas_cons, rHas_cons]
        have n0 : ¬ rHas [] d := rHas_nil
        simp only [n0, or_false]
        constructor
        · rintro (c | ⟨c1, c2⟩)
          · exact .inl (.inl c)
          · have c1 : q.1 ≤ d := c1
            have c2 : d < b := c2
            rcases Int.lt_or_le d a with f | f
            · exact .inl (.inr ⟨c1, by omega⟩)
            · exact .inr ⟨f, c2⟩
        · rintro ((c | ⟨c1, c2⟩) | ⟨c1, c2⟩)
          · exact .inl c
          · exact .inr ⟨c1, by show d < b; omega⟩
          · exact .inr ⟨by show q.1 ≤ d; omega, c2⟩
    · rw [if_neg e]
      refine ⟨u1.snoc (by show -1 < a; omega) h hb fun r hr => ?_, fun r hr => ?_, fun d => ?_⟩
      · rcases List.mem_append.1 hr with hr | hr
        · have := s5 r hr; show r.2 < a; omega
        · simp at hr; subst hr; show r.2 < a; omega
      · rcases List.mem_append.1 hr with hr | hr
        · have := u2 r hr; omega
        · simp at hr; subst hr; exact Int.le_refl _
      · rw [← key, rHas_app, rHas_cons]
        have n0 : ¬ rHas [] d := rHas_nil
        simp only [n0, or_false]
/-- ends of stretches up to a place -/
def cntE : Rgs → Int → Nat
  | [], _ => 0
  | r :: t, d => (if r.1 ≤ d then 1 else 0) + (if r.2 ≤ d then 1 else 0) + cntE t d
theorem cntE_zero : ∀ {t : Rgs} {a d : Int}, Sep a t → d ≤ a → cntE t d = 0
  | [], _, _, _, _ => rfl
  | r :: t, a, d, h, k => by
    have h1 := h.1; have h2 := h.2.1
    rw [cntE, if_neg (by omega), if_neg (by omega), cntE_zero h.2.2.2 (by omega)]
theorem cntE_odd : ∀ {t : Rgs} {a d : Int}, Sep a t → (cntE t d % 2 = 1 ↔ rHas t d)
  | [], _, _, _ => by simp [cntE, rHas_nil]
  | r :: t, a, d, h => by
    have h1 := h.1; have h2 := h.2.1
    rw [cntE, rHas_cons]
    rcases Int.lt_or_le d r.1 with c | c
    · rw [if_neg (by omega), if_neg (by omega), cntE_zero h.2.2.2 (by omega)]
      constructor
      · intro e; simp at e
      · rintro (e | e)
        · omega
        · have := h.2.2.2.has e; omega
    · rcases Int.lt_or_le d r.2 with f | f
      · rw [if_pos c, if_neg (by omega), cntE_zero h.2.2.2 (by omega)]
        simp [c, f]
      · rw [if_pos c, if_pos f]
        have := cntE_odd (d := d) h.2.2.2
        rw [show 1 + 1 + cntE t d = cntE t d + 2 by omega, Nat.add_mod_right, this]
        constructor
        · exact .inr
        · rintro (e | e)
          · omega
          · exact e
theorem cntE_all : ∀ {t : Rgs} {d : Int}, (∀ r ∈ t, r.1 ≤ d ∧ r.2 ≤ d) → cntE t d = 2 * t.length
  | [], _, _ => rfl
  | r :: t, d, h => by
    have := h r (.head _)
    rw [cntE, if_pos this.1, if_pos this.2, cntE_all fun q hq => h q (.tail _ hq), List.length_cons]
    omega
end Go.Proofs.Yteaieinpnpnkbaa.VM
namespace Go.Proofs.Yteaieinpnpnkbaa.VM
attribute [local irreducible] Af Nx EvO Ev Un Gd Cd EvR EvQ EvC Nc Gc Lp EvM NxM AfM GdM EvMR EvMQ EvMD EvMC Nm Gm
def RRg (r : Int × Int) (c : List AV) : Prop := c = [.int .i64 r.1, .int .i64 r.2] ∧ I64 r.1 ∧ I64 r.2
theorem zRg (a : Int × Int) (c : List AV) (h : RRg a c) : c.length = 2 := by rw [h.1]; rfl
theorem tRg (a : Int × Int) (c : List AV) (h : RRg a c) : AV.tolds c = true := by rw [h.1]; rfl
theorem wRg (c : List AV) (h : Ws [.int .i64, .int .i64] c) : ∃ a, RRg a c := by
  cases h with | cons h t => cases t with | cons h' t => cases t; cases h with | int k n hw => cases h' with | int k m hw' => exact ⟨(n, m), rfl, i64_wf hw, i64_wf hw'⟩
theorem atRg {v : AV} {l : Rgs} (h : IsL 16 RRg v l) (i : Nat) (hi : i < l.length) : ∃ r, AV.tolds r = true ∧ ∀ (hh : Heap) (kk : IntKind), iaV hh 2 none v (.int kk (i : Int)) = .val (.rp (.int .i64 (l.getD i (0, 0)).1 :: .int .i64 (l.getD i (0, 0)).2 :: r)) hh := by
  obtain ⟨ci, r, ⟨e, _⟩, ht, hia⟩ := h.get zRg tRg i hi
  have : l.getD i (0, 0) = l[i] := by simp [List.getD_eq_getElem?_getD, List.getElem?_eq_getElem hi]
  refine ⟨r, ?_, fun hh kk => ?_⟩
  · rw [e] at ht; exact ht
  · rw [hia, e, this]; rfl
theorem atRg64 {v : AV} {l : Rgs} (h : IsL 16 RRg v l) (i : Nat) (hi : i < l.length) : I64 (l.getD i (0, 0)).1 ∧ I64 (l.getD i (0, 0)).2 := by
  obtain ⟨ci, r, ⟨_, e⟩, _⟩ := h.get zRg tRg i hi
  have : l.getD i (0, 0) = l[i] := by simp [List.getD_eq_getElem?_getD, List.getElem?_eq_getElem hi]
  rw [this]; exact e
def rcell (r : Int × Int) : List AV := [.int .i64 r.1, .int .i64 r.2]
def rcells (l : Rgs) : List AV := (l.map rcell).flatten
def tRgs (l : Rgs) : AV := cRow (rcells l) l.length
def rgs64 (l : Rgs) : Prop := ∀ r ∈ l, I64 r.1 ∧ I64 r.2
theorem rcells_len (l : Rgs) : (rcells l).length = l.length * 2 := by
  induction l with
  | nil => rfl
  | cons r l ih => rw [rcells, List.map_cons, List.flatten_cons, List.length_append]; rw [rcells] at ih; rw [ih]; simp [rcell]; omega
theorem rcells_snoc (l : Rgs) (r : Int × Int) : rcells (l ++ [r]) = rcells l ++ rcell r := by simp [rcells]
theorem rcells_cat : ∀ {l : Rgs}, rgs64 l → Cat RRg l (rcells l)
  | [], _ => .nil
  | r :: l, h => .cons (c := rcell r) ⟨rfl, h r (.head _)⟩ (rcells_cat fun q hq => h q (.tail _ hq))
theorem rcells_told : ∀ (l : Rgs), AV.tolds (rcells l) = true
  | [] => rfl
  | r :: l => by simp only [rcells, List.map_cons, List.flatten_cons, rcell]; exact rcells_told l
theorem rcells_one (l : Rgs) : (rcells l).all AV.one = true := by
  rw [List.all_eq_true]
  intro x hx
  obtain ⟨c, hc, hx⟩ := List.mem_flatten.1 hx
  obtain ⟨r, _, rfl⟩ := List.mem_map.1 hc
  simp only [rcell, List.mem_cons, List.not_mem_nil, or_false] at hx
  rcases hx with rfl | rfl <;> rfl
theorem tRgs_is {l : Rgs} (h : rgs64 l) (hb : l.length * 16 ≤ reachBytes) : IsL 16 RRg (tRgs l) l := by
  unfold tRgs
  by_cases e : l.length = 0
  · rw [e, cRow_z, List.eq_nil_of_length_eq_zero e]; exact isL_nil _ _
  · rw [cRow_s _ (by omega)]; exact isL_rs (rcells_cat h) hb
theorem Sep.len : ∀ {l : Rgs} {a : Int}, Sep a l → a ≤ 4294967296 → a + 2 * l.length ≤ 4294967296
  | [], a, _, h => by simpa using h
  | r :: l, a, h, _ => by
    have h1 := h.1; have h2 := h.2.1; have h3 := h.2.2.1
    have := h.2.2.2.len h3
    simp only [List.length_cons]
    omega
theorem Sep.i64 {l : Rgs} (h : Sep (-1) l) : rgs64 l := fun r hr => by
  have := h.gt r hr
  exact ⟨⟨by omega, by omega⟩, ⟨by omega, by omega⟩⟩
theorem Sep.is {l : Rgs} (h : Sep (-1) l) : IsL 16 RRg (tRgs l) l := tRgs_is h.i64 (by have := h.len (by omega); have e : reachBytes = 140737488351232 := rfl; rw [e]; omega)
theorem IsL.rgs64 {v : AV} {l : Rgs} (h : IsL 16 RRg v l) : rgs64 l := fun r hr => by
  obtain ⟨i, hi, rfl⟩ := List.getElem_of_mem hr
  have := atRg64 h i hi
  rwa [show l.getD i (0, 0) = l[i] by simp [List.getD_eq_getElem?_getD, List.getElem?_eq_getElem hi]] at this
def sepB : Int → Rgs → Bool
  | _, [] => true
  | lo, r :: t => decide (lo < r.1) && decide (r.1 < r.2) && decide (r.2 ≤ 4294967296) && sepB r.2 t
theorem sepB_iff : ∀ {l : Rgs} {a : Int}, sepB a l = true ↔ Sep a l
  | [], _ => ⟨fun _ => trivial, fun _ => rfl⟩
  | r :: t, a => by
    rw [sepB, Sep, Bool.and_eq_true, Bool.and_eq_true, Bool.and_eq_true, sepB_iff, decide_eq_true_eq, decide_eq_true_eq, decide_eq_true_eq]
    exact ⟨fun ⟨⟨⟨a, b⟩, c⟩, d⟩ => ⟨a, b, c, d⟩, fun ⟨a, b, c, d⟩ => ⟨⟨⟨a, b⟩, c⟩, d⟩⟩
theorem drop_getD {l : Rgs} {i : Nat} (hi : i < l.length) : l.drop i = l.getD i (0, 0) :: l.drop (i + 1) := by
  rw [show l.getD i (0, 0) = l[i] by simp [List.getD_eq_getElem?_getD, List.getElem?_eq_getElem hi]]
  exact List.drop_eq_getElem_cons hi
section
variable {P : Program}
theorem num_pu (g : Pg P tab) (n : Int) : Pu P 13 [.int .i64 n] (fun v => v = .int .i64 n) := by
  refine g.pu (vf := v13) rfl rfl ?_
  simp only [v13, RX, VOp.fresh, bxC, bsC, un, most, callsOf, seval, Int.reducePow, ↓reduceIte, Nat.reduceEqDiff, reduceCtorEq]
theorem may_loop (g : Pg P tab) {l : Rgs} {w : AV} (hw : IsL 16 RRg w l) (n : Nat) : ∀ (i : Nat) (lo : Int) (s : T AV) (h : Heap) (k : List Fr) (Q : Ex → T AV → Heap → Prop), i + n = l.length → -1 ≤ lo → (i = 0 → lo = -1) → (∀ j, i = j + 1 → lo = (l.getD j (0, 0)).2) → sg s 0 = w → sg s 5 = w → sg s 6 = .int .i64 l.length → sg s 7 = .int .i64 i →
    (sepB lo (l.drop i) = true → ∀ s' h', Un P k Q (.exit 0) s' h') → (sepB lo (l.drop i) = false → ∀ s' h', sg s' 2 = .bool false → Un P k Q .ret s' h') → Lp P b18_0 s h (Un P k Q) := by
  have hbd := hw.bound (by decide)
  induction n with
  | zero =>
    intro i lo s h k Q hn hlo h0 hj t0 t5 t6 t7 qY qN
    refine g.lpe b18_0.eq_1 ?_
    obtain rfl : i = l.length := by omega
    have c1 : ¬ (l.length : Int) < (l.length : Int) := by omega
    simp only [t6, t7, c1, RX, VOp.fresh, bxC, bsC, un, most, callsOf, seval, Int.reducePow, ↓reduceIte, Nat.reduceEqDiff, reduceCtorEq]
    exact qY (by rw [List.drop_length]; rfl) _ _
  | succ n ih =>
    intro i lo s h k Q hn hlo h0 hj t0 t5 t6 t7 qY qN
    refine g.lpe b18_0.eq_1 ?_
    have c1 : (i : Int) < (l.length : Int) := by omega
    have w1 : IntKind.i64.wrap ((i : Int) + 1) = ((i + 1 : Nat) : Int) := by rw [w64 (by omega) (by omega)]; push_cast; rfl
    obtain ⟨r, ht, hia⟩ := atRg hw i (by omega)
    rw [drop_getD (by omega), sepB] at qY qN
    generalize ex : (l.getD i (0, 0)).1 = x at *
    generalize ey : (l.getD i (0, 0)).2 = y at *
    have no : (¬ (lo < x ∧ x < y ∧ y ≤ 4294967296)) → ∀ s' h', sg s' 2 = .bool false → Un P k Q .ret s' h' := fun c => qN (by
      rw [Bool.eq_false_iff]; intro e; simp only [Bool.and_eq_true, decide_eq_true_eq] at e; exact c ⟨e.1.1.1, e.1.1.2, e.1.2⟩)
    by_cases a1 : x < 0
    · simp only [t5, t6, t7, c1, hia, a1, RW, RX, VOp.fresh, bxC, bsC, un, most, callsOf, seval, Int.reducePow, ↓reduceIte, Nat.reduceEqDiff, reduceCtorEq]
      exact no (fun c => by omega) _ _ (by simp only [sg_set, Nat.reduceEqDiff, ↓reduceIte])
    by_cases a2 : y ≤ x
    · simp only [t5, t6, t7, c1, hia, a1, a2, RW, RX, VOp.fresh, bxC, bsC, un, most, callsOf, seval, Int.reducePow, ↓reduceIte, Nat.reduceEqDiff, reduceCtorEq]
      exact no (fun c => by omega) _ _ (by simp only [sg_set, Nat.reduceEqDiff, ↓reduceIte])
    by_cases a3 : 4294967296 < y
    · simp only [t5, t6, t7, c1, hia, a1, a2, a3, RW, RX, VOp.fresh, bxC, bsC, un, most, callsOf, seval, Int.reducePow, ↓reduceIte, Nat.reduceEqDiff, reduceCtorEq]
      exact no (fun c => by omega) _ _ (by simp only [sg_set, Nat.reduceEqDiff, ↓reduceIte])
    by_cases i0 : i = 0
    · have c2 : ¬ (0 : Int) < (i : Int) := by omega
      have e0 := h0 i0
      simp only [t5, t6, t7, c1, c2, hia, a1, a2, a3, w1, RW, RX, VOp.fresh, bxC, bsC, un, most, callsOf, seval, Int.reducePow, ↓reduceIte, Nat.reduceEqDiff, reduceCtorEq]
      refine ih (i + 1) y _ _ k Q (by omega) (by omega) (fun e => by omega) (fun j e => by obtain rfl : j = i := (by omega); exact ey.symm) ?_ ?_ ?_ ?_ (fun e => qY ?_) (fun e => qN ?_)
      · simp only [t0, sg_set, Nat.reduceEqDiff, ↓reduceIte]
      · simp only [t5, sg_set, Nat.reduceEqDiff, ↓reduceIte]
      · simp only [t6, sg_set, Nat.reduceEqDiff, ↓reduceIte]
      · simp only [sg_set, Nat.reduceEqDiff, ↓reduceIte]
      · rw [e]; simp; omega
      · rw [e]; simp
    · have c2 : (0 : Int) < (i : Int) := by omega
      have ej := hj (i - 1) (by omega)
      have w2 : IntKind.i64.wrap ((i : Int) - 1) = ((i - 1 : Nat) : Int) := by rw [w64 (by omega) (by omega)]; omega
      obtain ⟨r2, ht2, hia2⟩ := atRg hw (i - 1) (by omega)
      rw [← ej] at hia2
      by_cases a4 : x ≤ lo
      · simp only [t0, t5, t6, t7, c1, c2, hia, hia2, a1, a2, a3, a4, w2, RW, RX, VOp.fresh, bxC, bsC, un, most, callsOf, seval, Int.reducePow, ↓reduceIte, Nat.reduceEqDiff, reduceCtorEq]
        exact no (fun c => by omega) _ _ (by simp only [sg_set, Nat.reduceEqDiff, ↓reduceIte])
      · simp only [t0, t5, t6, t7, c1, c2, hia, hia2, a1, a2, a3, a4, w1, w2, RW, RX, VOp.fresh, bxC, bsC, un, most, callsOf, seval, Int.reducePow, ↓reduceIte, Nat.reduceEqDiff, reduceCtorEq]
        refine ih (i + 1) y _ _ k Q (by omega) (by omega) (fun e => by omega) (fun j e => by obtain rfl : j = i := (by omega); exact ey.symm) ?_ ?_ ?_ ?_ (fun e => qY ?_) (fun e => qN ?_)
        · simp only [t0, sg_set, Nat.reduceEqDiff, ↓reduceIte]
        · simp only [t5, sg_set, Nat.reduceEqDiff, ↓reduceIte]
        · simp only [t6, sg_set, Nat.reduceEqDiff, ↓reduceIte]
        · simp only [sg_set, Nat.reduceEqDiff, ↓reduceIte]
        · rw [e]; simp; omega
        · rw [e]; simp
theorem may_pu (g : Pg P tab) {l : Rgs} {w : AV} (hw : IsL 16 RRg w l) : Pu P 18 [w] (fun v => v = .bool (sepB (-1) l)) := by
  refine g.pu (vf := v18) rfl rfl ?_
  have hl := hw.len
  simp only [v18, hl, RX, VOp.fresh, bxC, bsC, un, most, callsOf, seval, Int.reducePow, ↓reduceIte, Nat.reduceEqDiff, reduceCtorEq]
  refine may_loop g hw l.length 0 (-1) _ _ _ _ (by omega) (by omega) (fun _ => rfl) (fun j e => by omega) ?_ ?_ ?_ ?_ (fun e s' h' => ?_) (fun e s' h' t2 => ?_)
  · simp only [sg_set, Nat.reduceEqDiff, ↓reduceIte]
  · simp only [sg_set, Nat.reduceEqDiff, ↓reduceIte]
  · simp only [sg_set, Nat.reduceEqDiff, ↓reduceIte]
  · simp only [sg_set, Nat.reduceEqDiff, ↓reduceIte]
    rfl
  · rw [List.drop_zero] at e
    simp only [e, RX, VOp.fresh, bxC, bsC, un, most, callsOf, seval, Int.reducePow, ↓reduceIte, Nat.reduceEqDiff, reduceCtorEq]
  · rw [List.drop_zero] at e
    simp only [e, t2, RX, VOp.fresh, bxC, bsC, un, most, callsOf, seval, Int.reducePow, ↓reduceIte, Nat.reduceEqDiff, reduceCtorEq]
end
end Go.Proofs.Yteaieinpnpnkbaa.VM
namespace Go.Proofs.Yteaieinpnpnkbaa.VM
attribute [local irreducible] Af Nx EvO Ev Un Gd Cd EvR EvQ EvC Nc Gc Lp EvM NxM AfM GdM EvMR EvMQ EvMD EvMC Nm Gm
def hasB (l : Rgs) (d : Int) : Bool := l.any fun r => decide (r.1 ≤ d) && decide (d < r.2)
theorem hasB_iff {l : Rgs} {d : Int} : hasB l d = true ↔ rHas l d := by simp [hasB, rHas]
theorem hasB_cons {r : Int × Int} {l : Rgs} {d : Int} : hasB (r :: l) d = ((decide (r.1 ≤ d) && decide (d < r.2)) || hasB l d) := rfl
/-- the first end of ranges behind a place -/
def aftM : Rgs → Int → Int
  | [], _ => 4294967296
  | r :: t, d => if d < r.1 then r.1 else if d < r.2 then r.2 else aftM t d
section
variable {P : Program}
theorem dmay_loop (g : Pg P tab) {l : Rgs} {w : AV} (hw : IsL 16 RRg w l) (n : Nat) : ∀ (i : Nat) (lo : Int) (s : T AV) (h : Heap) (k : List Fr) (Q : Ex → T AV → Heap → Prop), i + n = l.length → -1 ≤ lo → (i = 0 → lo = -1) → (∀ j, i = j + 1 → lo = (l.getD j (0, 0)).2) → sg s 0 = w → sg s 3 = .int .i64 i →
    (sepB lo (l.drop i) = true → ∀ s' h', Un P k Q (.exit 0) s' h') → (sepB lo (l.drop i) = false → ∀ s' h', sg s' 2 = .bool false → Un P k Q .ret s' h') → Lp P b19_0 s h (Un P k Q) := by
  have hbd := hw.bound (by decide)
  have hl := hw.len
  induction n with
  | zero =>
    intro i lo s h k Q hn hlo h0 hj t0 t3 qY qN
    refine g.lpe b19_0.eq_1 ?_
    obtain rfl : i = l.length := by omega
    have c1 : ¬ (l.length : Int) < (l.length : Int) := by omega
    simp only [t0, t3, hl, c1, RX, VOp.fresh, bxC, bsC, un, most, callsOf, seval, Int.reducePow, ↓reduceIte, Nat.reduceEqDiff, reduceCtorEq]
    exact qY (by rw [List.drop_length]; rfl) _ _
  | succ n ih =>
    intro i lo s h k Q hn hlo h0 hj t0 t3 qY qN
    refine g.lpe b19_0.eq_1 ?_
    have c1 : (i : Int) < (l.length : Int) := by omega
    have w1 : IntKind.i64.wrap ((i : Int) + 1) = ((i + 1 : Nat) : Int) := by rw [w64 (by omega) (by omega)]; push_cast; rfl
    obtain ⟨r, ht, hia⟩ := atRg hw i (by omega)
    rw [drop_getD (by omega), sepB] at qY qN
    generalize ex : (l.getD i (0, 0)).1 = x at *
    generalize ey : (l.getD i (0, 0)).2 = y at *
    have no : (¬ (lo < x ∧ x < y ∧ y ≤ 4294967296)) → ∀ s' h', sg s' 2 = .bool false → Un P k Q .ret s' h' := fun c => qN (by
      rw [Bool.eq_false_iff]; intro e; simp only [Bool.and_eq_true, decide_eq_true_eq] at e; exact c ⟨e.1.1.1, e.1.1.2, e.1.2⟩)
    by_cases a1 : x < 0
    · simp only [t0, t3, hl, c1, hia, a1, RW, RX, VOp.fresh, bxC, bsC, un, most, callsOf, seval, Int.reducePow, ↓reduceIte, Nat.reduceEqDiff, reduceCtorEq]
      exact no (fun c => by omega) _ _ (by simp only [sg_set, Nat.reduceEqDiff, ↓reduceIte])
    by_cases a2 : y ≤ x
    · simp only [t0, t3, hl, c1, hia, a1, a2, RW, RX, VOp.fresh, bxC, bsC, un, most, callsOf, seval, Int.reducePow, ↓reduceIte, Nat.reduceEqDiff, reduceCtorEq]
      exact no (fun c => by omega) _ _ (by simp only [sg_set, Nat.reduceEqDiff, ↓reduceIte])
    by_cases a3 : 4294967296 < y
    · simp only [t0, t3, hl, c1, hia, a1, a2, a3, RW, RX, VOp.fresh, bxC, bsC, un, most, callsOf, seval, Int.reducePow, ↓reduceIte, Nat.reduceEqDiff, reduceCtorEq]
      exact no (fun c => by omega) _ _ (by simp only [sg_set, Nat.reduceEqDiff, ↓reduceIte])
    by_cases i0 : i = 0
    · have c2 : ¬ (0 : Int) < (i : Int) := by omega
      have e0 := h0 i0
      simp only [t0, t3, hl, c1, c2, hia, a1, a2, a3, w1, RW, RX, VOp.fresh, bxC, bsC, un, most, callsOf, seval, Int.reducePow, ↓reduceIte, Nat.reduceEqDiff, reduceCtorEq]
      refine ih (i + 1) y _ _ k Q (by omega) (by omega) (fun e => by omega) (fun j e => by obtain rfl : j = i := (by omega); exact ey.symm) ?_ ?_ (fun e => qY ?_) (fun e => qN ?_)
      · simp only [t0, sg_set, Nat.reduceEqDiff, ↓reduceIte]
      · simp only [sg_set, Nat.reduceEqDiff, ↓reduceIte]
      · rw [e]; simp; omega
      · rw [e]; simp
    · have c2 : (0 : Int) < (i : Int) := by omega
      have ej := hj (i - 1) (by omega)
      have w2 : IntKind.i64.wrap ((i : Int) - 1) = ((i - 1 : Nat) : Int) := by rw [w64 (by omega) (by omega)]; omega
      obtain ⟨r2, ht2, hia2⟩ := atRg hw (i - 1) (by omega)
      rw [← ej] at hia2
      by_cases a4 : x ≤ lo
      · simp only [t0, t3, hl, c1, c2, hia, hia2, a1, a2, a3, a4, w2, RW, RX, VOp.fresh, bxC, bsC, un, most, callsOf, seval, Int.reducePow, ↓reduceIte, Nat.reduceEqDiff, reduceCtorEq]
        exact no (fun c => by omega) _ _ (by simp only [sg_set, Nat.reduceEqDiff, ↓reduceIte])
      · simp only [t0, t3, hl, c1, c2, hia, hia2, a1, a2, a3, a4, w1, w2, RW, RX, VOp.fresh, bxC, bsC, un, most, callsOf, seval, Int.reducePow, ↓reduceIte, Nat.reduceEqDiff, reduceCtorEq]
        refine ih (i + 1) y _ _ k Q (by omega) (by omega) (fun e => by omega) (fun j e => by obtain rfl : j = i := (by omega); exact ey.symm) ?_ ?_ (fun e => qY ?_) (fun e => qN ?_)
        · simp only [t0, sg_set, Nat.reduceEqDiff, ↓reduceIte]
        · simp only [sg_set, Nat.reduceEqDiff, ↓reduceIte]
        · rw [e]; simp; omega
        · rw [e]; simp
theorem dmay_pu (g : Pg P tab) {l : Rgs} {w : AV} (hw : IsL 16 RRg w l) : Pu P 19 [w] (fun v => v = .bool (sepB (-1) l)) := by
  refine g.pu (vf := v19) rfl rfl ?_
  simp only [v19, RX, VOp.fresh, bxC, bsC, un, most, callsOf, seval, Int.reducePow, ↓reduceIte, Nat.reduceEqDiff, reduceCtorEq]
  refine dmay_loop g hw l.length 0 (-1) _ _ _ _ (by omega) (by omega) (fun _ => rfl) (fun j e => by omega) ?_ ?_ (fun e s' h' => ?_) (fun e s' h' t2 => ?_)
  · simp only [sg_set, Nat.reduceEqDiff, ↓reduceIte]
  · simp only [sg_set, Nat.reduceEqDiff, ↓reduceIte]
    rfl
  · rw [List.drop_zero] at e
    simp only [e, RX, VOp.fresh, bxC, bsC, un, most, callsOf, seval, Int.reducePow, ↓reduceIte, Nat.reduceEqDiff, reduceCtorEq]
  · rw [List.drop_zero] at e
    simp only [e, t2, RX, VOp.fresh, bxC, bsC, un, most, callsOf, seval, Int.reducePow, ↓reduceIte, Nat.reduceEqDiff, reduceCtorEq]
theorem dhas_loop (g : Pg P tab) {l : Rgs} {w : AV} (hw : IsL 16 RRg w l) (d : Int) (n : Nat) : ∀ (i : Nat) (s : T AV) (h : Heap) (k : List Fr) (Q : Ex → T AV → Heap → Prop), i + n = l.length → sg s 0 = w → sg s 1 = .int .i64 d → sg s 5 = .int .i64 i →
    (hasB (l.drop i) d = false → ∀ s' h', Un P k Q (.exit 0) s' h') → (hasB (l.drop i) d = true → ∀ s' h', sg s' 4 = .bool true → Un P k Q .ret s' h') → Lp P b21_0 s h (Un P k Q) := by
  have hbd := hw.bound (by decide)
  have hl := hw.len
  induction n with
  | zero =>
    intro i s h k Q hn t0 t1 t5 qN qY
    refine g.lpe b21_0.eq_1 ?_
    obtain rfl : i = l.length := by omega
    have c1 : ¬ (l.length : Int) < (l.length : Int) := by omega
    simp only [t0, t5, hl, c1, RX, VOp.fresh, bxC, bsC, un, most, callsOf, seval, Int.reducePow, ↓reduceIte, Nat.reduceEqDiff, reduceCtorEq]
    exact qN (by rw [List.drop_length]; rfl) _ _
  | succ n ih =>
    intro i s h k Q hn t0 t1 t5 qN qY
    refine g.lpe b21_0.eq_1 ?_
    have c1 : (i : Int) < (l.length : Int) := by omega
    have w1 : IntKind.i64.wrap ((i : Int) + 1) = ((i + 1 : Nat) : Int) := by rw [w64 (by omega) (by omega)]; push_cast; rfl
    obtain ⟨r, ht, hia⟩ := atRg hw i (by omega)
    rw [drop_getD (by omega), hasB_cons] at qY qN
    generalize (l.getD i (0, 0)).1 = x at *
    generalize (l.getD i (0, 0)).2 = y at *
    by_cases a1 : x ≤ d
    · by_cases a2 : d < y
      · simp only [t0, t1, t5, hl, c1, hia, a1, a2, RW, RX, VOp.fresh, bxC, bsC, un, most, callsOf, seval, Int.reducePow, ↓reduceIte, Nat.reduceEqDiff, reduceCtorEq]
        exact qY (by simp [a1, a2]) _ _ (by simp only [sg_set, Nat.reduceEqDiff, ↓reduceIte])
      · simp only [t0, t1, t5, hl, c1, hia, a1, a2, w1, RW, RX, VOp.fresh, bxC, bsC, un, most, callsOf, seval, Int.reducePow, ↓reduceIte, Nat.reduceEqDiff, reduceCtorEq]
        refine ih (i + 1) _ _ k Q (by omega) ?_ ?_ ?_ (fun e => qN (by simp [a2, e])) (fun e => qY (by simp [a2, e]))
        · simp only [t0, sg_set, Nat.reduceEqDiff, ↓reduceIte]
        · simp only [t1, sg_set, Nat.reduceEqDiff, ↓reduceIte]
        · simp only [sg_set, Nat.reduceEqDiff, ↓reduceIte]
    · simp only [t0, t1, t5, hl, c1, hia, a1, w1, RW, RX, VOp.fresh, bxC, bsC, un, most, callsOf, seval, Int.reducePow, ↓reduceIte, Nat.reduceEqDiff, reduceCtorEq]
      refine ih (i + 1) _ _ k Q (by omega) ?_ ?_ ?_ (fun e => qN (by simp [a1, e])) (fun e => qY (by simp [a1, e]))
      · simp only [t0, sg_set, Nat.reduceEqDiff, ↓reduceIte]
      · simp only [t1, sg_set, Nat.reduceEqDiff, ↓reduceIte]
      · simp only [sg_set, Nat.reduceEqDiff, ↓reduceIte]
theorem dhas_pu (g : Pg P tab) {l : Rgs} {w : AV} (hw : IsL 16 RRg w l) (d : Int) : Pu P 21 [w, .int .i64 d] (fun v => v = .bool (hasB l d)) := by
  refine g.pu (vf := v21) rfl rfl ?_
  simp only [v21, RX, VOp.fresh, bxC, bsC, un, most, callsOf, seval, Int.reducePow, ↓reduceIte, Nat.reduceEqDiff, reduceCtorEq]
  refine dhas_loop g hw d l.length 0 _ _ _ _ (by omega) ?_ ?_ ?_ (fun e s' h' => ?_) (fun e s' h' t4 => ?_)
  · simp only [sg_set, Nat.reduceEqDiff, ↓reduceIte]
  · simp only [sg_set, Nat.reduceEqDiff, ↓reduceIte]
  · simp only [sg_set, Nat.reduceEqDiff, ↓reduceIte]
    rfl
  · rw [List.drop_zero] at e
    simp only [e, RX, VOp.fresh, bxC, bsC, un, most, callsOf, seval, Int.reducePow, ↓reduceIte, Nat.reduceEqDiff, reduceCtorEq]
  · rw [List.drop_zero] at e
    simp only [e, t4, RX, VOp.fresh, bxC, bsC, un, most, callsOf, seval, Int.reducePow, ↓reduceIte, Nat.reduceEqDiff, reduceCtorEq]
theorem aft_loop (g : Pg P tab) {l : Rgs} {w : AV} (hw : IsL 16 RRg w l) (d : Int) (n : Nat) : ∀ (i : Nat) (s : T AV) (h : Heap) (k : List Fr) (Q : Ex → T AV → Heap → Prop), i + n = l.length → sg s 0 = w → sg s 1 = .int .i64 d → sg s 5 = .int .i64 i →
    (aftM (l.drop i) d = 4294967296 → ∀ s' h', Un P k Q (.exit 0) s' h') → (∀ s' h', sg s' 4 = .int .i64 (aftM (l.drop i) d) → Un P k Q .ret s' h') → Lp P b36_0 s h (Un P k Q) := by
  have hbd := hw.bound (by decide)
  have hl := hw.len
  induction n with
  | zero =>
    intro i s h k Q hn t0 t1 t5 qN qY
    refine g.lpe b36_0.eq_1 ?_
    obtain rfl : i = l.length := by omega
    have c1 : ¬ (l.length : Int) < (l.length : Int) := by omega
    simp only [t0, t5, hl, c1, RX, VOp.fresh, bxC, bsC, un, most, callsOf, seval, Int.reducePow, ↓reduceIte, Nat.reduceEqDiff, reduceCtorEq]
    exact qN (by rw [List.drop_length]; rfl) _ _
  | succ n ih =>
    intro i s h k Q hn t0 t1 t5 qN qY
    refine g.lpe b36_0.eq_1 ?_
    have c1 : (i : Int) < (l.length : Int) := by omega
    have w1 : IntKind.i64.wrap ((i : Int) + 1) = ((i + 1 : Nat) : Int) := by rw [w64 (by omega) (by omega)]; push_cast; rfl
    obtain ⟨r, ht, hia⟩ := atRg hw i (by omega)
    rw [drop_getD (by omega), aftM] at qY qN
    generalize (l.getD i (0, 0)).1 = x at *
    generalize (l.getD i (0, 0)).2 = y at *
    by_cases a1 : d < x
    · simp only [t0, t1, t5, hl, c1, hia, a1, RW, RX, VOp.fresh, bxC, bsC, un, most, callsOf, seval, Int.reducePow, ↓reduceIte, Nat.reduceEqDiff, reduceCtorEq]
      exact qY _ _ (by simp only [a1, sg_set, Nat.reduceEqDiff, ↓reduceIte])
    · by_cases a2 : d < y
      · simp only [t0, t1, t5, hl, c1, hia, a1, a2, RW, RX, VOp.fresh, bxC, bsC, un, most, callsOf, seval, Int.reducePow, ↓reduceIte, Nat.reduceEqDiff, reduceCtorEq]
        exact qY _ _ (by simp only [a1, a2, sg_set, Nat.reduceEqDiff, ↓reduceIte])
      · simp only [t0, t1, t5, hl, c1, hia, a1, a2, w1, RW, RX, VOp.fresh, bxC, bsC, un, most, callsOf, seval, Int.reducePow, ↓reduceIte, Nat.reduceEqDiff, reduceCtorEq]
        rw [if_neg a1, if_neg a2] at qY qN
        refine ih (i + 1) _ _ k Q (by omega) ?_ ?_ ?_ qN qY
        · simp only [t0, sg_set, Nat.reduceEqDiff, ↓reduceIte]
        · simp only [t1, sg_set, Nat.reduceEqDiff, ↓reduceIte]
        · simp only [sg_set, Nat.reduceEqDiff, ↓reduceIte]
theorem aft_pu (g : Pg P tab) {l : Rgs} {w : AV} (hw : IsL 16 RRg w l) (d : Int) : Pu P 36 [w, .int .i64 d] (fun v => v = .int .i64 (aftM l d)) := by
  refine g.pu (vf := v36) rfl rfl ?_
  simp only [v36, RX, VOp.fresh, bxC, bsC, un, most, callsOf, seval, Int.reducePow, ↓reduceIte, Nat.reduceEqDiff, reduceCtorEq]
  refine aft_loop g hw d l.length 0 _ _ _ _ (by omega) ?_ ?_ ?_ (fun e s' h' => ?_) (fun s' h' t4 => ?_)
  · simp only [sg_set, Nat.reduceEqDiff, ↓reduceIte]
  · simp only [sg_set, Nat.reduceEqDiff, ↓reduceIte]
  · simp only [sg_set, Nat.reduceEqDiff, ↓reduceIte]
    rfl
  · rw [List.drop_zero] at e
    simp only [e, RX, VOp.fresh, bxC, bsC, un, most, callsOf, seval, Int.reducePow, ↓reduceIte, Nat.reduceEqDiff, reduceCtorEq]
  · rw [List.drop_zero] at t4
    simp only [t4, RX, VOp.fresh, bxC, bsC, un, most, callsOf, seval, Int.reducePow, ↓reduceIte, Nat.reduceEqDiff, reduceCtorEq]
theorem in_pu (g : Pg P tab) (x y d : Int) {r : List AV} (hr : AV.tolds r = true) : Pu P 40 [.agg [.int .i64 x, .int .i64 y], .rp (.int .i64 d :: r)] (fun v => v = .bool (decide (x ≤ d) && decide (d < y))) := by
  refine g.pu (vf := v40) rfl rfl ?_
  by_cases a1 : x ≤ d
  · simp only [v40, a1, RW, RX, VOp.fresh, bxC, bsC, un, most, callsOf, seval, Int.reducePow, ↓reduceIte, Nat.reduceEqDiff, reduceCtorEq]
    by_cases a2 : d < y <;> simp [a2]
  · simp only [v40, a1, RW, RX, VOp.fresh, bxC, bsC, un, most, callsOf, seval, Int.reducePow, ↓reduceIte, Nat.reduceEqDiff, reduceCtorEq]
    rfl
theorem idx_loop (g : Pg P tab) {l : Rgs} {w : AV} (hw : IsL 16 RRg w l) (d : Int) (n : Nat) : ∀ (i : Nat) (s : T AV) (h : Heap) (k : List Fr) (Q : Ex → T AV → Heap → Prop), i + n = l.length → sg s 0 = w → sg s 1 = .fn 40 [.rp [.int .i64 d]] → sg s 7 = .int .i64 l.length → sg s 8 = .int .i64 i →
    (hasB (l.drop i) d = false → ∀ s' h', Un P k Q (.exit 0) s' h') → (hasB (l.drop i) d = true → ∀ s' h' (j : Nat), sg s' 4 = .int .i64 j → Un P k Q .ret s' h') → Lp P b47_0 s h (Un P k Q) := by
  have hbd := hw.bound (by decide)
  induction n with
  | zero =>
    intro i s h k Q hn t0 t1 t7 t8 qN qY
    refine g.lpe b47_0.eq_1 ?_
    obtain rfl : i = l.length := by omega
    have c1 : ¬ (l.length : Int) < (l.length : Int) := by omega
    simp only [t7, t8, c1, RX, VOp.fresh, bxC, bsC, un, most, callsOf, seval, Int.reducePow, ↓reduceIte, Nat.reduceEqDiff, reduceCtorEq]
    exact qN (by rw [List.drop_length]; rfl) _ _
  | succ n ih =>
    intro i s h k Q hn t0 t1 t7 t8 qN qY
    refine g.lpe b47_0.eq_1 ?_
    have c1 : (i : Int) < (l.length : Int) := by omega
    have w1 : IntKind.i64.wrap ((i : Int) + 1) = ((i + 1 : Nat) : Int) := by rw [w64 (by omega) (by omega)]; push_cast; rfl
    obtain ⟨r, ht, hia⟩ := atRg hw i (by omega)
    rw [drop_getD (by omega), hasB_cons] at qY qN
    generalize (l.getD i (0, 0)).1 = x at *
    generalize (l.getD i (0, 0)).2 = y at *
    simp only [t0, t1, t7, t8, c1, hia, RX, VOp.fresh, bxC, bsC, un, most, callsOf, seval, Int.reducePow, ↓reduceIte, Nat.reduceEqDiff, reduceCtorEq]
    refine (in_pu g x y d (r := []) rfl).go rfl ?_
    rintro _ rfl
    generalize (decide (x ≤ d) && decide (d < y)) = z at *
    cases z with
    | true =>
      simp only [t0, RX, VOp.fresh, bxC, bsC, un, most, callsOf, seval, Int.reducePow, ↓reduceIte, Nat.reduceEqDiff, reduceCtorEq]
      exact qY rfl _ _ i (by simp only [sg_set, Nat.reduceEqDiff, ↓reduceIte])
    | false =>
      simp only [t8, w1, RX, VOp.fresh, bxC, bsC, un, most, callsOf, seval, Int.reducePow, ↓reduceIte, Nat.reduceEqDiff, reduceCtorEq]
      refine ih (i + 1) _ _ k Q (by omega) ?_ ?_ ?_ ?_ (fun e => qN (by simp [e])) (fun e => qY (by simp [e]))
      · simp only [t0, sg_set, Nat.reduceEqDiff, ↓reduceIte]
      · simp only [t1, sg_set, Nat.reduceEqDiff, ↓reduceIte]
      · simp only [t7, sg_set, Nat.reduceEqDiff, ↓reduceIte]
      · simp only [sg_set, Nat.reduceEqDiff, ↓reduceIte]
theorem idx_pu (g : Pg P tab) {l : Rgs} {w : AV} (hw : IsL 16 RRg w l) (d : Int) : Pu P 47 [w, .fn 40 [.rp [.int .i64 d]]] (fun v => (hasB l d = true ∧ ∃ j : Nat, v = .int .i64 j) ∨ (hasB l d = false ∧ v = .int .i64 (-1))) := by
  refine g.pu (vf := v47) rfl rfl ?_
  have hl := hw.len
  simp only [v47, hl, RX, VOp.fresh, bxC, bsC, un, most, callsOf, seval, Int.reducePow, ↓reduceIte, Nat.reduceEqDiff, reduceCtorEq]
  refine idx_loop g hw d l.length 0 _ _ _ _ (by omega) ?_ ?_ ?_ ?_ (fun e s' h' => ?_) (fun e s' h' j t4 => ?_)
  · simp only [sg_set, Nat.reduceEqDiff, ↓reduceIte]
  · simp only [sg_set, Nat.reduceEqDiff, ↓reduceIte]
  · simp only [sg_set, Nat.reduceEqDiff, ↓reduceIte]
  · simp only [sg_set, Nat.reduceEqDiff, ↓reduceIte]
    rfl
  · rw [List.drop_zero] at e
    simp only [e, RX, VOp.fresh, bxC, bsC, un, most, callsOf, seval, Int.reducePow, ↓reduceIte, Nat.reduceEqDiff, reduceCtorEq]
    exact .inr trivial
  · rw [List.drop_zero] at e
    simp only [e, t4, RX, VOp.fresh, bxC, bsC, un, most, callsOf, seval, Int.reducePow, ↓reduceIte, Nat.reduceEqDiff, reduceCtorEq]
    exact .inl ⟨j, rfl⟩
theorem cfn_pu (g : Pg P tab) {l : Rgs} {w : AV} (hw : IsL 16 RRg w l) (d : Int) : Pu P 39 [w, .fn 40 [.rp [.int .i64 d]]] (fun v => v = .bool (hasB l d)) := by
  refine g.pu (vf := v39) rfl rfl ?_
  simp only [v39, RX, VOp.fresh, bxC, bsC, un, most, callsOf, seval, Int.reducePow, ↓reduceIte, Nat.reduceEqDiff, reduceCtorEq]
  refine (idx_pu g hw d).go (by simp [AV.tolds, AV.told, hw.told tRg]) ?_
  rintro _ (⟨e, j, rfl⟩ | ⟨e, rfl⟩)
  · have c : (0 : Int) ≤ (j : Int) := by omega
    simp only [e, c, RX, VOp.fresh, bxC, bsC, un, most, callsOf, seval, Int.reducePow, ↓reduceIte, Nat.reduceEqDiff, reduceCtorEq]
  · simp only [e, RX, VOp.fresh, bxC, bsC, un, most, callsOf, seval, Int.reducePow, ↓reduceIte, Nat.reduceEqDiff, reduceCtorEq]
theorem has_pu (g : Pg P tab) {l : Rgs} {w : AV} (hw : IsL 16 RRg w l) (d : Int) : Pu P 20 [w, .int .i64 d] (fun v => v = .bool (hasB l d)) := by
  refine g.pu (vf := v20) rfl rfl ?_
  simp only [v20, RW, RX, VOp.fresh, bxC, bsC, un, most, callsOf, seval, Int.reducePow, ↓reduceIte, Nat.reduceEqDiff, reduceCtorEq]
  refine (cfn_pu g hw d).cl (.cons (Fz.refl (hw.told tRg)) (.cons (.fn (.cons (.ptr (l := [.int .i64 d]) (e := 3) (ver := 0) (by rw [Heap.get_mk, if_pos rfl]) (.cons (.int _ _) .nil)) .nil)) .nil)) ?_
  rintro _ rfl
  simp only [RX, VOp.fresh, bxC, bsC, un, most, callsOf, seval, Int.reducePow, ↓reduceIte, Nat.reduceEqDiff, reduceCtorEq]
theorem flat2 {a b c d : Int} : eqv (.flat [.int, .int]) (.agg [.int .i64 a, .int .i64 b]) (.agg [.int .i64 c, .int .i64 d]) = some (decide (a = c ∧ b = d)) := by
  by_cases h1 : a = c
  · subst h1
    by_cases h2 : b = d
    · subst h2; simp [eqv, sameCells, sameK]
    · simp [eqv, sameCells, sameK, h2]
  · simp [eqv, sameCells, sameK, h1]
theorem same_loop (g : Pg P tab) {x y : Rgs} {v u : AV} (hv : IsL 16 RRg v x) (hu : IsL 16 RRg u y) (hl : x.length = y.length) (n : Nat) : ∀ (i : Nat) (s : T AV) (h : Heap) (k : List Fr) (Q : Ex → T AV → Heap → Prop), i + n = x.length → sg s 0 = v → sg s 1 = u → sg s 5 = .int .i64 i →
    (x.drop i = y.drop i → ∀ s' h', Un P k Q (.exit 0) s' h') → (x.drop i ≠ y.drop i → ∀ s' h', sg s' 4 = .bool false → Un P k Q .ret s' h') → Lp P b12_0 s h (Un P k Q) := by
  have hbd := hv.bound (by decide)
  have hlv := hv.len
  induction n with
  | zero =>
    intro i s h k Q hn t0 t1 t5 qY qN
    refine g.lpe b12_0.eq_1 ?_
    obtain rfl : i = x.length := by omega
    have c1 : ¬ (x.length : Int) < (x.length : Int) := by omega
    simp only [t0, t5, hlv, c1, RX, VOp.fresh, bxC, bsC, un, most, callsOf, seval, Int.reducePow, ↓reduceIte, Nat.reduceEqDiff, reduceCtorEq]
    exact qY (by rw [List.drop_length, hl, List.drop_length]) _ _
  | succ n ih =>
    intro i s h k Q hn t0 t1 t5 qY qN
    refine g.lpe b12_0.eq_1 ?_
    have c1 : (i : Int) < (x.length : Int) := by omega
    have w1 : IntKind.i64.wrap ((i : Int) + 1) = ((i + 1 : Nat) : Int) := by rw [w64 (by omega) (by omega)]; push_cast; rfl
    obtain ⟨r, ht, hia⟩ := atRg hv i (by omega)
    obtain ⟨r', ht', hia'⟩ := atRg hu i (by omega)
    rw [drop_getD (by omega), drop_getD (l := y) (by omega)] at qY qN
    generalize x.getD i (0, 0) = p at *
    generalize y.getD i (0, 0) = q at *
    by_cases a1 : p.1 = q.1
    · by_cases a2 : p.2 = q.2
      · have e : p = q := Prod.ext a1 a2
        subst e
        simp only [t0, t1, t5, hlv, c1, hia, hia', w1, flat2, RX, VOp.fresh, bxC, bsC, un, most, callsOf, seval, Int.reducePow, ↓reduceIte, Nat.reduceEqDiff, reduceCtorEq]
        refine ih (i + 1) _ _ k Q (by omega) ?_ ?_ ?_ (fun e => qY (by rw [e])) (fun e => qN (by simpa using e))
        · simp only [t0, sg_set, Nat.reduceEqDiff, ↓reduceIte]
        · simp only [t1, sg_set, Nat.reduceEqDiff, ↓reduceIte]
        · simp only [sg_set, Nat.reduceEqDiff, ↓reduceIte]
      · simp only [t0, t1, t5, hlv, c1, hia, hia', a1, a2, flat2, RX, VOp.fresh, bxC, bsC, un, most, callsOf, seval, Int.reducePow, ↓reduceIte, Nat.reduceEqDiff, reduceCtorEq]
        exact qN (fun e => a2 (by rw [(List.cons.inj e).1])) _ _ (by simp only [sg_set, Nat.reduceEqDiff, ↓reduceIte])
    · simp only [t0, t1, t5, hlv, c1, hia, hia', a1, flat2, RX, VOp.fresh, bxC, bsC, un, most, callsOf, seval, Int.reducePow, ↓reduceIte, Nat.reduceEqDiff, reduceCtorEq]
      exact qN (fun e => a1 (by rw [(List.cons.inj e).1])) _ _ (by simp only [sg_set, Nat.reduceEqDiff, ↓reduceIte])
theorem same_pu (g : Pg P tab) {x y : Rgs} {v u : AV} (hv : IsL 16 RRg v x) (hu : IsL 16 RRg u y) : Pu P 12 [v, u] (fun z => z = .bool (decide (x = y))) := by
  refine g.pu (vf := v12) rfl rfl ?_
  have hlv := hv.len
  have hlu := hu.len
  by_cases hl : x.length = y.length
  · have c : (x.length : Int) = (y.length : Int) := by omega
    simp only [v12, hlv, hlu, c, RX, VOp.fresh, bxC, bsC, un, most, callsOf, seval, Int.reducePow, ↓reduceIte, Nat.reduceEqDiff, reduceCtorEq]
    refine same_loop g hv hu hl x.length 0 _ _ _ _ (by omega) ?_ ?_ ?_ (fun e s' h' => ?_) (fun e s' h' t4 => ?_)
    · simp only [sg_set, Nat.reduceEqDiff, ↓reduceIte]
    · simp only [sg_set, Nat.reduceEqDiff, ↓reduceIte]
    · simp only [sg_set, Nat.reduceEqDiff, ↓reduceIte]
      rfl
    · rw [List.drop_zero, List.drop_zero] at e
      simp only [e, RX, VOp.fresh, bxC, bsC, un, most, callsOf, seval, Int.reducePow, ↓reduceIte, Nat.reduceEqDiff, reduceCtorEq]
    · rw [List.drop_zero, List.drop_zero] at e
      simp only [e, t4, RX, VOp.fresh, bxC, bsC, un, most, callsOf, seval, Int.reducePow, ↓reduceIte, Nat.reduceEqDiff, reduceCtorEq]
  · have c : ¬ (x.length : Int) = (y.length : Int) := by omega
    have c2 : ¬ x = y := fun e => hl (by rw [e])
    simp only [v12, hlv, hlu, c, c2, RX, VOp.fresh, bxC, bsC, un, most, callsOf, seval, Int.reducePow, ↓reduceIte, Nat.reduceEqDiff, reduceCtorEq]
end
end Go.Proofs.Yteaieinpnpnkbaa.VM
namespace Go.Proofs.Yteaieinpnpnkbaa.VM
attribute [local irreducible] Af Nx EvO Ev Un Gd Cd EvR EvQ EvC Nc Gc Lp EvM NxM AfM GdM EvMR EvMQ EvMD EvMC Nm Gm
theorem rcells_set (m : Rgs) (q : Int × Int) (b : Int) : (rcells (m ++ [q])).set (m.length * 2 + 1) (.int .i64 b) = rcells (m ++ [(q.1, b)]) := by
  rw [rcells_snoc, rcells_snoc, List.set_append, if_neg (by rw [rcells_len]; omega), rcells_len]
  rw [show m.length * 2 + 1 - m.length * 2 = 1 by omega]
  rfl
theorem rcells_last (m : Rgs) (q : Int × Int) : part false (rcells (m ++ [q])) (m.length * 2 + 1) 1 = some (.int .i64 q.2) := by
  refine part_f (r := []) ?_
  rw [rcells_snoc, List.drop_append, rcells_len, List.drop_of_length_le (by rw [rcells_len]; omega), show m.length * 2 + 1 - m.length * 2 = 1 by omega]
  rfl
section
variable {P : Program}
theorem add_cl (g : Pg P tab) {h : Heap} {v : AV} {out : Rgs} (r : Row h v 2 (rcells out) out.length) (hb : out.length ≤ 8796093022200) (a b : Int) {Q : AV → Heap → Prop}
    (q : ∀ v' h', Row h' v' 2 (rcells (addR out (a, b))) (addR out (a, b)).length → h.next ≤ h'.next → (∀ c, c ∉ blkOf v → c < h.next → h'.get c = h.get c) → (∀ c ∈ blkOf v', c ∈ blkOf v ∨ h.next ≤ c) → Q v' h') : Cl P 31 [v, .agg [.int .i64 a, .int .i64 b]] h Q := by
  refine g.cl (vf := v31) rfl rfl ?_
  have hlt := r.lt
  have x1 := Ext.mk (h := h) (.cells [.int .i64 a, .int .i64 b] 41 0)
  have n1 : (h.mk' h.next (.cells [.int .i64 a, .int .i64 b] 41 0)).next = h.next + 1 := by rw [mk_next]; omega
  have g1 : (h.mk' h.next (.cells [.int .i64 a, .int .i64 b] 41 0)).get h.next = some (.cells [.int .i64 a, .int .i64 b] 41 0) := by rw [Heap.get_mk, if_pos rfl]
  generalize eh1 : h.mk' h.next (.cells [.int .i64 a, .int .i64 b] 41 0) = h1 at *
  have r1 := r.ext x1
  -- one more behind
  have x2 := Ext.mk (h := h1) (.cells [.int .i64 a, .int .i64 b] 41 0)
  have n2 : (h1.mk' h1.next (.cells [.int .i64 a, .int .i64 b] 41 0)).next = h1.next + 1 := by rw [mk_next]; omega
  have g2 : (h1.mk' h1.next (.cells [.int .i64 a, .int .i64 b] 41 0)).get h1.next = some (.cells [.int .i64 a, .int .i64 b] 41 0) := by rw [Heap.get_mk, if_pos rfl]
  obtain ⟨h3, e3, r3, n3, k3⟩ := (r1.ext x2).push (nb := h1.next) (eb := 41) (vb := 0) (c := rcell (a, b)) g2 rfl rfl (bytes := 16) (by unfold most2; omega) 41
  rw [← rcells_snoc] at r3
  have hgo : addR out (a, b) = out ++ [(a, b)] → ∀ v', v' = (AV.sl (h1.mk' h1.next (.cells [.int .i64 a, .int .i64 b] 41 0)).next 0 (out.length + 1) (out.length + 1) 2) → Q v' h3 := fun e v' ev => by
    subst ev
    refine q _ _ ?_ (by omega) (fun c hc hl => ?_) fun c hc => ?_
    · rw [e, List.length_append]; exact r3
    · rw [k3 c hc (by omega), x2.2 c (by omega), x1.2 c hl]
    · simp only [blkOf, List.mem_singleton] at hc
      exact .inr (by omega)
  generalize eh2 : h1.mk' h1.next (.cells [.int .i64 a, .int .i64 b] 41 0) = h2 at *
  rw [n1] at eh2 e3
  have hlen := r.len
  rcases snoc_cases out with rfl | ⟨m, p, rfl⟩
  · have hv : v = .nils := by
      rcases r with ⟨rfl, _⟩ | ⟨_, _, _, _, h0, _⟩
      · rfl
      · exact absurd h0 (by simp)
    subst hv
    have c0 : ¬ (0 : Int) < 0 := by omega
    simp only [v31, eh1, g1, n1, eh2, e3, RW, RX, VOp.fresh, bxC, bsC, un, most, callsOf, seval, Int.reducePow, ↓reduceIte, Nat.reduceEqDiff, reduceCtorEq]
    exact hgo rfl _ rfl
  · have c0 : (0 : Int) < (((m ++ [p]).length : Nat) : Int) := by rw [List.length_append, List.length_singleton]; omega
    have w1 : IntKind.i64.wrap ((((m ++ [p]).length : Nat) : Int) - 1) = (m.length : Int) := by rw [List.length_append, List.length_singleton] at *; rw [w64 (by omega) (by omega)]; omega
    obtain ⟨bb, eb, vb, hv, hg, hbn, hia⟩ := r.at (i := m.length) (by simp)
    have hg1 : h1.get bb = some (.cells (rcells (m ++ [p])) eb vb) := (x1.2 bb hbn).trans hg
    have hp := rcells_last m p
    have hw := wr_at hg1 (j := m.length * 2 + 1) (by rw [rcells_len, List.length_append, List.length_singleton]; omega) (x := .int .i64 b) rfl
    rw [rcells_set] at hw
    by_cases e : p.2 = a
    · simp only [v31, eh1, g1, n1, hlen, c0, w1, hia, hg1, hp, e, hw, RW, RX, VOp.fresh, bxC, bsC, un, most, callsOf, seval, Int.reducePow, ↓reduceIte, Nat.reduceEqDiff, reduceCtorEq]
      refine q _ _ ?_ (by rw [put_next]; omega) (fun c hc hl => ?_) fun c hc => .inl hc
      · rw [addR_snoc, if_pos e]
        refine .inr ⟨bb, eb, vb + 1, ?_, by simp, by rw [put_next]; omega, by rw [rcells_len], by rw [Heap.get_put, if_pos rfl]⟩
        rw [hv]; simp
      · rw [Heap.get_put, if_neg (fun e => hc (by rw [hv, e]; simp [blkOf])), x1.2 c hl]
    · simp only [v31, eh1, g1, n1, hlen, c0, w1, hia, hg1, hp, e, eh2, e3, RW, RX, VOp.fresh, bxC, bsC, un, most, callsOf, seval, Int.reducePow, ↓reduceIte, Nat.reduceEqDiff, reduceCtorEq]
      exact hgo (by rw [addR_snoc, if_neg e]) _ rfl
end
end Go.Proofs.Yteaieinpnpnkbaa.VM
namespace Go.Proofs.Yteaieinpnpnkbaa.Hil
def dig (rx ry : Nat) : Nat := if ry = 1 then (if rx = 1 then 2 else 1) else (if rx = 1 then 3 else 0)
def hcell : Nat → Nat → Nat → Nat
  | 0, _, _ => 0
  | n + 1, x, y => 4 ^ n * dig (x / 2 ^ n % 2) (y / 2 ^ n % 2) +
      (if y / 2 ^ n % 2 = 1 then hcell n (x % 2 ^ n) (y % 2 ^ n)
       else if x / 2 ^ n % 2 = 1 then hcell n (2 ^ n - 1 - y % 2 ^ n) (2 ^ n - 1 - x % 2 ^ n)
       else hcell n (y % 2 ^ n) (x % 2 ^ n))
def trn (s : Nat) (g : Nat) (p : Nat × Nat) : Nat × Nat :=
  if g = 0 then (p.2, p.1) else if g = 1 then (p.1, p.2 + s) else if g = 2 then (p.1 + s, p.2 + s) else (s - 1 - p.2 + s, s - 1 - p.1)
def hdec : Nat → Nat → Nat × Nat
  | 0, _ => (0, 0)
  | n + 1, d => trn (2 ^ n) (d / 4 ^ n % 4) (hdec n d)
theorem hcell_succ (n x y : Nat) : hcell (n + 1) x y = 4 ^ n * dig (x / 2 ^ n % 2) (y / 2 ^ n % 2) +
      (if y / 2 ^ n % 2 = 1 then hcell n (x % 2 ^ n) (y % 2 ^ n)
       else if x / 2 ^ n % 2 = 1 then hcell n (2 ^ n - 1 - y % 2 ^ n) (2 ^ n - 1 - x % 2 ^ n)
       else hcell n (y % 2 ^ n) (x % 2 ^ n)) := rfl
theorem two_pos (n : Nat) : 0 < 2 ^ n := Nat.two_pow_pos n
theorem four_pos (n : Nat) : 0 < 4 ^ n := Nat.pow_pos (by decide)
theorem dig_lt (a b : Nat) : dig a b < 4 := by unfold dig; split <;> split <;> omega
theorem hcell_lt : ∀ n x y, hcell n x y < 4 ^ n
  | 0, _, _ => by simp [hcell]
  | n + 1, x, y => by
    unfold hcell
    have hd := dig_lt (x / 2 ^ n % 2) (y / 2 ^ n % 2)
    have h1 := hcell_lt n (x % 2 ^ n) (y % 2 ^ n)
    have h2 := hcell_lt n (2 ^ n - 1 - y % 2 ^ n) (2 ^ n - 1 - x % 2 ^ n)
    have h3 := hcell_lt n (y % 2 ^ n) (x % 2 ^ n)
    have : 4 ^ n * dig (x / 2 ^ n % 2) (y / 2 ^ n % 2) ≤ 4 ^ n * 3 := Nat.mul_le_mul_left _ (by omega)
    rw [Nat.pow_succ]
    split
    · omega
    · split <;> omega
theorem trn_lt {s g : Nat} {p : Nat × Nat} (h1 : p.1 < s) (h2 : p.2 < s) : (trn s g p).1 < 2 * s ∧ (trn s g p).2 < 2 * s := by
  unfold trn; split
  · constructor <;> simp <;> omega
  · split
    · constructor <;> simp <;> omega
    · split <;> constructor <;> simp <;> omega
theorem hdec_lt : ∀ n d, (hdec n d).1 < 2 ^ n ∧ (hdec n d).2 < 2 ^ n
  | 0, _ => by simp [hdec]
  | n + 1, d => by
    have h := hdec_lt n d
    have := trn_lt (g := d / 4 ^ n % 4) h.1 h.2
    rw [Nat.pow_succ, hdec]; omega
theorem hdec_add : ∀ n a b, hdec n (4 ^ n * a + b) = hdec n b
  | 0, _, _ => rfl
  | n + 1, a, b => by
    have e : 4 ^ (n + 1) * a + b = 4 ^ n * (4 * a) + b := by rw [Nat.pow_succ, Nat.mul_assoc]
    rw [hdec, hdec, e, hdec_add n (4 * a) b, Nat.mul_add_div (four_pos n)]
    congr 1; omega
theorem div_mod_of {s x b : Nat} (h : x < s) : (x + b * s) / s = b ∧ (x + b * s) % s = x := by
  have hs : 0 < s := by omega
  rw [Nat.add_mul_div_right _ _ hs, Nat.add_mul_mod_self_right, Nat.div_eq_of_lt h, Nat.mod_eq_of_lt h]; simp
theorem cell_trn {n g x y : Nat} (hx : x < 2 ^ n) (hy : y < 2 ^ n) (hg : g < 4) : hcell (n + 1) (trn (2 ^ n) g (x, y)).1 (trn (2 ^ n) g (x, y)).2 = 4 ^ n * g + hcell n x y := by
  have a0 := div_mod_of (b := 0) hx
  have b0 := div_mod_of (b := 0) hy
  have a1 := div_mod_of (b := 1) hx
  have b1 := div_mod_of (b := 1) hy
  have c0 := div_mod_of (s := 2 ^ n) (x := 2 ^ n - 1 - x) (b := 0) (by omega)
  have c1 := div_mod_of (s := 2 ^ n) (x := 2 ^ n - 1 - y) (b := 1) (by omega)
  simp only [Nat.zero_mul, Nat.add_zero, Nat.one_mul] at a0 b0 a1 b1 c0 c1
  have g4 : g = 0 ∨ g = 1 ∨ g = 2 ∨ g = 3 := by omega
  have e1 : 2 ^ n - 1 - (2 ^ n - 1 - x) = x := by omega
  have e2 : 2 ^ n - 1 - (2 ^ n - 1 - y) = y := by omega
  rcases g4 with rfl | rfl | rfl | rfl
  · simp [trn, hcell, a0, b0, dig]
  · simp [trn, hcell, a0, b1, dig]
  · simp [trn, hcell, a1, b1, dig]
  · simp [trn, hcell, c0, c1, dig, e1, e2]
theorem cell_dec : ∀ n d, hcell n (hdec n d).1 (hdec n d).2 = d % 4 ^ n
  | 0, d => by simp [hcell]; omega
  | n + 1, d => by
    have h := hdec_lt n d
    rw [hdec]
    have := cell_trn (g := d / 4 ^ n % 4) h.1 h.2 (by omega)
    rw [this, cell_dec n d, Nat.pow_succ, Nat.mod_mul, Nat.add_comm]
/-- which quarter, and the place in it -/
theorem dec_cell : ∀ n x y, x < 2 ^ n → y < 2 ^ n → hdec n (hcell n x y) = (x, y)
  | 0, x, y, hx, hy => by simp at hx hy; subst hx hy; rfl
  | n + 1, x, y, hx, hy => by
    have key : ∃ g u v, g < 4 ∧ u < 2 ^ n ∧ v < 2 ^ n ∧ (x, y) = trn (2 ^ n) g (u, v) := by
      rw [Nat.pow_succ] at hx hy
      by_cases h1 : x < 2 ^ n <;> by_cases h2 : y < 2 ^ n
      · exact ⟨0, y, x, by omega, h2, h1, by simp [trn]⟩
      · exact ⟨1, x, y - 2 ^ n, by omega, h1, by omega, by simp [trn]; omega⟩
      · exact ⟨3, 2 ^ n - 1 - y, 2 ^ n - 1 - (x - 2 ^ n), by omega, by omega, by omega, by simp [trn]; omega⟩
      · exact ⟨2, x - 2 ^ n, y - 2 ^ n, by omega, by omega, by omega, by simp [trn]; omega⟩
    obtain ⟨g, u, v, hg, hu, hv, e⟩ := key
    have e1 : x = (trn (2 ^ n) g (u, v)).1 := by rw [← e]
    have e2 : y = (trn (2 ^ n) g (u, v)).2 := by rw [← e]
    have hc := cell_trn hu hv hg
    rw [← e1, ← e2] at hc
    have hl := hcell_lt n u v
    rw [hc, hdec, hdec_add, dec_cell n u v hu hv, Nat.mul_add_div (four_pos n), Nat.div_eq_of_lt hl]
    rw [e]; congr 1; omega
theorem cell_inj {n x y u v : Nat} (hx : x < 2 ^ n) (hy : y < 2 ^ n) (hu : u < 2 ^ n) (hv : v < 2 ^ n) (h : hcell n x y = hcell n u v) : x = u ∧ y = v := by
  have a := dec_cell n x y hx hy
  rw [h, dec_cell n u v hu hv] at a
  exact ⟨(congrArg Prod.fst a).symm, (congrArg Prod.snd a).symm⟩
end Go.Proofs.Yteaieinpnpnkbaa.Hil
namespace Go.Proofs.Yteaieinpnpnkbaa.VM
open Go.Proofs.Yteaieinpnpnkbaa.Hil
section
variable {P : Program}
def turnedOf (a b s rx ry : Nat) : Nat × Nat := if ry = 1 then (a, b) else if rx = 1 then (s - 1 - b, s - 1 - a) else (b, a)
theorem turned_pu (g : Pg P tab) {a b s rx ry : Nat} (ha : a < s) (hb : b < s) (hs : s ≤ 65536) :
    Pu P 43 [.int .i64 a, .int .i64 b, .int .i64 s, .int .i64 rx, .int .i64 ry] (fun v => v = .tup [.int .i64 ((turnedOf a b s rx ry).1 : Nat), .int .i64 ((turnedOf a b s rx ry).2 : Nat)]) := by
  refine g.pu (vf := v43) rfl rfl ?_
  simp +contextual (maxSteps := 2000000) (disch := omega) only [v43, RX, VOp.fresh, bxC, bsC, un, most, callsOf, seval, Int.reducePow, ↓reduceIte, Nat.reduceEqDiff, reduceCtorEq]
  unfold turnedOf
  refine ⟨fun h => ?_, fun h => ⟨fun h2 => ?_, fun h2 => ?_⟩⟩
  · rw [if_pos (by omega)]
  · rw [if_neg (by omega), if_pos (by omega)]
    simp only [AV.tup.injEq, List.cons.injEq, AV.int.injEq, true_and, and_true]
    omega
  · rw [if_neg (by omega), if_neg (by omega)]
theorem xor_dig : ∀ rx ry : Nat, rx < 2 → ry < 2 → bitsOf .xor .i64 (3 * (rx : Int)) (ry : Int) = (dig rx ry : Int) := by
  intro rx ry h1 h2
  have r : ry = 0 ∨ ry = 1 := by omega
  have q : rx = 0 ∨ rx = 1 := by omega
  rcases r with rfl | rfl <;> rcases q with rfl | rfl <;> decide +kernel
theorem cell_loop (g : Pg P tab) (n : Nat) : ∀ (X Y : Nat) (D : Int) (s : T AV) (h : Heap) (k : List Fr) (Q : Ex → T AV → Heap → Prop), n ≤ 16 → X < 2 ^ n → Y < 2 ^ n → 0 ≤ D → D + (4 ^ n : Nat) ≤ 4294967296 →
    sg s 0 = .int .i64 X → sg s 1 = .int .i64 Y → sg s 8 = .int .i64 D → sg s 9 = .int .i64 ((n : Int) - 1) → (∀ s', sg s' 8 = .int .i64 (D + (hcell n X Y : Int)) → Un P k Q (.exit 0) s' h) → Lp P b29_0 s h (Un P k Q) := by
  induction n with
  | zero =>
    intro X Y D s h k Q _ _ _ _ _ h0 h1 h8 h9 hK
    refine g.lpe b29_0.eq_1 ?_
    simp +contextual (maxSteps := 2000000) (disch := omega) only [h0, h1, h8, h9, RX, VOp.fresh, bxC, bsC, un, most, callsOf, seval, Int.reducePow, ↓reduceIte, Nat.reduceEqDiff, reduceCtorEq]
    refine hK _ ?_
    simp only [sg_set, seval, h8, hcell]
    simp
  | succ n ih =>
    intro X Y D s h k Q hn hX hY hD hD1 h0 h1 h8 h9 hK
    have h2 := two_pos n
    have hp : 2 ^ n ≤ 2 ^ 15 := Nat.pow_le_pow_right (by decide) (by omega)
    have hp4 : 4 ^ n ≤ 4 ^ 15 := Nat.pow_le_pow_right (by decide) (by omega)
    rw [Nat.pow_succ] at hX hY hD1
    refine g.lpe b29_0.eq_1 ?_
    have e9 : (((n + 1 : Nat) : Int) - 1) = (n : Int) := by omega
    rw [e9] at h9
    have s1 : (X : Int).fdiv (2 ^ min n 64) = ((X / 2 ^ n : Nat) : Int) := shr_nat (by omega)
    have s2 : (Y : Int).fdiv (2 ^ min n 64) = ((Y / 2 ^ n : Nat) : Int) := shr_nat (by omega)
    have s3 : IntKind.i64.wrap (1 * 2 ^ min n 64) = ((2 ^ n : Nat) : Int) := shl_nat (by omega)
    have c0 : (0 : Int) ≤ (n : Int) := by omega
    have a1 : bitsOf .and .i64 (X : Int) (((2 ^ n : Nat) : Int) - 1) = ((X % 2 ^ n : Nat) : Int) := and_low (by omega) (by omega)
    have a2 : bitsOf .and .i64 (Y : Int) (((2 ^ n : Nat) : Int) - 1) = ((Y % 2 ^ n : Nat) : Int) := and_low (by omega) (by omega)
    have a3 : bitsOf .and .i64 ((X / 2 ^ n : Nat) : Int) 1 = ((X / 2 ^ n % 2 : Nat) : Int) := and_one (Nat.lt_of_le_of_lt (Nat.div_le_self _ _) (by omega))
    have a4 : bitsOf .and .i64 ((Y / 2 ^ n : Nat) : Int) 1 = ((Y / 2 ^ n % 2 : Nat) : Int) := and_one (Nat.lt_of_le_of_lt (Nat.div_le_self _ _) (by omega))
    have x1 := xor_dig (X / 2 ^ n % 2) (Y / 2 ^ n % 2) (Nat.mod_lt _ (by decide)) (Nat.mod_lt _ (by decide))
    have hd := dig_lt (X / 2 ^ n % 2) (Y / 2 ^ n % 2)
    have q1 : (((2 ^ n : Nat) : Int) * ((2 ^ n : Nat) : Int)) = ((4 ^ n : Nat) : Int) := by
      rw [← Int.natCast_mul, ← Nat.mul_pow]
    have q2 : ((4 ^ n : Nat) : Int) * (dig (X / 2 ^ n % 2) (Y / 2 ^ n % 2) : Int) = ((4 ^ n * dig (X / 2 ^ n % 2) (Y / 2 ^ n % 2) : Nat) : Int) := by push_cast; rfl
    have q3 : 4 ^ n * dig (X / 2 ^ n % 2) (Y / 2 ^ n % 2) ≤ 4 ^ n * 3 := Nat.mul_le_mul_left _ (by omega)
    have w1 : IntKind.i64.wrap (3 * ((X / 2 ^ n % 2 : Nat) : Int)) = 3 * ((X / 2 ^ n % 2 : Nat) : Int) := w64 (by omega) (by omega)
    have w2 : IntKind.i64.wrap (((2 ^ n : Nat) : Int) - 1) = ((2 ^ n : Nat) : Int) - 1 := by
      generalize 2 ^ n = m at *
      exact w64 (by omega) (by omega)
    have w3 : IntKind.i64.wrap ((4 ^ n : Nat) : Int) = ((4 ^ n : Nat) : Int) := by
      generalize 4 ^ n = m at *
      exact w64 (by omega) (by omega)
    have w4 : IntKind.i64.wrap ((4 ^ n * dig (X / 2 ^ n % 2) (Y / 2 ^ n % 2) : Nat) : Int) = ((4 ^ n * dig (X / 2 ^ n % 2) (Y / 2 ^ n % 2) : Nat) : Int) := by
      generalize 4 ^ n * dig (X / 2 ^ n % 2) (Y / 2 ^ n % 2) = m at *
      exact w64 (by omega) (by omega)
    have w5 : IntKind.i64.wrap (D + ((4 ^ n * dig (X / 2 ^ n % 2) (Y / 2 ^ n % 2) : Nat) : Int)) = D + ((4 ^ n * dig (X / 2 ^ n % 2) (Y / 2 ^ n % 2) : Nat) : Int) := by
      generalize 4 ^ n * dig (X / 2 ^ n % 2) (Y / 2 ^ n % 2) = m at *
      exact w64 (by omega) (by omega)
    simp only [c0, h0, h1, h8, h9, s1, s2, s3, a3, a4, x1, q1, q2, w1, w2, w3, w4, w5, a1, a2, RX, VOp.fresh, bxC, bsC, un, most, callsOf, seval, Int.reducePow, ↓reduceIte, Nat.reduceEqDiff, reduceCtorEq]
    refine (turned_pu g (Nat.mod_lt _ h2) (Nat.mod_lt _ h2) (by omega)).go rfl ?_
    rintro v rfl
    simp +contextual (maxSteps := 2000000) (disch := omega) only [h0, h1, h8, h9, RX, VOp.fresh, bxC, bsC, un, most, callsOf, seval, Int.reducePow, ↓reduceIte, Nat.reduceEqDiff, reduceCtorEq]
    generalize hu : turnedOf (X % 2 ^ n) (Y % 2 ^ n) (2 ^ n) (X / 2 ^ n % 2) (Y / 2 ^ n % 2) = u
    have hu1 : u.1 < 2 ^ n ∧ u.2 < 2 ^ n ∧ hcell (n + 1) X Y = 4 ^ n * dig (X / 2 ^ n % 2) (Y / 2 ^ n % 2) + hcell n u.1 u.2 := by
      have l1 := Nat.mod_lt X h2
      have l2 := Nat.mod_lt Y h2
      rw [← hu, hcell_succ]
      unfold turnedOf
      have k1 : Y / 2 ^ n % 2 < 2 := Nat.mod_lt _ (by decide)
      have k2 : X / 2 ^ n % 2 < 2 := Nat.mod_lt _ (by decide)
      by_cases e1 : Y / 2 ^ n % 2 = 1
      · rw [if_pos e1, if_pos e1]; exact ⟨l1, l2, rfl⟩
      · rw [if_neg e1, if_neg e1]
        by_cases e2 : X / 2 ^ n % 2 = 1
        · rw [if_pos e2, if_pos e2]; exact ⟨by simp only; omega, by simp only; omega, rfl⟩
        · rw [if_neg e2, if_neg e2]; exact ⟨l2, l1, rfl⟩
    obtain ⟨u1, u2, u3⟩ := hu1
    refine ih u.1 u.2 (D + ((4 ^ n * dig (X / 2 ^ n % 2) (Y / 2 ^ n % 2) : Nat) : Int)) _ h k Q (by omega) u1 u2 (by omega) (by omega) ?_ ?_ ?_ ?_ ?_
    · simp only [sg_set, Nat.reduceEqDiff, ↓reduceIte]
    · simp only [sg_set, Nat.reduceEqDiff, ↓reduceIte]
    · simp only [sg_set, Nat.reduceEqDiff, ↓reduceIte]
    · simp only [sg_set, Nat.reduceEqDiff, ↓reduceIte]
    · intro s' hs'
      refine hK s' ?_
      rw [hs', u3]
      push_cast
      rw [Int.add_assoc]
theorem cell_pu (g : Pg P tab) {n X Y : Nat} (h1 : 1 ≤ n) (hn : n ≤ 16) (hX : X < 2 ^ n) (hY : Y < 2 ^ n) : Pu P 29 [.int .i64 X, .int .i64 Y, .int .i64 n] (fun v => v = .tup [.int .i64 (hcell n X Y : Int), .int .i64 0]) := by
  refine g.pu (vf := v29) rfl rfl ?_
  have hp : 2 ^ n ≤ 2 ^ 16 := Nat.pow_le_pow_right (by decide) (by omega)
  have hp4 : 4 ^ n ≤ 4 ^ 16 := Nat.pow_le_pow_right (by decide) (by omega)
  have s3 : IntKind.i64.wrap (1 * 2 ^ min n 64) = ((2 ^ n : Nat) : Int) := shl_nat (by omega)
  have c1 : ¬ ((n : Int) < 1) := by omega
  have c2 : ¬ (16 < (n : Int)) := by omega
  have c3 : ¬ ((X : Int) < 0) := by omega
  have c4 : ¬ ((Y : Int) < 0) := by omega
  have c5 : ¬ (((2 ^ n : Nat) : Int) ≤ (X : Int)) := by omega
  have c6 : ¬ (((2 ^ n : Nat) : Int) ≤ (Y : Int)) := by omega
  have c0 : (0 : Int) ≤ (n : Int) := by omega
  have w1 : IntKind.i64.wrap ((n : Int) - 1) = (n : Int) - 1 := w64 (by omega) (by omega)
  simp only [v29, c0, w1, s3, c1, c2, c3, c4, c5, c6, RX, VOp.fresh, bxC, bsC, un, most, callsOf, seval, Int.reducePow, ↓reduceIte, Nat.reduceEqDiff, reduceCtorEq]
  refine cell_loop g n X Y 0 _ _ _ _ hn hX hY (by omega) (by omega) ?_ ?_ ?_ ?_ ?_
  · simp only [sg_set, Nat.reduceEqDiff, ↓reduceIte]
  · simp only [sg_set, Nat.reduceEqDiff, ↓reduceIte]
  · simp only [sg_set, Nat.reduceEqDiff, ↓reduceIte]
  · simp only [sg_set, Nat.reduceEqDiff, ↓reduceIte]
  · intro s' hs'
    simp +contextual (maxSteps := 2000000) (disch := omega) only [hs', RX, VOp.fresh, bxC, bsC, un, most, callsOf, seval, Int.reducePow, ↓reduceIte, Nat.reduceEqDiff, reduceCtorEq]
    simp
theorem dcell_loop (g : Pg P tab) (n : Nat) : ∀ (X Y : Nat) (D : Int) (s : T AV) (h : Heap) (k : List Fr) (Q : Ex → T AV → Heap → Prop), n ≤ 16 → X < 2 ^ n → Y < 2 ^ n → 0 ≤ D → D + (4 ^ n : Nat) ≤ 4294967296 →
    sg s 0 = .int .i64 X → sg s 1 = .int .i64 Y → sg s 8 = .int .i64 D → sg s 9 = .int .i64 ((2 ^ n / 2 : Nat) : Int) → (∀ s', sg s' 8 = .int .i64 (D + (hcell n X Y : Int)) → Un P k Q (.exit 0) s' h) → Lp P b33_0 s h (Un P k Q) := by
  induction n with
  | zero =>
    intro X Y D s h k Q _ _ _ _ _ h0 h1 h8 h9 hK
    refine g.lpe b33_0.eq_1 ?_
    have c : ¬ (0 : Int) < ((2 ^ 0 / 2 : Nat) : Int) := by decide
    simp only [h0, h1, h8, h9, c, RX, VOp.fresh, bxC, bsC, un, most, callsOf, seval, Int.reducePow, ↓reduceIte, Nat.reduceEqDiff, reduceCtorEq]
    refine hK _ ?_
    simp only [sg_set, seval, h8, hcell]
    simp
  | succ n ih =>
    intro X Y D s h k Q hn hX hY hD hD1 h0 h1 h8 h9 hK
    have h2 := two_pos n
    have hp : 2 ^ n ≤ 2 ^ 15 := Nat.pow_le_pow_right (by decide) (by omega)
    have hp4 : 4 ^ n ≤ 4 ^ 15 := Nat.pow_le_pow_right (by decide) (by omega)
    rw [Nat.pow_succ] at hX hY hD1
    refine g.lpe b33_0.eq_1 ?_
    have e9 : (2 ^ (n + 1) / 2 : Nat) = 2 ^ n := by rw [Nat.pow_succ]; omega
    rw [e9] at h9
    have c0 : (0 : Int) < ((2 ^ n : Nat) : Int) := by omega
    have c00 := fun a : Int => bin_quo (k := .i64) (a := a) (b := ((2 ^ n : Nat) : Int)) (by omega)
    have c02 := fun a : Int => bin_quo (k := .i64) (a := a) (b := 2) (by decide)
    have d1 : (X : Int).tdiv ((2 ^ n : Nat) : Int) = ((X / 2 ^ n : Nat) : Int) := by rw [Int.tdiv_eq_ediv_of_nonneg (by omega)]; push_cast; rfl
    have d2 : (Y : Int).tdiv ((2 ^ n : Nat) : Int) = ((Y / 2 ^ n : Nat) : Int) := by rw [Int.tdiv_eq_ediv_of_nonneg (by omega)]; push_cast; rfl
    have wd1 : IntKind.i64.wrap ((X / 2 ^ n : Nat) : Int) = ((X / 2 ^ n : Nat) : Int) := by have := Nat.div_le_self X (2 ^ n); generalize X / 2 ^ n = z at *; exact w64 (by omega) (by omega)
    have wd2 : IntKind.i64.wrap ((Y / 2 ^ n : Nat) : Int) = ((Y / 2 ^ n : Nat) : Int) := by have := Nat.div_le_self Y (2 ^ n); generalize Y / 2 ^ n = z at *; exact w64 (by omega) (by omega)
    have d3 : IntKind.i64.wrap (((2 ^ n : Nat) : Int).tdiv 2) = ((2 ^ n / 2 : Nat) : Int) := by
      rw [Int.tdiv_eq_ediv_of_nonneg (by omega)]
      generalize 2 ^ n = m at *
      rw [w64 (by omega) (by omega)]; omega
    have a1 : bitsOf .and .i64 (X : Int) (((2 ^ n : Nat) : Int) - 1) = ((X % 2 ^ n : Nat) : Int) := and_low (by omega) (by omega)
    have a2 : bitsOf .and .i64 (Y : Int) (((2 ^ n : Nat) : Int) - 1) = ((Y % 2 ^ n : Nat) : Int) := and_low (by omega) (by omega)
    have a3 : bitsOf .and .i64 ((X / 2 ^ n : Nat) : Int) 1 = ((X / 2 ^ n % 2 : Nat) : Int) := and_one (Nat.lt_of_le_of_lt (Nat.div_le_self _ _) (by omega))
    have a4 : bitsOf .and .i64 ((Y / 2 ^ n : Nat) : Int) 1 = ((Y / 2 ^ n % 2 : Nat) : Int) := and_one (Nat.lt_of_le_of_lt (Nat.div_le_self _ _) (by omega))
    have x1 := xor_dig (X / 2 ^ n % 2) (Y / 2 ^ n % 2) (Nat.mod_lt _ (by decide)) (Nat.mod_lt _ (by decide))
    have hd := dig_lt (X / 2 ^ n % 2) (Y / 2 ^ n % 2)
    have q1 : (((2 ^ n : Nat) : Int) * ((2 ^ n : Nat) : Int)) = ((4 ^ n : Nat) : Int) := by
      rw [← Int.natCast_mul, ← Nat.mul_pow]
    have q2 : ((4 ^ n : Nat) : Int) * (dig (X / 2 ^ n % 2) (Y / 2 ^ n % 2) : Int) = ((4 ^ n * dig (X / 2 ^ n % 2) (Y / 2 ^ n % 2) : Nat) : Int) := by push_cast; rfl
    have q3 : 4 ^ n * dig (X / 2 ^ n % 2) (Y / 2 ^ n % 2) ≤ 4 ^ n * 3 := Nat.mul_le_mul_left _ (by omega)
    have w1 : IntKind.i64.wrap (3 * ((X / 2 ^ n % 2 : Nat) : Int)) = 3 * ((X / 2 ^ n % 2 : Nat) : Int) := w64 (by omega) (by omega)
    have w2 : IntKind.i64.wrap (((2 ^ n : Nat) : Int) - 1) = ((2 ^ n : Nat) : Int) - 1 := by
      generalize 2 ^ n = m at *
      exact w64 (by omega) (by omega)
    have w3 : IntKind.i64.wrap ((4 ^ n : Nat) : Int) = ((4 ^ n : Nat) : Int) := by
      generalize 4 ^ n = m at *
      exact w64 (by omega) (by omega)
    have w4 : IntKind.i64.wrap ((4 ^ n * dig (X / 2 ^ n % 2) (Y / 2 ^ n % 2) : Nat) : Int) = ((4 ^ n * dig (X / 2 ^ n % 2) (Y / 2 ^ n % 2) : Nat) : Int) := by
      generalize 4 ^ n * dig (X / 2 ^ n % 2) (Y / 2 ^ n % 2) = m at *
      exact w64 (by omega) (by omega)
    have w5 : IntKind.i64.wrap (D + ((4 ^ n * dig (X / 2 ^ n % 2) (Y / 2 ^ n % 2) : Nat) : Int)) = D + ((4 ^ n * dig (X / 2 ^ n % 2) (Y / 2 ^ n % 2) : Nat) : Int) := by
      generalize 4 ^ n * dig (X / 2 ^ n % 2) (Y / 2 ^ n % 2) = m at *
      exact w64 (by omega) (by omega)
    have l1 := Nat.mod_lt X h2
    have l2 := Nat.mod_lt Y h2
    have w6 : IntKind.i64.wrap (((2 ^ n : Nat) : Int) - 1 - ((X % 2 ^ n : Nat) : Int)) = ((2 ^ n - 1 - X % 2 ^ n : Nat) : Int) := by
      generalize X % 2 ^ n = z at *
      generalize 2 ^ n = m at *
      rw [w64 (by omega) (by omega)]; omega
    have w7 : IntKind.i64.wrap (((2 ^ n : Nat) : Int) - 1 - ((Y % 2 ^ n : Nat) : Int)) = ((2 ^ n - 1 - Y % 2 ^ n : Nat) : Int) := by
      generalize Y % 2 ^ n = z at *
      generalize 2 ^ n = m at *
      rw [w64 (by omega) (by omega)]; omega
    have k1 : Y / 2 ^ n % 2 < 2 := Nat.mod_lt _ (by decide)
    have k2 : X / 2 ^ n % 2 < 2 := Nat.mod_lt _ (by decide)
    have hs := hcell_succ n X Y
    have next : ∀ (u1 u2 : Nat) (s' : T AV), u1 < 2 ^ n → u2 < 2 ^ n → hcell (n + 1) X Y = 4 ^ n * dig (X / 2 ^ n % 2) (Y / 2 ^ n % 2) + hcell n u1 u2 → sg s' 0 = .int .i64 u1 → sg s' 1 = .int .i64 u2 → sg s' 8 = .int .i64 (D + ((4 ^ n * dig (X / 2 ^ n % 2) (Y / 2 ^ n % 2) : Nat) : Int)) → sg s' 9 = .int .i64 ((2 ^ n / 2 : Nat) : Int) → Lp P b33_0 s' h (Un P k Q) := fun u1 u2 s' b1 b2 e t0 t1 t8 t9 =>
      ih u1 u2 _ s' h k Q (by omega) b1 b2 (by omega) (by omega) t0 t1 t8 t9 fun s'' hs'' => hK s'' (by rw [hs'', e]; push_cast; rw [Int.add_assoc])
    by_cases e1 : Y / 2 ^ n % 2 = 0
    · have e1' : ((Y / 2 ^ n % 2 : Nat) : Int) = 0 := by omega
      by_cases e2 : X / 2 ^ n % 2 = 1
      · have e2' : ((X / 2 ^ n % 2 : Nat) : Int) = 1 := by omega
        rw [if_neg (by omega), if_pos e2] at hs
        simp only [h0, h1, h8, h9, c0, c00, c02, d1, d2, wd1, wd2, d3, a1, a2, a3, a4, x1, q1, q2, w1, w2, w3, w4, w5, w6, w7, eq_true e1', eq_true e2', RX, VOp.fresh, bxC, bsC, un, most, callsOf, seval, Int.reducePow, ↓reduceIte, Nat.reduceEqDiff, reduceCtorEq]
        refine next _ _ _ ?_ ?_ hs ?_ ?_ ?_ ?_
        · omega
        · omega
        · simp only [sg_set, Nat.reduceEqDiff, ↓reduceIte]
        · simp only [sg_set, Nat.reduceEqDiff, ↓reduceIte]
        · simp only [sg_set, Nat.reduceEqDiff, ↓reduceIte]
        · simp only [sg_set, Nat.reduceEqDiff, ↓reduceIte]
      · have e2' : ¬ ((X / 2 ^ n % 2 : Nat) : Int) = 1 := by omega
        rw [if_neg (by omega), if_neg e2] at hs
        simp only [h0, h1, h8, h9, c0, c00, c02, d1, d2, wd1, wd2, d3, a1, a2, a3, a4, x1, q1, q2, w1, w2, w3, w4, w5, w6, w7, eq_true e1', e2', RX, VOp.fresh, bxC, bsC, un, most, callsOf, seval, Int.reducePow, ↓reduceIte, Nat.reduceEqDiff, reduceCtorEq]
        refine next _ _ _ ?_ ?_ hs ?_ ?_ ?_ ?_
        · exact l2
        · exact l1
        · simp only [sg_set, Nat.reduceEqDiff, ↓reduceIte]
        · simp only [sg_set, Nat.reduceEqDiff, ↓reduceIte]
        · simp only [sg_set, Nat.reduceEqDiff, ↓reduceIte]
        · simp only [sg_set, Nat.reduceEqDiff, ↓reduceIte]
    · have e1' : ¬ ((Y / 2 ^ n % 2 : Nat) : Int) = 0 := by omega
      rw [if_pos (by omega)] at hs
      simp only [h0, h1, h8, h9, c0, c00, c02, d1, d2, wd1, wd2, d3, a1, a2, a3, a4, x1, q1, q2, w1, w2, w3, w4, w5, w6, w7, e1', RX, VOp.fresh, bxC, bsC, un, most, callsOf, seval, Int.reducePow, ↓reduceIte, Nat.reduceEqDiff, reduceCtorEq]
      refine next _ _ _ ?_ ?_ hs ?_ ?_ ?_ ?_
      · exact l1
      · exact l2
      · simp only [sg_set, Nat.reduceEqDiff, ↓reduceIte]
      · simp only [sg_set, Nat.reduceEqDiff, ↓reduceIte]
      · simp only [sg_set, Nat.reduceEqDiff, ↓reduceIte]
      · simp only [sg_set, Nat.reduceEqDiff, ↓reduceIte]
theorem dcell_pu (g : Pg P tab) {n X Y : Nat} (h1 : 1 ≤ n) (hn : n ≤ 16) (hX : X < 2 ^ n) (hY : Y < 2 ^ n) : Pu P 33 [.int .i64 X, .int .i64 Y, .int .i64 n] (fun v => v = .tup [.int .i64 (hcell n X Y : Int), .int .i64 0]) := by
  refine g.pu (vf := v33) rfl rfl ?_
  have hp : 2 ^ n ≤ 2 ^ 16 := Nat.pow_le_pow_right (by decide) (by omega)
  have hp4 : 4 ^ n ≤ 4 ^ 16 := Nat.pow_le_pow_right (by decide) (by omega)
  have s3 : IntKind.i64.wrap (1 * 2 ^ min n 64) = ((2 ^ n : Nat) : Int) := shl_nat (by omega)
  have s4 : IntKind.i64.wrap (1 * 2 ^ min (n - 1) 64) = ((2 ^ n / 2 : Nat) : Int) := by
    rw [shl_nat (by omega)]
    obtain ⟨m, rfl⟩ : ∃ m, n = m + 1 := ⟨n - 1, by omega⟩
    rw [Nat.pow_succ, Nat.add_sub_cancel, Nat.mul_div_cancel _ (by decide)]
  have c1 : ¬ ((n : Int) < 1) := by omega
  have c2 : ¬ (16 < (n : Int)) := by omega
  have c3 : ¬ ((X : Int) < 0) := by omega
  have c4 : ¬ ((Y : Int) < 0) := by omega
  have c5 : ¬ (((2 ^ n : Nat) : Int) ≤ (X : Int)) := by omega
  have c6 : ¬ (((2 ^ n : Nat) : Int) ≤ (Y : Int)) := by omega
  have c0 : (0 : Int) ≤ ((n - 1 : Nat) : Int) := by omega
  have c01 : (0 : Int) ≤ (n : Int) := by omega
  have w1 : IntKind.i64.wrap ((n : Int) - 1) = ((n - 1 : Nat) : Int) := by rw [w64 (by omega) (by omega)]; omega
  simp only [v33, c0, c01, w1, s3, s4, c1, c2, c3, c4, c5, c6, RX, VOp.fresh, bxC, bsC, un, most, callsOf, seval, Int.reducePow, ↓reduceIte, Nat.reduceEqDiff, reduceCtorEq]
  refine dcell_loop g n X Y 0 _ _ _ _ hn hX hY (by omega) (by omega) ?_ ?_ ?_ ?_ ?_
  · simp only [sg_set, Nat.reduceEqDiff, ↓reduceIte]
  · simp only [sg_set, Nat.reduceEqDiff, ↓reduceIte]
  · simp only [sg_set, Nat.reduceEqDiff, ↓reduceIte]
  · simp only [sg_set, Nat.reduceEqDiff, ↓reduceIte]
  · intro s' hs'
    simp only [hs', RX, VOp.fresh, bxC, bsC, un, most, callsOf, seval, Int.reducePow, ↓reduceIte, Nat.reduceEqDiff, reduceCtorEq]
    simp
end
end Go.Proofs.Yteaieinpnpnkbaa.VM
namespace Go.Proofs.Yteaieinpnpnkbaa.VM
open Go.Proofs.Yteaieinpnpnkbaa.Hil
/-- m cells of a column, n columns -/
def colC (b x m : Nat) : List Int := (List.range m).map fun j => ((hcell 6 x (b + j) : Nat) : Int)
def gridC (a b m n : Nat) : List Int := ((List.range n).map fun i => colC b (a + i) m).flatten
theorem colC_succ (b x m : Nat) : colC b x (m + 1) = colC b x m ++ [((hcell 6 x (b + m) : Nat) : Int)] := by simp [colC, List.range_succ]
theorem gridC_succ (a b m n : Nat) : gridC a b m (n + 1) = gridC a b m n ++ colC b (a + n) m := by simp [gridC, List.range_succ]
theorem colC_len (b x m : Nat) : (colC b x m).length = m := by simp [colC]
theorem gridC_len (a b m n : Nat) : (gridC a b m n).length = n * m := by
  induction n with
  | zero => simp [gridC]
  | succ n ih => rw [gridC_succ, List.length_append, ih, colC_len, Nat.add_mul, Nat.one_mul]
theorem mem_grid {a b m n : Nat} {c : Int} : c ∈ gridC a b m n ↔ ∃ i j, i < n ∧ j < m ∧ c = ((hcell 6 (a + i) (b + j) : Nat) : Int) := by
  simp only [gridC, colC, List.mem_flatten, List.mem_map, List.mem_range]
  constructor
  · rintro ⟨_, ⟨i, hi, rfl⟩, hc⟩
    obtain ⟨j, hj, rfl⟩ := List.mem_map.1 hc
    exact ⟨i, j, hi, List.mem_range.1 hj, rfl⟩
  · rintro ⟨i, j, hi, hj, rfl⟩
    exact ⟨_, ⟨i, hi, rfl⟩, List.mem_map.2 ⟨j, List.mem_range.2 hj, rfl⟩⟩
theorem grid_nodup {a b m n : Nat} (ha : a + n ≤ 64) (hb : b + m ≤ 64) : (gridC a b m n).Nodup := by
  induction n with
  | zero => simp [gridC]
  | succ n ih =>
    rw [gridC_succ, List.nodup_append]
    refine ⟨ih (by omega), ?_, fun x hx y hy e => ?_⟩
    · unfold colC
      rw [List.nodup_iff_pairwise_ne, List.pairwise_map]
      refine List.Pairwise.imp_of_mem ?_ (List.nodup_iff_pairwise_ne.1 List.nodup_range)
      intro j k hj hk hne e
      have hj := List.mem_range.1 hj
      have hk := List.mem_range.1 hk
      have := (cell_inj (n := 6) (x := a + n) (y := b + j) (u := a + n) (v := b + k) (by omega) (by omega) (by omega) (by omega) (by omega)).2
      omega
    · subst e
      obtain ⟨i, j, hi, hj, e1⟩ := mem_grid.1 hx
      unfold colC at hy
      obtain ⟨k, hk, e2⟩ := List.mem_map.1 hy
      have hk := List.mem_range.1 hk
      have := (cell_inj (n := 6) (x := a + i) (y := b + j) (u := a + n) (v := b + k) (by omega) (by omega) (by omega) (by omega) (by omega)).1
      omega
theorem grid_lt {a b m n : Nat} {c : Int} (h : c ∈ gridC a b m n) : 0 ≤ c ∧ c < 4096 := by
  obtain ⟨i, j, _, _, rfl⟩ := mem_grid.1 h
  have := hcell_lt 6 (a + i) (b + j)
  omega
/-- stretches of cells, one behind the other -/
def covM (l : List Int) : Rgs := l.foldl (fun out c => addR out (c * 1048576, (c + 1) * 1048576)) []
theorem covM_snoc (l : List Int) (c : Int) : covM (l ++ [c]) = addR (covM l) (c * 1048576, (c + 1) * 1048576) := by simp [covM]
theorem addR_len : ∀ (l : Rgs) (r : Int × Int), (addR l r).length ≤ l.length + 1
  | [], _ => Nat.le_refl _
  | [q], r => by unfold addR; split <;> simp
  | q :: q' :: t, r => by rw [addR, List.length_cons, List.length_cons]; have := addR_len (q' :: t) r; omega
theorem covM_len (l : List Int) : (covM l).length ≤ l.length := by
  have : ∀ (l : List Int) (o : Rgs), (l.foldl (fun out c => addR out (c * 1048576, (c + 1) * 1048576)) o).length ≤ o.length + l.length := by
    intro l
    induction l with
    | nil => intro o; exact Nat.le_refl _
    | cons c l ih => intro o; rw [List.foldl_cons, List.length_cons]; have := ih (addR o (c * 1048576, (c + 1) * 1048576)); have := addR_len o (c * 1048576, (c + 1) * 1048576); omega
  simpa [covM] using this l []
def inCells (l : List Int) (d : Int) : Prop := d / 1048576 ∈ l
theorem cov_fold : ∀ (q : List Int) {out : Rgs} {a : Int} {L : List Int}, Upto out (a * 1048576) (inCells L) → 0 ≤ a → (∀ c ∈ q, a ≤ c ∧ c < 4096) → (∀ c, a ≤ c → (c ∈ L ↔ c ∈ q)) → q.Pairwise (· < ·) →
    ∃ e, Upto (q.foldl (fun out c => addR out (c * 1048576, (c + 1) * 1048576)) out) e (inCells L) ∧ ∀ d, e ≤ d → ¬ inCells L d
  | [], out, a, L, u, h0, _, h2, _ => ⟨a * 1048576, u, fun d hd h => by
      have := (h2 (d / 1048576) (by omega)).1 h
      simp at this⟩
  | c :: q, out, a, L, u, h0, h1, h2, hp => by
    rw [List.foldl_cons]
    have hc := h1 c (.head _)
    rw [List.pairwise_cons] at hp
    have u1 : Upto out (c * 1048576) (inCells L) := u.skip (by omega) fun d hd1 hd2 h => by
      have h3 := (h2 (d / 1048576) (by omega)).1 h
      rcases List.mem_cons.1 h3 with e | h3
      · omega
      · have := hp.1 _ h3; omega
    have u2 : Upto (addR out (c * 1048576, (c + 1) * 1048576)) ((c + 1) * 1048576) (inCells L) := u1.add (by omega) (by omega) (by omega) fun d hd1 hd2 => by
      have : d / 1048576 = c := by omega
      unfold inCells
      rw [this]
      exact (h2 c hc.1).2 (.head _)
    refine cov_fold q u2 (by omega) (fun x hx => ⟨by have := hp.1 x hx; omega, (h1 x (.tail _ hx)).2⟩) (fun x hx => ?_) hp.2
    rw [h2 x (by omega), List.mem_cons]
    constructor
    · rintro (e | h)
      · omega
      · exact h
    · exact .inr
theorem isort_perm (l : List Int) : (isort l).Perm l := List.mergeSort_perm _ _
theorem isort_le (l : List Int) : (isort l).Pairwise (· ≤ ·) := by
  have h := List.pairwise_mergeSort (le := fun (x y : Int) => decide (x ≤ y)) (fun a b c h1 h2 => by simp at *; omega) (fun a b => by simp; omega) l
  exact h.imp fun h => by simpa using h
theorem isort_lt {l : List Int} (h : l.Nodup) : (isort l).Pairwise (· < ·) := by
  have h1 := (isort_perm l).nodup_iff.2 h
  have h2 := isort_le l
  rw [List.nodup_iff_pairwise_ne] at h1
  exact (h1.and h2).imp fun ⟨a, b⟩ => by omega
/-- the stretches of a set of cells -/
theorem cov_of {l : List Int} (h : l.Nodup) (hb : ∀ c ∈ l, 0 ≤ c ∧ c < 4096) : Sep (-1) (covM (isort l)) ∧ ∀ d, rHas (covM (isort l)) d ↔ inCells l d := by
  have hm : ∀ c, c ∈ isort l ↔ c ∈ l := fun c => (isort_perm l).mem_iff
  obtain ⟨e, u, he⟩ := cov_fold (isort l) (out := []) (a := 0) (L := l) (by simpa using Upto.nil) (by omega) (fun c hc => hb c ((hm c).1 hc)) (fun c _ => (hm c).symm) (isort_lt h)
  refine ⟨u.1, fun d => ?_⟩
  have h3 := u.2.2 d
  unfold covM
  rw [h3]
  constructor
  · exact fun ⟨_, _, h⟩ => h
  · intro hd
    have h4 := hb _ hd
    refine ⟨by omega, ?_, hd⟩
    rcases Int.lt_or_le d e with c | c
    · exact c
    · exact absurd hd (he d c)
/-- a box that may be -/
def bxOk (a b c d : Int) : Prop := 0 ≤ a ∧ a ≤ 4294967295 ∧ 0 ≤ b ∧ b ≤ 4294967295 ∧ 0 ≤ c ∧ c ≤ 4294967295 ∧ 0 ≤ d ∧ d ≤ 4294967295 ∧ a ≤ c ∧ b ≤ d
instance (a b c d : Int) : Decidable (bxOk a b c d) := by unfold bxOk; infer_instance
/-- the cells of a box -/
def bxL (a b c d : Int) : List Int := gridC (a / 67108864).toNat (b / 67108864).toNat ((d / 67108864).toNat - (b / 67108864).toNat + 1) ((c / 67108864).toNat - (a / 67108864).toNat + 1)
theorem bx_nodup {a b c d : Int} (h : bxOk a b c d) : (bxL a b c d).Nodup := by
  obtain ⟨h1, h2, h3, h4, h5, h6, h7, h8, h9, h10⟩ := h
  exact grid_nodup (by omega) (by omega)
theorem bx_mem {a b c d : Int} (h : bxOk a b c d) {k : Int} : k ∈ bxL a b c d ↔ ∃ x y : Nat, a / 67108864 ≤ x ∧ (x : Int) ≤ c / 67108864 ∧ b / 67108864 ≤ y ∧ (y : Int) ≤ d / 67108864 ∧ k = ((hcell 6 x y : Nat) : Int) := by
  obtain ⟨h1, h2, h3, h4, h5, h6, h7, h8, h9, h10⟩ := h
  unfold bxL
  rw [mem_grid]
  constructor
  · rintro ⟨i, j, hi, hj, rfl⟩
    exact ⟨_, _, by omega, by omega, by omega, by omega, rfl⟩
  · rintro ⟨x, y, e1, e2, e3, e4, rfl⟩
    refine ⟨x - (a / 67108864).toNat, y - (b / 67108864).toNat, by omega, by omega, ?_⟩
    rw [show (a / 67108864).toNat + (x - (a / 67108864).toNat) = x by omega, show (b / 67108864).toNat + (y - (b / 67108864).toNat) = y by omega]
/-- the cover of a box -/
def bxCov (a b c d : Int) : Rgs := covM (isort (bxL a b c d))
theorem bxCov_of {a b c d : Int} (h : bxOk a b c d) : Sep (-1) (bxCov a b c d) ∧ ∀ k, rHas (bxCov a b c d) k ↔ inCells (bxL a b c d) k := cov_of (bx_nodup h) fun c hc => grid_lt hc
end Go.Proofs.Yteaieinpnpnkbaa.VM
namespace Go.Proofs.Yteaieinpnpnkbaa.VM
open Go.Proofs.Yteaieinpnpnkbaa.Hil
attribute [local irreducible] Af Nx EvO Ev Un Gd Cd EvR EvQ EvC Nc Gc Lp EvM NxM AfM GdM EvMR EvMQ EvMD EvMC Nm Gm
/-- the sort of numbers, as the library has it -/
def SortI (P : Program) : Prop := (∀ {H : Heap} {b n cap e ver : Nat} {zs : List Int}, H.get b = some (.cells (zs.map (.int .i64)) e ver) → zs.length = n → 0 < n → n < 4611686018427387904 → OK P 30 [.sl b 0 n cap 1] H (.tup []) (H.put b (.cells ((isort zs).map (.int .i64)) e (ver + 1)))) ∧ ∀ {H : Heap}, OK P 30 [.nils] H (.tup []) H
section
variable {P : Program}
theorem coord_pu (g : Pg P tab) (a : Int) : Pu P 42 [.int .i64 a] (fun v => v = .bool (decide (0 ≤ a ∧ a ≤ 4294967295))) := by
  refine g.pu (vf := v42) rfl rfl ?_
  simp +contextual (maxSteps := 2000000) (disch := omega) only [v42, RX, VOp.fresh, bxC, bsC, un, most, callsOf, seval, Int.reducePow, ↓reduceIte, Nat.reduceEqDiff, reduceCtorEq]
theorem boxMay_pu (g : Pg P tab) (a b c d : Int) : Pu P 28 [.agg [.int .i64 a, .int .i64 b, .int .i64 c, .int .i64 d]] (fun v => v = .bool (decide (bxOk a b c d))) := by
  refine g.pu (vf := v28) rfl rfl ?_
  simp only [v28, RX, VOp.fresh, bxC, bsC, un, most, callsOf, seval, Int.reducePow, ↓reduceIte, Nat.reduceEqDiff, reduceCtorEq]
  refine (coord_pu g _).go rfl ?_
  rintro v rfl
  by_cases h1 : 0 ≤ a ∧ a ≤ 4294967295
  · simp only [h1, RX, VOp.fresh, bxC, bsC, un, most, callsOf, seval, Int.reducePow, ↓reduceIte, Nat.reduceEqDiff, reduceCtorEq]
    refine (coord_pu g _).go rfl ?_
    rintro v rfl
    by_cases h2 : 0 ≤ b ∧ b ≤ 4294967295
    · simp only [h2, RX, VOp.fresh, bxC, bsC, un, most, callsOf, seval, Int.reducePow, ↓reduceIte, Nat.reduceEqDiff, reduceCtorEq]
      refine (coord_pu g _).go rfl ?_
      rintro v rfl
      by_cases h3 : 0 ≤ c ∧ c ≤ 4294967295
      · simp only [h3, RX, VOp.fresh, bxC, bsC, un, most, callsOf, seval, Int.reducePow, ↓reduceIte, Nat.reduceEqDiff, reduceCtorEq]
        refine (coord_pu g _).go rfl ?_
        rintro v rfl
        by_cases h4 : 0 ≤ d ∧ d ≤ 4294967295
        · simp +contextual (maxSteps := 2000000) only [h4, bxOk, h1, h2, h3, RX, VOp.fresh, bxC, bsC, un, most, callsOf, seval, Int.reducePow, ↓reduceIte, Nat.reduceEqDiff, reduceCtorEq]
        · have f : ¬ bxOk a b c d := fun z => by unfold bxOk at z; omega
          simp only [h4, f, RX, VOp.fresh, bxC, bsC, un, most, callsOf, seval, Int.reducePow, ↓reduceIte, Nat.reduceEqDiff, reduceCtorEq]
      · have f : ¬ bxOk a b c d := fun z => by unfold bxOk at z; omega
        simp only [h3, f, RX, VOp.fresh, bxC, bsC, un, most, callsOf, seval, Int.reducePow, ↓reduceIte, Nat.reduceEqDiff, reduceCtorEq]
    · have f : ¬ bxOk a b c d := fun z => by unfold bxOk at z; omega
      simp only [h2, f, RX, VOp.fresh, bxC, bsC, un, most, callsOf, seval, Int.reducePow, ↓reduceIte, Nat.reduceEqDiff, reduceCtorEq]
  · have f : ¬ bxOk a b c d := fun z => by unfold bxOk at z; omega
    simp only [h1, f, RX, VOp.fresh, bxC, bsC, un, most, callsOf, seval, Int.reducePow, ↓reduceIte, Nat.reduceEqDiff, reduceCtorEq]
/-- the row of cells grows by a column -/
theorem of_col (g : Pg P tab) {a b c d : Int} (ok : bxOk a b c d) {bb e0 v0 x b0 m : Nat} (hb0 : b0 = (b / 67108864).toNat) (hm : b0 + m = (d / 67108864).toNat + 1) (hx : x < 64) (n : Nat) :
    ∀ (j : Nat) (s : T AV) (h : Heap) (zs : List Int) (k : List Fr) (Q : Ex → T AV → Heap → Prop), j + n = m → Row h (sg s 4) 1 ((zs ++ colC b0 x j).map (.int .i64)) (zs.length + j) → zs.length + m ≤ 4096 → (∀ q ∈ blkOf (sg s 4), bb < q) → bb < h.next → h.get bb = some (.cells [.int .i64 a, .int .i64 b, .int .i64 c, .int .i64 d] e0 v0) →
      sg s 1 = .ptr bb 0 → sg s 5 = .int .i64 x → sg s 6 = .int .i64 ((b0 + j : Nat) : Int) →
      (∀ s' h', Row h' (sg s' 4) 1 ((zs ++ colC b0 x m).map (.int .i64)) (zs.length + m) → (∀ q ∈ blkOf (sg s' 4), bb < q) → bb < h'.next → h'.get bb = some (.cells [.int .i64 a, .int .i64 b, .int .i64 c, .int .i64 d] e0 v0) → sg s' 1 = .ptr bb 0 → sg s' 5 = .int .i64 x → Un P k Q (.exit 2) s' h') → Lp P b10_0 s h (Un P k Q) := by
  obtain ⟨o1, o2, o3, o4, o5, o6, o7, o8, o9, o10⟩ := id ok
  induction n with
  | zero =>
    intro j s h zs k Q hn r hz hq hbb hg t1 t5 t6 hQ
    obtain rfl : j = m := by omega
    refine g.lpe b10_0.eq_1 ?_
    have c1 : ¬ ((b0 + j : Nat) : Int) ≤ d / 67108864 := by omega
    simp only [t1, t6, hg, c1, RX, VOp.fresh, bxC, bsC, un, most, callsOf, seval, Int.reducePow, ↓reduceIte, Nat.reduceEqDiff, reduceCtorEq]
    refine hQ _ _ ?_ ?_ hbb hg ?_ ?_
    · simp only [sg_set, Nat.reduceEqDiff, ↓reduceIte]
      exact r
    · simp only [sg_set, Nat.reduceEqDiff, ↓reduceIte]
      exact hq
    · simp only [t1, sg_set, Nat.reduceEqDiff, ↓reduceIte]
    · simp only [t5, sg_set, Nat.reduceEqDiff, ↓reduceIte]
  | succ n ih =>
    intro j s h zs k Q hn r hz hq hbb hg t1 t5 t6 hQ
    refine g.lpe b10_0.eq_1 ?_
    have c1 : ((b0 + j : Nat) : Int) ≤ d / 67108864 := by omega
    have w1 : IntKind.i64.wrap (((b0 + j : Nat) : Int) + 1) = ((b0 + (j + 1) : Nat) : Int) := by rw [w64 (by omega) (by omega)]; push_cast; omega
    simp only [t1, t5, t6, hg, c1, RX, VOp.fresh, bxC, bsC, un, most, callsOf, seval, Int.reducePow, ↓reduceIte, Nat.reduceEqDiff, reduceCtorEq]
    refine (cell_pu g (n := 6) (X := x) (Y := b0 + j) (by decide) (by decide) (by omega) (by omega)).go rfl ?_
    rintro _ rfl
    have x2 := Ext.mk (h := h) (.cells [.int .i64 ((hcell 6 x (b0 + j) : Nat) : Int)] 3 0)
    have n2 : (h.mk' h.next (.cells [.int .i64 ((hcell 6 x (b0 + j) : Nat) : Int)] 3 0)).next = h.next + 1 := by rw [mk_next]; omega
    obtain ⟨h3, e3, r3, n3, k3⟩ := (r.ext x2).push (nb := h.next) (eb := 3) (vb := 0) (c := [.int .i64 ((hcell 6 x (b0 + j) : Nat) : Int)]) (by rw [Heap.get_mk, if_pos rfl]) rfl rfl (bytes := 8) (by unfold most2; omega) 3
    rw [show (zs ++ colC b0 x j).map (AV.int .i64) ++ [.int .i64 ((hcell 6 x (b0 + j) : Nat) : Int)] = (zs ++ colC b0 x (j + 1)).map (AV.int .i64) by rw [colC_succ]; simp, Nat.add_assoc] at r3
    have g3 : h3.get bb = some (.cells [.int .i64 a, .int .i64 b, .int .i64 c, .int .i64 d] e0 v0) := by rw [k3 bb (fun hc => by have := hq bb hc; omega) (by omega), x2.2 bb hbb]; exact hg
    simp only [t6, w1, e3, n2, RX, VOp.fresh, bxC, bsC, un, most, callsOf, seval, Int.reducePow, ↓reduceIte, Nat.reduceEqDiff, reduceCtorEq]
    refine ih (j + 1) _ h3 zs k Q (by omega) ?_ hz ?_ (by omega) g3 ?_ ?_ ?_ hQ
    · simp only [sg_set, Nat.reduceEqDiff, ↓reduceIte]
      rw [n2] at r3
      exact r3
    · simp only [sg_set, Nat.reduceEqDiff, ↓reduceIte]
      intro q hq
      simp only [blkOf, List.mem_singleton] at hq
      omega
    · simp only [t1, sg_set, Nat.reduceEqDiff, ↓reduceIte]
    · simp only [t5, sg_set, Nat.reduceEqDiff, ↓reduceIte]
    · simp only [sg_set, Nat.reduceEqDiff, ↓reduceIte]
theorem of_grid (g : Pg P tab) {a b c d : Int} (ok : bxOk a b c d) {bb e0 v0 a0 b0 m N : Nat} (ha0 : a0 = (a / 67108864).toNat) (hb0 : b0 = (b / 67108864).toNat) (hm : b0 + m = (d / 67108864).toNat + 1) (hN : a0 + N = (c / 67108864).toNat + 1) (n : Nat) :
    ∀ (i : Nat) (s : T AV) (h : Heap) (k : List Fr) (Q : Ex → T AV → Heap → Prop), i + n = N → Row h (sg s 4) 1 ((gridC a0 b0 m i).map (.int .i64)) (i * m) → (∀ q ∈ blkOf (sg s 4), bb < q) → bb < h.next → h.get bb = some (.cells [.int .i64 a, .int .i64 b, .int .i64 c, .int .i64 d] e0 v0) →
      sg s 1 = .ptr bb 0 → sg s 5 = .int .i64 ((a0 + i : Nat) : Int) →
      (∀ s' h', Row h' (sg s' 4) 1 ((gridC a0 b0 m N).map (.int .i64)) (N * m) → Un P k Q (.exit 0) s' h') → Lp P b10_1 s h (Un P k Q) := by
  obtain ⟨o1, o2, o3, o4, o5, o6, o7, o8, o9, o10⟩ := id ok
  have hbd : ∀ i, i < N → i * m + m ≤ 4096 := fun i hi => by
    have h1 : (i + 1) * m ≤ 64 * 64 := Nat.mul_le_mul (by omega) (by omega)
    rw [Nat.add_mul, Nat.one_mul] at h1
    exact h1
  induction n with
  | zero =>
    intro i s h k Q hn r hq hbb hg t1 t5 hQ
    obtain rfl : i = N := by omega
    refine g.lpe b10_1.eq_1 ?_
    have c1 : ¬ ((a0 + i : Nat) : Int) ≤ c / 67108864 := by omega
    simp only [t1, t5, hg, c1, RX, VOp.fresh, bxC, bsC, un, most, callsOf, seval, Int.reducePow, ↓reduceIte, Nat.reduceEqDiff, reduceCtorEq]
    refine hQ _ _ ?_
    simp only [sg_set, Nat.reduceEqDiff, ↓reduceIte]
    exact r
  | succ n ih =>
    intro i s h k Q hn r hq hbb hg t1 t5 hQ
    refine g.lpe b10_1.eq_1 ?_
    have c1 : ((a0 + i : Nat) : Int) ≤ c / 67108864 := by omega
    have w1 : IntKind.i64.wrap (((a0 + i : Nat) : Int) + 1) = ((a0 + (i + 1) : Nat) : Int) := by rw [w64 (by omega) (by omega)]; push_cast; omega
    simp only [t1, t5, hg, c1, RX, VOp.fresh, bxC, bsC, un, most, callsOf, seval, Int.reducePow, ↓reduceIte, Nat.reduceEqDiff, reduceCtorEq]
    refine of_col g ok (bb := bb) (e0 := e0) (v0 := v0) (x := a0 + i) hb0 hm (by omega) m 0 _ h (gridC a0 b0 m i) _ _ (by omega) ?_ ?_ ?_ hbb hg ?_ ?_ ?_ ?_
    · simp only [sg_set, Nat.reduceEqDiff, ↓reduceIte]
      rw [gridC_len]
      simpa [colC] using r
    · rw [gridC_len]; exact hbd i (by omega)
    · simp only [sg_set, Nat.reduceEqDiff, ↓reduceIte]
      exact hq
    · simp only [t1, sg_set, Nat.reduceEqDiff, ↓reduceIte]
    · simp only [t5, sg_set, Nat.reduceEqDiff, ↓reduceIte]
    · simp only [sg_set, Nat.reduceEqDiff, ↓reduceIte]
      rw [hb0, Nat.add_zero]
      congr 1; omega
    · intro s' h' r' hq' hbb' hg' t1' t5'
      simp only [t5', w1, RX, VOp.fresh, bxC, bsC, un, most, callsOf, seval, Int.reducePow, ↓reduceIte, Nat.reduceEqDiff, reduceCtorEq]
      refine ih (i + 1) _ h' k Q (by omega) ?_ ?_ hbb' hg' ?_ ?_ hQ
      · simp only [sg_set, Nat.reduceEqDiff, ↓reduceIte]
        rw [gridC_len, ← gridC_succ] at r'
        rw [Nat.add_mul, Nat.one_mul]
        exact r'
      · simp only [sg_set, Nat.reduceEqDiff, ↓reduceIte]
        exact hq'
      · simp only [t1', sg_set, Nat.reduceEqDiff, ↓reduceIte]
      · simp only [sg_set, Nat.reduceEqDiff, ↓reduceIte]
theorem of_cov (g : Pg P tab) {l : List Int} (hl : l.length ≤ 4096) (hb : ∀ c ∈ l, 0 ≤ c ∧ c < 4096) {rb e0 v0 N0 : Nat} (hrb : rb < N0) (n : Nat) : ∀ (i : Nat) (s : T AV) (h : Heap) (k : List Fr) (Q : Ex → T AV → Heap → Prop), i + n = l.length → Row h (sg s 9) 2 (rcells (covM (l.take i))) (covM (l.take i)).length → (∀ q ∈ blkOf (sg s 9), N0 ≤ q) → N0 ≤ h.next →
      h.get rb = some (.cells (l.map (.int .i64)) e0 v0) → sg s 47 = .sl rb 0 l.length l.length 1 → sg s 48 = .int .i64 l.length → sg s 49 = .int .i64 i →
      (∀ s' h', Row h' (sg s' 9) 2 (rcells (covM l)) (covM l).length → Un P k Q (.exit 4) s' h') → Lp P b10_2 s h (Un P k Q) := by
  induction n with
  | zero =>
    intro i s h k Q hn r hq hN hg t47 t48 t49 hQ
    obtain rfl : i = l.length := by omega
    refine g.lpe b10_2.eq_1 ?_
    have c1 : ¬ (l.length : Int) < (l.length : Int) := by omega
    simp only [t48, t49, c1, RX, VOp.fresh, bxC, bsC, un, most, callsOf, seval, Int.reducePow, ↓reduceIte, Nat.reduceEqDiff, reduceCtorEq]
    refine hQ _ _ ?_
    simp only [sg_set, Nat.reduceEqDiff, ↓reduceIte]
    rw [List.take_length] at r
    exact r
  | succ n ih =>
    intro i s h k Q hn r hq hN hg t47 t48 t49 hQ
    refine g.lpe b10_2.eq_1 ?_
    have c1 : (i : Int) < (l.length : Int) := by omega
    have hi : i < l.length := by omega
    have w1 : IntKind.i64.wrap ((i : Int) + 1) = ((i + 1 : Nat) : Int) := by rw [w64 (by omega) (by omega)]; push_cast; rfl
    have hc := hb l[i] (List.getElem_mem hi)
    have hia : ∀ (hh : Heap), iaV hh 1 none (.sl rb 0 l.length l.length 1) (.int .i64 (i : Int)) = .val (.ptr rb i) hh := fun hh => by
      rw [iaV_sl, if_pos ⟨by omega, by omega, rfl⟩, Int.toNat_natCast, Nat.mul_one, Nat.zero_add]
    have hp : part false (l.map (AV.int .i64)) i 1 = some (.int .i64 l[i]) := part_f (r := (l.drop (i + 1)).map (AV.int .i64)) (by rw [← List.map_drop, List.drop_eq_getElem_cons hi]; rfl)
    have ht : l.take (i + 1) = l.take i ++ [l[i]] := by rw [List.take_add_one, List.getElem?_eq_getElem hi]; rfl
    generalize l[i] = c at *
    have s1 : IntKind.i64.wrap (c * 1048576) = c * 1048576 := w64 (by omega) (by omega)
    have s2 : IntKind.i64.wrap ((c + 1) * 1048576) = (c + 1) * 1048576 := w64 (by omega) (by omega)
    have s3 : IntKind.i64.wrap (c + 1) = c + 1 := w64 (by omega) (by omega)
    simp only [t47, t48, t49, c1, hia, hg, hp, s1, s2, s3, RX, VOp.fresh, bxC, bsC, un, most, callsOf, seval, Int.reducePow, ↓reduceIte, Nat.reduceEqDiff, reduceCtorEq]
    have hlen := covM_len (l.take i)
    rw [List.length_take] at hlen
    refine add_cl g r (by omega) _ _ fun v' h' r' hn' hk hq' => ?_
    simp only [t49, w1, RX, VOp.fresh, bxC, bsC, un, most, callsOf, seval, Int.reducePow, ↓reduceIte, Nat.reduceEqDiff, reduceCtorEq]
    refine ih (i + 1) _ h' k Q (by omega) ?_ ?_ (by omega) ?_ ?_ ?_ ?_ hQ
    · simp only [sg_set, Nat.reduceEqDiff, ↓reduceIte]
      rw [ht, covM_snoc]
      exact r'
    · simp only [sg_set, Nat.reduceEqDiff, ↓reduceIte]
      intro q hq2
      rcases hq' q hq2 with h1 | h1
      · exact hq q h1
      · omega
    · rw [hk rb (fun hc => by have := hq rb hc; omega) (by omega)]; exact hg
    · simp only [t47, sg_set, Nat.reduceEqDiff, ↓reduceIte]
    · simp only [t48, sg_set, Nat.reduceEqDiff, ↓reduceIte]
    · simp only [sg_set, Nat.reduceEqDiff, ↓reduceIte]
theorem Row.tup {h : Heap} {v : AV} {l : Rgs} (r : Row h v 2 (rcells l) l.length) {e : Int} : Fz false h (.tup [v, .int .i64 e]) (.tup [tRgs l, .int .i64 e]) := by
  refine .tup (.cons ?_ (.cons (.int _ _) .nil))
  rcases r with ⟨rfl, e0, _⟩ | ⟨b, eb, vb, rfl, h0, h1, h2, h3⟩
  · unfold tRgs; rw [e0, cRow_z]; exact .nils
  · unfold tRgs; rw [cRow_s _ h0]
    have hc : cut (rcells l) 0 (l.length * 2) = some (rcells l) := by rw [cut_eq, List.drop_zero, ← h2, List.take_length, if_pos rfl]
    refine .sl h0 h3 hc ?_
    clear h3 h2 hc
    induction l with
    | nil => exact .nil
    | cons r l ih =>
      have : rcells (r :: l) = .int .i64 r.1 :: .int .i64 r.2 :: rcells l := rfl
      rw [this]
      rcases Nat.eq_zero_or_pos l.length with e | e
      · rw [List.eq_nil_of_length_eq_zero e]; exact .cons (.int _ _) (.cons (.int _ _) .nil)
      · exact .cons (.int _ _) (.cons (.int _ _) (ih e))
theorem of_pu (g : Pg P tab) (hs : SortI P) (a b c d : Int) : Pu P 10 [.agg [.int .i64 a, .int .i64 b, .int .i64 c, .int .i64 d]] (fun v => (¬ bxOk a b c d ∧ v = .tup [.nils, .int .i64 600]) ∨ (bxOk a b c d ∧ v = .tup [tRgs (bxCov a b c d), .int .i64 0])) := by
  refine g.pu (vf := v10) rfl rfl ?_
  simp only [v10, RW, RX, VOp.fresh, bxC, bsC, un, most, callsOf, seval, Int.reducePow, ↓reduceIte, Nat.reduceEqDiff, reduceCtorEq]
  refine (boxMay_pu g a b c d).go rfl ?_
  rintro _ rfl
  by_cases ok : bxOk a b c d
  · simp only [ok, RW, RX, VOp.fresh, bxC, bsC, un, most, callsOf, seval, Int.reducePow, ↓reduceIte, Nat.reduceEqDiff, reduceCtorEq]
    obtain ⟨o1, o2, o3, o4, o5, o6, o7, o8, o9, o10⟩ := id ok
    obtain ⟨N, hN⟩ : ∃ N, (a / 67108864).toNat + N = (c / 67108864).toNat + 1 := ⟨(c / 67108864).toNat + 1 - (a / 67108864).toNat, by omega⟩
    obtain ⟨m, hm⟩ : ∃ m, (b / 67108864).toNat + m = (d / 67108864).toNat + 1 := ⟨(d / 67108864).toNat + 1 - (b / 67108864).toNat, by omega⟩
    refine of_grid g ok (bb := 0) (e0 := 23) (v0 := 0) (m := m) (N := N) rfl rfl hm hN N 0 _ _ _ _ (by omega) ?_ ?_ ?_ ?_ ?_ ?_ fun s' h' r => ?_
    · simp only [sg_set, Nat.reduceEqDiff, ↓reduceIte]
      rw [Nat.zero_mul]
      exact .nil _ _
    · simp only [sg_set, Nat.reduceEqDiff, ↓reduceIte]
      intro q hq; simp [blkOf] at hq
    · rw [mk_next]; omega
    · rw [Heap.get_mk, if_pos rfl]
    · simp only [sg_set, Nat.reduceEqDiff, ↓reduceIte]
    · simp only [sg_set, Nat.reduceEqDiff, ↓reduceIte]
      congr 1; omega
    · have eL : gridC (a / 67108864).toNat (b / 67108864).toNat m N = bxL a b c d := by
        unfold bxL
        rw [show (d / 67108864).toNat - (b / 67108864).toNat + 1 = m by omega, show (c / 67108864).toNat - (a / 67108864).toNat + 1 = N by omega]
      have hlen := gridC_len (a / 67108864).toNat (b / 67108864).toNat m N
      rw [eL] at r hlen
      have hb : N * m ≤ 64 * 64 := Nat.mul_le_mul (by omega) (by omega)
      have h0 : 0 < N * m := Nat.mul_pos (by omega) (by omega)
      rcases r with ⟨_, e, _⟩ | ⟨rb, eb, vb, e4, _, hrb, _, hg⟩
      · omega
      have hs1 := hs.1 hg hlen h0 (by omega) (cap := N * m)
      simp only [e4, RX, VOp.fresh, bxC, bsC, un, most, callsOf, seval, Int.reducePow, ↓reduceIte, Nat.reduceEqDiff, reduceCtorEq]
      refine hs1.cl ?_
      simp only [e4, lnV_sl, RX, VOp.fresh, bxC, bsC, un, most, callsOf, seval, Int.reducePow, ↓reduceIte, Nat.reduceEqDiff, reduceCtorEq]
      have hl := (isort_perm (bxL a b c d)).length_eq
      refine of_cov g (l := isort (bxL a b c d)) (by omega) (fun c hc => grid_lt ((isort_perm _).mem_iff.1 hc)) (rb := rb) (e0 := eb) (v0 := vb + 1) (N0 := h'.next) hrb (isort (bxL a b c d)).length 0 _ _ _ _ (by omega) ?_ ?_ ?_ ?_ ?_ ?_ ?_ ?_
      · simp only [sg_set, Nat.reduceEqDiff, ↓reduceIte]
        exact .nil _ _
      · simp only [sg_set, Nat.reduceEqDiff, ↓reduceIte]
        intro q hq; simp [blkOf] at hq
      · rw [put_next]; exact Nat.le_refl _
      · rw [Heap.get_put, if_pos rfl]
      · simp only [sg_set, Nat.reduceEqDiff, ↓reduceIte]
        rw [hl, hlen]
      · simp only [sg_set, Nat.reduceEqDiff, ↓reduceIte]
        rw [hl, hlen]
      · simp only [sg_set, Nat.reduceEqDiff, ↓reduceIte]
        rfl
      · intro s2 h2 r2
        simp only [RX, VOp.fresh, bxC, bsC, un, most, callsOf, seval, Int.reducePow, ↓reduceIte, Nat.reduceEqDiff, reduceCtorEq]
        exact ⟨_, r2.tup, .inr rfl⟩
  · simp only [ok, RW, RX, VOp.fresh, bxC, bsC, un, most, callsOf, seval, Int.reducePow, ↓reduceIte, Nat.reduceEqDiff, reduceCtorEq]
    exact ⟨_, .tup (.cons .nils (.cons (.int _ _) .nil)), .inl rfl⟩
end
end Go.Proofs.Yteaieinpnpnkbaa.VM
namespace Go.Proofs.Yteaieinpnpnkbaa.VM
attribute [local irreducible] Af Nx EvO Ev Un Gd Cd EvR EvQ EvC Nc Gc Lp EvM NxM AfM GdM EvMR EvMQ EvMD EvMC Nm Gm
abbrev Ends := List (Int × Bool)
def ecell (e : Int × Bool) : List AV := [.int .i64 e.1, .bool e.2]
def ecells (l : Ends) : List AV := (l.map ecell).flatten
def endsOf (l : Rgs) (f : Bool) : Ends := (l.map fun r => [(r.1, f), (r.2, f)]).flatten
theorem ecells_len (l : Ends) : (ecells l).length = l.length * 2 := by
  induction l with
  | nil => rfl
  | cons r l ih => rw [ecells, List.map_cons, List.flatten_cons, List.length_append]; rw [ecells] at ih; rw [ih]; simp [ecell]; omega
theorem ecells_app (a b : Ends) : ecells (a ++ b) = ecells a ++ ecells b := by simp [ecells]
theorem endsOf_len (l : Rgs) (f : Bool) : (endsOf l f).length = l.length * 2 := by
  induction l with
  | nil => rfl
  | cons r l ih => rw [endsOf, List.map_cons, List.flatten_cons, List.length_append]; rw [endsOf] at ih; rw [ih]; simp; omega
theorem endsOf_snoc (l : Rgs) (r : Int × Int) (f : Bool) : endsOf (l ++ [r]) f = endsOf l f ++ [(r.1, f), (r.2, f)] := by simp [endsOf]
/-- the sort of ends, as the library has it -/
def SortE (P : Program) : Prop := (∀ {H : Heap} {b n cap e ver : Nat} {es : Ends}, H.get b = some (.cells (ecells es) e ver) → es.length = n → 0 < n → n < 4611686018427387904 → (∀ x ∈ es, 0 ≤ x.1 ∧ x.1 ≤ 4294967296) →
  ∃ es', es'.Perm es ∧ es'.Pairwise (fun x y => x.1 ≤ y.1) ∧ OK P 59 [.sl b 0 n cap 2, .fn 60 []] H (.tup []) (H.put b (.cells (ecells es') e (ver + 1)))) ∧ ∀ {H : Heap}, OK P 59 [.nils, .fn 60 []] H (.tup []) H
section
variable {P : Program}
theorem ends_in (g : Pg P tab) {l : Rgs} {w : AV} (hw : IsL 16 RRg w l) (hl : l.length ≤ 4294967296) (o : Nat) (f : Bool) (hof : f = decide ((o : Int) = 0)) (n : Nat) : ∀ (i : Nat) (s : T AV) (h : Heap) (es : Ends) (k : List Fr) (Q : Ex → T AV → Heap → Prop), i + n = l.length → es.length ≤ 8589934592 →
      Row h (sg s 5) 2 (ecells (es ++ endsOf (l.take i) f)) (es.length + i * 2) → sg s 17 = w → sg s 18 = .int .i64 l.length → sg s 19 = .int .i64 i → sg s 6 = .int .i64 o →
      (∀ s' h', Row h' (sg s' 5) 2 (ecells (es ++ endsOf l f)) (es.length + l.length * 2) → sg s' 12 = sg s 12 → sg s' 13 = sg s 13 → Un P k Q (.exit 2) s' h') → Lp P b46_0 s h (Un P k Q) := by
  induction n with
  | zero =>
    intro i s h es k Q hn he r t17 t18 t19 t6 hQ
    obtain rfl : i = l.length := by omega
    refine g.lpe b46_0.eq_1 ?_
    have c1 : ¬ (l.length : Int) < (l.length : Int) := by omega
    simp only [t18, t19, c1, RX, VOp.fresh, bxC, bsC, un, most, callsOf, seval, Int.reducePow, ↓reduceIte, Nat.reduceEqDiff, reduceCtorEq]
    rw [List.take_length] at r
    refine hQ _ _ ?_ ?_ ?_
    · simp only [sg_set, Nat.reduceEqDiff, ↓reduceIte]
      exact r
    · simp only [sg_set, Nat.reduceEqDiff, ↓reduceIte]
    · simp only [sg_set, Nat.reduceEqDiff, ↓reduceIte]
  | succ n ih =>
    intro i s h es k Q hn he r t17 t18 t19 t6 hQ
    refine g.lpe b46_0.eq_1 ?_
    have c1 : (i : Int) < (l.length : Int) := by omega
    have hi : i < l.length := by omega
    have w1 : IntKind.i64.wrap ((i : Int) + 1) = ((i + 1 : Nat) : Int) := by rw [w64 (by omega) (by omega)]; push_cast; rfl
    obtain ⟨rr, ht, hia⟩ := atRg hw i hi
    have htk : l.take (i + 1) = l.take i ++ [l.getD i (0, 0)] := by
      rw [List.take_add_one, List.getElem?_eq_getElem hi, List.getD_eq_getElem?_getD, List.getElem?_eq_getElem hi]; rfl
    generalize l.getD i (0, 0) = p at *
    obtain ⟨x, y⟩ := p
    simp only at hia
    subst hof
    simp only [t17, t18, t19, t6, c1, hia, HN, RW, RX, VOp.fresh, bxC, bsC, un, most, callsOf, seval, Int.reducePow, ↓reduceIte, Nat.reduceEqDiff, reduceCtorEq]
    have x1 : Ext h (((h.mk' h.next (.cells [.int .i64 0, .int .i64 0] 41 0)).put h.next (.cells [.int .i64 x, .int .i64 y] 41 1)).mk' (h.next + 1) (.cells [.int .i64 x, .bool (decide ((o : Int) = 0)), .int .i64 y, .bool (decide ((o : Int) = 0))] 72 0)) := (Ext.new (h := h)).mkn (by omega) _
    have n1 : (((h.mk' h.next (.cells [.int .i64 0, .int .i64 0] 41 0)).put h.next (.cells [.int .i64 x, .int .i64 y] 41 1)).mk' (h.next + 1) (.cells [.int .i64 x, .bool (decide ((o : Int) = 0)), .int .i64 y, .bool (decide ((o : Int) = 0))] 72 0)).next = h.next + 2 := by rw [mk_next, new_next]; omega
    have g1 : (((h.mk' h.next (.cells [.int .i64 0, .int .i64 0] 41 0)).put h.next (.cells [.int .i64 x, .int .i64 y] 41 1)).mk' (h.next + 1) (.cells [.int .i64 x, .bool (decide ((o : Int) = 0)), .int .i64 y, .bool (decide ((o : Int) = 0))] 72 0)).get (h.next + 1) = some (.cells [.int .i64 x, .bool (decide ((o : Int) = 0)), .int .i64 y, .bool (decide ((o : Int) = 0))] 72 0) := by rw [Heap.get_mk, if_pos rfl]
    generalize ((h.mk' h.next (.cells [.int .i64 0, .int .i64 0] 41 0)).put h.next (.cells [.int .i64 x, .int .i64 y] 41 1)).mk' (h.next + 1) (.cells [.int .i64 x, .bool (decide ((o : Int) = 0)), .int .i64 y, .bool (decide ((o : Int) = 0))] 72 0) = h1 at *
    obtain ⟨h3, e3, r3, n3, k3⟩ := (r.ext x1).append (x := .sl (h.next + 1) 0 2 2 2) (m := 2) (cells_of g1 rfl 2) rfl (by decide) rfl rfl (bytes := 16) (by unfold most2; omega) 72
    rw [show ecells (es ++ endsOf (l.take i) (decide ((o : Int) = 0))) ++ [.int .i64 x, .bool (decide ((o : Int) = 0)), .int .i64 y, .bool (decide ((o : Int) = 0))] = ecells (es ++ endsOf (l.take (i + 1)) (decide ((o : Int) = 0))) by
      rw [htk, endsOf_snoc, ← List.append_assoc, ecells_app (es ++ endsOf (l.take i) (decide ((o : Int) = 0)))]; rfl, show es.length + i * 2 + 2 = es.length + (i + 1) * 2 by omega] at r3
    rw [show es.length + i * 2 + 2 = es.length + (i + 1) * 2 by omega] at e3
    simp only [e3, t19, w1, RX, VOp.fresh, bxC, bsC, un, most, callsOf, seval, Int.reducePow, ↓reduceIte, Nat.reduceEqDiff, reduceCtorEq]
    refine ih (i + 1) _ h3 es k Q (by omega) he ?_ ?_ ?_ ?_ ?_ fun s' h' q1 q2 q3 => hQ s' h' q1 ?_ ?_
    · simp only [sg_set, Nat.reduceEqDiff, ↓reduceIte]
      exact r3
    · simp only [t17, sg_set, Nat.reduceEqDiff, ↓reduceIte]
    · simp only [t18, sg_set, Nat.reduceEqDiff, ↓reduceIte]
    · simp only [sg_set, Nat.reduceEqDiff, ↓reduceIte]
    · simp only [t6, sg_set, Nat.reduceEqDiff, ↓reduceIte]
    · rw [q2]
      simp only [sg_set, Nat.reduceEqDiff, ↓reduceIte]
    · rw [q3]
      simp only [sg_set, Nat.reduceEqDiff, ↓reduceIte]
theorem ends_cl (g : Pg P tab) (hs : SortE P) {a b : Rgs} {v w : AV} (hv : IsL 16 RRg v a) (hw : IsL 16 RRg w b) (ha : Sep (-1) a) (hb : Sep (-1) b) {h : Heap} {Q : AV → Heap → Prop}
    (q : ∀ v' h' es, es.Perm (endsOf a true ++ endsOf b false) → es.Pairwise (fun x y => x.1 ≤ y.1) → Row h' v' 2 (ecells es) es.length → Q v' h') : Cl P 46 [v, w] h Q := by
  have la := ha.len (by omega)
  have lb := hb.len (by omega)
  refine g.cl (vf := v46) rfl rfl ?_
  have hlv := hv.len
  have hlw := hw.len
  have cv : v.cells = some [v] := by rcases hv.2 with ⟨rfl, _⟩ | ⟨c, rfl, _⟩ <;> rfl
  have cw : w.cells = some [w] := by rcases hw.2 with ⟨rfl, _⟩ | ⟨c, rfl, _⟩ <;> rfl
  simp only [v46, cv, cw, RX, VOp.fresh, bxC, bsC, un, most, callsOf, seval, Int.reducePow, ↓reduceIte, Nat.reduceEqDiff, reduceCtorEq]
  refine g.lpe b46_1.eq_1 ?_
  simp only [hlv, RX, VOp.fresh, bxC, bsC, un, most, callsOf, seval, Int.reducePow, ↓reduceIte, Nat.reduceEqDiff, reduceCtorEq]
  refine ends_in g hv (by omega) 0 true rfl a.length 0 _ _ [] _ _ (by omega) (by simp) ?_ ?_ ?_ ?_ ?_ fun s1 h1 r1 k12 k13 => ?_
  · simp only [sg_set, Nat.reduceEqDiff, ↓reduceIte]
    exact .nil _ _
  · simp only [sg_set, Nat.reduceEqDiff, ↓reduceIte]
  · simp only [sg_set, Nat.reduceEqDiff, ↓reduceIte]
  · simp only [sg_set, Nat.reduceEqDiff, ↓reduceIte]
    rfl
  · simp only [sg_set, Nat.reduceEqDiff, ↓reduceIte]
    rfl
  have t12 : sg s1 12 = .agg [v, w] := k12.trans (by simp only [sg_set, Nat.reduceEqDiff, ↓reduceIte])
  have t13 : sg s1 13 = .int .i64 0 := k13.trans (by simp only [sg_set, Nat.reduceEqDiff, ↓reduceIte])
  simp only [t13, RX, VOp.fresh, bxC, bsC, un, most, callsOf, seval, Int.reducePow, ↓reduceIte, Nat.reduceEqDiff, reduceCtorEq]
  refine g.lpe b46_1.eq_1 ?_
  simp only [t12, hlw, RX, VOp.fresh, bxC, bsC, un, most, callsOf, seval, Int.reducePow, ↓reduceIte, Nat.reduceEqDiff, reduceCtorEq]
  refine ends_in g hw (by omega) 1 false (by decide) b.length 0 _ _ (endsOf a true) _ _ (by omega) (by rw [endsOf_len]; omega) ?_ ?_ ?_ ?_ ?_ fun s2 h2 r2 k12' k13' => ?_
  · simp only [sg_set, Nat.reduceEqDiff, ↓reduceIte]
    rw [endsOf_len]
    simpa [endsOf] using r1
  · simp only [sg_set, Nat.reduceEqDiff, ↓reduceIte]
  · simp only [sg_set, Nat.reduceEqDiff, ↓reduceIte]
  · simp only [sg_set, Nat.reduceEqDiff, ↓reduceIte]
    rfl
  · simp only [sg_set, Nat.reduceEqDiff, ↓reduceIte]
    rfl
  have t13' : sg s2 13 = .int .i64 1 := k13'.trans (by simp only [sg_set, Nat.reduceEqDiff, ↓reduceIte])
  simp only [t13', RX, VOp.fresh, bxC, bsC, un, most, callsOf, seval, Int.reducePow, ↓reduceIte, Nat.reduceEqDiff, reduceCtorEq]
  refine g.lpe b46_1.eq_1 ?_
  simp only [RX, VOp.fresh, bxC, bsC, un, most, callsOf, seval, Int.reducePow, ↓reduceIte, Nat.reduceEqDiff, reduceCtorEq]
  have hall : ∀ x ∈ endsOf a true ++ endsOf b false, 0 ≤ x.1 ∧ x.1 ≤ 4294967296 := by
    have one : ∀ {l : Rgs} {f : Bool}, Sep (-1) l → ∀ x ∈ endsOf l f, 0 ≤ x.1 ∧ x.1 ≤ 4294967296 := fun {l f} hl x hx => by
      obtain ⟨c, hc, hx⟩ := List.mem_flatten.1 hx
      obtain ⟨r, hr, rfl⟩ := List.mem_map.1 hc
      have := hl.gt r hr
      rcases List.mem_cons.1 hx with rfl | hx
      · exact ⟨by omega, by omega⟩
      · rw [List.mem_singleton.1 hx]; exact ⟨by omega, by omega⟩
    intro x hx
    rcases List.mem_append.1 hx with hx | hx
    · exact one ha x hx
    · exact one hb x hx
  have hlen : (endsOf a true ++ endsOf b false).length = (endsOf a true).length + b.length * 2 := by rw [List.length_append, endsOf_len b]
  generalize ee : sg s2 5 = v5 at *
  rcases r2 with ⟨e0, e1, e2⟩ | ⟨rb, eb, vb, e0, hp, hrb, _, hg⟩
  · subst e0
    refine (hs.2).cl ?_
    simp only [ee, RX, VOp.fresh, bxC, bsC, un, most, callsOf, seval, Int.reducePow, ↓reduceIte, Nat.reduceEqDiff, reduceCtorEq]
    have e3 : endsOf a true ++ endsOf b false = [] := List.eq_nil_of_length_eq_zero (by omega)
    exact q _ _ [] (by rw [e3]) .nil (.nil _ _)
  · obtain ⟨es', p1, p2, ok⟩ := hs.1 hg hlen hp (by rw [endsOf_len]; omega) hall (cap := (endsOf a true).length + b.length * 2)
    subst e0
    refine ok.cl ?_
    simp only [ee, RX, VOp.fresh, bxC, bsC, un, most, callsOf, seval, Int.reducePow, ↓reduceIte, Nat.reduceEqDiff, reduceCtorEq]
    refine q _ _ es' p1 p2 ?_
    have e3 := p1.length_eq
    exact .inr ⟨rb, eb, vb + 1, by rw [e3, hlen], by omega, hrb, ecells_len _, by rw [Heap.get_put, if_pos rfl]⟩
end
end Go.Proofs.Yteaieinpnpnkbaa.VM
namespace Go.Proofs.Yteaieinpnpnkbaa.VM
open Go.Shelf Go.Sort
attribute [local irreducible] Af Nx EvO Ev Un Gd Cd EvR EvQ EvC Nc Gc Lp EvM NxM AfM GdM EvMR EvMQ EvMD EvMC Nm Gm
theorem range_getD {es : Ends} {n : Nat} (h : es.length = n) : (List.range n).map (fun i => es.getD i (0, false)) = es := by
  apply List.ext_getElem
  · simp [h]
  · intro i h1 h2
    simp [List.getD_eq_getElem?_getD, List.getElem?_eq_getElem h2]
section
variable {P : Program}
theorem sub_pu (g : Pg P tab) (x y : Int) (a b : Bool) (hx : 0 ≤ x ∧ x ≤ 4294967296) (hy : 0 ≤ y ∧ y ≤ 4294967296) : Pu P 60 [.agg [.int .i64 x, .bool a], .agg [.int .i64 y, .bool b]] (fun v => v = .int .i64 (x - y)) := by
  refine g.pu (vf := v60) rfl rfl ?_
  have w : IntKind.i64.wrap (x - y) = x - y := w64 (by omega) (by omega)
  simp only [v60, w, RW, RX, VOp.fresh, bxC, bsC, un, most, callsOf, seval, Int.reducePow, ↓reduceIte, Nat.reduceEqDiff, reduceCtorEq]
theorem sortE_of (g : Pg P tab) {ρ : Ren} (L : SlLaysF0.n6 P ρ) (h6 : ρ.f 6 = 59) (aE : ∀ w, (isAgg (ρ.t 24)).run P w = .ok true w) (zE : ∀ w, (Go.sizeOf (ρ.t 24)).run P w = .ok 2 w) (eg : Enters P 60) : SortE P := by
  refine ⟨fun {H b n cap e ver es} hg hl h0 hsm hall => ?_, fun {H} => by rw [← h6]; exact sortF_nil L⟩
  have hin : ∀ i, i < n → 0 ≤ (es.getD i (0, false)).1 ∧ (es.getD i (0, false)).1 ≤ 4294967296 := fun i hi => by
    have hi' : i < es.length := by omega
    rw [List.getD_eq_getElem?_getD, List.getElem?_eq_getElem hi']
    exact hall _ (List.getElem_mem hi')
  have hcells : ((List.range n).map fun i => ecell (es.getD i (0, false))).flatten = ecells es := by
    rw [ecells]
    conv => rhs; rw [← range_getD hl, List.map_map]
    rfl
  have hg' : H.get b = some (.cells ((List.range n).map fun i => ecell (es.getD i (0, false))).flatten e ver) := by rw [hcells]; exact hg
  have lt : ∀ x y : _root_.Fin n, ltOf (fun x y : _root_.Fin n => (es.getD x.1 (0, false)).1 - (es.getD y.1 (0, false)).1) x y = decide ((es.getD x.1 (0, false)).1 < (es.getD y.1 (0, false)).1) := fun x y => by
    show decide ((es.getD x.1 (0, false)).1 - (es.getD y.1 (0, false)).1 < 0) = _
    congr 1
    rw [eq_iff_iff]; omega
  obtain ⟨p, sp, ok⟩ := sortF_ok (cell := fun i => ecell (es.getD i (0, false))) (told := fun i => ecell (es.getD i (0, false))) (cap := cap) L aE zE (by decide) h0 hsm (fun _ _ => rfl) (fun _ _ => rfl) hg' eg (cf := fun i j => (es.getD i (0, false)).1 - (es.getD j (0, false)).1)
    ⟨fun x => by rw [lt]; simp, fun x y z h1 h2 => by rw [lt] at *; simp at *; omega, fun x y z h1 h2 => by rw [lt] at *; simp at *; omega⟩
    (fun i _ => Fzs.refl rfl) fun i j hi hj => sub_pu g _ _ _ _ (hin i hi) (hin j hj)
  refine ⟨p.map fun i => es.getD i (0, false), ?_, ?_, ?_⟩
  · conv => rhs; rw [← range_getD hl]
    exact sp.perm.map _
  · rw [List.pairwise_map]
    exact sp.rise.imp fun h => by omega
  · rw [h6] at ok
    have e1 : ecells (p.map fun i => es.getD i (0, false)) = (p.map fun i => ecell (es.getD i (0, false))).flatten := by
      rw [ecells, List.map_map]; rfl
    rw [e1]
    exact ok
theorem sortI_of {ρ : Ren} (L : SlLaysM.n5 P ρ) (h5 : ρ.f 5 = 30) : SortI P :=
  ⟨fun hg hl h0 hsm => by rw [← h5]; exact sortI_ok L hg hl h0 hsm, by rw [← h5]; exact sortI_nil L⟩
end
end Go.Proofs.Yteaieinpnpnkbaa.VM
namespace Go.Proofs.Yteaieinpnpnkbaa.VM
structure MS where
  out : Rgs
  a : Bool
  b : Bool
  f : Int
def mstep (op : Bool → Bool → Bool) (s : MS) (e : Int × Bool) : MS :=
  ⟨if decide (s.f < e.1) && op s.a s.b then addR s.out (s.f, e.1) else s.out, if e.2 then !s.a else s.a, if e.2 then s.b else !s.b, e.1⟩
def ms0 : MS := ⟨[], false, false, 0⟩
def mixM (op : Bool → Bool → Bool) (es : Ends) : MS := es.foldl (mstep op) ms0
theorem mixM_snoc (op : Bool → Bool → Bool) (es : Ends) (e : Int × Bool) : mixM op (es ++ [e]) = mstep op (mixM op es) e := by simp [mixM]
theorem mstep_len (op : Bool → Bool → Bool) (s : MS) (e : Int × Bool) : (mstep op s e).out.length ≤ s.out.length + 1 := by
  unfold mstep
  have := addR_len s.out (s.f, e.1)
  split <;> simp only <;> omega
theorem mixM_len (op : Bool → Bool → Bool) (es : Ends) : (mixM op es).out.length ≤ es.length := by
  have : ∀ (es : Ends) (s : MS), (es.foldl (mstep op) s).out.length ≤ s.out.length + es.length := by
    intro es
    induction es with
    | nil => intro s; exact Nat.le_refl _
    | cons e es ih => intro s; rw [List.foldl_cons, List.length_cons]; have := ih (mstep op s e); have := mstep_len op s e; omega
  simpa [mixM, ms0] using this es ms0
/-- ends of one of both, up to a place -/
def cA (t : Bool) (es : Ends) (d : Int) : Nat := es.countP fun x => (x.2 == t) && decide (x.1 ≤ d)
theorem cA_app (t : Bool) (p q : Ends) (d : Int) : cA t (p ++ q) d = cA t p d + cA t q d := List.countP_append
theorem cA_perm {t : Bool} {p q : Ends} (h : p.Perm q) (d : Int) : cA t p d = cA t q d := h.countP_eq _
theorem cA_ends (t f : Bool) (l : Rgs) (d : Int) : cA t (endsOf l f) d = if f = t then cntE l d else 0 := by
  induction l with
  | nil => simp [cA, endsOf, cntE]
  | cons r l ih =>
    have e : endsOf (r :: l) f = [(r.1, f), (r.2, f)] ++ endsOf l f := by simp [endsOf]
    rw [e, cA_app, ih]
    by_cases h : f = t
    · subst h
      rw [if_pos rfl, if_pos rfl, cntE]
      simp only [cA, List.countP_cons, List.countP_nil, beq_self_eq_true, Bool.true_and, decide_eq_true_eq]
      omega
    · rw [if_neg h, if_neg h]
      simp [cA, h]
theorem cA_all {t : Bool} {es : Ends} {d : Int} (h : ∀ x ∈ es, x.1 ≤ d) : cA t es d = es.countP fun x => x.2 == t := by
  refine List.countP_congr fun x hx => ?_
  simp [h x hx]
theorem cA_none {t : Bool} {es : Ends} {d : Int} (h : ∀ x ∈ es, d < x.1) : cA t es d = 0 := by
  refine List.countP_eq_zero.2 fun x hx => ?_
  have := h x hx
  simp; omega
structure MInv (S : Int → Prop) (p q : Ends) (s : MS) : Prop where
  a : s.a = decide ((p.countP fun x => x.2 == true) % 2 = 1)
  b : s.b = decide ((p.countP fun x => x.2 == false) % 2 = 1)
  le : ∀ x ∈ p, x.1 ≤ s.f
  ge : ∀ x ∈ q, s.f ≤ x.1
  f0 : 0 ≤ s.f
  up : Upto s.out s.f S
theorem odd_flip (n : Nat) : decide ((n + 1) % 2 = 1) = !decide (n % 2 = 1) := by
  rcases Nat.mod_two_eq_zero_or_one n with h | h
  · have : (n + 1) % 2 = 1 := by omega
    simp [h, this]
  · have : (n + 1) % 2 = 0 := by omega
    simp [h, this]
section
variable {a b : Rgs} {op : Bool → Bool → Bool}
theorem has_cnt {l : Rgs} (h : Sep (-1) l) (d : Int) : hasB l d = decide (cntE l d % 2 = 1) := by
  rw [Bool.eq_iff_iff, hasB_iff, decide_eq_true_eq, cntE_odd h]
theorem minv_step (ha : Sep (-1) a) (hb : Sep (-1) b) {es p q : Ends} {e : Int × Bool} {s : MS} (hp : es.Perm (endsOf a true ++ endsOf b false)) (hs : es.Pairwise fun x y => x.1 ≤ y.1) (he : es = p ++ e :: q) (hm : e.1 ≤ 4294967296)
    (i : MInv (fun d => op (hasB a d) (hasB b d) = true) p (e :: q) s) : MInv (fun d => op (hasB a d) (hasB b d) = true) (p ++ [e]) q (mstep op s e) := by
  have hle := i.ge e (.head _)
  have hq : ∀ x ∈ q, e.1 ≤ x.1 := by
    rw [he] at hs
    exact (List.pairwise_cons.1 (List.pairwise_append.1 hs).2.1).1
  have key : ∀ d, s.f ≤ d → d < e.1 → hasB a d = s.a ∧ hasB b d = s.b := by
    intro d h1 h2
    have hc : ∀ t, cA t es d = p.countP fun x => x.2 == t := fun t => by
      rw [he, cA_app, cA_all (fun x hx => Int.le_trans (i.le x hx) h1), cA_none (fun x hx => ?_), Nat.add_zero]
      rcases List.mem_cons.1 hx with rfl | hx
      · exact h2
      · have := hq x hx; omega
    have h3 := hc true
    have h4 := hc false
    rw [cA_perm hp, cA_app, cA_ends, cA_ends] at h3 h4
    simp only [if_true, Bool.false_eq_true, if_false, Nat.add_zero, Nat.zero_add] at h3 h4
    rw [if_neg (by decide), Nat.zero_add] at h4
    rw [has_cnt ha, has_cnt hb, h3, h4, i.a, i.b]
    exact ⟨rfl, rfl⟩
  refine ⟨?_, ?_, fun x hx => ?_, hq, by show 0 ≤ e.1; have := i.f0; omega, ?_⟩
  · rw [List.countP_append]
    simp only [mstep, List.countP_cons, List.countP_nil, i.a]
    cases e.2
    · simp
    · simpa using (odd_flip _).symm
  · rw [List.countP_append]
    simp only [mstep, List.countP_cons, List.countP_nil, i.b]
    cases e.2
    · simpa using (odd_flip _).symm
    · simp
  · rcases List.mem_append.1 hx with hx | hx
    · exact Int.le_trans (i.le x hx) hle
    · rw [List.mem_singleton.1 hx]; exact Int.le_refl _
  · show Upto (if decide (s.f < e.1) && op s.a s.b then addR s.out (s.f, e.1) else s.out) e.1 _
    by_cases h1 : s.f < e.1
    · cases h2 : op s.a s.b with
      | true =>
        rw [if_pos (by simp [h1])]
        exact i.up.add i.f0 h1 hm fun d k1 k2 => by rw [(key d k1 k2).1, (key d k1 k2).2]; exact h2
      | false =>
        rw [if_neg (by simp)]
        exact i.up.skip hle fun d k1 k2 => by rw [(key d k1 k2).1, (key d k1 k2).2, h2]; decide
    · rw [if_neg (by simp [h1])]
      exact i.up.skip hle fun d k1 k2 => by omega
theorem minv_fold (ha : Sep (-1) a) (hb : Sep (-1) b) {es : Ends} (hp : es.Perm (endsOf a true ++ endsOf b false)) (hs : es.Pairwise fun x y => x.1 ≤ y.1) (hm : ∀ e ∈ es, e.1 ≤ 4294967296) : ∀ (q p : Ends) (s : MS), es = p ++ q →
    MInv (fun d => op (hasB a d) (hasB b d) = true) p q s → MInv (fun d => op (hasB a d) (hasB b d) = true) es [] (q.foldl (mstep op) s)
  | [], p, s, he, i => by rw [List.append_nil] at he; rw [he]; exact i
  | e :: q, p, s, he, i => by
    rw [List.foldl_cons]
    exact minv_fold ha hb hp hs hm q (p ++ [e]) _ (by rw [he]; simp) (minv_step ha hb hp hs he (hm e (by rw [he]; simp)) i)
/-- what is mixed -/
theorem mix_of (ha : Sep (-1) a) (hb : Sep (-1) b) (h0 : op false false = false) {es : Ends} (hp : es.Perm (endsOf a true ++ endsOf b false)) (hs : es.Pairwise fun x y => x.1 ≤ y.1) :
    Sep (-1) (mixM op es).out ∧ ∀ d, rHas (mixM op es).out d ↔ op (hasB a d) (hasB b d) = true := by
  have hall : ∀ x ∈ es, 0 ≤ x.1 ∧ x.1 ≤ 4294967296 := by
    have one : ∀ {l : Rgs} {f : Bool}, Sep (-1) l → ∀ x ∈ endsOf l f, 0 ≤ x.1 ∧ x.1 ≤ 4294967296 := fun {l f} hl x hx => by
      obtain ⟨c, hc, hx⟩ := List.mem_flatten.1 hx
      obtain ⟨r, hr, rfl⟩ := List.mem_map.1 hc
      have := hl.gt r hr
      rcases List.mem_cons.1 hx with rfl | hx
      · exact ⟨by omega, by omega⟩
      · rw [List.mem_singleton.1 hx]; exact ⟨by omega, by omega⟩
    intro x hx
    rcases List.mem_append.1 (hp.mem_iff.1 hx) with hx | hx
    · exact one ha x hx
    · exact one hb x hx
  have i := minv_fold (op := op) ha hb hp hs (fun e he => (hall e he).2) es [] ms0 rfl ⟨by simp [ms0], by simp [ms0], fun x hx => by simp at hx, fun x hx => (hall x hx).1, Int.le_refl _, Upto.nil⟩
  change MInv _ es [] (mixM op es) at i
  refine ⟨i.up.1, fun d => ?_⟩
  rw [i.up.2.2 d]
  have neg : ∀ {l : Rgs}, Sep (-1) l → d < 0 → hasB l d = false := fun hl hd => by
    rw [has_cnt hl, cntE_zero hl (by omega)]; rfl
  have far : ∀ {l : Rgs}, Sep (-1) l → (∀ r ∈ l, r.1 ≤ d ∧ r.2 ≤ d) → hasB l d = false := fun hl hd => by
    rw [has_cnt hl, cntE_all hd]; simp
  constructor
  · exact fun ⟨_, _, h⟩ => h
  · intro h
    have h1 : 0 ≤ d := by
      rcases Int.lt_or_le d 0 with c | c
      · rw [neg ha c, neg hb c, h0] at h; cases h
      · exact c
    refine ⟨h1, ?_, h⟩
    rcases Int.lt_or_le d (mixM op es).f with c | c
    · exact c
    · exfalso
      have mem : ∀ {l : Rgs} {f : Bool}, (∀ x ∈ endsOf l f, x ∈ es) → ∀ r ∈ l, r.1 ≤ d ∧ r.2 ≤ d := fun {l f} hl r hr => by
        have h1 : (r.1, f) ∈ endsOf l f := List.mem_flatten.2 ⟨_, List.mem_map.2 ⟨r, hr, rfl⟩, by simp⟩
        have h2 : (r.2, f) ∈ endsOf l f := List.mem_flatten.2 ⟨_, List.mem_map.2 ⟨r, hr, rfl⟩, by simp⟩
        exact ⟨Int.le_trans (i.le _ (hl _ h1)) c, Int.le_trans (i.le _ (hl _ h2)) c⟩
      rw [far ha (mem (f := true) fun x hx => hp.mem_iff.2 (List.mem_append_left _ hx)), far hb (mem (f := false) fun x hx => hp.mem_iff.2 (List.mem_append_right _ hx)), h0] at h
      cases h
end
end Go.Proofs.Yteaieinpnpnkbaa.VM
namespace Go.Proofs.Yteaieinpnpnkbaa.VM
attribute [local irreducible] Af Nx EvO Ev Un Gd Cd EvR EvQ EvC Nc Gc Lp EvM NxM AfM GdM EvMR EvMQ EvMD EvMC Nm Gm
theorem ecells_at {l : Ends} {i : Nat} (hi : i < l.length) : part true (ecells l) (i * 2) 2 = some (.agg (ecell l[i])) := by
  have e : (ecells l).drop (i * 2) = ecell l[i] ++ ecells (l.drop (i + 1)) := by
    have h1 : l = l.take i ++ l[i] :: l.drop (i + 1) := by rw [← List.drop_eq_getElem_cons hi, List.take_append_drop]
    have h2 : (ecells (l.take i)).length = i * 2 := by rw [ecells_len, List.length_take]; omega
    conv => lhs; rw [h1]
    rw [ecells_app, List.drop_left' h2]
    rfl
  simp [part, cut, e, ecell]
section
variable {P : Program}
theorem union_pu (g : Pg P tab) (x y : Bool) : Pu P 35 [.bool x, .bool y] (fun v => v = .bool (x || y)) := by
  refine g.pu (vf := v35) rfl rfl ?_
  cases x <;> cases y <;> simp only [v35, RX, VOp.fresh, bxC, bsC, un, most, callsOf, seval, Int.reducePow, ↓reduceIte, Nat.reduceEqDiff, reduceCtorEq] <;> rfl
theorem common_pu (g : Pg P tab) (x y : Bool) : Pu P 37 [.bool x, .bool y] (fun v => v = .bool (x && y)) := by
  refine g.pu (vf := v37) rfl rfl ?_
  cases x <;> cases y <;> simp only [v37, RX, VOp.fresh, bxC, bsC, un, most, callsOf, seval, Int.reducePow, ↓reduceIte, Nat.reduceEqDiff, reduceCtorEq] <;> rfl
theorem less_pu (g : Pg P tab) (x y : Bool) : Pu P 38 [.bool x, .bool y] (fun v => v = .bool (x && !y)) := by
  refine g.pu (vf := v38) rfl rfl ?_
  cases x <;> cases y <;> simp only [v38, RX, VOp.fresh, bxC, bsC, un, most, callsOf, seval, Int.reducePow, ↓reduceIte, Nat.reduceEqDiff, reduceCtorEq] <;> rfl
theorem mix_loop (g : Pg P tab) {fn : Nat} {op : Bool → Bool → Bool} (hop : ∀ x y, Pu P fn [.bool x, .bool y] (fun v => v = .bool (op x y))) {es : Ends} (hes : es.length ≤ 8796093022200) {rb e0 v0 : Nat} (n : Nat) :
    ∀ (i : Nat) (s : T AV) (h : Heap) (k : List Fr) (Q : Ex → T AV → Heap → Prop), i + n = es.length → Row h (sg s 8) 2 (rcells (mixM op (es.take i)).out) (mixM op (es.take i)).out.length → (∀ q ∈ blkOf (sg s 8), rb < q) → rb < h.next → h.get rb = some (.cells (ecells es) e0 v0) →
      sg s 2 = .fn fn [] → sg s 9 = .bool (mixM op (es.take i)).a → sg s 10 = .bool (mixM op (es.take i)).b → sg s 11 = .int .i64 (mixM op (es.take i)).f → sg s 24 = .sl rb 0 es.length es.length 2 → sg s 25 = .int .i64 es.length → sg s 26 = .int .i64 i →
      (∀ s' h', Row h' (sg s' 8) 2 (rcells (mixM op es).out) (mixM op es).out.length → Un P k Q (.exit 0) s' h') → Lp P b34_0 s h (Un P k Q) := by
  induction n with
  | zero =>
    intro i s h k Q hn r hq hrb hg t2 t9 t10 t11 t24 t25 t26 hQ
    obtain rfl : i = es.length := by omega
    refine g.lpe b34_0.eq_1 ?_
    have c1 : ¬ (es.length : Int) < (es.length : Int) := by omega
    simp only [t25, t26, c1, RX, VOp.fresh, bxC, bsC, un, most, callsOf, seval, Int.reducePow, ↓reduceIte, Nat.reduceEqDiff, reduceCtorEq]
    rw [List.take_length] at r
    refine hQ _ _ ?_
    simp only [sg_set, Nat.reduceEqDiff, ↓reduceIte]
    exact r
  | succ n ih =>
    intro i s h k Q hn r hq hrb hg t2 t9 t10 t11 t24 t25 t26 hQ
    refine g.lpe b34_0.eq_1 ?_
    have c1 : (i : Int) < (es.length : Int) := by omega
    have hi : i < es.length := by omega
    have w1 : IntKind.i64.wrap ((i : Int) + 1) = ((i + 1 : Nat) : Int) := by rw [w64 (by omega) (by omega)]; push_cast; rfl
    have hia : ∀ (hh : Heap), iaV hh 2 none (.sl rb 0 es.length es.length 2) (.int .i64 (i : Int)) = .val (.ptr rb (i * 2)) hh := fun hh => by
      rw [iaV_sl, if_pos ⟨by omega, by omega, rfl⟩, Int.toNat_natCast, Nat.zero_add]
    have hp := ecells_at hi
    have htk : es.take (i + 1) = es.take i ++ [es[i]] := by rw [List.take_add_one, List.getElem?_eq_getElem hi]; rfl
    have hm := mixM_snoc op (es.take i) es[i]
    rw [← htk] at hm
    have hlen := mixM_len op (es.take i)
    rw [List.length_take] at hlen
    have hloop := fun s h => ih (i + 1) s h k Q (by omega)
    rw [hm] at hloop
    generalize mixM op (es.take i) = m at *
    generalize es[i] = e at *
    obtain ⟨x, f⟩ := e
    simp only [ecell] at hp
    unfold mstep at hloop
    simp only at hloop
    simp only [t24, t25, t26, t11, c1, hia, hg, hp, HN, RW, RX, VOp.fresh, bxC, bsC, un, most, callsOf, seval, Int.reducePow, ↓reduceIte, Nat.reduceEqDiff, reduceCtorEq]
    have x1 : Ext h ((h.mk' h.next (.cells [.int .i64 0, .bool false] 72 0)).put h.next (.cells [.int .i64 x, .bool f] 72 1)) := Ext.new
    have n1 : ((h.mk' h.next (.cells [.int .i64 0, .bool false] 72 0)).put h.next (.cells [.int .i64 x, .bool f] 72 1)).next = h.next + 1 := new_next
    have g1 : ((h.mk' h.next (.cells [.int .i64 0, .bool false] 72 0)).put h.next (.cells [.int .i64 x, .bool f] 72 1)).get h.next = some (.cells [.int .i64 x, .bool f] 72 1) := by rw [Heap.get_put, if_pos rfl]
    generalize (h.mk' h.next (.cells [.int .i64 0, .bool false] 72 0)).put h.next (.cells [.int .i64 x, .bool f] 72 1) = h1 at *
    have r1 := r.ext x1
    have gr : h1.get rb = some (.cells (ecells es) e0 v0) := (x1.2 rb hrb).trans hg
    by_cases c2 : m.f < x
    · simp only [t2, t9, t10, t11, c2, g1, RW, RX, VOp.fresh, bxC, bsC, un, most, callsOf, seval, Int.reducePow, ↓reduceIte, Nat.reduceEqDiff, reduceCtorEq]
      refine (hop m.a m.b).go rfl ?_
      rintro _ rfl
      cases hopv : op m.a m.b with
      | true =>
        simp only [t11, g1, RW, RX, VOp.fresh, bxC, bsC, un, most, callsOf, seval, Int.reducePow, ↓reduceIte, Nat.reduceEqDiff, reduceCtorEq]
        refine add_cl g r1 (by omega) _ _ fun v' h2 r2 hn2 hk2 hq2 => ?_
        have g2 : h2.get h.next = some (.cells [.int .i64 x, .bool f] 72 1) := (hk2 h.next (fun hc => by have := r.lt _ hc; omega) (by omega)).trans g1
        have gr2 : h2.get rb = some (.cells (ecells es) e0 v0) := (hk2 rb (fun hc => by have := hq _ hc; omega) (by omega)).trans gr
        have q2 : ∀ q ∈ blkOf v', rb < q := fun q hc => by
          rcases hq2 q hc with h3 | h3
          · exact hq q h3
          · omega
        cases f with
        | true =>
          simp only [t9, t26, w1, g2, RW, RX, VOp.fresh, bxC, bsC, un, most, callsOf, seval, Int.reducePow, ↓reduceIte, Nat.reduceEqDiff, reduceCtorEq]
          refine hloop _ h2 ?_ ?_ (by omega) gr2 ?_ ?_ ?_ ?_ ?_ ?_ ?_ hQ
          · simp only [sg_set, Nat.reduceEqDiff, ↓reduceIte]
            simpa [c2, hopv] using r2
          · simp only [sg_set, Nat.reduceEqDiff, ↓reduceIte]
            exact q2
          · simp only [t2, sg_set, Nat.reduceEqDiff, ↓reduceIte]
          · simp only [sg_set, Nat.reduceEqDiff, ↓reduceIte]
          · simp only [t10, sg_set, Nat.reduceEqDiff, ↓reduceIte]
          · simp only [sg_set, Nat.reduceEqDiff, ↓reduceIte]
          · simp only [t24, sg_set, Nat.reduceEqDiff, ↓reduceIte]
          · simp only [t25, sg_set, Nat.reduceEqDiff, ↓reduceIte]
          · simp only [sg_set, Nat.reduceEqDiff, ↓reduceIte]
        | false =>
          simp only [t10, t26, w1, g2, RW, RX, VOp.fresh, bxC, bsC, un, most, callsOf, seval, Int.reducePow, ↓reduceIte, Nat.reduceEqDiff, reduceCtorEq]
          refine hloop _ h2 ?_ ?_ (by omega) gr2 ?_ ?_ ?_ ?_ ?_ ?_ ?_ hQ
          · simp only [sg_set, Nat.reduceEqDiff, ↓reduceIte]
            simpa [c2, hopv] using r2
          · simp only [sg_set, Nat.reduceEqDiff, ↓reduceIte]
            exact q2
          · simp only [t2, sg_set, Nat.reduceEqDiff, ↓reduceIte]
          · simp only [t9, Bool.false_eq_true, if_false, sg_set, Nat.reduceEqDiff, ↓reduceIte]
          · simp only [Bool.false_eq_true, if_false, sg_set, Nat.reduceEqDiff, ↓reduceIte]
          · simp only [sg_set, Nat.reduceEqDiff, ↓reduceIte]
          · simp only [t24, sg_set, Nat.reduceEqDiff, ↓reduceIte]
          · simp only [t25, sg_set, Nat.reduceEqDiff, ↓reduceIte]
          · simp only [sg_set, Nat.reduceEqDiff, ↓reduceIte]
      | false =>
        cases f with
        | true =>
          simp only [t9, t26, w1, g1, RW, RX, VOp.fresh, bxC, bsC, un, most, callsOf, seval, Int.reducePow, ↓reduceIte, Nat.reduceEqDiff, reduceCtorEq]
          refine hloop _ h1 ?_ ?_ (by omega) gr ?_ ?_ ?_ ?_ ?_ ?_ ?_ hQ
          · simp only [sg_set, Nat.reduceEqDiff, ↓reduceIte]
            simpa [c2, hopv] using r1
          · simp only [sg_set, Nat.reduceEqDiff, ↓reduceIte]
            exact hq
          · simp only [t2, sg_set, Nat.reduceEqDiff, ↓reduceIte]
          · simp only [sg_set, Nat.reduceEqDiff, ↓reduceIte]
          · simp only [t10, sg_set, Nat.reduceEqDiff, ↓reduceIte]
          · simp only [sg_set, Nat.reduceEqDiff, ↓reduceIte]
          · simp only [t24, sg_set, Nat.reduceEqDiff, ↓reduceIte]
          · simp only [t25, sg_set, Nat.reduceEqDiff, ↓reduceIte]
          · simp only [sg_set, Nat.reduceEqDiff, ↓reduceIte]
        | false =>
          simp only [t10, t26, w1, g1, RW, RX, VOp.fresh, bxC, bsC, un, most, callsOf, seval, Int.reducePow, ↓reduceIte, Nat.reduceEqDiff, reduceCtorEq]
          refine hloop _ h1 ?_ ?_ (by omega) gr ?_ ?_ ?_ ?_ ?_ ?_ ?_ hQ
          · simp only [sg_set, Nat.reduceEqDiff, ↓reduceIte]
            simpa [c2, hopv] using r1
          · simp only [sg_set, Nat.reduceEqDiff, ↓reduceIte]
            exact hq
          · simp only [t2, sg_set, Nat.reduceEqDiff, ↓reduceIte]
          · simp only [t9, Bool.false_eq_true, if_false, sg_set, Nat.reduceEqDiff, ↓reduceIte]
          · simp only [Bool.false_eq_true, if_false, sg_set, Nat.reduceEqDiff, ↓reduceIte]
          · simp only [sg_set, Nat.reduceEqDiff, ↓reduceIte]
          · simp only [t24, sg_set, Nat.reduceEqDiff, ↓reduceIte]
          · simp only [t25, sg_set, Nat.reduceEqDiff, ↓reduceIte]
          · simp only [sg_set, Nat.reduceEqDiff, ↓reduceIte]
    · cases f with
      | true =>
        simp only [t9, t11, t26, w1, c2, g1, RW, RX, VOp.fresh, bxC, bsC, un, most, callsOf, seval, Int.reducePow, ↓reduceIte, Nat.reduceEqDiff, reduceCtorEq]
        refine hloop _ h1 ?_ ?_ (by omega) gr ?_ ?_ ?_ ?_ ?_ ?_ ?_ hQ
        · simp only [sg_set, Nat.reduceEqDiff, ↓reduceIte]
          simpa [c2] using r1
        · simp only [sg_set, Nat.reduceEqDiff, ↓reduceIte]
          exact hq
        · simp only [t2, sg_set, Nat.reduceEqDiff, ↓reduceIte]
        · simp only [sg_set, Nat.reduceEqDiff, ↓reduceIte]
        · simp only [t10, sg_set, Nat.reduceEqDiff, ↓reduceIte]
        · simp only [sg_set, Nat.reduceEqDiff, ↓reduceIte]
        · simp only [t24, sg_set, Nat.reduceEqDiff, ↓reduceIte]
        · simp only [t25, sg_set, Nat.reduceEqDiff, ↓reduceIte]
        · simp only [sg_set, Nat.reduceEqDiff, ↓reduceIte]
      | false =>
        simp only [t10, t11, t26, w1, c2, g1, RW, RX, VOp.fresh, bxC, bsC, un, most, callsOf, seval, Int.reducePow, ↓reduceIte, Nat.reduceEqDiff, reduceCtorEq]
        refine hloop _ h1 ?_ ?_ (by omega) gr ?_ ?_ ?_ ?_ ?_ ?_ ?_ hQ
        · simp only [sg_set, Nat.reduceEqDiff, ↓reduceIte]
          simpa [c2] using r1
        · simp only [sg_set, Nat.reduceEqDiff, ↓reduceIte]
          exact hq
        · simp only [t2, sg_set, Nat.reduceEqDiff, ↓reduceIte]
        · simp only [t9, Bool.false_eq_true, if_false, sg_set, Nat.reduceEqDiff, ↓reduceIte]
        · simp only [Bool.false_eq_true, if_false, sg_set, Nat.reduceEqDiff, ↓reduceIte]
        · simp only [sg_set, Nat.reduceEqDiff, ↓reduceIte]
        · simp only [t24, sg_set, Nat.reduceEqDiff, ↓reduceIte]
        · simp only [t25, sg_set, Nat.reduceEqDiff, ↓reduceIte]
        · simp only [sg_set, Nat.reduceEqDiff, ↓reduceIte]
end
end Go.Proofs.Yteaieinpnpnkbaa.VM
namespace Go.Proofs.Yteaieinpnpnkbaa.VM
attribute [local irreducible] Af Nx EvO Ev Un Gd Cd EvR EvQ EvC Nc Gc Lp EvM NxM AfM GdM EvMR EvMQ EvMD EvMC Nm Gm
/-- what two rows of stretches come to -/
def MixR (op : Bool → Bool → Bool) (a b : Rgs) (z : AV) : Prop :=
  (¬ (sepB (-1) a = true ∧ sepB (-1) b = true) ∧ z = .tup [.nils, .int .i64 600]) ∨ (sepB (-1) a = true ∧ sepB (-1) b = true ∧ ∃ r, Sep (-1) r ∧ (∀ d, rHas r d ↔ op (hasB a d) (hasB b d) = true) ∧ z = .tup [tRgs r, .int .i64 0])
/-- the same, live -/
def MixC (op : Bool → Bool → Bool) (a b : Rgs) (z : AV) (h : Heap) : Prop := ∃ x e, z = .tup [x, .int .i64 e] ∧
  ((¬ (sepB (-1) a = true ∧ sepB (-1) b = true) ∧ x = .nils ∧ e = 600) ∨ (sepB (-1) a = true ∧ sepB (-1) b = true ∧ e = 0 ∧ ∃ r, Sep (-1) r ∧ (∀ d, rHas r d ↔ op (hasB a d) (hasB b d) = true) ∧ Row h x 2 (rcells r) r.length))
section
variable {P : Program}
theorem mix_cl (g : Pg P tab) (hs : SortE P) {fn : Nat} {op : Bool → Bool → Bool} (h0 : op false false = false) (hop : ∀ x y, Pu P fn [.bool x, .bool y] (fun v => v = .bool (op x y))) {a b : Rgs} {v w : AV} (hv : IsL 16 RRg v a) (hw : IsL 16 RRg w b) {h : Heap} : Cl P 34 [v, w, .fn fn []] h (MixC op a b) := by
  refine g.cl (vf := v34) rfl rfl ?_
  simp only [v34, RX, VOp.fresh, bxC, bsC, un, most, callsOf, seval, Int.reducePow, ↓reduceIte, Nat.reduceEqDiff, reduceCtorEq]
  refine (may_pu g hv).go (by simp [AV.tolds, hv.told tRg]) ?_
  rintro _ rfl
  cases ha : sepB (-1) a with
  | false =>
    simp only [RX, VOp.fresh, bxC, bsC, un, most, callsOf, seval, Int.reducePow, ↓reduceIte, Nat.reduceEqDiff, reduceCtorEq]
    exact ⟨_, _, rfl, .inl ⟨by rw [ha]; simp, rfl, rfl⟩⟩
  | true =>
    simp only [RX, VOp.fresh, bxC, bsC, un, most, callsOf, seval, Int.reducePow, ↓reduceIte, Nat.reduceEqDiff, reduceCtorEq]
    refine (may_pu g hw).go (by simp [AV.tolds, hw.told tRg]) ?_
    rintro _ rfl
    cases hb : sepB (-1) b with
    | false =>
      simp only [RX, VOp.fresh, bxC, bsC, un, most, callsOf, seval, Int.reducePow, ↓reduceIte, Nat.reduceEqDiff, reduceCtorEq]
      exact ⟨_, _, rfl, .inl ⟨by rw [hb]; simp, rfl, rfl⟩⟩
    | true =>
      simp only [RX, VOp.fresh, bxC, bsC, un, most, callsOf, seval, Int.reducePow, ↓reduceIte, Nat.reduceEqDiff, reduceCtorEq]
      have sa := sepB_iff.1 ha
      have sb := sepB_iff.1 hb
      refine ends_cl g hs hv hw sa sb fun v' h' es p1 p2 r => ?_
      have la := sa.len (by omega)
      have lb := sb.len (by omega)
      have le := p1.length_eq
      rw [List.length_append, endsOf_len, endsOf_len] at le
      obtain ⟨q1, q2⟩ := mix_of (op := op) sa sb h0 p1 p2
      have hlen := r.len
      have fin : ∀ (v2 : AV) (h2 : Heap), Row h2 v2 2 (rcells (mixM op es).out) (mixM op es).out.length → MixC op a b (.tup [v2, .int .i64 0]) h2 := fun v2 h2 r2 => ⟨_, _, rfl, .inr ⟨ha, hb, rfl, _, q1, q2, r2⟩⟩
      rcases r with ⟨rfl, e0, _⟩ | ⟨rb, eb, vb, rfl, hp, hrb, hcl, hg⟩
      · obtain rfl : es = [] := List.eq_nil_of_length_eq_zero e0
        have c : ¬ (0 : Int) < 0 := by omega
        simp only [hlen, RX, VOp.fresh, bxC, bsC, un, most, callsOf, seval, Int.reducePow, ↓reduceIte, Nat.reduceEqDiff, reduceCtorEq]
        refine g.lpe b34_0.eq_1 ?_
        simp only [RX, VOp.fresh, bxC, bsC, un, most, callsOf, seval, Int.reducePow, ↓reduceIte, Nat.reduceEqDiff, reduceCtorEq]
        exact fin _ _ (.nil _ _)
      · simp only [hlen, RX, VOp.fresh, bxC, bsC, un, most, callsOf, seval, Int.reducePow, ↓reduceIte, Nat.reduceEqDiff, reduceCtorEq]
        refine mix_loop g hop (es := es) (by omega) (rb := rb) (e0 := eb) (v0 := vb) es.length 0 _ _ _ _ (by omega) ?_ ?_ hrb hg ?_ ?_ ?_ ?_ ?_ ?_ ?_ fun s2 h2 r2 => ?_
        · simp only [sg_set, Nat.reduceEqDiff, ↓reduceIte]
          exact .nil _ _
        · simp only [sg_set, Nat.reduceEqDiff, ↓reduceIte]
          intro q hq; simp [blkOf] at hq
        · simp only [sg_set, Nat.reduceEqDiff, ↓reduceIte]
        · simp only [sg_set, Nat.reduceEqDiff, ↓reduceIte]
          rfl
        · simp only [sg_set, Nat.reduceEqDiff, ↓reduceIte]
          rfl
        · simp only [sg_set, Nat.reduceEqDiff, ↓reduceIte]
          rfl
        · simp only [sg_set, Nat.reduceEqDiff, ↓reduceIte]
        · simp only [sg_set, Nat.reduceEqDiff, ↓reduceIte]
        · simp only [sg_set, Nat.reduceEqDiff, ↓reduceIte]
          rfl
        · simp only [RX, VOp.fresh, bxC, bsC, un, most, callsOf, seval, Int.reducePow, ↓reduceIte, Nat.reduceEqDiff, reduceCtorEq]
          exact fin _ _ r2
theorem MixC.pu {op : Bool → Bool → Bool} {a b : Rgs} {z : AV} {h : Heap} (m : MixC op a b z h) : ∃ z', Fz false h z z' ∧ MixR op a b z' := by
  obtain ⟨x, e, rfl, ⟨n, rfl, rfl⟩ | ⟨ha, hb, rfl, r, h1, h2, row⟩⟩ := m
  · exact ⟨_, .tup (.cons .nils (.cons (.int _ _) .nil)), .inl ⟨n, rfl⟩⟩
  · exact ⟨_, row.tup, .inr ⟨ha, hb, r, h1, h2, rfl⟩⟩
theorem Union_pu (g : Pg P tab) (hs : SortE P) {a b : Rgs} {v w : AV} (hv : IsL 16 RRg v a) (hw : IsL 16 RRg w b) : Pu P 14 [v, w] (MixR (fun x y => x || y) a b) := by
  refine Pu.of ?_
  refine Cl.mono (Q := MixC (fun x y => x || y) a b) ?_ fun z h m => m.pu
  refine g.cl (vf := v14) rfl rfl ?_
  simp only [v14, RX, VOp.fresh, bxC, bsC, un, most, callsOf, seval, Int.reducePow, ↓reduceIte, Nat.reduceEqDiff, reduceCtorEq]
  refine (mix_cl g hs rfl (union_pu g) hv hw).mono ?_
  rintro _ h' ⟨x, e, rfl, m⟩
  simp only [RX, VOp.fresh, bxC, bsC, un, most, callsOf, seval, Int.reducePow, ↓reduceIte, Nat.reduceEqDiff, reduceCtorEq]
  exact ⟨x, e, rfl, m⟩
theorem Common_pu (g : Pg P tab) (hs : SortE P) {a b : Rgs} {v w : AV} (hv : IsL 16 RRg v a) (hw : IsL 16 RRg w b) : Pu P 16 [v, w] (MixR (fun x y => x && y) a b) := by
  refine Pu.of ?_
  refine Cl.mono (Q := MixC (fun x y => x && y) a b) ?_ fun z h m => m.pu
  refine g.cl (vf := v16) rfl rfl ?_
  simp only [v16, RX, VOp.fresh, bxC, bsC, un, most, callsOf, seval, Int.reducePow, ↓reduceIte, Nat.reduceEqDiff, reduceCtorEq]
  refine (mix_cl g hs rfl (common_pu g) hv hw).mono ?_
  rintro _ h' ⟨x, e, rfl, m⟩
  simp only [RX, VOp.fresh, bxC, bsC, un, most, callsOf, seval, Int.reducePow, ↓reduceIte, Nat.reduceEqDiff, reduceCtorEq]
  exact ⟨x, e, rfl, m⟩
theorem Less_pu (g : Pg P tab) (hs : SortE P) {a b : Rgs} {v w : AV} (hv : IsL 16 RRg v a) (hw : IsL 16 RRg w b) : Pu P 17 [v, w] (MixR (fun x y => x && !y) a b) := by
  refine Pu.of ?_
  refine Cl.mono (Q := MixC (fun x y => x && !y) a b) ?_ fun z h m => m.pu
  refine g.cl (vf := v17) rfl rfl ?_
  simp only [v17, RX, VOp.fresh, bxC, bsC, un, most, callsOf, seval, Int.reducePow, ↓reduceIte, Nat.reduceEqDiff, reduceCtorEq]
  refine (mix_cl g hs rfl (less_pu g) hv hw).mono ?_
  rintro _ h' ⟨x, e, rfl, m⟩
  simp only [RX, VOp.fresh, bxC, bsC, un, most, callsOf, seval, Int.reducePow, ↓reduceIte, Nat.reduceEqDiff, reduceCtorEq]
  exact ⟨x, e, rfl, m⟩
end
end Go.Proofs.Yteaieinpnpnkbaa.VM
namespace Go.Proofs.Yteaieinpnpnkbaa.VM
attribute [local irreducible] Af Nx EvO Ev Un Gd Cd EvR EvQ EvC Nc Gc Lp EvM NxM AfM GdM EvMR EvMQ EvMD EvMC Nm Gm
theorem aft_gt : ∀ {l : Rgs} {a d : Int}, Sep a l → d < 4294967296 → d < aftM l d ∧ aftM l d ≤ 4294967296
  | [], _, _, _, h => ⟨h, Int.le_refl _⟩
  | r :: t, a, d, s, h => by
    have h1 := s.2.1; have h2 := s.2.2.1
    rw [aftM]
    split
    · exact ⟨by assumption, by omega⟩
    · split
      · exact ⟨by assumption, by omega⟩
      · exact aft_gt s.2.2.2 h
theorem aft_same : ∀ {l : Rgs} {a d e : Int}, Sep a l → d ≤ e → e < aftM l d → hasB l e = hasB l d
  | [], _, _, _, _, _, _ => rfl
  | r :: t, a, d, e, s, h1, h2 => by
    have k1 := s.2.1; have k2 := s.2.2.1
    rw [aftM] at h2
    have nt : ∀ x, x < r.2 → hasB t x = false := fun x hx => by
      rw [Bool.eq_false_iff, ne_eq, hasB_iff]
      intro c
      have := s.2.2.2.has c; omega
    rw [hasB_cons, hasB_cons]
    split at h2
    · rename_i c
      rw [nt e (by omega), nt d (by omega), decide_eq_false (by omega), decide_eq_false (show ¬ r.1 ≤ d by omega)]; rfl
    · rename_i c
      split at h2
      · rename_i c2
        rw [nt e (by omega), nt d (by omega), decide_eq_true (show r.1 ≤ e by omega), decide_eq_true (show r.1 ≤ d by omega), decide_eq_true h2, decide_eq_true c2]
      · rename_i c2
        rw [aft_same s.2.2.2 h1 h2, decide_eq_false (show ¬ e < r.2 by omega), decide_eq_false c2, Bool.and_false, Bool.and_false]
/-- which mix -/
def opOf (how : Int) : Bool → Bool → Bool := if how = 0 then fun x y => x || y else if how = 1 then fun x y => x && y else fun x y => x && !y
def b15C : VCode := match b15_0 with | .seq _ (.block _ (.seq _ (.seq c _))) => c | _ => .bad
def b15R : VCode := match b15_0 with | .seq _ (.block _ (.seq _ (.seq _ c))) => c | _ => .bad
def b15A : VCode := match b15_0 with | .seq c _ => c | _ => .bad
def b15B : VCode := match b15_0 with | .seq _ (.block _ (.seq c _)) => c | _ => .bad
theorem b15_eq : b15_0 = .seq b15A (.block 1 (.seq b15B (.seq b15C b15R))) := rfl
section
variable {P : Program}
theorem mix_in {how : Int} (hh : how = 0 ∨ how = 1 ∨ how = 2) {x y : Bool} {t : Int} {s : T AV} {h : Heap} {k : List Fr} {Q : Ex → T AV → Heap → Prop} (t0 : sg s 0 = .int .i64 how) (t9 : sg s 9 = .int .i64 t) (t10 : sg s 10 = .bool x) (t11 : sg s 11 = .bool y)
    (q : ∀ s', sg s' 12 = .bool (decide (0 ≤ t) && opOf how x y) → (∀ j, j < 12 → sg s' j = sg s j) → Un P k Q .normal s' h) : Ev P b15C s h (Un P k Q) := by
  by_cases c : 0 ≤ t
  · rcases hh with rfl | rfl | rfl <;> cases x <;> cases y <;> simp only [b15C, b15_0, t0, t9, t10, t11, c, RX, VOp.fresh, bxC, bsC, un, most, callsOf, seval, Int.reducePow, ↓reduceIte, Nat.reduceEqDiff, reduceCtorEq] <;> refine q _ ?_ (fun j hj => ?_) <;> first | (simp only [sg_set, Nat.reduceEqDiff, ↓reduceIte]; simp [opOf, c]; done) | (simp only [sg_set]; (repeat rw [if_neg (by omega)]))
  · rcases hh with rfl | rfl | rfl <;> simp only [b15C, b15_0, t0, t9, t10, t11, c, RX, VOp.fresh, bxC, bsC, un, most, callsOf, seval, Int.reducePow, ↓reduceIte, Nat.reduceEqDiff, reduceCtorEq] <;> refine q _ ?_ (fun j hj => ?_) <;> first | (simp only [sg_set, Nat.reduceEqDiff, ↓reduceIte]; simp [opOf, c]; done) | (simp only [sg_set]; (repeat rw [if_neg (by omega)]))
theorem dmix_loop (g : Pg P tab) {how : Int} (hh : how = 0 ∨ how = 1 ∨ how = 2) {a b : Rgs} {v w : AV} (hv : IsL 16 RRg v a) (hw : IsL 16 RRg w b) (sa : Sep (-1) a) (sb : Sep (-1) b) (n : Nat) :
    ∀ (t : Int) (out : Rgs) (s : T AV) (h : Heap) (k : List Fr) (Q : Ex → T AV → Heap → Prop), -1 ≤ t → t ≤ 4294967296 → 4294967296 - t ≤ n → Upto out (max t 0) (fun d => opOf how (hasB a d) (hasB b d) = true) → Row h (sg s 8) 2 (rcells out) out.length →
      sg s 0 = .int .i64 how → sg s 1 = v → sg s 2 = w → sg s 9 = .int .i64 t →
      (∀ s' h' out', Upto out' 4294967296 (fun d => opOf how (hasB a d) (hasB b d) = true) → Row h' (sg s' 8) 2 (rcells out') out'.length → Un P k Q (.exit 0) s' h') → Lp P b15_0 s h (Un P k Q) := by
  induction n with
  | zero =>
    intro t out s h k Q ht0 ht hn u r t0 t1 t2 t9 hQ
    obtain rfl : t = 4294967296 := by omega
    refine g.lpe b15_eq ?_
    simp only [b15A, b15_0, t9, RX, VOp.fresh, bxC, bsC, un, most, callsOf, seval, Int.reducePow, ↓reduceIte, Nat.reduceEqDiff, reduceCtorEq]
    refine hQ _ _ out u ?_
    simp only [sg_set, Nat.reduceEqDiff, ↓reduceIte]
    exact r
  | succ n ih =>
    intro t out s h k Q ht0 ht hn u r t0 t1 t2 t9 hQ
    by_cases c1 : t < 4294967296
    · refine g.lpe b15_eq ?_
      simp only [b15A, b15B, b15_0, t1, t9, c1, RX, VOp.fresh, bxC, bsC, un, most, callsOf, seval, Int.reducePow, ↓reduceIte, Nat.reduceEqDiff, reduceCtorEq]
      refine (dhas_pu g hv t).go (by simp [AV.tolds, AV.told, hv.told tRg]) ?_
      rintro _ rfl
      simp only [t2, t9, RX, VOp.fresh, bxC, bsC, un, most, callsOf, seval, Int.reducePow, ↓reduceIte, Nat.reduceEqDiff, reduceCtorEq]
      refine (dhas_pu g hw t).go (by simp [AV.tolds, AV.told, hw.told tRg]) ?_
      rintro _ rfl
      simp only [RX, VOp.fresh, bxC, bsC, un, most, callsOf, seval, Int.reducePow, ↓reduceIte, Nat.reduceEqDiff, reduceCtorEq]
      refine mix_in hh (t := t) ?_ ?_ (x := hasB a t) (y := hasB b t) ?_ ?_ fun s1 t12 ks => ?_
      · simp only [t0, sg_set, Nat.reduceEqDiff, ↓reduceIte]
      · simp only [t9, sg_set, Nat.reduceEqDiff, ↓reduceIte]
      · simp only [sg_set, Nat.reduceEqDiff, ↓reduceIte]
      · simp only [sg_set, Nat.reduceEqDiff, ↓reduceIte]
      have k0 : sg s1 0 = .int .i64 how := (ks 0 (by decide)).trans (by simp only [t0, sg_set, Nat.reduceEqDiff, ↓reduceIte])
      have k1 : sg s1 1 = v := (ks 1 (by decide)).trans (by simp only [t1, sg_set, Nat.reduceEqDiff, ↓reduceIte])
      have k2 : sg s1 2 = w := (ks 2 (by decide)).trans (by simp only [t2, sg_set, Nat.reduceEqDiff, ↓reduceIte])
      have k8 : sg s1 8 = sg s 8 := (ks 8 (by decide)).trans (by simp only [sg_set, Nat.reduceEqDiff, ↓reduceIte])
      have k9 : sg s1 9 = .int .i64 t := (ks 9 (by decide)).trans (by simp only [t9, sg_set, Nat.reduceEqDiff, ↓reduceIte])
      simp only [b15R, b15_0, k1, k9, RX, VOp.fresh, bxC, bsC, un, most, callsOf, seval, Int.reducePow, ↓reduceIte, Nat.reduceEqDiff, reduceCtorEq]
      refine (aft_pu g hv t).go (by simp [AV.tolds, AV.told, hv.told tRg]) ?_
      rintro _ rfl
      simp only [k2, k9, RX, VOp.fresh, bxC, bsC, un, most, callsOf, seval, Int.reducePow, ↓reduceIte, Nat.reduceEqDiff, reduceCtorEq]
      refine (aft_pu g hw t).go (by simp [AV.tolds, AV.told, hw.told tRg]) ?_
      rintro _ rfl
      have a1 := aft_gt sa c1
      have b1 := aft_gt sb c1
      have e1 : foldO min2 (.int .i64 (aftM a t)) [.int .i64 (aftM b t)] = some (.int .i64 (min (aftM a t) (aftM b t))) := by
        simp only [foldO, min2]
        by_cases q : aftM b t < aftM a t
        · rw [if_pos q, Int.min_eq_right (by omega)]
        · rw [if_neg q, Int.min_eq_left (by omega)]
      have n1 : t < min (aftM a t) (aftM b t) := by omega
      have n2 : min (aftM a t) (aftM b t) ≤ 4294967296 := by omega
      have same : ∀ d, t ≤ d → d < min (aftM a t) (aftM b t) → hasB a d = hasB a t ∧ hasB b d = hasB b t := fun d h1 h2 => ⟨aft_same sa h1 (by omega), aft_same sb h1 (by omega)⟩
      generalize min (aftM a t) (aftM b t) = nx at *
      have neg : ∀ {l : Rgs}, Sep (-1) l → ∀ d, d < 0 → hasB l d = false := fun hl d hd => by
        rw [Bool.eq_false_iff, ne_eq, hasB_iff]
        intro c
        have := hl.has c; omega
      have op0 : opOf how false false = false := by rcases hh with rfl | rfl | rfl <;> rfl
      have la := u.1.len (by omega)
      cases hin : (decide (0 ≤ t) && opOf how (hasB a t) (hasB b t)) with
      | true =>
        simp only [Bool.and_eq_true, decide_eq_true_eq] at hin
        rw [show (decide (0 ≤ t) && opOf how (hasB a t) (hasB b t)) = true by simp [hin]] at t12
        rw [Int.max_eq_left hin.1] at u
        have u2 := u.add hin.1 n1 n2 fun d h1 h2 => by rw [(same d h1 h2).1, (same d h1 h2).2]; exact hin.2
        have hlen := r.len
        have hlt := r.lt
        rcases snoc_cases out with rfl | ⟨m, p, rfl⟩
        · have hv8 : sg s 8 = .nils := by
            rcases r with ⟨e, _⟩ | ⟨_, _, _, _, h0, _⟩
            · exact e
            · exact absurd h0 (by simp)
          have x2 := Ext.mk (h := h) (.cells [.int .i64 t, .int .i64 nx] 41 0)
          have n3 : (h.mk' h.next (.cells [.int .i64 t, .int .i64 nx] 41 0)).next = h.next + 1 := by rw [mk_next]; omega
          obtain ⟨h3, e3, r3, n4, k3⟩ := (r.ext x2).push (nb := h.next) (eb := 41) (vb := 0) (c := rcell (t, nx)) (by rw [Heap.get_mk, if_pos rfl]; rfl) rfl rfl (bytes := 16) (by unfold most2; decide) 41
          rw [n3, hv8] at e3
          rw [n3] at r3
          have c0 : ¬ (0 : Int) < 0 := by omega
          simp only [e1, t12, k8, k9, hv8, c0, n3, e3, RX, VOp.fresh, bxC, bsC, un, most, callsOf, seval, Int.reducePow, ↓reduceIte, Nat.reduceEqDiff, reduceCtorEq]
          refine ih nx _ _ h3 k Q (by omega) n2 (by omega) (by rw [Int.max_eq_left (by omega)]; exact u2) ?_ ?_ ?_ ?_ ?_ hQ
          · simp only [sg_set, Nat.reduceEqDiff, ↓reduceIte]
            exact r3
          · simp only [k0, sg_set, Nat.reduceEqDiff, ↓reduceIte]
          · simp only [k1, sg_set, Nat.reduceEqDiff, ↓reduceIte]
          · simp only [k2, sg_set, Nat.reduceEqDiff, ↓reduceIte]
          · simp only [sg_set, Nat.reduceEqDiff, ↓reduceIte]
        · have c0 : (0 : Int) < (((m ++ [p]).length : Nat) : Int) := by rw [List.length_append, List.length_singleton]; omega
          have hll : (((m ++ [p]).length : Nat) : Int) ≤ 8796093022200 := by omega
          have w1 : IntKind.i64.wrap ((((m ++ [p]).length : Nat) : Int) - 1) = (m.length : Int) := by rw [List.length_append, List.length_singleton] at *; rw [w64 (by omega) (by omega)]; omega
          obtain ⟨bb, eb, vb, hv8, hg, hbn, hia⟩ := r.at (i := m.length) (by simp)
          have hp := rcells_last m p
          by_cases e : p.2 = t
          · have hw := wr_at hg (j := m.length * 2 + 1) (by rw [rcells_len, List.length_append, List.length_singleton]; omega) (x := .int .i64 nx) rfl
            rw [rcells_set] at hw
            simp only [e1, t12, k8, k9, hlen, c0, w1, hia, hg, hp, e, hw, RW, RX, VOp.fresh, bxC, bsC, un, most, callsOf, seval, Int.reducePow, ↓reduceIte, Nat.reduceEqDiff, reduceCtorEq]
            rw [addR_snoc, if_pos e] at u2
            refine ih nx _ _ _ k Q (by omega) n2 (by omega) (by rw [Int.max_eq_left (by omega)]; exact u2) ?_ ?_ ?_ ?_ ?_ hQ
            · simp only [k8, sg_set, Nat.reduceEqDiff, ↓reduceIte]
              refine .inr ⟨bb, eb, vb + 1, ?_, by simp, by rw [put_next]; omega, by rw [rcells_len], by rw [Heap.get_put, if_pos rfl]⟩
              rw [hv8]; simp
            · simp only [k0, sg_set, Nat.reduceEqDiff, ↓reduceIte]
            · simp only [k1, sg_set, Nat.reduceEqDiff, ↓reduceIte]
            · simp only [k2, sg_set, Nat.reduceEqDiff, ↓reduceIte]
            · simp only [sg_set, Nat.reduceEqDiff, ↓reduceIte]
          · have x2 := Ext.mk (h := h) (.cells [.int .i64 t, .int .i64 nx] 41 0)
            have n3 : (h.mk' h.next (.cells [.int .i64 t, .int .i64 nx] 41 0)).next = h.next + 1 := by rw [mk_next]; omega
            obtain ⟨h3, e3, r3, n4, k3⟩ := (r.ext x2).push (nb := h.next) (eb := 41) (vb := 0) (c := rcell (t, nx)) (by rw [Heap.get_mk, if_pos rfl]; rfl) rfl rfl (bytes := 16) (by unfold most2; omega) 41
            rw [← rcells_snoc] at r3
            rw [n3] at e3 r3
            simp only [e1, t12, k8, k9, hlen, c0, w1, hia, hg, hp, e, n3, e3, RW, RX, VOp.fresh, bxC, bsC, un, most, callsOf, seval, Int.reducePow, ↓reduceIte, Nat.reduceEqDiff, reduceCtorEq]
            rw [addR_snoc, if_neg e] at u2
            refine ih nx _ _ h3 k Q (by omega) n2 (by omega) (by rw [Int.max_eq_left (by omega)]; exact u2) ?_ ?_ ?_ ?_ ?_ hQ
            · simp only [sg_set, Nat.reduceEqDiff, ↓reduceIte]
              have hle : (m ++ [p] ++ [(t, nx)]).length = (m ++ [p]).length + 1 := by simp
              rw [hle]
              exact r3
            · simp only [k0, sg_set, Nat.reduceEqDiff, ↓reduceIte]
            · simp only [k1, sg_set, Nat.reduceEqDiff, ↓reduceIte]
            · simp only [k2, sg_set, Nat.reduceEqDiff, ↓reduceIte]
            · simp only [sg_set, Nat.reduceEqDiff, ↓reduceIte]
      | false =>
        rw [hin] at t12
        simp only [e1, t12, k9, RX, VOp.fresh, bxC, bsC, un, most, callsOf, seval, Int.reducePow, ↓reduceIte, Nat.reduceEqDiff, reduceCtorEq]
        refine ih nx out _ h k Q (by omega) n2 (by omega) ?_ ?_ ?_ ?_ ?_ ?_ hQ
        · refine u.skip (by omega) fun d h1 h2 hd => ?_
          rcases Int.lt_or_le t 0 with c | c
          · obtain rfl : t = -1 := by omega
            have := same d (by omega) (by omega)
            rw [this.1, this.2, neg sa _ (by decide), neg sb _ (by decide), op0] at hd
            cases hd
          · have := same d (by omega) (by omega)
            rw [this.1, this.2] at hd
            rw [hd] at hin
            simp [c] at hin
        · simp only [k8, sg_set, Nat.reduceEqDiff, ↓reduceIte]
          exact r
        · simp only [k0, sg_set, Nat.reduceEqDiff, ↓reduceIte]
        · simp only [k1, sg_set, Nat.reduceEqDiff, ↓reduceIte]
        · simp only [k2, sg_set, Nat.reduceEqDiff, ↓reduceIte]
        · simp only [sg_set, Nat.reduceEqDiff, ↓reduceIte]
    · obtain rfl : t = 4294967296 := by omega
      refine g.lpe b15_eq ?_
      simp only [b15A, b15_0, t9, RX, VOp.fresh, bxC, bsC, un, most, callsOf, seval, Int.reducePow, ↓reduceIte, Nat.reduceEqDiff, reduceCtorEq]
      refine hQ _ _ out u ?_
      simp only [sg_set, Nat.reduceEqDiff, ↓reduceIte]
      exact r
theorem dmix_pu (g : Pg P tab) {how : Int} (hh : how = 0 ∨ how = 1 ∨ how = 2) {a b : Rgs} {v w : AV} (hv : IsL 16 RRg v a) (hw : IsL 16 RRg w b) : Pu P 15 [.int .i64 how, v, w] (MixR (opOf how) a b) := by
  refine g.pu (vf := v15) rfl rfl ?_
  simp only [v15, RX, VOp.fresh, bxC, bsC, un, most, callsOf, seval, Int.reducePow, ↓reduceIte, Nat.reduceEqDiff, reduceCtorEq]
  refine (dmay_pu g hv).go (by simp [AV.tolds, hv.told tRg]) ?_
  rintro _ rfl
  cases ha : sepB (-1) a with
  | false =>
    simp only [RX, VOp.fresh, bxC, bsC, un, most, callsOf, seval, Int.reducePow, ↓reduceIte, Nat.reduceEqDiff, reduceCtorEq]
    exact ⟨_, .tup (.cons .nils (.cons (.int _ _) .nil)), .inl ⟨by rw [ha]; simp, rfl⟩⟩
  | true =>
    simp only [RX, VOp.fresh, bxC, bsC, un, most, callsOf, seval, Int.reducePow, ↓reduceIte, Nat.reduceEqDiff, reduceCtorEq]
    refine (dmay_pu g hw).go (by simp [AV.tolds, hw.told tRg]) ?_
    rintro _ rfl
    cases hb : sepB (-1) b with
    | false =>
      simp only [RX, VOp.fresh, bxC, bsC, un, most, callsOf, seval, Int.reducePow, ↓reduceIte, Nat.reduceEqDiff, reduceCtorEq]
      exact ⟨_, .tup (.cons .nils (.cons (.int _ _) .nil)), .inl ⟨by rw [hb]; simp, rfl⟩⟩
    | true =>
      simp only [RX, VOp.fresh, bxC, bsC, un, most, callsOf, seval, Int.reducePow, ↓reduceIte, Nat.reduceEqDiff, reduceCtorEq]
      have sa := sepB_iff.1 ha
      have sb := sepB_iff.1 hb
      refine dmix_loop g hh hv hw sa sb 4294967297 (-1) [] _ _ _ _ (by omega) (by omega) (by omega) (by rw [show max (-1 : Int) 0 = 0 from rfl]; exact Upto.nil) ?_ ?_ ?_ ?_ ?_ fun s' h' out u r => ?_
      · simp only [sg_set, Nat.reduceEqDiff, ↓reduceIte]
        exact .nil _ _
      · simp only [sg_set, Nat.reduceEqDiff, ↓reduceIte]
      · simp only [sg_set, Nat.reduceEqDiff, ↓reduceIte]
      · simp only [sg_set, Nat.reduceEqDiff, ↓reduceIte]
      · simp only [sg_set, Nat.reduceEqDiff, ↓reduceIte]
      · simp only [RX, VOp.fresh, bxC, bsC, un, most, callsOf, seval, Int.reducePow, ↓reduceIte, Nat.reduceEqDiff, reduceCtorEq]
        refine ⟨_, r.tup, .inr ⟨ha, hb, out, u.1, fun d => ?_, rfl⟩⟩
        rw [u.2.2 d]
        constructor
        · exact fun ⟨_, _, h⟩ => h
        · intro h
          refine ⟨?_, ?_, h⟩
          · rcases Int.lt_or_le d 0 with c | c
            · have n1 : hasB a d = false := by rw [Bool.eq_false_iff, ne_eq, hasB_iff]; intro q; have := sa.has q; omega
              have n2 : hasB b d = false := by rw [Bool.eq_false_iff, ne_eq, hasB_iff]; intro q; have := sb.has q; omega
              rw [n1, n2] at h
              rcases hh with rfl | rfl | rfl <;> cases h
            · exact c
          · rcases Int.lt_or_le d 4294967296 with c | c
            · exact c
            · have n1 : hasB a d = false := by rw [Bool.eq_false_iff, ne_eq, hasB_iff]; intro q; have := sa.has q; omega
              have n2 : hasB b d = false := by rw [Bool.eq_false_iff, ne_eq, hasB_iff]; intro q; have := sb.has q; omega
              rw [n1, n2] at h
              rcases hh with rfl | rfl | rfl <;> cases h
end
end Go.Proofs.Yteaieinpnpnkbaa.VM
