/- Live data of one's own: rows that grow, what they stand for. -/
import Derived.Test.YtinonmcnofjeeaaSE8
namespace Go.Proofs.Ytinonmcnofjeeaa.VM
set_option linter.unusedSimpArgs false
set_option linter.unusedVariables false
set_option linter.defProp false
set_option maxHeartbeats 1000000

theorem Own.frame {h h' : Heap} {D : List Nat} (o : Own h D) (k : ∀ b ∈ D, h'.get b = h.get b) : Own h' D := fun b hb => by
  obtain ⟨l, e, ver, h1, h2⟩ := o b hb
  exact ⟨l, e, ver, (k b hb).trans h1, h2⟩
theorem Own.app {h : Heap} {D E : List Nat} (o : Own h D) (p : Own h E) : Own h (D ++ E) := fun b hb => (List.mem_append.1 hb).elim (o b) (p b)
theorem Own.nil {h : Heap} : Own h [] := fun b hb => by simp at hb
/-- cells, told; all that they reach is bare and lies in B -/
def Lvs (h : Heap) (B : Nat → Prop) (l l' : List AV) : Prop := ∃ D, Fds h l l' D ∧ AV.bares l = true ∧ Own h D ∧ ∀ b ∈ D, B b
def Lv (h : Heap) (B : Nat → Prop) (x y : AV) : Prop := ∃ D, Fd h x y D ∧ x.bare = true ∧ Own h D ∧ ∀ b ∈ D, B b
section
variable {h h' : Heap} {B B' : Nat → Prop}
theorem Lv.frame {x y : AV} (l : Lv h B x y) (hn : h.next ≤ h'.next) (k : ∀ b, B b → b < h.next → h'.get b = h.get b) : Lv h' B x y := by
  obtain ⟨D, f, a, o, i⟩ := l
  exact ⟨D, f.frame hn fun b hb => k b (i b hb) (f.lt b hb), a, o.frame fun b hb => k b (i b hb) (f.lt b hb), i⟩
theorem Lvs.frame {x y : List AV} (l : Lvs h B x y) (hn : h.next ≤ h'.next) (k : ∀ b, B b → b < h.next → h'.get b = h.get b) : Lvs h' B x y := by
  obtain ⟨D, f, a, o, i⟩ := l
  exact ⟨D, f.frame hn fun b hb => k b (i b hb) (f.lt b hb), a, o.frame fun b hb => k b (i b hb) (f.lt b hb), i⟩
theorem Lv.weak {x y : AV} (l : Lv h B x y) (k : ∀ b, B b → b < h.next → B' b) : Lv h B' x y := by
  obtain ⟨D, f, a, o, i⟩ := l
  exact ⟨D, f, a, o, fun b hb => k b (i b hb) (f.lt b hb)⟩
theorem Lvs.weak {x y : List AV} (l : Lvs h B x y) (k : ∀ b, B b → b < h.next → B' b) : Lvs h B' x y := by
  obtain ⟨D, f, a, o, i⟩ := l
  exact ⟨D, f, a, o, fun b hb => k b (i b hb) (f.lt b hb)⟩
theorem Lvs.nil : Lvs h B [] [] := ⟨[], .nil, rfl, Own.nil, fun b hb => by simp at hb⟩
theorem Lvs.cons {x y : AV} {l k : List AV} (a : Lv h B x y) (t : Lvs h B l k) : Lvs h B (x :: l) (y :: k) := by
  obtain ⟨D, f, b, o, i⟩ := a
  obtain ⟨E, f', b', o', i'⟩ := t
  exact ⟨D ++ E, .cons f f', by simp [AV.bares, b, b'], o.app o', fun c hc => (List.mem_append.1 hc).elim (i c) (i' c)⟩
theorem Lvs.app {l k l' k' : List AV} (a : Lvs h B l k) (t : Lvs h B l' k') : Lvs h B (l ++ l') (k ++ k') := by
  obtain ⟨D, f, b, o, i⟩ := a
  obtain ⟨E, f', b', o', i'⟩ := t
  exact ⟨D ++ E, f.app f', by rw [bares_app, b, b']; rfl, o.app o', fun c hc => (List.mem_append.1 hc).elim (i c) (i' c)⟩
theorem Lv.told {x : AV} (a : x.told = true) (b : x.bare = true) : Lv h B x x := ⟨[], .told a, b, Own.nil, fun c hc => by simp at hc⟩
theorem Lvs.tolds {x : List AV} (a : AV.tolds x = true) (b : AV.bares x = true) : Lvs h B x x := ⟨[], Fds.tolds a, b, Own.nil, fun c hc => by simp at hc⟩
theorem Lv.int {k : IntKind} {n : Int} : Lv h B (.int k n) (.int k n) := .told rfl rfl
theorem Lv.bool {n : Bool} : Lv h B (.bool n) (.bool n) := .told rfl rfl
theorem Lv.nils : Lv h B .nils .nils := .told rfl rfl
theorem Lv.agg {l k : List AV} (t : Lvs h B l k) : Lv h B (.agg l) (.agg k) := by
  obtain ⟨D, f, b, o, i⟩ := t
  exact ⟨D, .agg f, b, o, i⟩
theorem Lv.fz {x y : AV} (l : Lv h B x y) : Fz true h x y := let ⟨_, f, _⟩ := l; f.fz
theorem Lvs.fzs {x y : List AV} (l : Lvs h B x y) : Fzs true h x y := let ⟨_, f, _⟩ := l; f.fzs
theorem Lvs.length {x y : List AV} (l : Lvs h B x y) : y.length = x.length := let ⟨_, f, _⟩ := l; f.length
/-- a row's slice, told -/
def cRow (l : List AV) (n : Nat) : AV := if n = 0 then .nils else .rs l n
theorem cRow_z (l : List AV) : cRow l 0 = .nils := rfl
theorem cRow_s (l : List AV) {n : Nat} (h : 0 < n) : cRow l n = .rs l n := if_neg (by omega)
/-- a row of one's own -/
def LR (h : Heap) (B : Nat → Prop) (v : AV) (sz : Nat) (told : List AV) (n : Nat) : Prop :=
  ∃ cs, Row h v sz cs n ∧ Lvs h (fun b => B b ∧ b ∉ blkOf v) cs told ∧ ∀ b ∈ blkOf v, B b
theorem LR.nil (h : Heap) (B : Nat → Prop) (sz : Nat) : LR h B .nils sz [] 0 := ⟨[], .nil _ _, .nil, fun b hb => by simp [blkOf] at hb⟩
theorem LR.one {v : AV} {sz n : Nat} {t : List AV} (r : LR h B v sz t n) : v.one = true := let ⟨_, r, _⟩ := r; r.one
theorem LR.len {v : AV} {sz n : Nat} {t : List AV} (r : LR h B v sz t n) (hh : Heap) : lnV hh v = .val (.int .i64 n) hh := let ⟨_, r, _⟩ := r; r.len hh
theorem LR.cells {v : AV} {sz n : Nat} {t : List AV} (r : LR h B v sz t n) : v.cells = some [v] := by
  obtain ⟨_, r, _⟩ := r
  rcases r with ⟨rfl, rfl, rfl⟩ | ⟨b, e, ver, rfl, _⟩ <;> rfl
theorem LR.frame {v : AV} {sz n : Nat} {t : List AV} (r : LR h B v sz t n) (hn : h.next ≤ h'.next) (k : ∀ b, B b → b < h.next → h'.get b = h.get b) : LR h' B v sz t n := by
  obtain ⟨cs, r, l, i⟩ := r
  exact ⟨cs, r.frame hn fun b hb => k b (i b hb) (r.lt b hb), l.frame hn fun b hb => k b hb.1, i⟩
theorem LR.weak {v : AV} {sz n : Nat} {t : List AV} (r : LR h B v sz t n) (k : ∀ b, B b → b < h.next → B' b) : LR h B' v sz t n := by
  obtain ⟨cs, r, l, i⟩ := r
  exact ⟨cs, r, l.weak fun b hb hl => ⟨k b hb.1 hl, hb.2⟩, fun b hb => k b (i b hb) (r.lt b hb)⟩
theorem LR.lv {v : AV} {sz n : Nat} {t : List AV} (r : LR h B v sz t n) : Lv h B v (cRow t n) := by
  obtain ⟨cs, r, ⟨D, f, hb0, o, i⟩, j⟩ := r
  obtain ⟨v', f', hv⟩ := r.fd f
  refine ⟨_, ?_, r.bare, ?_, fun b hb => (List.mem_append.1 hb).elim (j b) fun c => (i b c).1⟩
  · rcases hv with ⟨rfl, rfl⟩ | rfl
    · exact f'
    · rcases r with ⟨rfl, rfl, rfl⟩ | ⟨b, e0, ver, rfl, h0, _⟩
      · cases f'
      · rw [cRow_s _ h0]; exact f'
  · refine Own.app (fun b hb => ?_) o
    rcases r with ⟨rfl, rfl, rfl⟩ | ⟨b', e0, ver, rfl, h0, h1, h2, h3⟩
    · simp [blkOf] at hb
    · simp only [blkOf, List.mem_singleton] at hb
      subst hb
      exact ⟨_, _, _, h3, hb0⟩
/-- one more -/
theorem LR.push {v : AV} {sz n : Nat} {t : List AV} (r : LR h B v sz t n) {nb eb vb : Nat} {c t1 : List AV} (hg : h.get nb = some (.cells c eb vb)) (hl : c.length = sz) (ho : c.all AV.one = true) (l : Lvs h (fun b => B b ∧ b ∉ blkOf v) c t1) (hB : B h.next)
    {bytes : Nat} (hb : (n + 1) * bytes ≤ most2) (e : TypeId) :
    ∃ h', appendV h sz bytes e v (.sl nb 0 1 1 sz) = some (.sl h.next 0 (n + 1) (n + 1) sz, h') ∧ LR h' B (.sl h.next 0 (n + 1) (n + 1) sz) sz (t ++ t1) (n + 1) ∧ h'.next = h.next + 1 ∧ ∀ b, b ∉ blkOf v → b ≠ h.next → h'.get b = h.get b := by
  obtain ⟨cs, r, l0, i⟩ := r
  obtain ⟨h', e1, r', hn, k⟩ := r.push hg hl ho hb e
  have key : ∀ {x y : List AV}, Lvs h (fun b => B b ∧ b ∉ blkOf v) x y → Lvs h' (fun b => B b ∧ b ∉ blkOf (.sl h.next 0 (n + 1) (n + 1) sz)) x y := fun q =>
    (q.weak (B' := fun b => (B b ∧ b ∉ blkOf v) ∧ b ≠ h.next) fun b hb hlt => ⟨hb, by omega⟩).frame (by omega) (fun b hb _ => k b hb.1.2 hb.2) |>.weak fun b hb _ => ⟨hb.1.1, by simpa [blkOf] using hb.2⟩
  exact ⟨h', e1, ⟨_, r', (key l0).app (key l), fun b hb => by simp only [blkOf, List.mem_singleton] at hb; rw [hb]; exact hB⟩, hn, k⟩
theorem LR.lt {v : AV} {sz n : Nat} {t : List AV} (r : LR h B v sz t n) : ∀ b ∈ blkOf v, b < h.next := let ⟨_, r, _⟩ := r; r.lt
theorem LR.inB {v : AV} {sz n : Nat} {t : List AV} (r : LR h B v sz t n) : ∀ b ∈ blkOf v, B b := let ⟨_, _, _, i⟩ := r; i
end
/-- all but one block stays -/
def ExtX (x : Nat) (h h' : Heap) : Prop := h.next ≤ h'.next ∧ ∀ b, b < h.next → b ≠ x → h'.get b = h.get b
theorem ExtX.refl {x : Nat} {h : Heap} : ExtX x h h := ⟨Nat.le_refl _, fun _ _ _ => rfl⟩
theorem ExtX.trans {x : Nat} {a b c : Heap} (p : ExtX x a b) (q : ExtX x b c) : ExtX x a c := ⟨Nat.le_trans p.1 q.1, fun n hn hx => (q.2 n (Nat.lt_of_lt_of_le hn p.1) hx).trans (p.2 n hn hx)⟩
theorem ExtX.put {x : Nat} {h : Heap} (o : Blk) : ExtX x h (h.put x o) := ⟨Nat.le_refl _, fun b _ hx => by rw [Heap.get_put, if_neg hx]⟩
theorem Ext.x {x : Nat} {h h' : Heap} (p : Ext h h') : ExtX x h h' := ⟨p.1, fun b hb _ => p.2 b hb⟩
/-- a block of one's own is written -/
theorem ExtX.put' {x : Nat} {h h' : Heap} (p : ExtX x h h') {b : Nat} (hb : h.next ≤ b) (o : Blk) : ExtX x h (h'.put b o) := ⟨p.1, fun c hc hx => by rw [Heap.get_put, if_neg (by omega)]; exact p.2 c hc hx⟩
end Go.Proofs.Ytinonmcnofjeeaa.VM
