/- Data told in one way; what bytes are read as, whole. -/
import Derived.Test.YtinonmcnofjeeaaL11Rd
import Derived.Test.YtinonmcnofjeeaaSE9
namespace Go.Proofs.Ytinonmcnofjeeaa.VM
set_option linter.unusedSimpArgs false
set_option linter.unusedVariables false
set_option linter.defProp false
set_option maxHeartbeats 1000000
attribute [local irreducible] Af Nx EvO Ev Un Gd Cd EvR EvQ EvC Nc Gc Lp EvM NxM AfM GdM EvMR EvMQ EvMD EvMC Nm Gm
def cPt (p : Pt) : List AV := [.int .i64 p.x, .int .i64 p.y]
def cRing (r : List Pt) : AV := cRow ((r.map cPt).flatten) r.length
def cRings (rs : List (List Pt)) : AV := cRow (rs.map cRing) rs.length
def cFeat (f : Feat) : List AV := [.int .i64 f.id, .int .i64 f.shape, cRings f.rings]
def cInts (l : List Int) : AV := cRow (l.map (AV.int .i64)) l.length
def cMp (m : Mp) : List AV := [.int .i64 m.epoch, cInts m.starts, cInts m.owners]
def cOpL (o : Op) : List AV := [.int .i64 o.kind, .int .i64 o.f.id, .int .i64 o.f.shape, cRings o.f.rings, .int .i64 o.id, .int .i64 o.m.epoch, cInts o.m.starts, cInts o.m.owners]
def cOpsL (l : List Op) : AV := cRow ((l.map cOpL).flatten) l.length
def cRc (r : Rc) : List AV := [.int .i64 r.kind, .int .i64 r.node, .int .i64 r.seq, .int .i64 r.base, .bool r.commit, .int .i64 r.m.epoch, cInts r.m.starts, cInts r.m.owners, cOpsL r.ops]
/-- sizes of data that stay small -/
def ringSm (r : List Pt) : Prop := r.length ≤ 1000000 ∧ ∀ p ∈ r, I64 p.x ∧ I64 p.y
def featSm (f : Feat) : Prop := I64 f.id ∧ I64 f.shape ∧ f.rings.length ≤ 1000000 ∧ ∀ r ∈ f.rings, ringSm r
def intsSm (l : List Int) : Prop := l.length ≤ 1000000 ∧ ∀ x ∈ l, I64 x
def mpSm (m : Mp) : Prop := I64 m.epoch ∧ intsSm m.starts ∧ intsSm m.owners
def opSm (o : Op) : Prop := I64 o.kind ∧ featSm o.f ∧ I64 o.id ∧ mpSm o.m
def opsSm (l : List Op) : Prop := l.length ≤ 1000000 ∧ ∀ o ∈ l, opSm o
def rcSm (r : Rc) : Prop := mpSm r.m ∧ opsSm r.ops
theorem row_isL {α : Type} {b : Nat} {R : α → List AV → Prop} {l : List α} {c : List AV} (hb : l.length * b ≤ reachBytes) (h : Cat R l c) : IsL b R (cRow c l.length) l := by
  cases l with
  | nil => exact isL_nil b R
  | cons x l => rw [cRow_s _ (by simp)]; exact isL_rs h hb
theorem cat_map {α : Type} {R : α → List AV → Prop} {F : α → List AV} : ∀ {l : List α}, (∀ x ∈ l, R x (F x)) → Cat R l (l.map F).flatten
  | [], _ => .nil
  | x :: l, h => .cons (h x List.mem_cons_self) (cat_map fun y hy => h y (List.mem_cons_of_mem _ hy))
theorem cat_map1 {α : Type} {R : α → List AV → Prop} {F : α → AV} : ∀ {l : List α}, (∀ x ∈ l, R x [F x]) → Cat R l (l.map F)
  | [], _ => .nil
  | x :: l, h => .cons (c := [F x]) (h x List.mem_cons_self) (cat_map1 fun y hy => h y (List.mem_cons_of_mem _ hy))
theorem reach_eq : reachBytes = 140737488351232 := rfl
theorem cRing_is {r : List Pt} (h : ringSm r) : IsL 16 RPt (cRing r) r := row_isL (by rw [reach_eq]; have := h.1; omega) (cat_map fun p hp => ⟨rfl, h.2 p hp⟩)
theorem cRings_is {f : List (List Pt)} (h1 : f.length ≤ 1000000) (h2 : ∀ r ∈ f, ringSm r) : IsL 24 RRing (cRings f) f := row_isL (by rw [reach_eq]; omega) (cat_map1 fun r hr => ⟨_, rfl, cRing_is (h2 r hr)⟩)
theorem cFeat_is {f : Feat} (h : featSm f) : RFeat f (cFeat f) := ⟨_, rfl, h.1, h.2.1, cRings_is h.2.2.1 h.2.2.2⟩
theorem cInts_is {l : List Int} (h : intsSm l) : IsL 8 RInt (cInts l) l := row_isL (by rw [reach_eq]; have := h.1; omega) (cat_map1 fun x hx => ⟨rfl, h.2 x hx⟩)
theorem cMp_is {m : Mp} (h : mpSm m) : RMp m (cMp m) := ⟨_, _, rfl, h.1, cInts_is h.2.1, cInts_is h.2.2⟩
theorem cOp_is {o : Op} (h : opSm o) : ROp o (cOpL o) := ⟨_, _, _, rfl, h.1, h.2.1.1, h.2.1.2.1, cRings_is h.2.1.2.2.1 h.2.1.2.2.2, h.2.2.1, h.2.2.2.1, cInts_is h.2.2.2.2.1, cInts_is h.2.2.2.2.2⟩
theorem cOpsL_is {l : List Op} (h : opsSm l) : IsL 112 ROp (cOpsL l) l := row_isL (by rw [reach_eq]; have := h.1; omega) (cat_map fun o ho => cOp_is (h.2 o ho))
theorem cRc_is {r : Rc} (h : rcSm r) : RRc r (cRc r) := ⟨_, _, _, rfl, cInts_is h.1.2.1, cInts_is h.1.2.2, cOpsL_is h.2⟩

/-! ### what bytes are read as -/
section
variable {α : Type}
def rep (f : List Nat → α × List Nat) : Nat → List Nat → List α × List Nat
  | 0, s => ([], s)
  | n + 1, s => ((f s).1 :: (rep f n (f s).2).1, (rep f n (f s).2).2)
theorem rep_len (f : List Nat → α × List Nat) : ∀ n s, (rep f n s).1.length = n
  | 0, _ => rfl
  | n + 1, s => by rw [rep, List.length_cons, rep_len f n]
theorem rep_by {f : List Nat → α × List Nat} (hf : ∀ s, By s → By (f s).2) : ∀ n s, By s → By (rep f n s).2
  | 0, _, h => h
  | n + 1, s, h => rep_by hf n _ (hf s h)
theorem rep_rest {f : List Nat → α × List Nat} (hf : ∀ s, (f s).2.length ≤ s.length) : ∀ n s, (rep f n s).2.length ≤ s.length
  | 0, _ => Nat.le_refl _
  | n + 1, s => Nat.le_trans (rep_rest hf n _) (hf s)
theorem rep_all {f : List Nat → α × List Nat} {p : α → Prop} (hb : ∀ s, By s → By (f s).2) (hf : ∀ s, By s → p (f s).1) : ∀ n s, By s → ∀ x ∈ (rep f n s).1, p x
  | 0, _, _, x, hx => by simp [rep] at hx
  | n + 1, s, h, x, hx => by
    rcases List.mem_cons.1 hx with rfl | hx
    · exact hf s h
    · exact rep_all hb hf n _ (hb s h) x hx
/-- what was written is read -/
theorem rep_put {f : List Nat → α × List Nat} {F : α → List Nat} : ∀ (l : List α) (t : List Nat), (∀ x ∈ l, ∀ t, f (F x ++ t) = (x, t)) → rep f l.length ((l.map F).flatten ++ t) = (l, t)
  | [], t, _ => rfl
  | x :: l, t, h => by
    rw [List.length_cons, rep, List.map_cons, List.flatten_cons, List.append_assoc, h x List.mem_cons_self, rep_put l t fun y hy => h y (List.mem_cons_of_mem _ hy)]
end
def rdPt (s : List Nat) : Pt × List Nat := (⟨(rdN 4 s).1, (rdN 4 (rdN 4 s).2).1⟩, (rdN 4 (rdN 4 s).2).2)
def rdRing (s : List Nat) : List Pt × List Nat := rep rdPt (rdN 1 s).1.toNat (rdN 1 s).2
def rdFeat (s : List Nat) : Feat × List Nat :=
  let a := rdN 2 s; let b := rdN 1 a.2; let c := rdN 1 b.2; let d := rep rdRing c.1.toNat c.2
  (⟨a.1, b.1, d.1⟩, d.2)
def rdMp (s : List Nat) : Mp × List Nat :=
  let a := rdN 2 s; let b := rdN 1 a.2; let c := rep (rdN 4) b.1.toNat b.2; let d := rep (rdN 1) b.1.toNat c.2
  (⟨a.1, c.1, d.1⟩, d.2)
def rdOp (s : List Nat) : Op × List Nat :=
  let k := rdN 1 s
  if k.1 = 0 then (⟨k.1, (rdFeat k.2).1, 0, ⟨0, [], []⟩⟩, (rdFeat k.2).2)
  else if k.1 = 1 then (⟨k.1, ⟨0, 0, []⟩, (rdN 2 k.2).1, ⟨0, [], []⟩⟩, (rdN 2 k.2).2)
  else if k.1 = 2 then (⟨k.1, ⟨0, 0, []⟩, 0, (rdMp k.2).1⟩, (rdMp k.2).2)
  else (⟨k.1, ⟨0, 0, []⟩, 0, ⟨0, [], []⟩⟩, k.2)
def rdOps (s : List Nat) : List Op × List Nat := rep rdOp (rdN 1 s).1.toNat (rdN 1 s).2
def rdRc (s : List Nat) : Rc :=
  let k := rdN 1 s
  if k.1 = 0 then ⟨0, 0, 0, 0, false, (rdMp k.2).1, []⟩
  else
    let a := rdN 1 k.2; let b := rdN 2 a.2
    if k.1 = 1 ∨ k.1 = 2 then (let c := rdN 4 b.2; ⟨k.1, a.1, b.1, c.1 - 1, false, ⟨0, [], []⟩, (rdOps c.2).1⟩)
    else if k.1 = 3 then ⟨k.1, a.1, b.1, 0, decide ((rdN 1 b.2).1 = 1), ⟨0, [], []⟩, []⟩
    else ⟨k.1, a.1, b.1, 0, false, ⟨0, [], []⟩, []⟩

theorem rdPt_by {s : List Nat} (h : By s) : By (rdPt s).2 := rdN_by (rdN_by h)
theorem rdRing_by {s : List Nat} (h : By s) : By (rdRing s).2 := rep_by (fun _ h => rdPt_by h) _ _ (rdN_by h)
theorem rdFeat_by {s : List Nat} (h : By s) : By (rdFeat s).2 := rep_by (fun _ h => rdRing_by h) _ _ (rdN_by (rdN_by (rdN_by h)))
theorem rdMp_by {s : List Nat} (h : By s) : By (rdMp s).2 := rep_by (fun _ h => rdN_by h) _ _ (rep_by (fun _ h => rdN_by h) _ _ (rdN_by (rdN_by h)))
theorem rdOp_by {s : List Nat} (h : By s) : By (rdOp s).2 := by
  unfold rdOp
  simp only
  split
  · exact rdFeat_by (rdN_by h)
  · split
    · exact rdN_by (rdN_by h)
    · split
      · exact rdMp_by (rdN_by h)
      · exact rdN_by h
theorem rdPt_rest (s : List Nat) : (rdPt s).2.length ≤ s.length := Nat.le_trans (rdN_len _ _) (rdN_len _ _)
theorem rdRing_rest (s : List Nat) : (rdRing s).2.length ≤ s.length := Nat.le_trans (rep_rest rdPt_rest _ _) (rdN_len _ _)
theorem rdFeat_rest (s : List Nat) : (rdFeat s).2.length ≤ s.length := Nat.le_trans (rep_rest rdRing_rest _ _) (Nat.le_trans (rdN_len _ _) (Nat.le_trans (rdN_len _ _) (rdN_len _ _)))
theorem rdMp_rest (s : List Nat) : (rdMp s).2.length ≤ s.length := Nat.le_trans (rep_rest (rdN_len 1) _ _) (Nat.le_trans (rep_rest (rdN_len 4) _ _) (Nat.le_trans (rdN_len _ _) (rdN_len _ _)))
theorem rdOp_rest (s : List Nat) : (rdOp s).2.length ≤ s.length := by
  unfold rdOp
  simp only
  split
  · exact Nat.le_trans (rdFeat_rest _) (rdN_len _ _)
  · split
    · exact Nat.le_trans (rdN_len _ _) (rdN_len _ _)
    · split
      · exact Nat.le_trans (rdMp_rest _) (rdN_len _ _)
      · exact rdN_len _ _
theorem i64_rdN {n : Nat} (hn : n ≤ 4) {s : List Nat} (h : By s) : I64 (rdN n s).1 := by
  have := rdN_le hn h
  exact ⟨by omega, by omega⟩
theorem rdRing_sm {s : List Nat} (h : By s) : ringSm (rdRing s).1 := by
  refine ⟨?_, rep_all (fun _ h => rdPt_by h) (fun s h => ⟨i64_rdN (by decide) h, i64_rdN (by decide) (rdN_by h)⟩) _ _ (rdN_by h)⟩
  rw [rdRing, rep_len]
  have := rdN1_le h
  omega
theorem rdFeat_sm {s : List Nat} (h : By s) : featSm (rdFeat s).1 := by
  refine ⟨i64_rdN (by decide) h, i64_rdN (by decide) (rdN_by h), ?_, rep_all (fun _ h => rdRing_by h) (fun s h => rdRing_sm h) _ _ (rdN_by (rdN_by (rdN_by h)))⟩
  have := rdN1_le (rdN_by (n := 1) (rdN_by (n := 2) h))
  show (rep rdRing _ _).1.length ≤ _
  rw [rep_len]
  omega
theorem rdMp_sm {s : List Nat} (h : By s) : mpSm (rdMp s).1 := by
  have := rdN1_le (rdN_by (n := 2) h)
  refine ⟨i64_rdN (by decide) h, ⟨?_, rep_all (fun _ h => rdN_by h) (fun s h => i64_rdN (by decide) h) _ _ (rdN_by (rdN_by h))⟩, ⟨?_, rep_all (fun _ h => rdN_by h) (fun s h => i64_rdN (by decide) h) _ _ (rep_by (fun _ h => rdN_by h) _ _ (rdN_by (rdN_by h)))⟩⟩
  · show (rep (rdN 4) _ _).1.length ≤ _
    rw [rep_len]; omega
  · show (rep (rdN 1) _ _).1.length ≤ _
    rw [rep_len]; omega
theorem i64z : I64 0 := ⟨by decide, by decide⟩
theorem mpSm0 : mpSm ⟨0, [], []⟩ := ⟨i64z, ⟨by simp, by simp⟩, ⟨by simp, by simp⟩⟩
theorem featSm0 : featSm ⟨0, 0, []⟩ := ⟨i64z, i64z, by simp, by simp⟩
theorem rdOp_sm {s : List Nat} (h : By s) : opSm (rdOp s).1 := by
  unfold rdOp
  simp only
  split
  · exact ⟨i64_rdN (by decide) h, rdFeat_sm (rdN_by h), i64z, mpSm0⟩
  · split
    · exact ⟨i64_rdN (by decide) h, featSm0, i64_rdN (by decide) (rdN_by h), mpSm0⟩
    · split
      · exact ⟨i64_rdN (by decide) h, featSm0, i64z, rdMp_sm (rdN_by h)⟩
      · exact ⟨i64_rdN (by decide) h, featSm0, i64z, mpSm0⟩
theorem rdOps_sm {s : List Nat} (h : By s) : opsSm (rdOps s).1 := by
  have := rdN1_le h
  refine ⟨?_, rep_all (fun _ h => rdOp_by h) (fun s h => rdOp_sm h) _ _ (rdN_by h)⟩
  show (rep rdOp _ _).1.length ≤ _
  rw [rep_len]; omega
theorem rdRc_sm {s : List Nat} (h : By s) : rcSm (rdRc s) := by
  have o0 : opsSm [] := ⟨by simp, by simp⟩
  unfold rdRc
  simp only
  split
  · exact ⟨rdMp_sm (rdN_by h), o0⟩
  · split
    · exact ⟨mpSm0, rdOps_sm (rdN_by (rdN_by (rdN_by (rdN_by h))))⟩
    · split
      · exact ⟨mpSm0, o0⟩
      · exact ⟨mpSm0, o0⟩

/-! ### what was written is read -/
theorem beV_acc : ∀ (l : List Nat) (x : Nat), l.foldl (fun x b => x * 256 + b) x = x * 256 ^ l.length + beV l
  | [], x => by simp [beV]
  | b :: l, x => by
    have e : beV (b :: l) = l.foldl (fun x b => x * 256 + b) (0 * 256 + b) := rfl
    rw [e, List.foldl_cons, beV_acc l (x * 256 + b), beV_acc l (0 * 256 + b), List.length_cons, Nat.pow_succ, Nat.zero_mul, Nat.zero_add, Nat.add_mul, Nat.mul_assoc, Nat.mul_comm 256 (256 ^ l.length), Nat.add_assoc]
theorem beV_cons (b : Nat) (l : List Nat) : beV (b :: l) = b * 256 ^ l.length + beV l := by
  have e : beV (b :: l) = l.foldl (fun x b => x * 256 + b) (0 * 256 + b) := rfl
  rw [e, beV_acc, Nat.zero_mul, Nat.zero_add]
theorem beV_numN (x : Nat) : ∀ n : Nat, beV (numB (x : Int) n) = x % 256 ^ n
  | 0 => by simp [numB, beV, Nat.mod_one]
  | n + 1 => by
    have e : ((x : Int) / ((256 ^ n : Nat) : Int) % 256).toNat = x / 256 ^ n % 256 := by
      rw [← Int.natCast_ediv]
      omega
    rw [numB, beV_cons, numB_len, e, beV_numN x n, Nat.pow_succ, Nat.mod_mul, Nat.mul_comm, Nat.add_comm]
theorem beV_num {x : Int} {n : Nat} (h0 : 0 ≤ x) (h1 : x < ((256 ^ n : Nat) : Int)) : (beV (numB x n) : Int) = x := by
  obtain ⟨k, rfl⟩ := Int.eq_ofNat_of_zero_le h0
  rw [beV_numN, Nat.mod_eq_of_lt (by omega)]
theorem rdN_put {x : Int} {n : Nat} (h0 : 0 ≤ x) (h1 : x < ((256 ^ n : Nat) : Int)) (t : List Nat) : rdN n (numB x n ++ t) = (x, t) := by
  have hl := numB_len x n
  rw [rdN, if_neg (by rw [List.length_append]; omega), List.take_left' hl, List.drop_left' hl, beV_num h0 h1]
theorem rdPt_put {p : Pt} (h : ptOk p) (t : List Nat) : rdPt (ptB p ++ t) = (p, t) := by
  obtain ⟨⟨a, b⟩, ⟨c, d⟩⟩ := h
  rw [rdPt, ptB, List.append_assoc, rdN_put a (by omega), rdN_put c (by omega)]
theorem rdRing_put {r : List Pt} (hl : r.length ≤ 255) (h : ∀ p ∈ r, ptOk p) (t : List Nat) : rdRing (ringB r ++ t) = (r, t) := by
  rw [rdRing, ringB, List.append_assoc, rdN_put (by omega) (by omega)]
  simp only [Int.toNat_natCast]
  exact rep_put r t fun p hp t => rdPt_put (h p hp) t
theorem featOk_pts {f : Feat} (h : featOk f) : 0 ≤ f.shape ∧ f.shape ≤ 2 ∧ ∀ r ∈ f.rings, r.length ≤ 255 ∧ ∀ p ∈ r, ptOk p := by
  obtain ⟨a1, a2, a3, a4, h⟩ := h
  have all : ∀ {r : List Pt} {least : Int} {c : Bool}, ringOk least c r → r.length ≤ 255 ∧ ∀ p ∈ r, ptOk p := fun {r least c} ⟨_, q, k⟩ => ⟨by omega, fun p hp => by
    obtain ⟨i, hi, rfl⟩ := List.mem_iff_getElem.1 hp
    have := (k i hi).1
    rwa [getD_pt hi] at this⟩
  have one : f.rings.length = 1 → ∀ r ∈ f.rings, r = f.rings.getD 0 [] := fun hl r hr => by
    obtain ⟨i, hi, rfl⟩ := List.mem_iff_getElem.1 hr
    have : i = 0 := by omega
    subst this
    rw [getD_ring hi]
  rcases h with ⟨b1, b2, b3, b4⟩ | ⟨b1, b2, b3⟩ | ⟨b1, b2⟩
  · refine ⟨by omega, by omega, fun r hr => ?_⟩
    rw [one b2 r hr]
    refine ⟨by omega, fun p hp => ?_⟩
    obtain ⟨i, hi, rfl⟩ := List.mem_iff_getElem.1 hp
    have : i = 0 := by omega
    subst this
    rwa [getD_pt hi] at b4
  · refine ⟨by omega, by omega, fun r hr => ?_⟩
    rw [one b2 r hr]
    exact all b3
  · refine ⟨by omega, by omega, fun r hr => ?_⟩
    obtain ⟨i, hi, rfl⟩ := List.mem_iff_getElem.1 hr
    have := b2 i hi
    rw [getD_ring hi] at this
    exact all this
theorem rdFeat_put {f : Feat} (h : featOk f) (t : List Nat) : rdFeat (featB f ++ t) = (f, t) := by
  obtain ⟨s0, s2, hp⟩ := featOk_pts h
  obtain ⟨a1, a2, a3, a4, _⟩ := h
  rw [rdFeat, featB]
  simp only [List.append_assoc]
  rw [rdN_put (by omega) (by omega)]
  simp only
  rw [rdN_put (by omega) (by omega)]
  simp only
  rw [rdN_put (by omega) (by omega)]
  simp only [Int.toNat_natCast]
  rw [rep_put f.rings t fun r hr t => rdRing_put (hp r hr).1 (hp r hr).2 t]
theorem mpOk_pts {m : Mp} {nodes : Int} (h : mpOk nodes m) : (∀ x ∈ m.starts, 0 ≤ x ∧ x < 4294967296) ∧ ∀ x ∈ m.owners, 0 ≤ x ∧ x < 8 := by
  obtain ⟨a1, a2, a3, a4, a5, a6, a7, a8, h⟩ := h
  have pos : ∀ i, i < m.starts.length → 0 ≤ m.starts.getD i 0 := by
    intro i
    induction i with
    | zero => intro _; omega
    | succ i ih =>
      intro hi
      have := (h (i + 1) hi).2.1
      have := ih (by omega)
      simp at *
      omega
  refine ⟨fun x hx => ?_, fun x hx => ?_⟩
  · obtain ⟨i, hi, rfl⟩ := List.mem_iff_getElem.1 hx
    have := h i hi
    have := pos i hi
    rw [getD_int hi] at *
    exact ⟨this, by have := (h i hi).1; rw [getD_int hi] at this; exact this⟩
  · obtain ⟨i, hi, rfl⟩ := List.mem_iff_getElem.1 hx
    have := (h i (by omega)).2.2
    rw [getD_int hi] at this
    omega
theorem rdMp_put {m : Mp} {nodes : Int} (h : mpOk nodes m) (t : List Nat) : rdMp (mpB m ++ t) = (m, t) := by
  obtain ⟨h1, h2⟩ := mpOk_pts h
  obtain ⟨a1, a2, a3, a4, a5, a6, a7, a8, _⟩ := h
  rw [rdMp, mpB]
  simp only [List.append_assoc]
  rw [rdN_put (by omega) (by omega)]
  simp only
  rw [rdN_put (by omega) (by omega)]
  simp only [Int.toNat_natCast]
  rw [rep_put m.starts _ fun x hx t => rdN_put (h1 x hx).1 (by have := (h1 x hx).2; omega) t]
  simp only
  rw [← a7, rep_put m.owners t fun x hx t => rdN_put (h2 x hx).1 (by have := (h2 x hx).2; omega) t]
theorem rdOp_put {o : Op} {nodes : Int} (h : opOk nodes o) (t : List Nat) : rdOp (opB o ++ t) = (o, t) := by
  have z1 : ∀ {f : Feat}, ftZero f → f = ⟨0, 0, []⟩ := fun {f} ⟨a, b, c⟩ => by cases f; simp only at a b c; rw [a, b, c]
  have z2 : ∀ {f : Mp}, mpZero f → f = ⟨0, [], []⟩ := fun {f} ⟨a, b, c⟩ => by cases f; simp only at a b c; rw [a, b, c]
  obtain ⟨kind, f, id, m⟩ := o
  rcases h with ⟨hk, h1, h2, h3⟩ | ⟨hk, h1, h2, h3, h4⟩ | ⟨hk, h1, h2, h3⟩
  · simp only at hk h1 h2 h3
    subst hk h2
    rw [rdOp, opB, List.append_assoc, rdN_put (by simp only; omega) (by simp only; omega)]
    simp only [if_true]
    rw [rdFeat_put h1, z2 h3]
  · simp only at hk h1 h2 h3 h4
    subst hk
    rw [rdOp, opB, List.append_assoc, rdN_put (by simp only; omega) (by simp only; omega)]
    simp only [if_true, if_false, Int.one_ne_zero]
    rw [rdN_put (by omega) (by omega), z1 h3, z2 h4]
  · simp only at hk h1 h2 h3
    subst hk h2
    have e2 : ¬ (2 : Int) = 0 := by decide
    have e3 : ¬ (2 : Int) = 1 := by decide
    rw [rdOp, opB, List.append_assoc, rdN_put (by simp only; omega) (by simp only; omega)]
    simp only [if_true, if_neg e2, if_neg e3]
    rw [rdMp_put h1, z1 h3]
theorem rdOps_put {l : List Op} {nodes : Int} (h : opsOk nodes l) (t : List Nat) : rdOps (opsB l ++ t) = (l, t) := by
  obtain ⟨h1, h2, h3⟩ := h
  rw [rdOps, opsB, List.append_assoc, rdN_put (by omega) (by omega)]
  simp only [Int.toNat_natCast]
  refine rep_put l t fun o ho t => ?_
  obtain ⟨i, hi, rfl⟩ := List.mem_iff_getElem.1 ho
  have := (h3 i hi).1
  rw [getD_op hi] at this
  exact rdOp_put this t
theorem mp0_of {f : Mp} (h : mpZero f) : f = ⟨0, [], []⟩ := by
  obtain ⟨a, b, c⟩ := h
  cases f; simp only at a b c; rw [a, b, c]
theorem rdRc_put {r : Rc} (h : recOk r) : rdRc (recB r) = r := by
  obtain ⟨kind, node, seq, base, commit, m, ops⟩ := r
  rcases h with ⟨hk, h1, h2, h3, h4, h5, h6⟩ | ⟨hk, h1, h2, h3, h4, h5, h6⟩ | ⟨hk, h1, h2, h3, h4⟩ | ⟨hk, h1, h2, h3, h4, h5⟩
  · simp only at hk h1 h2 h3 h4 h5 h6
    subst hk h2 h3 h4 h5 h6
    rw [rdRc, recB]
    simp only [if_true]
    rw [rdN_put (by omega) (by omega)]
    have := rdMp_put h1 []
    rw [List.append_nil] at this
    simp only [if_true, this]
  · simp only at hk h1 h2 h3 h4 h5 h6
    subst h5
    obtain ⟨t1, t2, t3, t4⟩ := h1
    have e0 : ¬ kind = 0 := by omega
    rw [rdRc, recB]
    simp only [if_neg e0, if_pos hk, txB, List.append_assoc]
    rw [rdN_put (by omega) (by omega)]
    simp only [if_neg e0, if_pos hk]
    rw [rdN_put (by omega) (by omega)]
    simp only
    rw [rdN_put (by omega) (by omega)]
    simp only
    rw [rdN_put (by omega) (by omega)]
    have := rdOps_put h4 []
    rw [List.append_nil] at this
    simp only [this]
    rw [mp0_of h6, show base + 1 - 1 = base by omega]
  · simp only at hk h1 h2 h3 h4
    subst hk h2 h3
    obtain ⟨t1, t2, t3, t4⟩ := h1
    have e0 : ¬ (3 : Int) = 0 := by decide
    have e1 : ¬ ((3 : Int) = 1 ∨ (3 : Int) = 2) := by decide
    rw [rdRc, recB]
    simp only [if_neg e0, if_neg e1, if_true, txB, List.append_assoc]
    rw [rdN_put (by omega) (by omega)]
    simp only [if_neg e0, if_neg e1, if_true]
    rw [rdN_put (by omega) (by omega)]
    simp only
    rw [rdN_put (by omega) (by omega)]
    simp only
    have hb := rdN_put (x := if commit then 1 else 0) (n := 1) (by split <;> omega) (by split <;> omega) []
    rw [List.append_nil] at hb
    rw [bitB, hb, mp0_of h4]
    cases commit <;> simp
  · simp only at hk h1 h2 h3 h4 h5
    subst hk h2 h3 h4
    obtain ⟨t1, t2, t3, t4⟩ := h1
    have e0 : ¬ (4 : Int) = 0 := by decide
    have e1 : ¬ ((4 : Int) = 1 ∨ (4 : Int) = 2) := by decide
    have e3 : ¬ (4 : Int) = 3 := by decide
    rw [rdRc, recB]
    simp only [if_neg e0, if_neg e1, if_neg e3, txB, List.append_assoc]
    rw [rdN_put (by omega) (by omega)]
    simp only [if_neg e0, if_neg e1, if_neg e3]
    rw [rdN_put (by omega) (by omega)]
    simp only
    have hb := rdN_put (x := seq) (n := 2) (by omega) (by omega) []
    rw [List.append_nil] at hb
    simp only [List.append_nil]
    rw [hb, mp0_of h5]
end Go.Proofs.Ytinonmcnofjeeaa.VM
