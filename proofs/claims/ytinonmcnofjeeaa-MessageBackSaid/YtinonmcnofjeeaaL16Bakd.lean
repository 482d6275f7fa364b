/- Part of a proof: what stands for the program, and its walk. No condition. -/
import Derived.Below
import Derived.ChangeArms
import Derived.ChangeMaps5
import Derived.KernelRfl
import Derived.Laws.Cells
import Derived.Laws.IdiomCopy
import Derived.MapKept
import Derived.Orders
import Derived.SizedLaws
import Derived.WalkKit
import Derived.WalkLawsBesides
import GoSem.Claim
import Derived.Test.YtinonmcnofjeeaaL16Bakc
set_option linter.unusedSimpArgs false
set_option linter.unusedVariables false
set_option linter.defProp false
set_option maxHeartbeats 1000000
namespace Go.Proofs.Ytinonmcnofjeeaa.VM
attribute [local irreducible] Af Nx EvO Ev Un Gd Cd EvR EvQ EvC Nc Gc Lp EvM NxM AfM GdM EvMR EvMQ EvMD EvMC Nm Gm
def cPt (p : Pt) : List AV := [.int .i64 p.x, .int .i64 p.y]
def cRing (r : List Pt) : AV := cRow ((r.map cPt).flatten) r.length
def cRings (rs : List (List Pt)) : AV := cRow (rs.map cRing) rs.length
def cFeat (f : Feat) : List AV := [.int .i64 f.id, .int .i64 f.shape, cRings f.rings]
def cInts (l : List Int) : AV := cRow (l.map (AV.int .i64)) l.length
def cOpL (o : Op) : List AV := [.int .i64 o.kind, .int .i64 o.f.id, .int .i64 o.f.shape, cRings o.f.rings, .int .i64 o.id, .int .i64 o.m.epoch, cInts o.m.starts, cInts o.m.owners]
def cOpsL (l : List Op) : AV := cRow ((l.map cOpL).flatten) l.length
/-- sizes of data that stay small -/
def ringSm (r : List Pt) : Prop := r.length ≤ 1000000 ∧ ∀ p ∈ r, I64 p.x ∧ I64 p.y
def featSm (f : Feat) : Prop := I64 f.id ∧ I64 f.shape ∧ f.rings.length ≤ 1000000 ∧ ∀ r ∈ f.rings, ringSm r
def intsSm (l : List Int) : Prop := l.length ≤ 1000000 ∧ ∀ x ∈ l, I64 x
def mpSm (m : Mp) : Prop := I64 m.epoch ∧ intsSm m.starts ∧ intsSm m.owners
def opSm (o : Op) : Prop := I64 o.kind ∧ featSm o.f ∧ I64 o.id ∧ mpSm o.m
def opsSm (l : List Op) : Prop := l.length ≤ 1000000 ∧ ∀ o ∈ l, opSm o
theorem row_isL {α : Type} {b : Nat} {R : α → List AV → Prop} {l : List α} {c : List AV} (hb : l.length * b ≤ reachBytes) (h : Cat R l c) : IsL b R (cRow c l.length) l := by
  cases l with
  | nil => exact isL_nil b R
  | cons x l => rw [cRow_s _ (by simp)]; exact isL_rs h hb
theorem cat_map {α : Type} {R : α → List AV → Prop} {F : α → List AV} : ∀ {l : List α}, (∀ x ∈ l, R x (F x)) → Cat R l (l.map F).flatten
  | [], _ => .nil
  | x :: l, h => .cons (h x List.mem_cons_self) (cat_map fun y hy => h y (List.mem_cons_of_mem _ hy))
theorem cat_map1 {α : Type} {R : α → List AV → Prop} {F : α → AV} : ∀ {l : List α}, (∀ x ∈ l, R x [F x]) → Cat R l (l.map F)
  | [], _ => .nil
  | x :: l, h => .cons (c := [F x]) (h x List.mem_cons_self) (cat_map1 fun y hy => h y (List.mem_cons_of_mem _ hy))
theorem reach_eq : reachBytes = 140737488351232 := rfl
theorem cRing_is {r : List Pt} (h : ringSm r) : IsL 16 RPt (cRing r) r := row_isL (by rw [reach_eq]; have := h.1; omega) (cat_map fun p hp => ⟨rfl, h.2 p hp⟩)
theorem cRings_is {f : List (List Pt)} (h1 : f.length ≤ 1000000) (h2 : ∀ r ∈ f, ringSm r) : IsL 24 RRing (cRings f) f := row_isL (by rw [reach_eq]; omega) (cat_map1 fun r hr => ⟨_, rfl, cRing_is (h2 r hr)⟩)
theorem cFeat_is {f : Feat} (h : featSm f) : RFeat f (cFeat f) := ⟨_, rfl, h.1, h.2.1, cRings_is h.2.2.1 h.2.2.2⟩
theorem cInts_is {l : List Int} (h : intsSm l) : IsL 8 RInt (cInts l) l := row_isL (by rw [reach_eq]; have := h.1; omega) (cat_map1 fun x hx => ⟨rfl, h.2 x hx⟩)
theorem cOp_is {o : Op} (h : opSm o) : ROp o (cOpL o) := ⟨_, _, _, rfl, h.1, h.2.1.1, h.2.1.2.1, cRings_is h.2.1.2.2.1 h.2.1.2.2.2, h.2.2.1, h.2.2.2.1, cInts_is h.2.2.2.2.1, cInts_is h.2.2.2.2.2⟩
theorem cOpsL_is {l : List Op} (h : opsSm l) : IsL 112 ROp (cOpsL l) l := row_isL (by rw [reach_eq]; have := h.1; omega) (cat_map fun o ho => cOp_is (h.2 o ho))
section
variable {α : Type}
def rep (f : List Nat → α × List Nat) : Nat → List Nat → List α × List Nat
  | 0, s => ([], s)
  | n + 1, s => ((f s).1 :: (rep f n (f s).2).1, (rep f n (f s).2).2)
theorem rep_len (f : List Nat → α × List Nat) : ∀ n s, (rep f n s).1.length = n
  | 0, _ => rfl
  | n + 1, s => by rw [rep, List.length_cons, rep_len f n]
theorem rep_by {f : List Nat → α × List Nat} (hf : ∀ s, By s → By (f s).2) : ∀ n s, By s → By (rep f n s).2
  | 0, _, h => h
  | n + 1, s, h => rep_by hf n _ (hf s h)
theorem rep_all {f : List Nat → α × List Nat} {p : α → Prop} (hb : ∀ s, By s → By (f s).2) (hf : ∀ s, By s → p (f s).1) : ∀ n s, By s → ∀ x ∈ (rep f n s).1, p x
  | 0, _, _, x, hx => by simp [rep] at hx
  | n + 1, s, h, x, hx => by
    rcases List.mem_cons.1 hx with rfl | hx
    · exact hf s h
    · exact rep_all hb hf n _ (hb s h) x hx
/-- what was written is read -/
theorem rep_put {f : List Nat → α × List Nat} {F : α → List Nat} : ∀ (l : List α) (t : List Nat), (∀ x ∈ l, ∀ t, f (F x ++ t) = (x, t)) → rep f l.length ((l.map F).flatten ++ t) = (l, t)
  | [], t, _ => rfl
  | x :: l, t, h => by
    rw [List.length_cons, rep, List.map_cons, List.flatten_cons, List.append_assoc, h x List.mem_cons_self, rep_put l t fun y hy => h y (List.mem_cons_of_mem _ hy)]
end
def rdPt (s : List Nat) : Pt × List Nat := (⟨(rdN 4 s).1, (rdN 4 (rdN 4 s).2).1⟩, (rdN 4 (rdN 4 s).2).2)
def rdRing (s : List Nat) : List Pt × List Nat := rep rdPt (rdN 1 s).1.toNat (rdN 1 s).2
def rdFeat (s : List Nat) : Feat × List Nat :=
  let a := rdN 2 s; let b := rdN 1 a.2; let c := rdN 1 b.2; let d := rep rdRing c.1.toNat c.2
  (⟨a.1, b.1, d.1⟩, d.2)
def rdMp (s : List Nat) : Mp × List Nat :=
  let a := rdN 2 s; let b := rdN 1 a.2; let c := rep (rdN 4) b.1.toNat b.2; let d := rep (rdN 1) b.1.toNat c.2
  (⟨a.1, c.1, d.1⟩, d.2)
def rdOp (s : List Nat) : Op × List Nat :=
  let k := rdN 1 s
  if k.1 = 0 then (⟨k.1, (rdFeat k.2).1, 0, ⟨0, [], []⟩⟩, (rdFeat k.2).2)
  else if k.1 = 1 then (⟨k.1, ⟨0, 0, []⟩, (rdN 2 k.2).1, ⟨0, [], []⟩⟩, (rdN 2 k.2).2)
  else if k.1 = 2 then (⟨k.1, ⟨0, 0, []⟩, 0, (rdMp k.2).1⟩, (rdMp k.2).2)
  else (⟨k.1, ⟨0, 0, []⟩, 0, ⟨0, [], []⟩⟩, k.2)
def rdOps (s : List Nat) : List Op × List Nat := rep rdOp (rdN 1 s).1.toNat (rdN 1 s).2
theorem rdPt_by {s : List Nat} (h : By s) : By (rdPt s).2 := rdN_by (rdN_by h)
theorem rdRing_by {s : List Nat} (h : By s) : By (rdRing s).2 := rep_by (fun _ h => rdPt_by h) _ _ (rdN_by h)
theorem rdFeat_by {s : List Nat} (h : By s) : By (rdFeat s).2 := rep_by (fun _ h => rdRing_by h) _ _ (rdN_by (rdN_by (rdN_by h)))
theorem rdMp_by {s : List Nat} (h : By s) : By (rdMp s).2 := rep_by (fun _ h => rdN_by h) _ _ (rep_by (fun _ h => rdN_by h) _ _ (rdN_by (rdN_by h)))
theorem rdOp_by {s : List Nat} (h : By s) : By (rdOp s).2 := by
  unfold rdOp
  simp only
  split
  · exact rdFeat_by (rdN_by h)
  · split
    · exact rdN_by (rdN_by h)
    · split
      · exact rdMp_by (rdN_by h)
      · exact rdN_by h
theorem i64_rdN {n : Nat} (hn : n ≤ 4) {s : List Nat} (h : By s) : I64 (rdN n s).1 := by
  have := rdN_le hn h
  exact ⟨by omega, by omega⟩
theorem rdRing_sm {s : List Nat} (h : By s) : ringSm (rdRing s).1 := by
  refine ⟨?_, rep_all (fun _ h => rdPt_by h) (fun s h => ⟨i64_rdN (by decide) h, i64_rdN (by decide) (rdN_by h)⟩) _ _ (rdN_by h)⟩
  rw [rdRing, rep_len]
  have := rdN1_le h
  omega
theorem rdFeat_sm {s : List Nat} (h : By s) : featSm (rdFeat s).1 := by
  refine ⟨i64_rdN (by decide) h, i64_rdN (by decide) (rdN_by h), ?_, rep_all (fun _ h => rdRing_by h) (fun s h => rdRing_sm h) _ _ (rdN_by (rdN_by (rdN_by h)))⟩
  have := rdN1_le (rdN_by (n := 1) (rdN_by (n := 2) h))
  show (rep rdRing _ _).1.length ≤ _
  rw [rep_len]
  omega
theorem rdMp_sm {s : List Nat} (h : By s) : mpSm (rdMp s).1 := by
  have := rdN1_le (rdN_by (n := 2) h)
  refine ⟨i64_rdN (by decide) h, ⟨?_, rep_all (fun _ h => rdN_by h) (fun s h => i64_rdN (by decide) h) _ _ (rdN_by (rdN_by h))⟩, ⟨?_, rep_all (fun _ h => rdN_by h) (fun s h => i64_rdN (by decide) h) _ _ (rep_by (fun _ h => rdN_by h) _ _ (rdN_by (rdN_by h)))⟩⟩
  · show (rep (rdN 4) _ _).1.length ≤ _
    rw [rep_len]; omega
  · show (rep (rdN 1) _ _).1.length ≤ _
    rw [rep_len]; omega
theorem i64z : I64 0 := ⟨by decide, by decide⟩
theorem mpSm0 : mpSm ⟨0, [], []⟩ := ⟨i64z, ⟨by simp, by simp⟩, ⟨by simp, by simp⟩⟩
theorem featSm0 : featSm ⟨0, 0, []⟩ := ⟨i64z, i64z, by simp, by simp⟩
theorem rdOp_sm {s : List Nat} (h : By s) : opSm (rdOp s).1 := by
  unfold rdOp
  simp only
  split
  · exact ⟨i64_rdN (by decide) h, rdFeat_sm (rdN_by h), i64z, mpSm0⟩
  · split
    · exact ⟨i64_rdN (by decide) h, featSm0, i64_rdN (by decide) (rdN_by h), mpSm0⟩
    · split
      · exact ⟨i64_rdN (by decide) h, featSm0, i64z, rdMp_sm (rdN_by h)⟩
      · exact ⟨i64_rdN (by decide) h, featSm0, i64z, mpSm0⟩
theorem rdOps_sm {s : List Nat} (h : By s) : opsSm (rdOps s).1 := by
  have := rdN1_le h
  refine ⟨?_, rep_all (fun _ h => rdOp_by h) (fun s h => rdOp_sm h) _ _ (rdN_by h)⟩
  show (rep rdOp _ _).1.length ≤ _
  rw [rep_len]; omega
theorem beV_acc : ∀ (l : List Nat) (x : Nat), l.foldl (fun x b => x * 256 + b) x = x * 256 ^ l.length + beV l
  | [], x => by simp [beV]
  | b :: l, x => by
    have e : beV (b :: l) = l.foldl (fun x b => x * 256 + b) (0 * 256 + b) := rfl
    rw [e, List.foldl_cons, beV_acc l (x * 256 + b), beV_acc l (0 * 256 + b), List.length_cons, Nat.pow_succ, Nat.zero_mul, Nat.zero_add, Nat.add_mul, Nat.mul_assoc, Nat.mul_comm 256 (256 ^ l.length), Nat.add_assoc]
theorem beV_cons (b : Nat) (l : List Nat) : beV (b :: l) = b * 256 ^ l.length + beV l := by
  have e : beV (b :: l) = l.foldl (fun x b => x * 256 + b) (0 * 256 + b) := rfl
  rw [e, beV_acc, Nat.zero_mul, Nat.zero_add]
theorem beV_numN (x : Nat) : ∀ n : Nat, beV (numB (x : Int) n) = x % 256 ^ n
  | 0 => by simp [numB, beV, Nat.mod_one]
  | n + 1 => by
    have e : ((x : Int) / ((256 ^ n : Nat) : Int) % 256).toNat = x / 256 ^ n % 256 := by
      rw [← Int.natCast_ediv]
      omega
    rw [numB, beV_cons, numB_len, e, beV_numN x n, Nat.pow_succ, Nat.mod_mul, Nat.mul_comm, Nat.add_comm]
theorem beV_num {x : Int} {n : Nat} (h0 : 0 ≤ x) (h1 : x < ((256 ^ n : Nat) : Int)) : (beV (numB x n) : Int) = x := by
  obtain ⟨k, rfl⟩ := Int.eq_ofNat_of_zero_le h0
  rw [beV_numN, Nat.mod_eq_of_lt (by omega)]
theorem rdN_put {x : Int} {n : Nat} (h0 : 0 ≤ x) (h1 : x < ((256 ^ n : Nat) : Int)) (t : List Nat) : rdN n (numB x n ++ t) = (x, t) := by
  have hl := numB_len x n
  rw [rdN, if_neg (by rw [List.length_append]; omega), List.take_left' hl, List.drop_left' hl, beV_num h0 h1]
theorem rdPt_put {p : Pt} (h : ptOk p) (t : List Nat) : rdPt (ptB p ++ t) = (p, t) := by
  obtain ⟨⟨a, b⟩, ⟨c, d⟩⟩ := h
  rw [rdPt, ptB, List.append_assoc, rdN_put a (by omega), rdN_put c (by omega)]
theorem rdRing_put {r : List Pt} (hl : r.length ≤ 255) (h : ∀ p ∈ r, ptOk p) (t : List Nat) : rdRing (ringB r ++ t) = (r, t) := by
  rw [rdRing, ringB, List.append_assoc, rdN_put (by omega) (by omega)]
  simp only [Int.toNat_natCast]
  exact rep_put r t fun p hp t => rdPt_put (h p hp) t
theorem featOk_pts {f : Feat} (h : featOk f) : 0 ≤ f.shape ∧ f.shape ≤ 2 ∧ ∀ r ∈ f.rings, r.length ≤ 255 ∧ ∀ p ∈ r, ptOk p := by
  obtain ⟨a1, a2, a3, a4, h⟩ := h
  have all : ∀ {r : List Pt} {least : Int} {c : Bool}, ringOk least c r → r.length ≤ 255 ∧ ∀ p ∈ r, ptOk p := fun {r least c} ⟨_, q, k⟩ => ⟨by omega, fun p hp => by
    obtain ⟨i, hi, rfl⟩ := List.mem_iff_getElem.1 hp
    have := (k i hi).1
    rwa [getD_pt hi] at this⟩
  have one : f.rings.length = 1 → ∀ r ∈ f.rings, r = f.rings.getD 0 [] := fun hl r hr => by
    obtain ⟨i, hi, rfl⟩ := List.mem_iff_getElem.1 hr
    have : i = 0 := by omega
    subst this
    rw [getD_ring hi]
  rcases h with ⟨b1, b2, b3, b4⟩ | ⟨b1, b2, b3⟩ | ⟨b1, b2⟩
  · refine ⟨by omega, by omega, fun r hr => ?_⟩
    rw [one b2 r hr]
    refine ⟨by omega, fun p hp => ?_⟩
    obtain ⟨i, hi, rfl⟩ := List.mem_iff_getElem.1 hp
    have : i = 0 := by omega
    subst this
    rwa [getD_pt hi] at b4
  · refine ⟨by omega, by omega, fun r hr => ?_⟩
    rw [one b2 r hr]
    exact all b3
  · refine ⟨by omega, by omega, fun r hr => ?_⟩
    obtain ⟨i, hi, rfl⟩ := List.mem_iff_getElem.1 hr
    have := b2 i hi
    rw [getD_ring hi] at this
    exact all this
theorem rdFeat_put {f : Feat} (h : featOk f) (t : List Nat) : rdFeat (featB f ++ t) = (f, t) := by
  obtain ⟨s0, s2, hp⟩ := featOk_pts h
  obtain ⟨a1, a2, a3, a4, _⟩ := h
  rw [rdFeat, featB]
  simp only [List.append_assoc]
  rw [rdN_put (by omega) (by omega)]
  simp only
  rw [rdN_put (by omega) (by omega)]
  simp only
  rw [rdN_put (by omega) (by omega)]
  simp only [Int.toNat_natCast]
  rw [rep_put f.rings t fun r hr t => rdRing_put (hp r hr).1 (hp r hr).2 t]
theorem mpOk_pts {m : Mp} {nodes : Int} (h : mpOk nodes m) : (∀ x ∈ m.starts, 0 ≤ x ∧ x < 4294967296) ∧ ∀ x ∈ m.owners, 0 ≤ x ∧ x < 8 := by
  obtain ⟨a1, a2, a3, a4, a5, a6, a7, a8, h⟩ := h
  have pos : ∀ i, i < m.starts.length → 0 ≤ m.starts.getD i 0 := by
    intro i
    induction i with
    | zero => intro _; omega
    | succ i ih =>
      intro hi
      have := (h (i + 1) hi).2.1
      have := ih (by omega)
      simp at *
      omega
  refine ⟨fun x hx => ?_, fun x hx => ?_⟩
  · obtain ⟨i, hi, rfl⟩ := List.mem_iff_getElem.1 hx
    have := h i hi
    have := pos i hi
    rw [getD_int hi] at *
    exact ⟨this, by have := (h i hi).1; rw [getD_int hi] at this; exact this⟩
  · obtain ⟨i, hi, rfl⟩ := List.mem_iff_getElem.1 hx
    have := (h i (by omega)).2.2
    rw [getD_int hi] at this
    omega
theorem rdMp_put {m : Mp} {nodes : Int} (h : mpOk nodes m) (t : List Nat) : rdMp (mpB m ++ t) = (m, t) := by
  obtain ⟨h1, h2⟩ := mpOk_pts h
  obtain ⟨a1, a2, a3, a4, a5, a6, a7, a8, _⟩ := h
  rw [rdMp, mpB]
  simp only [List.append_assoc]
  rw [rdN_put (by omega) (by omega)]
  simp only
  rw [rdN_put (by omega) (by omega)]
  simp only [Int.toNat_natCast]
  rw [rep_put m.starts _ fun x hx t => rdN_put (h1 x hx).1 (by have := (h1 x hx).2; omega) t]
  simp only
  rw [← a7, rep_put m.owners t fun x hx t => rdN_put (h2 x hx).1 (by have := (h2 x hx).2; omega) t]
theorem rdOp_put {o : Op} {nodes : Int} (h : opOk nodes o) (t : List Nat) : rdOp (opB o ++ t) = (o, t) := by
  have z1 : ∀ {f : Feat}, ftZero f → f = ⟨0, 0, []⟩ := fun {f} ⟨a, b, c⟩ => by cases f; simp only at a b c; rw [a, b, c]
  have z2 : ∀ {f : Mp}, mpZero f → f = ⟨0, [], []⟩ := fun {f} ⟨a, b, c⟩ => by cases f; simp only at a b c; rw [a, b, c]
  obtain ⟨kind, f, id, m⟩ := o
  rcases h with ⟨hk, h1, h2, h3⟩ | ⟨hk, h1, h2, h3, h4⟩ | ⟨hk, h1, h2, h3⟩
  · simp only at hk h1 h2 h3
    subst hk h2
    rw [rdOp, opB, List.append_assoc, rdN_put (by simp only; omega) (by simp only; omega)]
    simp only [if_true]
    rw [rdFeat_put h1, z2 h3]
  · simp only at hk h1 h2 h3 h4
    subst hk
    rw [rdOp, opB, List.append_assoc, rdN_put (by simp only; omega) (by simp only; omega)]
    simp only [if_true, if_false, Int.one_ne_zero]
    rw [rdN_put (by omega) (by omega), z1 h3, z2 h4]
  · simp only at hk h1 h2 h3
    subst hk h2
    have e2 : ¬ (2 : Int) = 0 := by decide
    have e3 : ¬ (2 : Int) = 1 := by decide
    rw [rdOp, opB, List.append_assoc, rdN_put (by simp only; omega) (by simp only; omega)]
    simp only [if_true, if_neg e2, if_neg e3]
    rw [rdMp_put h1, z1 h3]
theorem rdOps_put {l : List Op} {nodes : Int} (h : opsOk nodes l) (t : List Nat) : rdOps (opsB l ++ t) = (l, t) := by
  obtain ⟨h1, h2, h3⟩ := h
  rw [rdOps, opsB, List.append_assoc, rdN_put (by omega) (by omega)]
  simp only [Int.toNat_natCast]
  refine rep_put l t fun o ho t => ?_
  obtain ⟨i, hi, rfl⟩ := List.mem_iff_getElem.1 ho
  have := (h3 i hi).1
  rw [getD_op hi] at this
  exact rdOp_put this t
end Go.Proofs.Ytinonmcnofjeeaa.VM
namespace Go.Proofs.Ytinonmcnofjeeaa.VM
attribute [local irreducible] Af Nx EvO Ev Un Gd Cd EvR EvQ EvC Nc Gc Lp EvM NxM AfM GdM EvMR EvMQ EvMD EvMC Nm Gm
/-- a reader with these bytes left -/
def RP (rb : Nat) (t : List Nat) (h : Heap) : Prop := rb < h.next ∧ By t ∧ t.length < 4611686018427387904 ∧ ∃ e ver, h.get rb = some (.cells [.str t] e ver)
theorem RP.frame {rb : Nat} {t : List Nat} {h h' : Heap} (r : RP rb t h) (hn : h.next ≤ h'.next) (k : h'.get rb = h.get rb) : RP rb t h' := by
  obtain ⟨a, b, c, e, ver, d⟩ := r
  exact ⟨by omega, b, c, e, ver, k.trans d⟩
/-- where a call may write: this block, and new ones -/
structure Nx1 (rb : Nat) (h h' : Heap) : Prop where
  next : h'.next = h.next
  keep : ∀ b, b ≠ rb → h'.get b = h.get b
theorem Nx1.x {rb : Nat} {h h' : Heap} (n : Nx1 rb h h') : ExtX rb h h' := ⟨by rw [n.next]; exact Nat.le_refl _, fun b _ hx => n.keep b hx⟩
theorem LR.nx {rb : Nat} {h h' : Heap} {B : Nat → Prop} {v : AV} {sz n : Nat} {t : List AV} (r : LR h B v sz t n) (x : Nx1 rb h h') (hB : ¬ B rb) : LR h' B v sz t n :=
  r.frame (by rw [x.next]; exact Nat.le_refl _) fun b hb _ => x.keep b fun e => hB (e ▸ hb)
section
variable {P : Program}
theorem rnum_cl (g : Pg P tab) {rb N : Nat} (hN : N ≤ 4) {t : List Nat} {h : Heap} (r : RP rb t h) {Q : AV → Heap → Prop} (q : ∀ h', RP rb (rdN N t).2 h' → Nx1 rb h h' → Q (.int .i64 (rdN N t).1) h') : Cl P 57 [.ptr rb 0, .int .i64 N] h Q := by
  obtain ⟨a, b, c, e, ver, d⟩ := r
  refine (rnum g hN b c d).cl (q _ ⟨a, rdN_by b, Nat.lt_of_le_of_lt (rdN_len _ _) c, e, ver + 1, by rw [Heap.get_put, if_pos rfl]⟩ ⟨rfl, fun b hb => by rw [Heap.get_put, if_neg hb]⟩)
theorem rd_pts (g : Pg P tab) {rb : Nat} {h1 : Heap} (hrb : rb < h1.next) (n : Nat) : ∀ (done : List Pt) (t : List Nat) (s : T AV) (h : Heap) (k : List Fr) (Q : Ex → T AV → Heap → Prop), done.length + n ≤ 1000 →
    LR h (h1.next ≤ ·) (sg s 4) 2 ((done.map cPt).flatten) done.length → RP rb t h → ExtX rb h1 h → sg s 0 = .ptr rb 0 → sg s 16 = .int .i64 (done.length + n : Nat) → sg s 17 = .int .i64 done.length →
    (∀ s' h', LR h' (h1.next ≤ ·) (sg s' 4) 2 (((done ++ (rep rdPt n t).1).map cPt).flatten) (done.length + n) → RP rb (rep rdPt n t).2 h' → ExtX rb h1 h' → (∀ j, j = 0 ∨ j = 2 ∨ j = 3 ∨ j = 12 ∨ j = 13 → sg s' j = sg s j) → Un P k Q (.exit 2) s' h') → Lp P b95_0 s h (Un P k Q) := by
  induction n with
  | zero =>
    intro done t s h k Q hl r rp ex h0 h16 h17 hQ
    refine g.lpe b95_0.eq_1 ?_
    have c1 : ¬ ((done.length : Int) < (done.length : Int)) := by omega
    rw [Nat.add_zero] at h16
    simp only [h16, h17, c1, RX, VOp.fresh, bxC, bsC, un, most, callsOf, seval, Int.reducePow, ↓reduceIte, Nat.reduceEqDiff, reduceCtorEq]
    refine hQ _ _ ?_ rp ex ?_
    · simp only [sg_set, Nat.reduceEqDiff, ↓reduceIte]
      simpa [rep] using r
    · rintro j (rfl | rfl | rfl | rfl | rfl) <;> simp only [sg_set, Nat.reduceEqDiff, ↓reduceIte]
  | succ n ih =>
    intro done t s h k Q hl r rp ex h0 h16 h17 hQ
    refine g.lpe b95_0.eq_1 ?_
    have c1 : (done.length : Int) < ((done.length + (n + 1) : Nat) : Int) := by omega
    have w1 : IntKind.i64.wrap ((done.length : Int) + 1) = ((done.length + 1 : Nat) : Int) := by rw [w64 (by omega) (by omega)]; push_cast; rfl
    simp only [h0, h16, h17, c1, RX, VOp.fresh, bxC, bsC, un, most, callsOf, seval, Int.reducePow, ↓reduceIte, Nat.reduceEqDiff, reduceCtorEq]
    refine rnum_cl g (N := 4) (by decide) rp fun h2 rp2 x2 => ?_
    simp only [h0, RX, VOp.fresh, bxC, bsC, un, most, callsOf, seval, Int.reducePow, ↓reduceIte, Nat.reduceEqDiff, reduceCtorEq]
    refine rnum_cl g (N := 4) (by decide) rp2 fun h3 rp3 x3 => ?_
    have hnb : ¬ h1.next ≤ rb := by omega
    have r3 := (r.nx x2 hnb).nx x3 hnb
    have ex3 := (ex.trans x2.x).trans x3.x
    have em := Ext.mk (h := h3) (.cells [.int .i64 (rdN 4 t).1, .int .i64 (rdN 4 (rdN 4 t).2).1] 48 0)
    have hn3 : (h3.mk' h3.next (.cells [.int .i64 (rdN 4 t).1, .int .i64 (rdN 4 (rdN 4 t).2).1] 48 0)).next = h3.next + 1 := by rw [mk_next]; omega
    obtain ⟨h4, e4, r4, n4, k4⟩ := (r3.frame em.1 fun b _ hb => em.2 b hb).push (nb := h3.next) (eb := 48) (vb := 0) (c := [.int .i64 (rdN 4 t).1, .int .i64 (rdN 4 (rdN 4 t).2).1]) (by rw [Heap.get_mk, if_pos rfl]) rfl rfl (Lvs.tolds rfl rfl) (by rw [hn3]; have := ex3.1; omega) (bytes := 16) (by unfold most2; omega) 48
    rw [hn3] at e4 r4 n4 k4
    have hv := r3.inB
    have kk : ∀ b, b < h3.next → b ∉ blkOf (sg s 4) → h4.get b = h3.get b := fun b hb hn => (k4 b hn (by omega)).trans (em.2 b hb)
    have hrb3 : rb < h3.next := rp3.1
    simp only [h0, h17, e4, w1, RX, VOp.fresh, bxC, bsC, un, most, callsOf, seval, Int.reducePow, ↓reduceIte, Nat.reduceEqDiff, reduceCtorEq]
    refine ih (done ++ [⟨(rdN 4 t).1, (rdN 4 (rdN 4 t).2).1⟩]) (rdN 4 (rdN 4 t).2).2 _ h4 k Q (by rw [List.length_append, List.length_singleton]; omega) ?_ ?_ ?_ ?_ ?_ ?_ ?_
    · simp only [sg_set, Nat.reduceEqDiff, ↓reduceIte]
      simpa only [List.map_append, List.flatten_append, List.map_cons, List.map_nil, List.flatten_cons, List.flatten_nil, List.append_nil, List.length_append, List.length_singleton, cPt] using r4
    · exact rp3.frame (by omega) (kk rb hrb3 fun hc => hnb (hv rb hc))
    · exact ⟨by have := ex3.1; omega, fun b hb hx => (kk b (by have := ex3.1; omega) fun hc => by have := hv b hc; omega).trans (ex3.2 b hb hx)⟩
    · simp only [h0, sg_set, Nat.reduceEqDiff, ↓reduceIte]
    · simp only [h16, sg_set, Nat.reduceEqDiff, ↓reduceIte]
      rw [List.length_append, List.length_singleton]
      congr 2; omega
    · simp only [sg_set, Nat.reduceEqDiff, ↓reduceIte]
      rw [List.length_append, List.length_singleton]
    · intro s' h' q1 q2 q3 q4
      refine hQ s' h' ?_ q2 q3 fun j hj => (q4 j hj).trans ?_
      · simpa only [rep, rdPt, List.append_assoc, List.cons_append, List.nil_append, List.length_append, List.length_singleton, Nat.add_assoc, Nat.add_comm 1 n] using q1
      · rcases hj with rfl | rfl | rfl | rfl | rfl <;> simp only [sg_set, Nat.reduceEqDiff, ↓reduceIte]
theorem rd_rings (g : Pg P tab) {rb fb N0 : Nat} {G : Nat → Option Blk} {p0 p1 : AV} (hrb : rb < N0) (hfb : fb < N0) (hne : fb ≠ rb) (n : Nat) : ∀ (done : List (List Pt)) (t : List Nat) (s : T AV) (h : Heap) (rv : AV) (k : List Fr) (Q : Ex → T AV → Heap → Prop), done.length + n ≤ 1000 →
    N0 ≤ h.next → (∃ e ver, h.get fb = some (.cells [p0, p1, rv] e ver)) → LR h (N0 ≤ ·) rv 1 (done.map cRing) done.length → RP rb t h → (∀ b, b < N0 → b ≠ rb → b ≠ fb → h.get b = G b) → sg s 0 = .ptr rb 0 → sg s 3 = .ptr fb 0 → sg s 12 = .int .i64 (done.length + n : Nat) → sg s 13 = .int .i64 done.length →
    (∀ s' h' rv', (∃ e ver, h'.get fb = some (.cells [p0, p1, rv'] e ver)) → LR h' (N0 ≤ ·) rv' 1 ((done ++ (rep rdRing n t).1).map cRing) (done.length + n) → RP rb (rep rdRing n t).2 h' → (∀ b, b < N0 → b ≠ rb → b ≠ fb → h'.get b = G b) → N0 ≤ h'.next → (∀ j, j = 2 ∨ j = 3 → sg s' j = sg s j) → Un P k Q (.exit 0) s' h') → Lp P b95_1 s h (Un P k Q) := by
  induction n with
  | zero =>
    intro done t s h rv k Q hl hn0 hf r rp ex h0 h3 h12 h13 hQ
    refine g.lpe b95_1.eq_1 ?_
    have c1 : ¬ ((done.length : Int) < (done.length : Int)) := by omega
    rw [Nat.add_zero] at h12
    simp only [h12, h13, c1, RX, VOp.fresh, bxC, bsC, un, most, callsOf, seval, Int.reducePow, ↓reduceIte, Nat.reduceEqDiff, reduceCtorEq]
    refine hQ _ _ rv hf ?_ rp ex hn0 ?_
    · simpa [rep] using r
    · rintro j (rfl | rfl) <;> simp only [sg_set, Nat.reduceEqDiff, ↓reduceIte]
  | succ n ih =>
    intro done t s h rv k Q hl hn0 hf r rp ex h0 h3 h12 h13 hQ
    refine g.lpe b95_1.eq_1 ?_
    have c1 : (done.length : Int) < ((done.length + (n + 1) : Nat) : Int) := by omega
    have w1 : IntKind.i64.wrap ((done.length : Int) + 1) = ((done.length + 1 : Nat) : Int) := by rw [w64 (by omega) (by omega)]; push_cast; rfl
    have hnb : ¬ N0 ≤ rb := by omega
    simp only [h0, h12, h13, c1, RX, VOp.fresh, bxC, bsC, un, most, callsOf, seval, Int.reducePow, ↓reduceIte, Nat.reduceEqDiff, reduceCtorEq]
    refine rnum_cl g (N := 1) (by decide) rp fun h2 rp2 x2 => ?_
    have hby := rp.2.1
    have hk := rdN1_le hby
    have hk0 := (rdN_le (n := 1) (by decide) hby).1
    obtain ⟨m, hm⟩ : ∃ m : Nat, (rdN 1 t).1 = (m : Int) := ⟨(rdN 1 t).1.toNat, by omega⟩
    have e2 := x2.next
    simp only [h0, h3, h12, h13, hm, RX, VOp.fresh, bxC, bsC, un, most, callsOf, seval, Int.reducePow, ↓reduceIte, Nat.reduceEqDiff, reduceCtorEq]
    refine rd_pts g (h1 := h2) (by omega) m [] _ _ h2 _ _ (by simp; omega) ?_ rp2 ExtX.refl ?_ ?_ ?_ ?_
    · simp only [sg_set, Nat.reduceEqDiff, ↓reduceIte]
      exact .nil _ _ _
    · simp only [h0, sg_set, Nat.reduceEqDiff, ↓reduceIte]
    · simp only [sg_set, Nat.reduceEqDiff, ↓reduceIte]
      simp
    · simp only [sg_set, Nat.reduceEqDiff, ↓reduceIte]
      rfl
    intro s' h4 r4 rp4 x4 ks
    have a0 := ks 0 (by simp)
    have a2 := ks 2 (by simp)
    have a3 := ks 3 (by simp)
    have a12 := ks 12 (by simp)
    have a13 := ks 13 (by simp)
    simp only [sg_set, Nat.reduceEqDiff, ↓reduceIte, h0, h3, h12, h13] at a0 a2 a3 a12 a13
    clear ks
    obtain ⟨ef, vf, hf⟩ := hf
    have hf4 : h4.get fb = some (.cells [p0, p1, rv] ef vf) := (x4.2 fb (by omega) hne).trans ((x2.keep fb hne).trans hf)
    have r4' : LR h4 (N0 ≤ ·) rv 1 (done.map cRing) done.length := (r.nx x2 hnb).frame x4.1 fun b hb hlt => x4.2 b hlt fun e => hnb (e ▸ hb)
    have q4 : 4 ≤ 4 := Nat.le_refl _
    rw [List.nil_append] at r4
    generalize hv4 : sg s' 4 = v4 at r4
    have em := Ext.mk (h := h4) (.cells [v4] 49 0)
    have hn4 : (h4.mk' h4.next (.cells [v4] 49 0)).next = h4.next + 1 := by rw [mk_next]; omega
    have hlt4 := r4'.lt
    have hlt2 := (r.nx x2 hnb).lt
    have lv4 : Lvs (h4.mk' h4.next (.cells [v4] 49 0)) (fun b => N0 ≤ b ∧ b ∉ blkOf rv) [v4] [cRing (rep rdPt m (rdN 1 t).2).1] := by
      refine .cons ?_ .nil
      have l := r4.lv
      rw [show ([] : List Pt).length + m = (rep rdPt m (rdN 1 t).2).1.length by rw [rep_len]; simp] at l
      exact (l.frame em.1 fun b _ hb => em.2 b hb).weak fun b hb _ => ⟨by omega, fun hc => by have := hlt2 b hc; omega⟩
    obtain ⟨h5, e5, r5, n5, k5⟩ := (r4'.frame em.1 fun b _ hb => em.2 b hb).push (nb := h4.next) (eb := 49) (vb := 0) (c := [v4]) (by rw [Heap.get_mk, if_pos rfl]) rfl (by simp [r4.one]) lv4 (by rw [hn4]; have := x4.1; omega) (bytes := 24) (by unfold most2; omega) 49
    rw [hn4] at e5 r5 n5 k5
    have kk : ∀ b, b < h4.next → b ∉ blkOf rv → h5.get b = h4.get b := fun b hb hn => (k5 b hn (by omega)).trans (em.2 b hb)
    have hv := r4'.inB
    have hf5 : h5.get fb = some (.cells [p0, p1, rv] ef vf) := (kk fb (by have := x4.1; omega) fun hc => by have := hv fb hc; omega).trans hf4
    have hfn : ¬ fb = h4.next := by have := x4.1; omega
    have hvc := r4.cells
    simp only [a0, a3, a12, a13, hv4, hf4, hf5, hfn, e5, w1, RW, hvc, RX, VOp.fresh, bxC, bsC, un, most, callsOf, seval, Int.reducePow, ↓reduceIte, Nat.reduceEqDiff, reduceCtorEq]
    have er : rdRing t = (rep rdPt m (rdN 1 t).2) := by rw [rdRing, hm, Int.toNat_natCast]
    rw [← er] at lv4 r5 rp4
    refine ih (done ++ [(rdRing t).1]) (rdRing t).2 _ _ (.sl (h4.next + 1) 0 (done.length + 1) (done.length + 1) 1) k Q (by rw [List.length_append, List.length_singleton]; omega) ?_ ?_ ?_ ?_ ?_ ?_ ?_ ?_ ?_ ?_
    · rw [put_next]; have := x4.1; omega
    · exact ⟨ef, vf + 1, by rw [Heap.get_put, if_pos rfl]⟩
    · have r6 := (r5.weak (B' := fun b => N0 ≤ b ∧ b ≠ fb) fun b hb _ => ⟨hb, by omega⟩).frame (h' := h5.put fb (.cells [p0, p1, .sl (h4.next + 1) 0 (done.length + 1) (done.length + 1) 1] ef (vf + 1))) (by rw [put_next]; exact Nat.le_refl _) fun b hb _ => by rw [Heap.get_put, if_neg hb.2]
      have r7 := r6.weak (B' := (N0 ≤ ·)) fun b hb _ => hb.1
      simpa only [List.map_append, List.map_cons, List.map_nil, List.length_append, List.length_singleton] using r7
    · exact (rp4.frame (by omega) (kk rb rp4.1 fun hc => by have := hv rb hc; omega)).frame (by rw [put_next]; exact Nat.le_refl _) (by rw [Heap.get_put, if_neg (fun e => hne e.symm)])
    · intro b hb hx hf'
      rw [Heap.get_put, if_neg hf', kk b (by have := x4.1; omega) (fun hc => by have := hv b hc; omega), x4.2 b (by omega) hx, x2.keep b hx, ex b hb hx hf']
    · simp only [a0, sg_set, Nat.reduceEqDiff, ↓reduceIte]
    · simp only [a3, sg_set, Nat.reduceEqDiff, ↓reduceIte]
    · simp only [a12, sg_set, Nat.reduceEqDiff, ↓reduceIte]
      rw [List.length_append, List.length_singleton]
      congr 2; omega
    · simp only [sg_set, Nat.reduceEqDiff, ↓reduceIte]
      rw [List.length_append, List.length_singleton]
    · intro s'' h' rv' q0 q1 q2 q3 q4 q5
      refine hQ s'' h' rv' q0 ?_ q2 q3 q4 fun j hj => (q5 j hj).trans ?_
      · simpa only [rep, List.append_assoc, List.cons_append, List.nil_append, List.length_append, List.length_singleton, Nat.add_assoc, Nat.add_comm 1 n] using q1
      · rcases hj with rfl | rfl
        · simp only [a2, sg_set, Nat.reduceEqDiff, ↓reduceIte]
        · simp only [a3, h3, sg_set, Nat.reduceEqDiff, ↓reduceIte]
theorem rd_feat (g : Pg P tab) {rb : Nat} {t : List Nat} {h : Heap} (rp : RP rb t h) {Q : AV → Heap → Prop} (q : ∀ rv h', LR h' (h.next ≤ ·) rv 1 ((rdFeat t).1.rings.map cRing) (rdFeat t).1.rings.length → RP rb (rdFeat t).2 h' → ExtX rb h h' → Q (.agg [.int .i64 (rdFeat t).1.id, .int .i64 (rdFeat t).1.shape, rv]) h') : Cl P 95 [.ptr rb 0] h Q := by
  refine g.cl (vf := v95) rfl rfl ?_
  have hrb := rp.1
  have x1 := Ext.mk (h := h) (.cells [.int .i64 0, .int .i64 0, .nils] 52 0)
  have n1 : (h.mk' h.next (.cells [.int .i64 0, .int .i64 0, .nils] 52 0)).next = h.next + 1 := by rw [mk_next]; omega
  have g1 : (h.mk' h.next (.cells [.int .i64 0, .int .i64 0, .nils] 52 0)).get h.next = some (.cells [.int .i64 0, .int .i64 0, .nils] 52 0) := by rw [Heap.get_mk, if_pos rfl]
  have rp1 := rp.frame x1.1 (x1.2 rb hrb)
  simp only [v95, RX, VOp.fresh, bxC, bsC, un, most, callsOf, seval, Int.reducePow, ↓reduceIte, Nat.reduceEqDiff, reduceCtorEq]
  generalize h.mk' h.next (.cells [.int .i64 0, .int .i64 0, .nils] 52 0) = h1 at *
  refine rnum_cl g (N := 2) (by decide) rp1 fun h2 rp2 x2 => ?_
  simp only [RX, VOp.fresh, bxC, bsC, un, most, callsOf, seval, Int.reducePow, ↓reduceIte, Nat.reduceEqDiff, reduceCtorEq]
  refine rnum_cl g (N := 1) (by decide) rp2 fun h3 rp3 x3 => ?_
  simp only [RW, RX, VOp.fresh, bxC, bsC, un, most, callsOf, seval, Int.reducePow, ↓reduceIte, Nat.reduceEqDiff, reduceCtorEq]
  have e2 := x2.next
  have e3 := x3.next
  have g3 : h3.get h.next = some (.cells [.int .i64 0, .int .i64 0, .nils] 52 0) := (x3.keep _ (by omega)).trans ((x2.keep _ (by omega)).trans g1)
  have n4 : ((h3.mk' h3.next (.cells [.int .i64 0, .int .i64 0, .nils] 52 0)).put h3.next (.cells [.int .i64 (rdN 2 t).1, .int .i64 (rdN 1 (rdN 2 t).2).1, .nils] 52 1)).next = h3.next + 1 := by rw [put_next, mk_next]; omega
  have x4 : Ext h3 ((h3.mk' h3.next (.cells [.int .i64 0, .int .i64 0, .nils] 52 0)).put h3.next (.cells [.int .i64 (rdN 2 t).1, .int .i64 (rdN 1 (rdN 2 t).2).1, .nils] 52 1)) := ⟨by omega, fun b hb => by rw [Heap.get_put, if_neg (by omega), Heap.get_mk, if_neg (by omega)]⟩
  have g4 : ((h3.mk' h3.next (.cells [.int .i64 0, .int .i64 0, .nils] 52 0)).put h3.next (.cells [.int .i64 (rdN 2 t).1, .int .i64 (rdN 1 (rdN 2 t).2).1, .nils] 52 1)).get h3.next = some (.cells [.int .i64 (rdN 2 t).1, .int .i64 (rdN 1 (rdN 2 t).2).1, .nils] 52 1) := by rw [Heap.get_put, if_pos rfl]
  have rp4 := rp3.frame x4.1 (x4.2 rb rp3.1)
  generalize (h3.mk' h3.next (.cells [.int .i64 0, .int .i64 0, .nils] 52 0)).put h3.next (.cells [.int .i64 (rdN 2 t).1, .int .i64 (rdN 1 (rdN 2 t).2).1, .nils] 52 1) = h4 at *
  refine rnum_cl g (N := 1) (by decide) rp4 fun h5 rp5 x5 => ?_
  have e5 := x5.next
  have hby := rp3.2.1
  have hk := rdN1_le hby
  have hk0 := (rdN_le (n := 1) (by decide) hby).1
  obtain ⟨m, hm⟩ : ∃ m : Nat, (rdN 1 (rdN 1 (rdN 2 t).2).2).1 = (m : Int) := ⟨(rdN 1 (rdN 1 (rdN 2 t).2).2).1.toNat, by omega⟩
  have xa : ExtX rb h h5 := ((((x1.x).trans x2.x).trans x3.x).trans x4.x).trans x5.x
  have g5 : h5.get h3.next = some (.cells [.int .i64 (rdN 2 t).1, .int .i64 (rdN 1 (rdN 2 t).2).1, .nils] 52 1) := (x5.keep _ (by omega)).trans g4
  have g5b : h5.get h.next = some (.cells [.int .i64 0, .int .i64 0, .nils] 52 0) := (x5.keep _ (by omega)).trans ((x4.2 _ (by omega)).trans g3)
  simp only [hm, RX, VOp.fresh, bxC, bsC, un, most, callsOf, seval, Int.reducePow, ↓reduceIte, Nat.reduceEqDiff, reduceCtorEq]
  refine rd_rings g (N0 := h5.next) (G := h5.get) (fb := h3.next) (p0 := .int .i64 (rdN 2 t).1) (p1 := .int .i64 (rdN 1 (rdN 2 t).2).1) (by have := rp5.1; omega) (by omega) (by omega) m [] _ _ h5 .nils _ _ (by simp; omega) (Nat.le_refl _) ⟨_, _, g5⟩ (.nil _ _ _) rp5 (fun _ _ _ _ => rfl) ?_ ?_ ?_ ?_ ?_
  · simp only [sg_set, Nat.reduceEqDiff, ↓reduceIte]
  · simp only [sg_set, Nat.reduceEqDiff, ↓reduceIte]
  · simp only [sg_set, Nat.reduceEqDiff, ↓reduceIte]
    simp
  · simp only [sg_set, Nat.reduceEqDiff, ↓reduceIte]
    rfl
  intro s' h6 rv ⟨ef, vf, g6⟩ r6 rp6 x6 n6 ks
  have a2 := ks 2 (by simp)
  have a3 := ks 3 (by simp)
  simp only [sg_set, Nat.reduceEqDiff, ↓reduceIte] at a2 a3
  have er : (rdFeat t) = (⟨(rdN 2 t).1, (rdN 1 (rdN 2 t).2).1, (rep rdRing m (rdN 1 (rdN 1 (rdN 2 t).2).2).2).1⟩, (rep rdRing m (rdN 1 (rdN 1 (rdN 2 t).2).2).2).2) := by
    rw [rdFeat]
    simp only [hm, Int.toNat_natCast]
  have hfn : ¬ h3.next = h.next := by omega
  have g6b : h6.get h.next = some (.cells [.int .i64 0, .int .i64 0, .nils] 52 0) := (x6 _ (by omega) (by omega) (by omega)).trans g5b
  simp only [a2, a3, g6, g6b, RW, r6.one, RX, VOp.fresh, bxC, bsC, un, most, callsOf, seval, Int.reducePow, ↓reduceIte, Nat.reduceEqDiff, reduceCtorEq]
  rw [List.nil_append] at r6
  rw [show ([] : List (List Pt)).length + m = (rep rdRing m (rdN 1 (rdN 1 (rdN 2 t).2).2).2).1.length by rw [rep_len]; simp] at r6
  have hq := q rv (h6.put h.next (.cells [.int .i64 (rdN 2 t).1, .int .i64 (rdN 1 (rdN 2 t).2).1, rv] 52 1))
  rw [er] at hq
  refine hq ?_ ?_ ?_
  · exact ((r6.weak (B' := fun b => h.next ≤ b ∧ b ≠ h.next) fun b hb _ => ⟨by omega, by omega⟩).frame (by rw [put_next]; exact Nat.le_refl _) fun b hb _ => by rw [Heap.get_put, if_neg hb.2]).weak fun b hb _ => hb.1
  · exact rp6.frame (by rw [put_next]; exact Nat.le_refl _) (by rw [Heap.get_put, if_neg (by omega)])
  · refine ⟨by rw [put_next]; omega, fun b hb hx => ?_⟩
    rw [Heap.get_put, if_neg (by omega), x6 b (by have := xa.1; omega) hx (by omega)]
    exact xa.2 b hb hx
end
end Go.Proofs.Ytinonmcnofjeeaa.VM
namespace Go.Proofs.Ytinonmcnofjeeaa.VM
attribute [local irreducible] Af Nx EvO Ev Un Gd Cd EvR EvQ EvC Nc Gc Lp EvM NxM AfM GdM EvMR EvMQ EvMD EvMC Nm Gm
section
variable {P : Program}
theorem rd_ints0 (g : Pg P tab) {rb fb N0 : Nat} {G : Nat → Option Blk} {p0 p1 : AV} (hrb : rb < N0) (hfb : fb < N0) (hne : fb ≠ rb) (n : Nat) : ∀ (done : List Int) (t : List Nat) (s : T AV) (h : Heap) (rv : AV) (k : List Fr) (Q : Ex → T AV → Heap → Prop), done.length + n ≤ 1000 →
    N0 ≤ h.next → (∃ e ver, h.get fb = some (.cells [p0, rv, p1] e ver)) → LR h (N0 ≤ ·) rv 1 (done.map (AV.int .i64)) done.length → RP rb t h → (∀ b, b < N0 → b ≠ rb → b ≠ fb → h.get b = G b) → sg s 0 = .ptr rb 0 → sg s 3 = .ptr fb 0 → sg s 10 = .int .i64 (done.length + n : Nat) → sg s 11 = .int .i64 done.length →
    (∀ s' h' rv', (∃ e ver, h'.get fb = some (.cells [p0, rv', p1] e ver)) → LR h' (N0 ≤ ·) rv' 1 ((done ++ (rep (rdN 4) n t).1).map (AV.int .i64)) (done.length + n) → RP rb (rep (rdN 4) n t).2 h' → (∀ b, b < N0 → b ≠ rb → b ≠ fb → h'.get b = G b) → N0 ≤ h'.next → (∀ j, j = 0 ∨ j = 2 ∨ j = 3 ∨ j = 4 → sg s' j = sg s j) → Un P k Q (.exit 0) s' h') → Lp P b58_0 s h (Un P k Q) := by
  induction n with
  | zero =>
    intro done t s h rv k Q hl hn0 hf r rp ex h0 h3 h12 h13 hQ
    refine g.lpe b58_0.eq_1 ?_
    have c1 : ¬ ((done.length : Int) < (done.length : Int)) := by omega
    rw [Nat.add_zero] at h12
    simp only [h12, h13, c1, RX, VOp.fresh, bxC, bsC, un, most, callsOf, seval, Int.reducePow, ↓reduceIte, Nat.reduceEqDiff, reduceCtorEq]
    refine hQ _ _ rv hf ?_ rp ex hn0 ?_
    · simpa [rep] using r
    · rintro j (rfl | rfl | rfl | rfl) <;> simp only [sg_set, Nat.reduceEqDiff, ↓reduceIte]
  | succ n ih =>
    intro done t s h rv k Q hl hn0 hf r rp ex h0 h3 h12 h13 hQ
    refine g.lpe b58_0.eq_1 ?_
    have c1 : (done.length : Int) < ((done.length + (n + 1) : Nat) : Int) := by omega
    have w1 : IntKind.i64.wrap ((done.length : Int) + 1) = ((done.length + 1 : Nat) : Int) := by rw [w64 (by omega) (by omega)]; push_cast; rfl
    have hnb : ¬ N0 ≤ rb := by omega
    obtain ⟨ef, vf, hf⟩ := hf
    have rp0 := rp
    obtain ⟨_, hby, hlt, e, ver, hg⟩ := rp0
    simp only [h0, h3, h12, h13, c1, RX, VOp.fresh, bxC, bsC, un, most, callsOf, seval, Int.reducePow, ↓reduceIte, Nat.reduceEqDiff, reduceCtorEq]
    refine EvD.lk (fun _ _ h => (.int .i64 (rdN 4 t).1, h.put rb (.cells [.str (rdN 4 t).2] e (ver + 1)))) ?_
    have hok : OK P 57 [.ptr rb 0, .int .i64 4] h (.int .i64 (rdN 4 t).1) (h.put rb (.cells [.str (rdN 4 t).2] e (ver + 1))) := rnum g (N := 4) (by decide) hby hlt hg
    have x2 : Nx1 rb h (h.put rb (.cells [.str (rdN 4 t).2] e (ver + 1))) := ⟨rfl, fun b hb => by rw [Heap.get_put, if_neg hb]⟩
    have rp2 : RP rb (rdN 4 t).2 (h.put rb (.cells [.str (rdN 4 t).2] e (ver + 1))) := ⟨rp.1, rdN_by hby, Nat.lt_of_le_of_lt (rdN_len _ _) hlt, e, ver + 1, by rw [Heap.get_put, if_pos rfl]⟩
    generalize hh2 : h.put rb (.cells [.str (rdN 4 t).2] e (ver + 1)) = h2 at hok x2 rp2
    have e2 := x2.next
    have r2 := r.nx x2 hnb
    have hf2 := (x2.keep fb hne).trans hf
    have em := Ext.mk (h := h2) (.cells [.int .i64 (rdN 4 t).1] 3 0)
    have hn4 : (h2.mk' h2.next (.cells [.int .i64 (rdN 4 t).1] 3 0)).next = h2.next + 1 := by rw [mk_next]; omega
    obtain ⟨h5, e5, r5, n5, k5⟩ := (r2.frame em.1 fun b _ hb => em.2 b hb).push (nb := h2.next) (eb := 3) (vb := 0) (c := [.int .i64 (rdN 4 t).1]) (by rw [Heap.get_mk, if_pos rfl]) rfl rfl (Lvs.tolds rfl rfl) (by rw [hn4]; omega) (bytes := 8) (by unfold most2; omega) 3
    rw [hn4] at e5 r5 n5 k5
    have hv := r2.inB
    have kk : ∀ b, b < h2.next → b ∉ blkOf rv → h5.get b = h2.get b := fun b hb hn => (k5 b hn (by omega)).trans (em.2 b hb)
    have hf5 := (kk fb (by omega) fun hc => by have := hv fb hc; omega).trans hf2
    have hfn : ¬ fb = h2.next := by omega
    have hfr : ¬ fb = rb := hne
    simp only [h0, h3, hf, hf2, hf5, hfn, hok, hh2, e5, w1, RW, r2.one, RX, VOp.fresh, bxC, bsC, un, most, callsOf, seval, Int.reducePow, ↓reduceIte, Nat.reduceEqDiff, reduceCtorEq]
    refine ⟨⟨⟨?_, ?_, trivial⟩, trivial⟩, ?_⟩
    · show Lk _ _ _ _
      simp only [Lk, wanted, hf2, RX, VOp.fresh, bxC, bsC, un, most, callsOf, seval, Int.reducePow, ↓reduceIte, Nat.reduceEqDiff, reduceCtorEq]
    · show Lk _ _ _ _
      simp only [Lk, wanted, hf2, hfn, RX, VOp.fresh, bxC, bsC, un, most, callsOf, seval, Int.reducePow, ↓reduceIte, Nat.reduceEqDiff, reduceCtorEq]
    simp only [h13, w1, RX, VOp.fresh, bxC, bsC, un, most, callsOf, seval, Int.reducePow, ↓reduceIte, Nat.reduceEqDiff, reduceCtorEq]
    refine ih (done ++ [(rdN 4 t).1]) (rdN 4 t).2 _ _ (.sl (h2.next + 1) 0 (done.length + 1) (done.length + 1) 1) k Q (by rw [List.length_append, List.length_singleton]; omega) ?_ ?_ ?_ ?_ ?_ ?_ ?_ ?_ ?_ ?_
    · rw [put_next]; omega
    · exact ⟨ef, vf + 1, by rw [Heap.get_put, if_pos rfl]⟩
    · have r6 := (r5.weak (B' := fun b => N0 ≤ b ∧ b ≠ fb) fun b hb _ => ⟨hb, by omega⟩).frame (h' := h5.put fb (.cells [p0, .sl (h2.next + 1) 0 (done.length + 1) (done.length + 1) 1, p1] ef (vf + 1))) (by rw [put_next]; exact Nat.le_refl _) fun b hb _ => by rw [Heap.get_put, if_neg hb.2]
      have r7 := r6.weak (B' := (N0 ≤ ·)) fun b hb _ => hb.1
      simpa only [List.map_append, List.map_cons, List.map_nil, List.length_append, List.length_singleton] using r7
    · exact (rp2.frame (by omega) (kk rb rp2.1 fun hc => by have := hv rb hc; omega)).frame (by rw [put_next]; exact Nat.le_refl _) (by rw [Heap.get_put, if_neg (fun e => hne e.symm)])
    · intro b hb hx hf'
      rw [Heap.get_put, if_neg hf', kk b (by omega) (fun hc => by have := hv b hc; omega), x2.keep b hx, ex b hb hx hf']
    · simp only [h0, sg_set, Nat.reduceEqDiff, ↓reduceIte]
    · simp only [h3, sg_set, Nat.reduceEqDiff, ↓reduceIte]
    · simp only [h12, sg_set, Nat.reduceEqDiff, ↓reduceIte]
      rw [List.length_append, List.length_singleton]
      congr 2; omega
    · simp only [sg_set, Nat.reduceEqDiff, ↓reduceIte]
      rw [List.length_append, List.length_singleton]
    · intro s'' h' rv' q0 q1 q2 q3 q4 q5
      refine hQ s'' h' rv' q0 ?_ q2 q3 q4 fun j hj => (q5 j hj).trans ?_
      · simpa only [rep, List.append_assoc, List.cons_append, List.nil_append, List.length_append, List.length_singleton, Nat.add_assoc, Nat.add_comm 1 n] using q1
      · rcases hj with rfl | rfl | rfl | rfl <;> simp only [sg_set, Nat.reduceEqDiff, ↓reduceIte]
theorem rd_ints1 (g : Pg P tab) {rb fb N0 : Nat} {G : Nat → Option Blk} {p0 p1 : AV} (hrb : rb < N0) (hfb : fb < N0) (hne : fb ≠ rb) (n : Nat) : ∀ (done : List Int) (t : List Nat) (s : T AV) (h : Heap) (rv : AV) (k : List Fr) (Q : Ex → T AV → Heap → Prop), done.length + n ≤ 1000 →
    N0 ≤ h.next → (∃ e ver, h.get fb = some (.cells [p0, p1, rv] e ver)) → LR h (N0 ≤ ·) rv 1 (done.map (AV.int .i64)) done.length → RP rb t h → (∀ b, b < N0 → b ≠ rb → b ≠ fb → h.get b = G b) → sg s 0 = .ptr rb 0 → sg s 3 = .ptr fb 0 → sg s 21 = .int .i64 (done.length + n : Nat) → sg s 22 = .int .i64 done.length →
    (∀ s' h' rv', (∃ e ver, h'.get fb = some (.cells [p0, p1, rv'] e ver)) → LR h' (N0 ≤ ·) rv' 1 ((done ++ (rep (rdN 1) n t).1).map (AV.int .i64)) (done.length + n) → RP rb (rep (rdN 1) n t).2 h' → (∀ b, b < N0 → b ≠ rb → b ≠ fb → h'.get b = G b) → N0 ≤ h'.next → (∀ j, j = 0 ∨ j = 2 ∨ j = 3 ∨ j = 4 → sg s' j = sg s j) → Un P k Q (.exit 2) s' h') → Lp P b58_1 s h (Un P k Q) := by
  induction n with
  | zero =>
    intro done t s h rv k Q hl hn0 hf r rp ex h0 h3 h12 h13 hQ
    refine g.lpe b58_1.eq_1 ?_
    have c1 : ¬ ((done.length : Int) < (done.length : Int)) := by omega
    rw [Nat.add_zero] at h12
    simp only [h12, h13, c1, RX, VOp.fresh, bxC, bsC, un, most, callsOf, seval, Int.reducePow, ↓reduceIte, Nat.reduceEqDiff, reduceCtorEq]
    refine hQ _ _ rv hf ?_ rp ex hn0 ?_
    · simpa [rep] using r
    · rintro j (rfl | rfl | rfl | rfl) <;> simp only [sg_set, Nat.reduceEqDiff, ↓reduceIte]
  | succ n ih =>
    intro done t s h rv k Q hl hn0 hf r rp ex h0 h3 h12 h13 hQ
    refine g.lpe b58_1.eq_1 ?_
    have c1 : (done.length : Int) < ((done.length + (n + 1) : Nat) : Int) := by omega
    have w1 : IntKind.i64.wrap ((done.length : Int) + 1) = ((done.length + 1 : Nat) : Int) := by rw [w64 (by omega) (by omega)]; push_cast; rfl
    have hnb : ¬ N0 ≤ rb := by omega
    obtain ⟨ef, vf, hf⟩ := hf
    have rp0 := rp
    obtain ⟨_, hby, hlt, e, ver, hg⟩ := rp0
    simp only [h0, h3, h12, h13, c1, RX, VOp.fresh, bxC, bsC, un, most, callsOf, seval, Int.reducePow, ↓reduceIte, Nat.reduceEqDiff, reduceCtorEq]
    refine EvD.lk (fun _ _ h => (.int .i64 (rdN 1 t).1, h.put rb (.cells [.str (rdN 1 t).2] e (ver + 1)))) ?_
    have hok : OK P 57 [.ptr rb 0, .int .i64 1] h (.int .i64 (rdN 1 t).1) (h.put rb (.cells [.str (rdN 1 t).2] e (ver + 1))) := rnum g (N := 1) (by decide) hby hlt hg
    have x2 : Nx1 rb h (h.put rb (.cells [.str (rdN 1 t).2] e (ver + 1))) := ⟨rfl, fun b hb => by rw [Heap.get_put, if_neg hb]⟩
    have rp2 : RP rb (rdN 1 t).2 (h.put rb (.cells [.str (rdN 1 t).2] e (ver + 1))) := ⟨rp.1, rdN_by hby, Nat.lt_of_le_of_lt (rdN_len _ _) hlt, e, ver + 1, by rw [Heap.get_put, if_pos rfl]⟩
    generalize hh2 : h.put rb (.cells [.str (rdN 1 t).2] e (ver + 1)) = h2 at hok x2 rp2
    have e2 := x2.next
    have r2 := r.nx x2 hnb
    have hf2 := (x2.keep fb hne).trans hf
    have em := Ext.mk (h := h2) (.cells [.int .i64 (rdN 1 t).1] 3 0)
    have hn4 : (h2.mk' h2.next (.cells [.int .i64 (rdN 1 t).1] 3 0)).next = h2.next + 1 := by rw [mk_next]; omega
    obtain ⟨h5, e5, r5, n5, k5⟩ := (r2.frame em.1 fun b _ hb => em.2 b hb).push (nb := h2.next) (eb := 3) (vb := 0) (c := [.int .i64 (rdN 1 t).1]) (by rw [Heap.get_mk, if_pos rfl]) rfl rfl (Lvs.tolds rfl rfl) (by rw [hn4]; omega) (bytes := 8) (by unfold most2; omega) 3
    rw [hn4] at e5 r5 n5 k5
    have hv := r2.inB
    have kk : ∀ b, b < h2.next → b ∉ blkOf rv → h5.get b = h2.get b := fun b hb hn => (k5 b hn (by omega)).trans (em.2 b hb)
    have hf5 := (kk fb (by omega) fun hc => by have := hv fb hc; omega).trans hf2
    have hfn : ¬ fb = h2.next := by omega
    have hfr : ¬ fb = rb := hne
    simp only [h0, h3, hf, hf2, hf5, hfn, hok, hh2, e5, w1, RW, r2.one, RX, VOp.fresh, bxC, bsC, un, most, callsOf, seval, Int.reducePow, ↓reduceIte, Nat.reduceEqDiff, reduceCtorEq]
    refine ⟨⟨⟨?_, ?_, trivial⟩, trivial⟩, ?_⟩
    · show Lk _ _ _ _
      simp only [Lk, wanted, hf2, RX, VOp.fresh, bxC, bsC, un, most, callsOf, seval, Int.reducePow, ↓reduceIte, Nat.reduceEqDiff, reduceCtorEq]
    · show Lk _ _ _ _
      simp only [Lk, wanted, hf2, hfn, RX, VOp.fresh, bxC, bsC, un, most, callsOf, seval, Int.reducePow, ↓reduceIte, Nat.reduceEqDiff, reduceCtorEq]
    simp only [h13, w1, RX, VOp.fresh, bxC, bsC, un, most, callsOf, seval, Int.reducePow, ↓reduceIte, Nat.reduceEqDiff, reduceCtorEq]
    refine ih (done ++ [(rdN 1 t).1]) (rdN 1 t).2 _ _ (.sl (h2.next + 1) 0 (done.length + 1) (done.length + 1) 1) k Q (by rw [List.length_append, List.length_singleton]; omega) ?_ ?_ ?_ ?_ ?_ ?_ ?_ ?_ ?_ ?_
    · rw [put_next]; omega
    · exact ⟨ef, vf + 1, by rw [Heap.get_put, if_pos rfl]⟩
    · have r6 := (r5.weak (B' := fun b => N0 ≤ b ∧ b ≠ fb) fun b hb _ => ⟨hb, by omega⟩).frame (h' := h5.put fb (.cells [p0, p1, .sl (h2.next + 1) 0 (done.length + 1) (done.length + 1) 1] ef (vf + 1))) (by rw [put_next]; exact Nat.le_refl _) fun b hb _ => by rw [Heap.get_put, if_neg hb.2]
      have r7 := r6.weak (B' := (N0 ≤ ·)) fun b hb _ => hb.1
      simpa only [List.map_append, List.map_cons, List.map_nil, List.length_append, List.length_singleton] using r7
    · exact (rp2.frame (by omega) (kk rb rp2.1 fun hc => by have := hv rb hc; omega)).frame (by rw [put_next]; exact Nat.le_refl _) (by rw [Heap.get_put, if_neg (fun e => hne e.symm)])
    · intro b hb hx hf'
      rw [Heap.get_put, if_neg hf', kk b (by omega) (fun hc => by have := hv b hc; omega), x2.keep b hx, ex b hb hx hf']
    · simp only [h0, sg_set, Nat.reduceEqDiff, ↓reduceIte]
    · simp only [h3, sg_set, Nat.reduceEqDiff, ↓reduceIte]
    · simp only [h12, sg_set, Nat.reduceEqDiff, ↓reduceIte]
      rw [List.length_append, List.length_singleton]
      congr 2; omega
    · simp only [sg_set, Nat.reduceEqDiff, ↓reduceIte]
      rw [List.length_append, List.length_singleton]
    · intro s'' h' rv' q0 q1 q2 q3 q4 q5
      refine hQ s'' h' rv' q0 ?_ q2 q3 q4 fun j hj => (q5 j hj).trans ?_
      · simpa only [rep, List.append_assoc, List.cons_append, List.nil_append, List.length_append, List.length_singleton, Nat.add_assoc, Nat.add_comm 1 n] using q1
      · rcases hj with rfl | rfl | rfl | rfl <;> simp only [sg_set, Nat.reduceEqDiff, ↓reduceIte]
theorem rd_map (g : Pg P tab) {rb : Nat} {t : List Nat} {h : Heap} (rp : RP rb t h) {Q : AV → Heap → Prop} (q : ∀ sv ov h', LR h' (h.next ≤ ·) sv 1 ((rdMp t).1.starts.map (AV.int .i64)) (rdMp t).1.starts.length → LR h' (h.next ≤ ·) ov 1 ((rdMp t).1.owners.map (AV.int .i64)) (rdMp t).1.owners.length → RP rb (rdMp t).2 h' → ExtX rb h h' → Q (.agg [.int .i64 (rdMp t).1.epoch, sv, ov]) h') : Cl P 58 [.ptr rb 0] h Q := by
  refine g.cl (vf := v58) rfl rfl ?_
  have hrb := rp.1
  have x1 := Ext.mk (h := h) (.cells [.int .i64 0, .nils, .nils] 26 0)
  have n1 : (h.mk' h.next (.cells [.int .i64 0, .nils, .nils] 26 0)).next = h.next + 1 := by rw [mk_next]; omega
  have g1 : (h.mk' h.next (.cells [.int .i64 0, .nils, .nils] 26 0)).get h.next = some (.cells [.int .i64 0, .nils, .nils] 26 0) := by rw [Heap.get_mk, if_pos rfl]
  have rp1 := rp.frame x1.1 (x1.2 rb hrb)
  simp only [v58, RX, VOp.fresh, bxC, bsC, un, most, callsOf, seval, Int.reducePow, ↓reduceIte, Nat.reduceEqDiff, reduceCtorEq]
  generalize h.mk' h.next (.cells [.int .i64 0, .nils, .nils] 26 0) = h1 at *
  refine rnum_cl g (N := 2) (by decide) rp1 fun h3 rp3 x3 => ?_
  have e3 := x3.next
  simp only [RW, RX, VOp.fresh, bxC, bsC, un, most, callsOf, seval, Int.reducePow, ↓reduceIte, Nat.reduceEqDiff, reduceCtorEq]
  have g3 : h3.get h.next = some (.cells [.int .i64 0, .nils, .nils] 26 0) := (x3.keep _ (by omega)).trans g1
  have n4 : ((h3.mk' h3.next (.cells [.int .i64 0, .nils, .nils] 26 0)).put h3.next (.cells [.int .i64 (rdN 2 t).1, .nils, .nils] 26 1)).next = h3.next + 1 := by rw [put_next, mk_next]; omega
  have x4 : Ext h3 ((h3.mk' h3.next (.cells [.int .i64 0, .nils, .nils] 26 0)).put h3.next (.cells [.int .i64 (rdN 2 t).1, .nils, .nils] 26 1)) := ⟨by omega, fun b hb => by rw [Heap.get_put, if_neg (by omega), Heap.get_mk, if_neg (by omega)]⟩
  have g4 : ((h3.mk' h3.next (.cells [.int .i64 0, .nils, .nils] 26 0)).put h3.next (.cells [.int .i64 (rdN 2 t).1, .nils, .nils] 26 1)).get h3.next = some (.cells [.int .i64 (rdN 2 t).1, .nils, .nils] 26 1) := by rw [Heap.get_put, if_pos rfl]
  have rp4 := rp3.frame x4.1 (x4.2 rb rp3.1)
  generalize (h3.mk' h3.next (.cells [.int .i64 0, .nils, .nils] 26 0)).put h3.next (.cells [.int .i64 (rdN 2 t).1, .nils, .nils] 26 1) = h4 at *
  refine rnum_cl g (N := 1) (by decide) rp4 fun h5 rp5 x5 => ?_
  have e5 := x5.next
  have hby := rp3.2.1
  have hk := rdN1_le hby
  have hk0 := (rdN_le (n := 1) (by decide) hby).1
  obtain ⟨m, hm⟩ : ∃ m : Nat, (rdN 1 (rdN 2 t).2).1 = (m : Int) := ⟨(rdN 1 (rdN 2 t).2).1.toNat, by omega⟩
  have xa : ExtX rb h h5 := (((x1.x).trans x3.x).trans x4.x).trans x5.x
  have g5 : h5.get h3.next = some (.cells [.int .i64 (rdN 2 t).1, .nils, .nils] 26 1) := (x5.keep _ (by omega)).trans g4
  have g5b : h5.get h.next = some (.cells [.int .i64 0, .nils, .nils] 26 0) := (x5.keep _ (by omega)).trans ((x4.2 _ (by omega)).trans g3)
  simp only [hm, RX, VOp.fresh, bxC, bsC, un, most, callsOf, seval, Int.reducePow, ↓reduceIte, Nat.reduceEqDiff, reduceCtorEq]
  refine rd_ints0 g (N0 := h5.next) (G := h5.get) (fb := h3.next) (p0 := .int .i64 (rdN 2 t).1) (p1 := .nils) (by have := rp5.1; omega) (by omega) (by omega) m [] _ _ h5 .nils _ _ (by simp; omega) (Nat.le_refl _) ⟨_, _, g5⟩ (.nil _ _ _) rp5 (fun _ _ _ _ => rfl) ?_ ?_ ?_ ?_ ?_
  · simp only [sg_set, Nat.reduceEqDiff, ↓reduceIte]
  · simp only [sg_set, Nat.reduceEqDiff, ↓reduceIte]
  · simp only [sg_set, Nat.reduceEqDiff, ↓reduceIte]
    simp
  · simp only [sg_set, Nat.reduceEqDiff, ↓reduceIte]
    rfl
  intro s' h6 sv ⟨ef, vf, g6⟩ r6 rp6 x6 n6 ks
  have a0 := ks 0 (by simp)
  have a2 := ks 2 (by simp)
  have a3 := ks 3 (by simp)
  have a4 := ks 4 (by simp)
  simp only [sg_set, Nat.reduceEqDiff, ↓reduceIte] at a0 a2 a3 a4
  clear ks
  simp only [a0, a2, a3, a4, RX, VOp.fresh, bxC, bsC, un, most, callsOf, seval, Int.reducePow, ↓reduceIte, Nat.reduceEqDiff, reduceCtorEq]
  refine rd_ints1 g (N0 := h6.next) (G := h6.get) (fb := h3.next) (p0 := .int .i64 (rdN 2 t).1) (p1 := sv) (by have := rp6.1; omega) (by omega) (by omega) m [] _ _ h6 .nils _ _ (by simp; omega) (Nat.le_refl _) ⟨_, _, g6⟩ (.nil _ _ _) rp6 (fun _ _ _ _ => rfl) ?_ ?_ ?_ ?_ ?_
  · simp only [a0, sg_set, Nat.reduceEqDiff, ↓reduceIte]
  · simp only [a3, sg_set, Nat.reduceEqDiff, ↓reduceIte]
  · simp only [sg_set, Nat.reduceEqDiff, ↓reduceIte]
    simp
  · simp only [sg_set, Nat.reduceEqDiff, ↓reduceIte]
    rfl
  intro s'' h7 ov ⟨ef', vf', g7⟩ r7 rp7 x7 n7 ks
  have b2 := ks 2 (by simp)
  have b3 := ks 3 (by simp)
  simp only [sg_set, Nat.reduceEqDiff, ↓reduceIte, a2, a3] at b2 b3
  clear ks
  have er : (rdMp t) = (⟨(rdN 2 t).1, (rep (rdN 4) m (rdN 1 (rdN 2 t).2).2).1, (rep (rdN 1) m (rep (rdN 4) m (rdN 1 (rdN 2 t).2).2).2).1⟩, (rep (rdN 1) m (rep (rdN 4) m (rdN 1 (rdN 2 t).2).2).2).2) := by
    rw [rdMp]
    simp only [hm, Int.toNat_natCast]
  have g7b : h7.get h.next = some (.cells [.int .i64 0, .nils, .nils] 26 0) := (x7 _ (by omega) (by omega) (by omega)).trans ((x6 _ (by omega) (by omega) (by omega)).trans g5b)
  have hvs := r6.inB
  have r6' : LR h7 (h5.next ≤ ·) sv 1 (([] ++ (rep (rdN 4) m (rdN 1 (rdN 2 t).2).2).1).map (AV.int .i64)) (([] : List Int).length + m) := r6.frame n7 fun b hb hlt => x7 b hlt (by have := rp5.1; omega) (by omega)
  simp only [b2, b3, g7, g7b, RW, r6.one, r7.one, RX, VOp.fresh, bxC, bsC, un, most, callsOf, seval, Int.reducePow, ↓reduceIte, Nat.reduceEqDiff, reduceCtorEq]
  rw [List.nil_append] at r6' r7
  rw [show ([] : List Int).length + m = (rep (rdN 4) m (rdN 1 (rdN 2 t).2).2).1.length by rw [rep_len]; simp] at r6'
  rw [show ([] : List Int).length + m = (rep (rdN 1) m (rep (rdN 4) m (rdN 1 (rdN 2 t).2).2).2).1.length by rw [rep_len]; simp] at r7
  have hq := q sv ov (h7.put h.next (.cells [.int .i64 (rdN 2 t).1, sv, ov] 26 1))
  rw [er] at hq
  have fin : ∀ {v : AV} {N : Nat} {tl : List AV} {n : Nat}, h.next < N → LR h7 (N ≤ ·) v 1 tl n → LR (h7.put h.next (.cells [.int .i64 (rdN 2 t).1, sv, ov] 26 1)) (h.next ≤ ·) v 1 tl n := fun hN r => ((r.weak (B' := fun b => h.next ≤ b ∧ b ≠ h.next) fun b hb _ => ⟨by omega, by omega⟩).frame (by rw [put_next]; exact Nat.le_refl _) fun b hb _ => by rw [Heap.get_put, if_neg hb.2]).weak fun b hb _ => hb.1
  refine hq (fin (by omega) r6') (fin (by omega) r7) ?_ ?_
  · exact rp7.frame (by rw [put_next]; exact Nat.le_refl _) (by rw [Heap.get_put, if_neg (by omega)])
  · refine ⟨by rw [put_next]; omega, fun b hb hx => ?_⟩
    rw [Heap.get_put, if_neg (by omega), x7 b (by have := xa.1; omega) hx (by omega), x6 b (by have := xa.1; omega) hx (by omega)]
    exact xa.2 b hb hx
theorem rd_name (g : Pg P tab) {rb : Nat} {t : List Nat} {h : Heap} (rp : RP rb t h) {Q : AV → Heap → Prop} (q : ∀ h', RP rb (rdN 2 (rdN 1 t).2).2 h' → ExtX rb h h' → Q (.agg [.int .i64 (rdN 1 t).1, .int .i64 (rdN 2 (rdN 1 t).2).1]) h') : Cl P 59 [.ptr rb 0] h Q := by
  refine g.cl (vf := v59) rfl rfl ?_
  have hrb := rp.1
  have x1 := Ext.mk (h := h) (.cells [.int .i64 0, .int .i64 0] 23 0)
  have n1 : (h.mk' h.next (.cells [.int .i64 0, .int .i64 0] 23 0)).next = h.next + 1 := by rw [mk_next]; omega
  have g1 : (h.mk' h.next (.cells [.int .i64 0, .int .i64 0] 23 0)).get h.next = some (.cells [.int .i64 0, .int .i64 0] 23 0) := by rw [Heap.get_mk, if_pos rfl]
  have rp1 := rp.frame x1.1 (x1.2 rb hrb)
  simp only [v59, RX, VOp.fresh, bxC, bsC, un, most, callsOf, seval, Int.reducePow, ↓reduceIte, Nat.reduceEqDiff, reduceCtorEq]
  generalize h.mk' h.next (.cells [.int .i64 0, .int .i64 0] 23 0) = h1 at *
  refine rnum_cl g (N := 1) (by decide) rp1 fun h2 rp2 x2 => ?_
  simp only [RX, VOp.fresh, bxC, bsC, un, most, callsOf, seval, Int.reducePow, ↓reduceIte, Nat.reduceEqDiff, reduceCtorEq]
  refine rnum_cl g (N := 2) (by decide) rp2 fun h3 rp3 x3 => ?_
  have e2 := x2.next
  have e3 := x3.next
  have g3 : h3.get h.next = some (.cells [.int .i64 0, .int .i64 0] 23 0) := (x3.keep _ (by omega)).trans ((x2.keep _ (by omega)).trans g1)
  simp only [g3, RW, RX, VOp.fresh, bxC, bsC, un, most, callsOf, seval, Int.reducePow, ↓reduceIte, Nat.reduceEqDiff, reduceCtorEq]
  refine q _ (rp3.frame (by rw [put_next]; exact Nat.le_refl _) (by rw [Heap.get_put, if_neg (by omega)])) ⟨by rw [put_next]; omega, fun b hb hx => ?_⟩
  rw [Heap.get_put, if_neg (by omega)]
  exact (((x1.x).trans x2.x).trans x3.x).2 b hb hx
theorem rd_bool (g : Pg P tab) {rb : Nat} {t : List Nat} {h : Heap} (rp : RP rb t h) {Q : AV → Heap → Prop} (q : ∀ h', RP rb (rdN 1 t).2 h' → ExtX rb h h' → Q (.bool (decide ((rdN 1 t).1 = 1))) h') : Cl P 61 [.ptr rb 0] h Q := by
  refine g.cl (vf := v61) rfl rfl ?_
  simp only [v61, RX, VOp.fresh, bxC, bsC, un, most, callsOf, seval, Int.reducePow, ↓reduceIte, Nat.reduceEqDiff, reduceCtorEq]
  refine rnum_cl g (N := 1) (by decide) rp fun h2 rp2 x2 => ?_
  simp only [RX, VOp.fresh, bxC, bsC, un, most, callsOf, seval, Int.reducePow, ↓reduceIte, Nat.reduceEqDiff, reduceCtorEq]
  exact q _ rp2 x2.x
end
end Go.Proofs.Ytinonmcnofjeeaa.VM
namespace Go.Proofs.Ytinonmcnofjeeaa.VM
attribute [local irreducible] Af Nx EvO Ev Un Gd Cd EvR EvQ EvC Nc Gc Lp EvM NxM AfM GdM EvMR EvMQ EvMD EvMC Nm Gm
theorem lv_ints {h : Heap} {B : Nat → Prop} {v : AV} {l : List Int} (r : LR h B v 1 (l.map (AV.int .i64)) l.length) : Lv h B v (cInts l) := r.lv
theorem Lvs.cells8 {h : Heap} {B : Nat → Prop} {o : Op} {rv sv ov : AV} (a : Lv h B rv (cRings o.f.rings)) (b : Lv h B sv (cInts o.m.starts)) (c : Lv h B ov (cInts o.m.owners)) :
    Lvs h B [.int .i64 o.kind, .int .i64 o.f.id, .int .i64 o.f.shape, rv, .int .i64 o.id, .int .i64 o.m.epoch, sv, ov] (cOpL o) :=
  .cons .int (.cons .int (.cons .int (.cons a (.cons .int (.cons .int (.cons b (.cons c .nil)))))))
section
variable {P : Program}
theorem rd_opsl (g : Pg P tab) {rb : Nat} {H0 : Heap} (hrb : rb < H0.next) (n : Nat) : ∀ (done : List Op) (t : List Nat) (s : T AV) (h : Heap) (k : List Fr) (Q : Ex → T AV → Heap → Prop), done.length + n ≤ 1000 →
    LR h (H0.next ≤ ·) (sg s 5) 8 ((done.map cOpL).flatten) done.length → RP rb t h → ExtX rb H0 h → sg s 0 = .ptr rb 0 → sg s 11 = .int .i64 (done.length + n : Nat) → sg s 12 = .int .i64 done.length →
    (∀ s' h', LR h' (H0.next ≤ ·) (sg s' 5) 8 (((done ++ (rep rdOp n t).1).map cOpL).flatten) (done.length + n) → RP rb (rep rdOp n t).2 h' → ExtX rb H0 h' → sg s' 4 = sg s 4 → Un P k Q (.exit 0) s' h') → Lp P b60_0 s h (Un P k Q) := by
  induction n with
  | zero =>
    intro done t s h k Q hl r rp ex h0 h11 h12 hQ
    refine g.lpe b60_0.eq_1 ?_
    have c1 : ¬ ((done.length : Int) < (done.length : Int)) := by omega
    rw [Nat.add_zero] at h11
    simp only [h11, h12, c1, RX, VOp.fresh, bxC, bsC, un, most, callsOf, seval, Int.reducePow, ↓reduceIte, Nat.reduceEqDiff, reduceCtorEq]
    refine hQ _ _ ?_ rp ex ?_
    · simp only [sg_set, Nat.reduceEqDiff, ↓reduceIte]
      simpa [rep] using r
    · simp only [sg_set, Nat.reduceEqDiff, ↓reduceIte]
  | succ n ih =>
    intro done t s h k Q hl r rp ex h0 h11 h12 hQ
    refine g.lpe b60_0.eq_1 ?_
    have c1 : (done.length : Int) < ((done.length + (n + 1) : Nat) : Int) := by omega
    have w1 : IntKind.i64.wrap ((done.length : Int) + 1) = ((done.length + 1 : Nat) : Int) := by rw [w64 (by omega) (by omega)]; push_cast; rfl
    have hnb : ¬ H0.next ≤ rb := by omega
    have fin : ∀ (s' : T AV) (h' : Heap), LR h' (H0.next ≤ ·) (sg s' 5) 8 (((done ++ [(rdOp t).1]).map cOpL).flatten) (done ++ [(rdOp t).1]).length → RP rb (rdOp t).2 h' → ExtX rb H0 h' → sg s' 0 = .ptr rb 0 → sg s' 11 = .int .i64 (done.length + (n + 1) : Nat) → sg s' 12 = .int .i64 (done.length + 1 : Nat) → sg s' 4 = sg s 4 → Lp P b60_0 s' h' (Un P k Q) := by
      intro s' h' q1 q2 q3 q4 q5 q6 q7
      refine ih (done ++ [(rdOp t).1]) (rdOp t).2 s' h' k Q (by rw [List.length_append, List.length_singleton]; omega) q1 q2 q3 q4 ?_ ?_ ?_
      · rw [q5, List.length_append, List.length_singleton]
        congr 2; omega
      · rw [q6, List.length_append, List.length_singleton]
      · intro s'' h'' p1 p2 p3 p4
        refine hQ s'' h'' ?_ p2 p3 (p4.trans q7)
        simpa only [rep, List.append_assoc, List.cons_append, List.nil_append, List.length_append, List.length_singleton, Nat.add_assoc, Nat.add_comm 1 n] using p1
    -- what is put behind
    have put : ∀ (h4 : Heap) (ob e4 v4 : Nat) (rv sv ov : AV), h4.get ob = some (.cells [.int .i64 (rdOp t).1.kind, .int .i64 (rdOp t).1.f.id, .int .i64 (rdOp t).1.f.shape, rv, .int .i64 (rdOp t).1.id, .int .i64 (rdOp t).1.m.epoch, sv, ov] e4 v4) →
        rv.one = true → sv.one = true → ov.one = true → Lv h4 (h.next ≤ ·) rv (cRings (rdOp t).1.f.rings) → Lv h4 (h.next ≤ ·) sv (cInts (rdOp t).1.m.starts) → Lv h4 (h.next ≤ ·) ov (cInts (rdOp t).1.m.owners) → RP rb (rdOp t).2 h4 → ExtX rb h h4 →
        ∃ h5, appendV (h4.mk' h4.next (.cells [.int .i64 (rdOp t).1.kind, .int .i64 (rdOp t).1.f.id, .int .i64 (rdOp t).1.f.shape, rv, .int .i64 (rdOp t).1.id, .int .i64 (rdOp t).1.m.epoch, sv, ov] 54 0)) 8 112 54 (sg s 5) (.sl h4.next 0 1 1 8) = some (.sl (h4.next + 1) 0 (done.length + 1) (done.length + 1) 8, h5) ∧
          LR h5 (H0.next ≤ ·) (.sl (h4.next + 1) 0 (done.length + 1) (done.length + 1) 8) 8 (((done ++ [(rdOp t).1]).map cOpL).flatten) (done ++ [(rdOp t).1]).length ∧ RP rb (rdOp t).2 h5 ∧ ExtX rb H0 h5 := by
      intro h4 ob e4 v4 rv sv ov g4 o1 o2 o3 l1 l2 l3 rp4 x4
      have hle := ex.1
      have em := Ext.mk (h := h4) (.cells [.int .i64 (rdOp t).1.kind, .int .i64 (rdOp t).1.f.id, .int .i64 (rdOp t).1.f.shape, rv, .int .i64 (rdOp t).1.id, .int .i64 (rdOp t).1.m.epoch, sv, ov] 54 0)
      have hn4 : (h4.mk' h4.next (.cells [.int .i64 (rdOp t).1.kind, .int .i64 (rdOp t).1.f.id, .int .i64 (rdOp t).1.f.shape, rv, .int .i64 (rdOp t).1.id, .int .i64 (rdOp t).1.m.epoch, sv, ov] 54 0)).next = h4.next + 1 := by rw [mk_next]; omega
      have hlt := r.lt
      have r4 : LR h4 (H0.next ≤ ·) (sg s 5) 8 ((done.map cOpL).flatten) done.length := r.frame x4.1 fun b hb hlt => x4.2 b hlt fun e => hnb (e ▸ hb)
      have l4 : Lvs (h4.mk' h4.next (.cells [.int .i64 (rdOp t).1.kind, .int .i64 (rdOp t).1.f.id, .int .i64 (rdOp t).1.f.shape, rv, .int .i64 (rdOp t).1.id, .int .i64 (rdOp t).1.m.epoch, sv, ov] 54 0)) (fun b => H0.next ≤ b ∧ b ∉ blkOf (sg s 5)) [.int .i64 (rdOp t).1.kind, .int .i64 (rdOp t).1.f.id, .int .i64 (rdOp t).1.f.shape, rv, .int .i64 (rdOp t).1.id, .int .i64 (rdOp t).1.m.epoch, sv, ov] (cOpL (rdOp t).1) :=
        ((Lvs.cells8 l1 l2 l3).frame em.1 fun b _ hb => em.2 b hb).weak fun b hb _ => ⟨by omega, fun hc => by have := hlt b hc; omega⟩
      obtain ⟨h5, e5, r5, n5, k5⟩ := (r4.frame em.1 fun b _ hb => em.2 b hb).push (nb := h4.next) (eb := 54) (vb := 0) (by rw [Heap.get_mk, if_pos rfl]) rfl (by simp only [List.all_cons, List.all_nil, one_int, o1, o2, o3, Bool.and_self]) l4 (by rw [hn4]; have := x4.1; omega) (bytes := 112) (by unfold most2; omega) 54
      rw [hn4] at e5 r5 n5 k5
      have hv := r4.inB
      have kk : ∀ b, b < h4.next → b ∉ blkOf (sg s 5) → h5.get b = h4.get b := fun b hb hn => (k5 b hn (by omega)).trans (em.2 b hb)
      refine ⟨h5, e5, ?_, rp4.frame (by omega) (kk rb rp4.1 fun hc => by have := hv rb hc; omega), ⟨by have := x4.1; omega, fun b hb hx => ?_⟩⟩
      · simpa only [List.map_append, List.flatten_append, List.map_cons, List.map_nil, List.flatten_cons, List.flatten_nil, List.append_nil, List.length_append, List.length_singleton] using r5
      · rw [kk b (by have := x4.1; omega) (fun hc => by have := hv b hc; omega), x4.2 b (by omega) hx, ex.2 b hb hx]
    simp only [h0, h11, h12, c1, RX, VOp.fresh, bxC, bsC, un, most, callsOf, seval, Int.reducePow, ↓reduceIte, Nat.reduceEqDiff, reduceCtorEq]
    refine rnum_cl g (N := 1) (by decide) rp fun h2 rp2 x2 => ?_
    have e2 := x2.next
    have x3 : Ext h2 ((h2.mk' h2.next (.cells [.int .i64 0, .int .i64 0, .int .i64 0, .nils, .int .i64 0, .int .i64 0, .nils, .nils] 54 0)).put h2.next (.cells [.int .i64 (rdN 1 t).1, .int .i64 0, .int .i64 0, .nils, .int .i64 0, .int .i64 0, .nils, .nils] 54 1)) := ⟨by rw [put_next, mk_next]; omega, fun b hb => by rw [Heap.get_put, if_neg (by omega), Heap.get_mk, if_neg (by omega)]⟩
    have g3 : ((h2.mk' h2.next (.cells [.int .i64 0, .int .i64 0, .int .i64 0, .nils, .int .i64 0, .int .i64 0, .nils, .nils] 54 0)).put h2.next (.cells [.int .i64 (rdN 1 t).1, .int .i64 0, .int .i64 0, .nils, .int .i64 0, .int .i64 0, .nils, .nils] 54 1)).get h2.next = some (.cells [.int .i64 (rdN 1 t).1, .int .i64 0, .int .i64 0, .nils, .int .i64 0, .int .i64 0, .nils, .nils] 54 1) := by rw [Heap.get_put, if_pos rfl]
    have n3 : ((h2.mk' h2.next (.cells [.int .i64 0, .int .i64 0, .int .i64 0, .nils, .int .i64 0, .int .i64 0, .nils, .nils] 54 0)).put h2.next (.cells [.int .i64 (rdN 1 t).1, .int .i64 0, .int .i64 0, .nils, .int .i64 0, .int .i64 0, .nils, .nils] 54 1)).next = h2.next + 1 := by rw [put_next, mk_next]; omega
    have rp3 := rp2.frame x3.1 (x3.2 rb rp2.1)
    simp only [RW, RX, VOp.fresh, bxC, bsC, un, most, callsOf, seval, Int.reducePow, ↓reduceIte, Nat.reduceEqDiff, reduceCtorEq]
    generalize (h2.mk' h2.next (.cells [.int .i64 0, .int .i64 0, .int .i64 0, .nils, .int .i64 0, .int .i64 0, .nils, .nils] 54 0)).put h2.next (.cells [.int .i64 (rdN 1 t).1, .int .i64 0, .int .i64 0, .nils, .int .i64 0, .int .i64 0, .nils, .nils] 54 1) = h3 at *

    by_cases k0 : (rdN 1 t).1 = 0
    · have eo : rdOp t = (⟨0, (rdFeat (rdN 1 t).2).1, 0, ⟨0, [], []⟩⟩, (rdFeat (rdN 1 t).2).2) := by rw [rdOp]; simp only [k0, if_true, if_false, Int.one_ne_zero, Int.reduceEq]
      rw [k0] at g3
      simp only [k0, h0, RX, VOp.fresh, bxC, bsC, un, most, callsOf, seval, Int.reducePow, ↓reduceIte, Nat.reduceEqDiff, reduceCtorEq]
      refine rd_feat g rp3 fun rv h4 r4 rp4 x4 => ?_
      have g4 := (x4.2 h2.next (by omega) (by have := rp2.1; omega)).trans g3
      obtain ⟨h5, e5, r5, rp5, ex5⟩ := put (h4.put h2.next (.cells [.int .i64 0, .int .i64 (rdFeat (rdN 1 t).2).1.id, .int .i64 (rdFeat (rdN 1 t).2).1.shape, rv, .int .i64 0, .int .i64 0, .nils, .nils] 54 2)) h2.next 54 2 rv .nils .nils
        (by rw [Heap.get_put, if_pos rfl, eo]) r4.one rfl rfl (by rw [eo]; exact (r4.lv.weak (B' := fun b => h.next ≤ b ∧ b ≠ h2.next) fun b hb _ => ⟨by omega, by omega⟩).frame (by rw [put_next]; exact Nat.le_refl _) (fun b hb _ => by rw [Heap.get_put, if_neg hb.2]) |>.weak fun b hb _ => hb.1) (by rw [eo]; exact .nils) (by rw [eo]; exact .nils)
        (by rw [eo]; exact rp4.frame (by rw [put_next]; exact Nat.le_refl _) (by rw [Heap.get_put, if_neg (by have := rp2.1; omega)])) (((x2.x.trans x3.x).trans x4).put' (by omega) _)
      rw [eo] at e5
      simp only [put_next] at e5 r5
      simp only [h0, h12, g4, k0, e5, w1, RW, r4.one, r4.cells, RX, VOp.fresh, bxC, bsC, un, most, callsOf, seval, Int.reducePow, ↓reduceIte, Nat.reduceEqDiff, reduceCtorEq]
      refine fin _ _ ?_ rp5 ex5 ?_ ?_ ?_ ?_
      · simp only [sg_set, Nat.reduceEqDiff, ↓reduceIte]
        exact r5
      · simp only [h0, sg_set, Nat.reduceEqDiff, ↓reduceIte]
      · simp only [h11, sg_set, Nat.reduceEqDiff, ↓reduceIte]
      · simp only [sg_set, Nat.reduceEqDiff, ↓reduceIte]
      · simp only [sg_set, Nat.reduceEqDiff, ↓reduceIte]
    · by_cases k1 : (rdN 1 t).1 = 1
      · have eo : rdOp t = (⟨1, ⟨0, 0, []⟩, (rdN 2 (rdN 1 t).2).1, ⟨0, [], []⟩⟩, (rdN 2 (rdN 1 t).2).2) := by rw [rdOp]; simp only [k1, if_true, if_false, Int.one_ne_zero, Int.reduceEq]
        rw [k1] at g3
        simp only [k1, h0, RX, VOp.fresh, bxC, bsC, un, most, callsOf, seval, Int.reducePow, ↓reduceIte, Nat.reduceEqDiff, reduceCtorEq]
        refine rnum_cl g (N := 2) (by decide) rp3 fun h4 rp4 x4' => ?_
        have x4 := x4'.x
        have g4 := (x4.2 h2.next (by omega) (by have := rp2.1; omega)).trans g3
        obtain ⟨h5, e5, r5, rp5, ex5⟩ := put (h4.put h2.next (.cells [.int .i64 1, .int .i64 0, .int .i64 0, .nils, .int .i64 (rdN 2 (rdN 1 t).2).1, .int .i64 0, .nils, .nils] 54 2)) h2.next 54 2 .nils .nils .nils
          (by rw [Heap.get_put, if_pos rfl, eo]) rfl rfl rfl (by rw [eo]; exact .nils) (by rw [eo]; exact .nils) (by rw [eo]; exact .nils)
          (by rw [eo]; exact rp4.frame (by rw [put_next]; exact Nat.le_refl _) (by rw [Heap.get_put, if_neg (by have := rp2.1; omega)])) (((x2.x.trans x3.x).trans x4).put' (by omega) _)
        rw [eo] at e5
        simp only [put_next] at e5 r5
        simp only [h0, h12, g4, k1, e5, w1, RW, RX, VOp.fresh, bxC, bsC, un, most, callsOf, seval, Int.reducePow, ↓reduceIte, Nat.reduceEqDiff, reduceCtorEq]
        refine fin _ _ ?_ rp5 ex5 ?_ ?_ ?_ ?_
        · simp only [sg_set, Nat.reduceEqDiff, ↓reduceIte]
          exact r5
        · simp only [h0, sg_set, Nat.reduceEqDiff, ↓reduceIte]
        · simp only [h11, sg_set, Nat.reduceEqDiff, ↓reduceIte]
        · simp only [sg_set, Nat.reduceEqDiff, ↓reduceIte]
        · simp only [sg_set, Nat.reduceEqDiff, ↓reduceIte]
      · by_cases k2 : (rdN 1 t).1 = 2
        · have eo : rdOp t = (⟨2, ⟨0, 0, []⟩, 0, (rdMp (rdN 1 t).2).1⟩, (rdMp (rdN 1 t).2).2) := by rw [rdOp]; simp only [k2, if_true, if_false, Int.one_ne_zero, Int.reduceEq]
          rw [k2] at g3
          simp only [k2, h0, RX, VOp.fresh, bxC, bsC, un, most, callsOf, seval, Int.reducePow, ↓reduceIte, Nat.reduceEqDiff, reduceCtorEq]
          refine rd_map g rp3 fun sv ov h4 r4 q4 rp4 x4 => ?_
          have g4 := (x4.2 h2.next (by omega) (by have := rp2.1; omega)).trans g3
          obtain ⟨h5, e5, r5, rp5, ex5⟩ := put (h4.put h2.next (.cells [.int .i64 2, .int .i64 0, .int .i64 0, .nils, .int .i64 0, .int .i64 (rdMp (rdN 1 t).2).1.epoch, sv, ov] 54 2)) h2.next 54 2 .nils sv ov
            (by rw [Heap.get_put, if_pos rfl, eo]) rfl r4.one q4.one (by rw [eo]; exact .nils) (by rw [eo]; exact ((lv_ints r4).weak (B' := fun b => h.next ≤ b ∧ b ≠ h2.next) fun b hb _ => ⟨by omega, by omega⟩).frame (by rw [put_next]; exact Nat.le_refl _) (fun b hb _ => by rw [Heap.get_put, if_neg hb.2]) |>.weak fun b hb _ => hb.1) (by rw [eo]; exact ((lv_ints q4).weak (B' := fun b => h.next ≤ b ∧ b ≠ h2.next) fun b hb _ => ⟨by omega, by omega⟩).frame (by rw [put_next]; exact Nat.le_refl _) (fun b hb _ => by rw [Heap.get_put, if_neg hb.2]) |>.weak fun b hb _ => hb.1)
            (by rw [eo]; exact rp4.frame (by rw [put_next]; exact Nat.le_refl _) (by rw [Heap.get_put, if_neg (by have := rp2.1; omega)])) (((x2.x.trans x3.x).trans x4).put' (by omega) _)
          rw [eo] at e5
          simp only [put_next] at e5 r5
          simp only [h0, h12, g4, k2, e5, w1, RW, r4.one, r4.cells, q4.one, q4.cells, RX, VOp.fresh, bxC, bsC, un, most, callsOf, seval, Int.reducePow, ↓reduceIte, Nat.reduceEqDiff, reduceCtorEq]
          refine fin _ _ ?_ rp5 ex5 ?_ ?_ ?_ ?_
          · simp only [sg_set, Nat.reduceEqDiff, ↓reduceIte]
            exact r5
          · simp only [h0, sg_set, Nat.reduceEqDiff, ↓reduceIte]
          · simp only [h11, sg_set, Nat.reduceEqDiff, ↓reduceIte]
          · simp only [sg_set, Nat.reduceEqDiff, ↓reduceIte]
          · simp only [sg_set, Nat.reduceEqDiff, ↓reduceIte]
        · have eo : rdOp t = (⟨(rdN 1 t).1, ⟨0, 0, []⟩, 0, ⟨0, [], []⟩⟩, (rdN 1 t).2) := by rw [rdOp]; simp only [k0, k1, k2, if_false]
          have g4 := g3
          obtain ⟨h5, e5, r5, rp5, ex5⟩ := put h3 h2.next 54 1 .nils .nils .nils (by rw [g3, eo]) rfl rfl rfl (by rw [eo]; exact .nils) (by rw [eo]; exact .nils) (by rw [eo]; exact .nils) (by rw [eo]; exact rp3) (x2.x.trans x3.x)
          rw [eo, n3] at e5
          rw [n3] at r5
          simp only [h0, h12, g4, k0, k1, k2, e5, w1, RW, RX, VOp.fresh, bxC, bsC, un, most, callsOf, seval, Int.reducePow, ↓reduceIte, Nat.reduceEqDiff, reduceCtorEq]
          refine fin _ _ ?_ rp5 ex5 ?_ ?_ ?_ ?_
          · simp only [sg_set, Nat.reduceEqDiff, ↓reduceIte]
            exact r5
          · simp only [h0, sg_set, Nat.reduceEqDiff, ↓reduceIte]
          · simp only [h11, sg_set, Nat.reduceEqDiff, ↓reduceIte]
          · simp only [sg_set, Nat.reduceEqDiff, ↓reduceIte]
          · simp only [sg_set, Nat.reduceEqDiff, ↓reduceIte]
end
end Go.Proofs.Ytinonmcnofjeeaa.VM
namespace Go.Proofs.Ytinonmcnofjeeaa.VM
attribute [local irreducible] Af Nx EvO Ev Un Gd Cd EvR EvQ EvC Nc Gc Lp EvM NxM AfM GdM EvMR EvMQ EvMD EvMC Nm Gm
theorem lv_opsL {h : Heap} {B : Nat → Prop} {v : AV} {l : List Op} (r : LR h B v 8 ((l.map cOpL).flatten) l.length) : Lv h B v (cOpsL l) := r.lv
theorem Lv.put {h : Heap} {B : Nat → Prop} {x y : AV} (l : Lv h B x y) {b : Nat} (hb : ¬ B b) (o : Blk) : Lv (h.put b o) B x y := l.frame (by rw [put_next]; exact Nat.le_refl _) fun c hc _ => by rw [Heap.get_put, if_neg (show ¬ c = b from fun e => hb (e ▸ hc))]
section
variable {P : Program}
theorem rd_ops (g : Pg P tab) {rb : Nat} {t : List Nat} {h : Heap} (rp : RP rb t h) {Q : AV → Heap → Prop} (q : ∀ v h', LR h' (h.next ≤ ·) v 8 (((rdOps (rdN 4 t).2).1.map cOpL).flatten) (rdOps (rdN 4 t).2).1.length → RP rb (rdOps (rdN 4 t).2).2 h' → ExtX rb h h' → Q (.tup [.int .i64 ((rdN 4 t).1 - 1), v]) h') : Cl P 60 [.ptr rb 0] h Q := by
  refine g.cl (vf := v60) rfl rfl ?_
  simp only [v60, RX, VOp.fresh, bxC, bsC, un, most, callsOf, seval, Int.reducePow, ↓reduceIte, Nat.reduceEqDiff, reduceCtorEq]
  refine rnum_cl g (N := 4) (by decide) rp fun h2 rp2 x2 => ?_
  have hb4 := rdN_le (n := 4) (by decide) rp.2.1
  have w1 : IntKind.i64.wrap ((rdN 4 t).1 - 1) = (rdN 4 t).1 - 1 := w64 (by omega) (by omega)
  simp only [w1, RX, VOp.fresh, bxC, bsC, un, most, callsOf, seval, Int.reducePow, ↓reduceIte, Nat.reduceEqDiff, reduceCtorEq]
  refine rnum_cl g (N := 1) (by decide) rp2 fun h3 rp3 x3 => ?_
  have hk := rdN1_le rp2.2.1
  have hk0 := (rdN_le (n := 1) (by decide) rp2.2.1).1
  obtain ⟨m, hm⟩ : ∃ m : Nat, (rdN 1 (rdN 4 t).2).1 = (m : Int) := ⟨(rdN 1 (rdN 4 t).2).1.toNat, by omega⟩
  simp only [hm, RX, VOp.fresh, bxC, bsC, un, most, callsOf, seval, Int.reducePow, ↓reduceIte, Nat.reduceEqDiff, reduceCtorEq]
  refine rd_opsl g (H0 := h3) rp3.1 m [] _ _ h3 _ _ (by simp; omega) ?_ rp3 ExtX.refl ?_ ?_ ?_ ?_
  · simp only [sg_set, Nat.reduceEqDiff, ↓reduceIte]
    exact .nil _ _ _
  · simp only [sg_set, Nat.reduceEqDiff, ↓reduceIte]
  · simp only [sg_set, Nat.reduceEqDiff, ↓reduceIte]
    simp
  · simp only [sg_set, Nat.reduceEqDiff, ↓reduceIte]
    rfl
  intro s' h4 r4 rp4 x4 a4
  simp only [sg_set, Nat.reduceEqDiff, ↓reduceIte] at a4
  have e2 := x2.next
  have e3 := x3.next
  have er : rdOps (rdN 4 t).2 = rep rdOp m (rdN 1 (rdN 4 t).2).2 := by rw [rdOps, hm, Int.toNat_natCast]
  simp only [a4, RX, VOp.fresh, bxC, bsC, un, most, callsOf, seval, Int.reducePow, ↓reduceIte, Nat.reduceEqDiff, reduceCtorEq]
  refine q _ _ ?_ (by rw [er]; exact rp4) ((x2.x.trans x3.x).trans x4)
  rw [er]
  rw [List.nil_append, show ([] : List Op).length + m = (rep rdOp m (rdN 1 (rdN 4 t).2).2).1.length by rw [rep_len]; simp] at r4
  exact r4.weak fun b hb _ => by omega
end
end Go.Proofs.Ytinonmcnofjeeaa.VM
namespace Go.Proofs.Ytinonmcnofjeeaa.VM
attribute [local irreducible] Af Nx EvO Ev Un Gd Cd EvR EvQ EvC Nc Gc Lp EvM NxM AfM GdM EvMR EvMQ EvMD EvMC Nm Gm
/-- so many bytes as a number; none: they ended -/
def rdM (n : Nat) : Option (List Nat) → Int × Option (List Nat)
  | none => (0, none)
  | some s => if s.length < n then (0, none) else ((beV (s.take n) : Int), some (s.drop n))
section
variable {α : Type}
def rpO (f : Option (List Nat) → α × Option (List Nat)) : Nat → Option (List Nat) → List α × Option (List Nat)
  | 0, st => ([], st)
  | _ + 1, none => ([], none)
  | n + 1, some s => ((f (some s)).1 :: (rpO f n (f (some s)).2).1, (rpO f n (f (some s)).2).2)
theorem rpO_put {f : Option (List Nat) → α × Option (List Nat)} {F : α → List Nat} : ∀ (l : List α) (t : List Nat), (∀ x ∈ l, ∀ t, f (some (F x ++ t)) = (x, some t)) → rpO f l.length (some ((l.map F).flatten ++ t)) = (l, some t)
  | [], t, _ => rfl
  | x :: l, t, h => by
    rw [List.length_cons, rpO, List.map_cons, List.flatten_cons, List.append_assoc, h x List.mem_cons_self, rpO_put l t fun y hy => h y (List.mem_cons_of_mem _ hy)]
end
theorem rdM_put {x : Int} {n : Nat} (h0 : 0 ≤ x) (h1 : x < ((256 ^ n : Nat) : Int)) (t : List Nat) : rdM n (some (numB x n ++ t)) = (x, some t) := by
  have hl := numB_len x n
  rw [rdM, if_neg (by rw [List.length_append]; omega), List.take_left' hl, List.drop_left' hl, beV_num h0 h1]
def rdPtM (st : Option (List Nat)) : Pt × Option (List Nat) := (⟨(rdM 4 st).1, (rdM 4 (rdM 4 st).2).1⟩, (rdM 4 (rdM 4 st).2).2)
def rdRingM (st : Option (List Nat)) : List Pt × Option (List Nat) := rpO rdPtM (rdM 1 st).1.toNat (rdM 1 st).2
def rdFeatM (st : Option (List Nat)) : Feat × Option (List Nat) :=
  let a := rdM 2 st; let b := rdM 1 a.2; let c := rdM 1 b.2; let d := rpO rdRingM c.1.toNat c.2
  (⟨a.1, b.1, d.1⟩, d.2)
theorem rdPtM_put {p : Pt} (h : ptOk p) (t : List Nat) : rdPtM (some (ptB p ++ t)) = (p, some t) := by
  obtain ⟨⟨a, b⟩, ⟨c, d⟩⟩ := h
  rw [rdPtM, ptB, List.append_assoc, rdM_put a (by omega), rdM_put c (by omega)]
theorem rdRingM_put {r : List Pt} (hl : r.length ≤ 255) (h : ∀ p ∈ r, ptOk p) (t : List Nat) : rdRingM (some (ringB r ++ t)) = (r, some t) := by
  rw [rdRingM, ringB, List.append_assoc, rdM_put (by omega) (by omega)]
  simp only [Int.toNat_natCast]
  exact rpO_put r t fun p hp t => rdPtM_put (h p hp) t
theorem rdFeatM_put {f : Feat} (h : featOk f) (t : List Nat) : rdFeatM (some (featB f ++ t)) = (f, some t) := by
  obtain ⟨s0, s2, hp⟩ := featOk_pts h
  obtain ⟨a1, a2, a3, a4, _⟩ := h
  rw [rdFeatM, featB]
  simp only [List.append_assoc]
  rw [rdM_put (by omega) (by omega)]
  simp only
  rw [rdM_put (by omega) (by omega)]
  simp only
  rw [rdM_put (by omega) (by omega)]
  simp only [Int.toNat_natCast]
  rw [rpO_put f.rings t fun r hr t => rdRingM_put (hp r hr).1 (hp r hr).2 t]
end Go.Proofs.Ytinonmcnofjeeaa.VM
namespace Go.Proofs.Ytinonmcnofjeeaa.VM
attribute [local irreducible] Af Nx EvO Ev Un Gd Cd EvR EvQ EvC Nc Gc Lp EvM NxM AfM GdM EvMR EvMQ EvMD EvMC Nm Gm
def rdMpM (st : Option (List Nat)) : Mp × Option (List Nat) :=
  let a := rdM 2 st; let b := rdM 1 a.2; let c := rpO (rdM 4) b.1.toNat b.2; let d := rpO (rdM 1) b.1.toNat c.2
  (⟨a.1, c.1, d.1⟩, d.2)
theorem rdMpM_put {m : Mp} {nodes : Int} (h : mpOk nodes m) (t : List Nat) : rdMpM (some (mpB m ++ t)) = (m, some t) := by
  obtain ⟨h1, h2⟩ := mpOk_pts h
  obtain ⟨a1, a2, a3, a4, a5, a6, a7, a8, _⟩ := h
  rw [rdMpM, mpB]
  simp only [List.append_assoc]
  rw [rdM_put (by omega) (by omega)]
  simp only
  rw [rdM_put (by omega) (by omega)]
  simp only [Int.toNat_natCast]
  rw [rpO_put m.starts _ fun x hx t => rdM_put (h1 x hx).1 (by have := (h1 x hx).2; omega) t]
  simp only
  rw [← a7, rpO_put m.owners t fun x hx t => rdM_put (h2 x hx).1 (by have := (h2 x hx).2; omega) t]
section
variable {P : Program}
def rdBitM (st : Option (List Nat)) : Bool × Option (List Nat) := (decide ((rdM 1 st).1 = 1), if 1 < (rdM 1 st).1 then none else (rdM 1 st).2)
end
end Go.Proofs.Ytinonmcnofjeeaa.VM
namespace Go.Proofs.Ytinonmcnofjeeaa.VM
attribute [local irreducible] Af Nx EvO Ev Un Gd Cd EvR EvQ EvC Nc Gc Lp EvM NxM AfM GdM EvMR EvMQ EvMD EvMC Nm Gm
def rdOpM (st : Option (List Nat)) : Op × Option (List Nat) :=
  let k := rdM 1 st
  if k.1 = 0 then (⟨k.1, (rdFeatM k.2).1, 0, ⟨0, [], []⟩⟩, (rdFeatM k.2).2)
  else if k.1 = 1 then (⟨k.1, ⟨0, 0, []⟩, (rdM 2 k.2).1, ⟨0, [], []⟩⟩, (rdM 2 k.2).2)
  else if k.1 = 2 then (⟨k.1, ⟨0, 0, []⟩, 0, (rdMpM k.2).1⟩, (rdMpM k.2).2)
  else (⟨k.1, ⟨0, 0, []⟩, 0, ⟨0, [], []⟩⟩, none)
def rdOpsM (st : Option (List Nat)) : List Op × Option (List Nat) := rpO rdOpM (rdM 1 st).1.toNat (rdM 1 st).2
theorem rdOpM_put {o : Op} {nodes : Int} (h : opOk nodes o) (t : List Nat) : rdOpM (some (opB o ++ t)) = (o, some t) := by
  have z1 : ∀ {f : Feat}, ftZero f → f = ⟨0, 0, []⟩ := fun {f} ⟨a, b, c⟩ => by cases f; simp only at a b c; rw [a, b, c]
  have z2 : ∀ {f : Mp}, mpZero f → f = ⟨0, [], []⟩ := fun {f} ⟨a, b, c⟩ => by cases f; simp only at a b c; rw [a, b, c]
  obtain ⟨kind, f, id, m⟩ := o
  rcases h with ⟨hk, h1, h2, h3⟩ | ⟨hk, h1, h2, h3, h4⟩ | ⟨hk, h1, h2, h3⟩
  · simp only at hk h1 h2 h3
    subst hk h2
    rw [rdOpM, opB, List.append_assoc, rdM_put (by simp only; omega) (by simp only; omega)]
    simp only [if_true]
    rw [rdFeatM_put h1, z2 h3]
  · simp only at hk h1 h2 h3 h4
    subst hk
    rw [rdOpM, opB, List.append_assoc, rdM_put (by simp only; omega) (by simp only; omega)]
    simp only [if_true, if_false, Int.one_ne_zero]
    rw [rdM_put (by omega) (by omega), z1 h3, z2 h4]
  · simp only at hk h1 h2 h3
    subst hk h2
    have e2 : ¬ (2 : Int) = 0 := by decide
    have e3 : ¬ (2 : Int) = 1 := by decide
    rw [rdOpM, opB, List.append_assoc, rdM_put (by simp only; omega) (by simp only; omega)]
    simp only [if_true, if_neg e2, if_neg e3]
    rw [rdMpM_put h1, z1 h3]
theorem rdOpsM_put {l : List Op} {nodes : Int} (h : opsOk nodes l) (t : List Nat) : rdOpsM (some (opsB l ++ t)) = (l, some t) := by
  obtain ⟨h1, h2, h3⟩ := h
  rw [rdOpsM, opsB, List.append_assoc, rdM_put (by omega) (by omega)]
  simp only [Int.toNat_natCast]
  refine rpO_put l t fun o ho t => ?_
  obtain ⟨i, hi, rfl⟩ := List.mem_iff_getElem.1 ho
  have := (h3 i hi).1
  rw [getD_op hi] at this
  exact rdOpM_put this t
end Go.Proofs.Ytinonmcnofjeeaa.VM
namespace Go.Proofs.Ytinonmcnofjeeaa.VM
attribute [local irreducible] Af Nx EvO Ev Un Gd Cd EvR EvQ EvC Nc Gc Lp EvM NxM AfM GdM EvMR EvMQ EvMD EvMC Nm Gm
def Plain {α : Type} (R : α → List AV → Prop) (sz : Nat) : Prop := ∀ a c, R a c → c.length = sz ∧ c.all AV.one = true ∧ AV.tolds c = true ∧ AV.bares c = true
end Go.Proofs.Ytinonmcnofjeeaa.VM
namespace Go.Proofs.Ytinonmcnofjeeaa.VM
attribute [local irreducible] Af Nx EvO Ev Un Gd Cd EvR EvQ EvC Nc Gc Lp EvM NxM AfM GdM EvMR EvMQ EvMD EvMC Nm Gm
section
variable {P : Program}
theorem sInts_loop (g : Pg P tab) {l : List Int} {a b : AV} (ha : IsL 8 RInt a l) (hb : IsL 8 RInt b l) (n : Nat) :
    ∀ (i : Nat) (s : T AV) (hh : Heap) (k : List Fr) (Q : Ex → T AV → Heap → Prop), i + n = l.length → sg s 0 = a → sg s 1 = b → sg s 5 = .int .i64 i → (∀ s' h', Un P k Q (.exit 0) s' h') → Lp P b96_0 s hh (Un P k Q) := by
  have hbd := ha.bound (by decide)
  induction n with
  | zero =>
    intro i s hh k Q hi h0 h1 h5 hK
    refine g.lpe b96_0.eq_1 ?_
    have c1 : ¬ ((i : Int) < (l.length : Int)) := by omega
    simp only [h0, h5, ha.len, c1, RX, VOp.fresh, bxC, bsC, un, most, callsOf, seval, Int.reducePow, ↓reduceIte, Nat.reduceEqDiff, reduceCtorEq]
    exact hK _ _
  | succ n ih =>
    intro i s hh k Q hi h0 h1 h5 hK
    refine g.lpe b96_0.eq_1 ?_
    have c1 : (i : Int) < (l.length : Int) := by omega
    obtain ⟨r1, _, g1⟩ := getInt ha i (by omega)
    obtain ⟨r2, _, g2⟩ := getInt hb i (by omega)
    have w1 : IntKind.i64.wrap ((i : Int) + 1) = ((i + 1 : Nat) : Int) := by rw [w64 (by omega) (by omega)]; push_cast; rfl
    simp only [h0, h1, h5, ha.len, c1, g1, g2, w1, RX, VOp.fresh, bxC, bsC, un, most, callsOf, seval, Int.reducePow, ↓reduceIte, Nat.reduceEqDiff, reduceCtorEq]
    refine ih (i + 1) _ _ k Q (by omega) ?_ ?_ ?_ hK
    · simp only [h0, sg_set, Nat.reduceEqDiff, ↓reduceIte]
    · simp only [h1, sg_set, Nat.reduceEqDiff, ↓reduceIte]
    · simp only [sg_set, Nat.reduceEqDiff, ↓reduceIte]
theorem sInts_pu (g : Pg P tab) {l : List Int} {a b : AV} (ha : IsL 8 RInt a l) (hb : IsL 8 RInt b l) : Pu P 96 [a, b] (fun v => v = .bool true) := by
  refine g.pu (vf := v96) rfl rfl ?_
  simp only [v96, ha.len, hb.len, RX, VOp.fresh, bxC, bsC, un, most, callsOf, seval, Int.reducePow, ↓reduceIte, Nat.reduceEqDiff, reduceCtorEq]
  refine sInts_loop g ha hb l.length 0 _ _ _ _ (by omega) ?_ ?_ ?_ fun s' h' => ?_
  · simp only [sg_set, Nat.reduceEqDiff, ↓reduceIte]
  · simp only [sg_set, Nat.reduceEqDiff, ↓reduceIte]
  · simp only [sg_set, Nat.reduceEqDiff, ↓reduceIte]
    rfl
  simp only [RX, VOp.fresh, bxC, bsC, un, most, callsOf, seval, Int.reducePow, ↓reduceIte, Nat.reduceEqDiff, reduceCtorEq]
theorem sMap_pu (g : Pg P tab) {e : Int} {l1 l2 : List Int} {a1 a2 b1 b2 : AV} (h1 : IsL 8 RInt a1 l1) (h2 : IsL 8 RInt a2 l2) (k1 : IsL 8 RInt b1 l1) (k2 : IsL 8 RInt b2 l2) : Pu P 67 [.agg [.int .i64 e, a1, a2], .agg [.int .i64 e, b1, b2]] (fun v => v = .bool true) := by
  refine g.pu (vf := v67) rfl rfl ?_
  simp only [v67, RX, VOp.fresh, bxC, bsC, un, most, callsOf, seval, Int.reducePow, ↓reduceIte, Nat.reduceEqDiff, reduceCtorEq]
  refine (sInts_pu g h1 k1).go (by simp [AV.tolds, h1.told tInt, k1.told tInt]) ?_
  rintro v rfl
  simp only [RX, VOp.fresh, bxC, bsC, un, most, callsOf, seval, Int.reducePow, ↓reduceIte, Nat.reduceEqDiff, reduceCtorEq]
  refine (sInts_pu g h2 k2).go (by simp [AV.tolds, h2.told tInt, k2.told tInt]) ?_
  rintro v rfl
  simp only [RX, VOp.fresh, bxC, bsC, un, most, callsOf, seval, Int.reducePow, ↓reduceIte, Nat.reduceEqDiff, reduceCtorEq]
theorem sPts_loop (g : Pg P tab) {l : List Pt} {a b w u p0 p1 q0 q1 : AV} (ha : IsL 16 RPt a l) (hb : IsL 16 RPt b l) {i0 n2 n3 : Nat} (hwa : ∃ r, ∀ hh : Heap, iaV hh 1 none w (.int .i64 i0) = .val (.rp (a :: r)) hh) (hub : ∃ r, ∀ hh : Heap, iaV hh 1 none u (.int .i64 i0) = .val (.rp (b :: r)) hh) (n : Nat) :
    ∀ (i : Nat) (s : T AV) (hh : Heap) (k : List Fr) (Q : Ex → T AV → Heap → Prop), i + n = l.length → (∃ e ver, hh.get n2 = some (.cells [p0, p1, w] e ver)) → (∃ e ver, hh.get n3 = some (.cells [q0, q1, u] e ver)) → sg s 2 = .ptr n2 0 → sg s 3 = .ptr n3 0 → sg s 5 = .int .i64 i0 → sg s 6 = .int .i64 i →
      (∀ s', (∀ j, j = 2 ∨ j = 3 ∨ j = 5 → sg s' j = sg s j) → Un P k Q (.exit 2) s' hh) → Lp P b97_0 s hh (Un P k Q) := by
  have hbd := ha.bound (by decide)
  obtain ⟨ra, hwa⟩ := hwa
  obtain ⟨rb, hub⟩ := hub
  induction n with
  | zero =>
    intro i s hh k Q hi hx hy h2 h3 h5 h6 hK
    refine g.lpe b97_0.eq_1 ?_
    obtain ⟨e1, v1, hx⟩ := hx
    have c1 : ¬ ((i : Int) < (l.length : Int)) := by omega
    simp only [h2, h3, h5, h6, hx, hwa, ha.len, c1, RX, VOp.fresh, bxC, bsC, un, most, callsOf, seval, Int.reducePow, ↓reduceIte, Nat.reduceEqDiff, reduceCtorEq]
    refine hK _ ?_
    rintro j (rfl | rfl | rfl) <;> simp only [sg_set, Nat.reduceEqDiff, ↓reduceIte]
  | succ n ih =>
    intro i s hh k Q hi hx hy h2 h3 h5 h6 hK
    refine g.lpe b97_0.eq_1 ?_
    have c1 : (i : Int) < (l.length : Int) := by omega
    obtain ⟨r1, _, g1⟩ := getPt ha i (by omega)
    obtain ⟨r2, _, g2⟩ := getPt hb i (by omega)
    have w1 : IntKind.i64.wrap ((i : Int) + 1) = ((i + 1 : Nat) : Int) := by rw [w64 (by omega) (by omega)]; push_cast; rfl
    have hx' := hx
    have hy' := hy
    obtain ⟨e1, v1, hx⟩ := hx
    obtain ⟨e2, v2, hy⟩ := hy
    simp only [h2, h3, h5, h6, hx, hy, hwa, hub, ha.len, c1, g1, g2, w1, flat2, RX, VOp.fresh, bxC, bsC, un, most, callsOf, seval, Int.reducePow, ↓reduceIte, Nat.reduceEqDiff, reduceCtorEq]
    refine ih (i + 1) _ _ k Q (by omega) hx' hy' ?_ ?_ ?_ ?_ ?_
    · simp only [h2, sg_set, Nat.reduceEqDiff, ↓reduceIte]
    · simp only [h3, sg_set, Nat.reduceEqDiff, ↓reduceIte]
    · simp only [h5, sg_set, Nat.reduceEqDiff, ↓reduceIte]
    · simp only [sg_set, Nat.reduceEqDiff, ↓reduceIte]
    · intro s' q
      refine hK s' fun j hj => (q j hj).trans ?_
      rcases hj with rfl | rfl | rfl <;> simp only [sg_set, Nat.reduceEqDiff, ↓reduceIte]
theorem sRings_loop (g : Pg P tab) {l : List (List Pt)} {w u p0 p1 q0 q1 : AV} (ha : IsL 24 RRing w l) (hb : IsL 24 RRing u l) {n2 n3 : Nat} (n : Nat) :
    ∀ (i : Nat) (s : T AV) (hh : Heap) (k : List Fr) (Q : Ex → T AV → Heap → Prop), i + n = l.length → (∃ e ver, hh.get n2 = some (.cells [p0, p1, w] e ver)) → (∃ e ver, hh.get n3 = some (.cells [q0, q1, u] e ver)) → sg s 2 = .ptr n2 0 → sg s 3 = .ptr n3 0 → sg s 5 = .int .i64 i →
      (∀ s', Un P k Q (.exit 0) s' hh) → Lp P b97_1 s hh (Un P k Q) := by
  have hbd := ha.bound (by decide)
  induction n with
  | zero =>
    intro i s hh k Q hi hx hy h2 h3 h5 hK
    refine g.lpe b97_1.eq_1 ?_
    obtain ⟨e1, v1, hx⟩ := hx
    have c1 : ¬ ((i : Int) < (l.length : Int)) := by omega
    simp only [h2, h3, h5, hx, ha.len, c1, RX, VOp.fresh, bxC, bsC, un, most, callsOf, seval, Int.reducePow, ↓reduceIte, Nat.reduceEqDiff, reduceCtorEq]
    exact hK _
  | succ n ih =>
    intro i s hh k Q hi hx hy h2 h3 h5 hK
    refine g.lpe b97_1.eq_1 ?_
    have c1 : (i : Int) < (l.length : Int) := by omega
    obtain ⟨x1, r1, i1, _, g1⟩ := getRing ha i (by omega)
    obtain ⟨x2, r2, i2, _, g2⟩ := getRing hb i (by omega)
    have w1 : IntKind.i64.wrap ((i : Int) + 1) = ((i + 1 : Nat) : Int) := by rw [w64 (by omega) (by omega)]; push_cast; rfl
    have hx' := hx
    have hy' := hy
    obtain ⟨e1, v1, hx⟩ := hx
    obtain ⟨e2, v2, hy⟩ := hy
    simp only [h2, h3, h5, hx, hy, ha.len, c1, g1, g2, i1.len, i2.len, RX, VOp.fresh, bxC, bsC, un, most, callsOf, seval, Int.reducePow, ↓reduceIte, Nat.reduceEqDiff, reduceCtorEq]
    refine sPts_loop g i1 i2 (i0 := i) ⟨r1, fun hh => g1 hh _⟩ ⟨r2, fun hh => g2 hh _⟩ (l.getD i []).length 0 _ _ _ _ (by omega) hx' hy' ?_ ?_ ?_ ?_ ?_
    · simp only [h2, sg_set, Nat.reduceEqDiff, ↓reduceIte]
    · simp only [h3, sg_set, Nat.reduceEqDiff, ↓reduceIte]
    · simp only [h5, sg_set, Nat.reduceEqDiff, ↓reduceIte]
    · simp only [sg_set, Nat.reduceEqDiff, ↓reduceIte]
      rfl
    intro s' q
    have a2 := q 2 (by simp)
    have a3 := q 3 (by simp)
    have a5 := q 5 (by simp)
    simp only [sg_set, Nat.reduceEqDiff, ↓reduceIte, h2, h3, h5] at a2 a3 a5
    simp only [a5, w1, RX, VOp.fresh, bxC, bsC, un, most, callsOf, seval, Int.reducePow, ↓reduceIte, Nat.reduceEqDiff, reduceCtorEq]
    refine ih (i + 1) _ _ k Q (by omega) hx' hy' ?_ ?_ ?_ hK
    · simp only [a2, sg_set, Nat.reduceEqDiff, ↓reduceIte]
    · simp only [a3, sg_set, Nat.reduceEqDiff, ↓reduceIte]
    · simp only [sg_set, Nat.reduceEqDiff, ↓reduceIte]
theorem sFeat_pu (g : Pg P tab) {f : Feat} {c d : List AV} (hc : RFeat f c) (hd : RFeat f d) : Pu P 97 [.agg c, .agg d] (fun v => v = .bool true) := by
  obtain ⟨a, rfl, _, _, ha⟩ := hc
  obtain ⟨b, rfl, _, _, hb⟩ := hd
  refine g.pu (vf := v97) rfl rfl ?_
  simp only [v97, ha.len, hb.len, RX, VOp.fresh, bxC, bsC, un, most, callsOf, seval, Int.reducePow, ↓reduceIte, Nat.reduceEqDiff, reduceCtorEq]
  refine sRings_loop g ha hb (n2 := 0) (n3 := 1) f.rings.length 0 _ _ _ _ (by omega) ⟨52, 0, by rw [Heap.get_mk, if_neg (by decide), Heap.get_mk, if_pos rfl]⟩ ⟨52, 0, by rw [Heap.get_mk, if_pos rfl]⟩ ?_ ?_ ?_ fun s' => ?_
  · simp only [sg_set, Nat.reduceEqDiff, ↓reduceIte]
  · simp only [sg_set, Nat.reduceEqDiff, ↓reduceIte]
  · simp only [sg_set, Nat.reduceEqDiff, ↓reduceIte]
    rfl
  simp only [RX, VOp.fresh, bxC, bsC, un, most, callsOf, seval, Int.reducePow, ↓reduceIte, Nat.reduceEqDiff, reduceCtorEq]
theorem sOps_loop (g : Pg P tab) {l : List Op} {a b : AV} (ha : IsL 112 ROp a l) (hb : IsL 112 ROp b l) (n : Nat) :
    ∀ (i : Nat) (s : T AV) (hh : Heap) (k : List Fr) (Q : Ex → T AV → Heap → Prop), i + n = l.length → sg s 0 = a → sg s 1 = b → sg s 5 = .int .i64 i → (∀ s' h', Un P k Q (.exit 0) s' h') → Lp P b68_0 s hh (Un P k Q) := by
  have hbd := ha.bound (by decide)
  induction n with
  | zero =>
    intro i s hh k Q hi h0 h1 h5 hK
    refine g.lpe b68_0.eq_1 ?_
    have c1 : ¬ ((i : Int) < (l.length : Int)) := by omega
    simp only [h0, h5, ha.len, c1, RX, VOp.fresh, bxC, bsC, un, most, callsOf, seval, Int.reducePow, ↓reduceIte, Nat.reduceEqDiff, reduceCtorEq]
    exact hK _ _
  | succ n ih =>
    intro i s hh k Q hi h0 h1 h5 hK
    refine g.lpe b68_0.eq_1 ?_
    have c1 : (i : Int) < (l.length : Int) := by omega
    obtain ⟨x, r1, ⟨x1, x2, x3, rfl, i1, i2, i3, i4, i5, i6, i7, i8⟩, _, _, g1⟩ := getOp ha i (by omega)
    obtain ⟨y, r2, ⟨y1, y2, y3, rfl, k1, k2, k3, k4, k5, k6, k7, k8⟩, _, _, g2⟩ := getOp hb i (by omega)
    have w1 : IntKind.i64.wrap ((i : Int) + 1) = ((i + 1 : Nat) : Int) := by rw [w64 (by omega) (by omega)]; push_cast; rfl
    simp only [h0, h1, h5, ha.len, c1, g1, g2, Bool.or_self, RX, VOp.fresh, bxC, bsC, un, most, callsOf, seval, Int.reducePow, ↓reduceIte, Nat.reduceEqDiff, reduceCtorEq]
    refine (sFeat_pu g (f := (l.getD i op0).f) ⟨_, rfl, i2, i3, i4⟩ ⟨_, rfl, k2, k3, k4⟩).go (by simp [AV.tolds, AV.told, i4.told tRing, k4.told tRing]) ?_
    rintro v rfl
    simp only [h0, h1, h5, g1, g2, RX, VOp.fresh, bxC, bsC, un, most, callsOf, seval, Int.reducePow, ↓reduceIte, Nat.reduceEqDiff, reduceCtorEq]
    refine (sMap_pu g i7 i8 k7 k8).go (by simp [AV.tolds, AV.told, i7.told tInt, k7.told tInt, i8.told tInt, k8.told tInt]) ?_
    rintro v rfl
    simp only [h0, h1, h5, w1, RX, VOp.fresh, bxC, bsC, un, most, callsOf, seval, Int.reducePow, ↓reduceIte, Nat.reduceEqDiff, reduceCtorEq]
    refine ih (i + 1) _ _ k Q (by omega) ?_ ?_ ?_ hK
    · simp only [h0, sg_set, Nat.reduceEqDiff, ↓reduceIte]
    · simp only [h1, sg_set, Nat.reduceEqDiff, ↓reduceIte]
    · simp only [sg_set, Nat.reduceEqDiff, ↓reduceIte]
theorem sOps_pu (g : Pg P tab) {l : List Op} {a b : AV} (ha : IsL 112 ROp a l) (hb : IsL 112 ROp b l) : Pu P 68 [a, b] (fun v => v = .bool true) := by
  refine g.pu (vf := v68) rfl rfl ?_
  simp only [v68, ha.len, hb.len, RX, VOp.fresh, bxC, bsC, un, most, callsOf, seval, Int.reducePow, ↓reduceIte, Nat.reduceEqDiff, reduceCtorEq]
  refine sOps_loop g ha hb l.length 0 _ _ _ _ (by omega) ?_ ?_ ?_ fun s' h' => ?_
  · simp only [sg_set, Nat.reduceEqDiff, ↓reduceIte]
  · simp only [sg_set, Nat.reduceEqDiff, ↓reduceIte]
  · simp only [sg_set, Nat.reduceEqDiff, ↓reduceIte]
    rfl
  simp only [RX, VOp.fresh, bxC, bsC, un, most, callsOf, seval, Int.reducePow, ↓reduceIte, Nat.reduceEqDiff, reduceCtorEq]
end
end Go.Proofs.Ytinonmcnofjeeaa.VM
namespace Go.Proofs.Ytinonmcnofjeeaa.VM
attribute [local irreducible] Af Nx EvO Ev Un Gd Cd EvR EvQ EvC Nc Gc Lp EvM NxM AfM GdM EvMR EvMQ EvMD EvMC Nm Gm
section
variable {h : Heap} {B : Nat → Prop}
theorem Lv.nils_inv {x : AV} (l : Lv h B x .nils) : x = .nils := by
  obtain ⟨D, f, _⟩ := l
  cases f
  rfl
end
theorem Lv.one_row {h : Heap} {B : Nat → Prop} {x : AV} {c : List AV} {n : Nat} (l : Lv h B x (cRow c n)) : x.one = true := by
  obtain ⟨D, f, hb, _⟩ := l
  unfold cRow at f
  split at f <;> cases f <;> first | rfl | cases hb
/-- a struct handed over -/
theorem open_agg {w : World} {v : Value} {avs : List AV} (h : VRs none0 w avs v.cells.toList) (hl : avs.length ≠ 1) : VR none0 w (.agg avs) v := by
  cases v with
  | agg cs => exact .agg h
  | _ => exact absurd h.length hl
theorem str_by {s : ByteArray} (h : s.data.toList.length ≤ reachBytes) : By (s.data.toList.map fun c => c.toNat) ∧ (s.data.toList.map fun c => c.toNat).length < 4611686018427387904 := by
  refine ⟨fun n hn => ?_, ?_⟩
  · obtain ⟨c, _, rfl⟩ := List.mem_map.1 hn
    exact c.toNat_lt
  · rw [List.length_map]
    rw [reach_eq] at h
    omega
end Go.Proofs.Ytinonmcnofjeeaa.VM
namespace Go.Proofs.Ytinonmcnofjeeaa.VM
attribute [local irreducible] Af Nx EvO Ev Un Gd Cd EvR EvQ EvC Nc Gc Lp EvM NxM AfM GdM EvMR EvMQ EvMD EvMC Nm Gm
theorem isL_1 {α : Type} {b : Nat} {R : α → List AV → Prop} {v : AV} {l : List α} (h : IsL b R v l) : v.one = true := by
  rcases h.2 with ⟨rfl, _⟩ | ⟨c, rfl, _⟩ <;> rfl
end Go.Proofs.Ytinonmcnofjeeaa.VM
namespace Go.Proofs.Ytinonmcnofjeeaa.VM
attribute [local irreducible] Af Nx EvO Ev Un Gd Cd EvR EvQ EvC Nc Gc Lp EvM NxM AfM GdM EvMR EvMQ EvMD EvMC Nm Gm
structure Bx where
  x0 : Int
  y0 : Int
  x1 : Int
  y1 : Int
def boxV (b : Bx) : List AV := [.int .i64 b.x0, .int .i64 b.y0, .int .i64 b.x1, .int .i64 b.y1]
def boxOk (b : Bx) : Prop := coordOk b.x0 ∧ coordOk b.y0 ∧ coordOk b.x1 ∧ coordOk b.y1 ∧ b.x0 ≤ b.x1 ∧ b.y0 ≤ b.y1
instance (b : Bx) : Decidable (boxOk b) := by unfold boxOk; infer_instance
def nodeOk (x : Int) : Prop := 0 ≤ x ∧ x < 8
instance (x : Int) : Decidable (nodeOk x) := by unfold nodeOk; infer_instance
def feat0 : Feat := ⟨0, 0, []⟩
def featsAt (l : List Feat) (i : Nat) : Prop := featOk (l.getD i feat0) ∧ (0 < i → (l.getD (i - 1) feat0).id < (l.getD i feat0).id)
def featsOk (l : List Feat) : Prop := ∀ i, i < l.length → featsAt l i
section
variable {P : Program}
theorem node_pu (g : Pg P tab) (x : Int) : Pu P 98 [.int .i64 x] (fun v => v = .bool (decide (nodeOk x))) := by
  refine g.pu (vf := v98) rfl rfl ?_
  simp +contextual (maxSteps := 2000000) (disch := omega) only [v98, nodeOk, RX, VOp.fresh, bxC, bsC, un, most, callsOf, seval, Int.reducePow, ↓reduceIte, Nat.reduceEqDiff, reduceCtorEq]
theorem boxMay_pu (g : Pg P tab) (b : Bx) : Pu P 111 [.agg (boxV b)] (fun v => v = .bool (decide (boxOk b))) := by
  refine g.pu (vf := v111) rfl rfl ?_
  obtain ⟨x0, y0, x1, y1⟩ := b
  have stop : ∀ x y : Int, OK P 122 [.int .i64 x] ⟨1, .e⟩ (.bool (decide (coordOk x))) ⟨1, .e⟩ := fun x y => (coord_pu g x).exact rfl
  simp only [v111, boxV, RX, VOp.fresh, bxC, bsC, un, most, callsOf, seval, Int.reducePow, ↓reduceIte, Nat.reduceEqDiff, reduceCtorEq]
  refine (coord_pu g _).go rfl ?_
  rintro v rfl
  by_cases h1 : coordOk x0
  · simp only [h1, RX, VOp.fresh, bxC, bsC, un, most, callsOf, seval, Int.reducePow, ↓reduceIte, Nat.reduceEqDiff, reduceCtorEq]
    refine (coord_pu g _).go rfl ?_
    rintro v rfl
    by_cases h2 : coordOk y0
    · simp only [h2, RX, VOp.fresh, bxC, bsC, un, most, callsOf, seval, Int.reducePow, ↓reduceIte, Nat.reduceEqDiff, reduceCtorEq]
      refine (coord_pu g _).go rfl ?_
      rintro v rfl
      by_cases h3 : coordOk x1
      · simp only [h3, RX, VOp.fresh, bxC, bsC, un, most, callsOf, seval, Int.reducePow, ↓reduceIte, Nat.reduceEqDiff, reduceCtorEq]
        refine (coord_pu g _).go rfl ?_
        rintro v rfl
        by_cases h4 : coordOk y1
        · simp +contextual (maxSteps := 2000000) only [h4, boxOk, h1, h2, h3, RX, VOp.fresh, bxC, bsC, un, most, callsOf, seval, Int.reducePow, ↓reduceIte, Nat.reduceEqDiff, reduceCtorEq]
        · simp only [h4, boxOk, RX, VOp.fresh, bxC, bsC, un, most, callsOf, seval, Int.reducePow, ↓reduceIte, Nat.reduceEqDiff, reduceCtorEq]
      · simp only [h3, boxOk, RX, VOp.fresh, bxC, bsC, un, most, callsOf, seval, Int.reducePow, ↓reduceIte, Nat.reduceEqDiff, reduceCtorEq]
    · simp only [h2, boxOk, RX, VOp.fresh, bxC, bsC, un, most, callsOf, seval, Int.reducePow, ↓reduceIte, Nat.reduceEqDiff, reduceCtorEq]
  · simp only [h1, boxOk, RX, VOp.fresh, bxC, bsC, un, most, callsOf, seval, Int.reducePow, ↓reduceIte, Nat.reduceEqDiff, reduceCtorEq]
theorem isL_one {b : Nat} {α : Type} {R : α → List AV → Prop} {v : AV} {l : List α} (h : IsL b R v l) : v.one = true := by
  rcases h.2 with ⟨rfl, _⟩ | ⟨c, rfl, _⟩ <;> rfl
theorem zFeat (a : Feat) (c : List AV) (h : RFeat a c) : c.length = 3 := by obtain ⟨v, rfl, _⟩ := h; rfl
theorem getFeat {v : AV} {l : List Feat} (h : IsL 40 RFeat v l) (i : Nat) (hi : i < l.length) : ∃ rv r, IsL 24 RRing rv (l.getD i feat0).rings ∧ I64 (l.getD i feat0).id ∧ I64 (l.getD i feat0).shape ∧ AV.tolds r = true ∧
    ∀ (hh : Heap) (kk : IntKind), iaV hh 3 none v (.int kk (i : Int)) = .val (.rp (.int .i64 (l.getD i feat0).id :: .int .i64 (l.getD i feat0).shape :: rv :: r)) hh := by
  obtain ⟨ci, r, ⟨rv, e, i1, i2, hr⟩, ht, hia⟩ := h.get zFeat tFeat i hi
  have : l.getD i feat0 = l[i] := by simp [List.getD_eq_getElem?_getD, List.getElem?_eq_getElem hi]
  refine ⟨rv, r, by rw [this]; exact hr, by rw [this]; exact i1, by rw [this]; exact i2, ?_, fun hh kk => ?_⟩
  · rw [e] at ht
    simp only [AV.tolds, List.cons_append, List.nil_append, Bool.and_eq_true] at ht
    exact ht.2.2.2
  · rw [hia, e, this]; rfl
theorem rising_loop (g : Pg P tab) {l : List Feat} {v : AV} (hv : IsL 40 RFeat v l) (n : Nat) :
    ∀ (i : Nat) (s : T AV) (hh : Heap) (k : List Fr) (Q : Ex → T AV → Heap → Prop), i + n = l.length → sg s 0 = v → sg s 5 = v → sg s 6 = .int .i64 l.length → sg s 7 = .int .i64 i →
      ((∀ j, i ≤ j → j < l.length → featsAt l j) → ∀ s' h', Un P k Q (.exit 0) s' h') → ((¬ ∀ j, i ≤ j → j < l.length → featsAt l j) → ∀ s' h', sg s' 2 = .bool false → Un P k Q .ret s' h') → Lp P b112_0 s hh (Un P k Q) := by
  have hb := hv.bound (by decide)
  induction n with
  | zero =>
    intro i s hh k Q hi h0 h5 h6 h7 hK hR
    refine g.lpe b112_0.eq_1 ?_
    have c1 : ¬ ((i : Int) < (l.length : Int)) := by omega
    simp only [h6, h7, c1, RX, VOp.fresh, bxC, bsC, un, most, callsOf, seval, Int.reducePow, ↓reduceIte, Nat.reduceEqDiff, reduceCtorEq]
    exact hK (fun j h1 h2 => by omega) _ _
  | succ n ih =>
    intro i s hh k Q hi h0 h5 h6 h7 hK hR
    refine g.lpe b112_0.eq_1 ?_
    have c1 : (i : Int) < (l.length : Int) := by omega
    obtain ⟨rv, r1, hrv, _, _, _, g1⟩ := getFeat hv i (by omega)
    have w1 : IntKind.i64.wrap ((i : Int) + 1) = ((i + 1 : Nat) : Int) := by rw [w64 (by omega) (by omega)]; push_cast; rfl
    have w2 : IntKind.i64.wrap ((i : Int) - 1) = (i : Int) - 1 := w64 (by omega) (by omega)
    simp only [h0, h5, h6, h7, c1, g1, RW, isL_one hrv, RX, VOp.fresh, bxC, bsC, un, most, callsOf, seval, Int.reducePow, ↓reduceIte, Nat.reduceEqDiff, reduceCtorEq]
    refine (shapeMay_pu g hrv).go (by simp [AV.tolds, AV.told, hrv.told tRing]) ?_
    rintro x ⟨b, rfl, hbb⟩
    have no : ¬ featsAt l i → ¬ ∀ j, i ≤ j → j < l.length → featsAt l j := fun h hall => h (hall i (Nat.le_refl _) (by omega))
    have step : featsAt l i → ∀ s' h', sg s' 0 = v → sg s' 5 = v → sg s' 6 = .int .i64 l.length → sg s' 7 = .int .i64 (i + 1 : Nat) → Lp P b112_0 s' h' (Un P k Q) := fun hok s' h' a0 a5 a6 a7 => by
      have all : (∀ j, i ≤ j → j < l.length → featsAt l j) ↔ ∀ j, i + 1 ≤ j → j < l.length → featsAt l j := ⟨fun h j h1 h2 => h j (by omega) h2, fun h j h1 h2 => by
        rcases Nat.lt_or_ge i j with h3 | h3
        · exact h j h3 h2
        · rw [show j = i by omega]; exact hok⟩
      refine ih (i + 1) _ _ k Q (by omega) a0 a5 a6 a7 (fun h => hK (all.2 h)) (fun h => hR (fun h' => h (all.1 h')))
    cases b
    · simp only [RX, VOp.fresh, bxC, bsC, un, most, callsOf, seval, Int.reducePow, ↓reduceIte, Nat.reduceEqDiff, reduceCtorEq]
      exact hR (no fun h => by have := hbb.2 h.1; cases this) _ _ (by simp only [sg_set, Nat.reduceEqDiff, ↓reduceIte])
    · simp only [h0, h7, RX, VOp.fresh, bxC, bsC, un, most, callsOf, seval, Int.reducePow, ↓reduceIte, Nat.reduceEqDiff, reduceCtorEq]
      by_cases hi0 : i = 0
      · have c2 : ¬ ((0 : Int) < (i : Int)) := by omega
        simp only [c2, h7, w1, RX, VOp.fresh, bxC, bsC, un, most, callsOf, seval, Int.reducePow, ↓reduceIte, Nat.reduceEqDiff, reduceCtorEq]
        refine step ⟨hbb.1 rfl, fun h => by omega⟩ _ _ ?_ ?_ ?_ ?_
        · simp only [h0, sg_set, Nat.reduceEqDiff, ↓reduceIte]
        · simp only [h5, sg_set, Nat.reduceEqDiff, ↓reduceIte]
        · simp only [h6, sg_set, Nat.reduceEqDiff, ↓reduceIte]
        · simp only [sg_set, Nat.reduceEqDiff, ↓reduceIte]
      · have c2 : (0 : Int) < (i : Int) := by omega
        obtain ⟨rv', r1', hrv', _, _, _, g1'⟩ := getFeat hv (i - 1) (by omega)
        have ec : ((i - 1 : Nat) : Int) = (i : Int) - 1 := by omega
        rw [ec] at g1'
        simp only [c2, w2, g1', RX, VOp.fresh, bxC, bsC, un, most, callsOf, seval, Int.reducePow, ↓reduceIte, Nat.reduceEqDiff, reduceCtorEq]
        by_cases hid : (l.getD (i - 1) feat0).id < (l.getD i feat0).id
        · have c3 : ¬ (l.getD i feat0).id ≤ (l.getD (i - 1) feat0).id := by omega
          simp only [c3, h7, w1, RX, VOp.fresh, bxC, bsC, un, most, callsOf, seval, Int.reducePow, ↓reduceIte, Nat.reduceEqDiff, reduceCtorEq]
          refine step ⟨hbb.1 rfl, fun h => hid⟩ _ _ ?_ ?_ ?_ ?_
          · simp only [h0, sg_set, Nat.reduceEqDiff, ↓reduceIte]
          · simp only [h5, sg_set, Nat.reduceEqDiff, ↓reduceIte]
          · simp only [h6, sg_set, Nat.reduceEqDiff, ↓reduceIte]
          · simp only [sg_set, Nat.reduceEqDiff, ↓reduceIte]
        · have c3 : (l.getD i feat0).id ≤ (l.getD (i - 1) feat0).id := by omega
          simp only [c3, RX, VOp.fresh, bxC, bsC, un, most, callsOf, seval, Int.reducePow, ↓reduceIte, Nat.reduceEqDiff, reduceCtorEq]
          exact hR (no fun h => hid (h.2 (by omega))) _ _ (by simp only [sg_set, Nat.reduceEqDiff, ↓reduceIte])
theorem rising_pu (g : Pg P tab) {l : List Feat} {v : AV} (hv : IsL 40 RFeat v l) : Pu P 112 [v] (IsB (featsOk l)) := by
  refine g.pu (vf := v112) rfl rfl ?_
  simp only [v112, hv.len, RX, VOp.fresh, bxC, bsC, un, most, callsOf, seval, Int.reducePow, ↓reduceIte, Nat.reduceEqDiff, reduceCtorEq]
  refine rising_loop g hv l.length 0 _ _ _ _ (by omega) ?_ ?_ ?_ ?_ ?_ ?_
  · simp only [sg_set, Nat.reduceEqDiff, ↓reduceIte]
  · simp only [sg_set, Nat.reduceEqDiff, ↓reduceIte]
  · simp only [sg_set, Nat.reduceEqDiff, ↓reduceIte]
  · simp only [sg_set, Nat.reduceEqDiff, ↓reduceIte]
    rfl
  · intro h s' h'
    simp only [RX, VOp.fresh, bxC, bsC, un, most, callsOf, seval, Int.reducePow, ↓reduceIte, Nat.reduceEqDiff, reduceCtorEq]
    exact fun i hi => h i (by omega) hi
  · intro h s' h' h2
    simp only [h2, RX, VOp.fresh, bxC, bsC, un, most, callsOf, seval, Int.reducePow, ↓reduceIte, Nat.reduceEqDiff, reduceCtorEq]
    exact fun hok => h fun j _ hj => hok j hj
end
structure Ms where
  kind : Int
  frm : Int
  to : Int
  node : Int
  seq : Int
  base : Int
  yes : Bool
  query : Int
  applied : Int
  busy : Bool
  box : Bx
  ops : List Op
  fs : List Feat
def msC (m : Ms) (a u : AV) : List AV := [.int .i64 m.kind, .int .i64 m.frm, .int .i64 m.to, .int .i64 m.node, .int .i64 m.seq, .int .i64 m.base, .bool m.yes, .int .i64 m.query, .int .i64 m.applied, .bool m.busy, .int .i64 m.box.x0, .int .i64 m.box.y0, .int .i64 m.box.x1, .int .i64 m.box.y1, a, u]
def zeroBox (b : Bx) : Prop := b.x0 = 0 ∧ b.y0 = 0 ∧ b.x1 = 0 ∧ b.y1 = 0
instance (b : Bx) : Decidable (zeroBox b) := by unfold zeroBox; infer_instance
def kTx (k : Int) : Bool := decide (0 ≤ k ∧ k ≤ 4)
def kOps (k : Int) : Bool := decide (k = 0)
def kYes (k : Int) : Bool := decide (k = 1 ∨ k = 2)
def kQuery (k : Int) : Bool := decide (k = 5 ∨ k = 6)
def kPart (k : Int) : Bool := decide (k = 6)
def rowV (k : Int) : AV := .agg [.bool (kTx k), .bool (kOps k), .bool (kYes k), .bool (kQuery k), .bool (kPart k)]
def opsM (m : Ms) : Prop := if kOps m.kind = true then (-1 ≤ m.base ∧ m.base ≤ 65535) ∧ opsOk 8 m.ops else m.base = 0 ∧ m.ops = []
def queryM (m : Ms) : Prop := if kQuery m.kind = true then (1 ≤ m.query ∧ m.query ≤ 65535) ∧ boxOk m.box else m.query = 0 ∧ zeroBox m.box
def partM (m : Ms) : Prop := if kPart m.kind = true then (0 ≤ m.applied ∧ m.applied ≤ 2147483647) ∧ m.fs.length ≤ 256 ∧ (m.busy = true → m.fs = []) ∧ featsOk m.fs else m.applied = 0 ∧ m.busy = false ∧ m.fs = []
def txM (m : Ms) : Prop := if kTx m.kind = true then txOk m.node m.seq else m.node = 0 ∧ m.seq = 0
def msOk (m : Ms) : Prop := (0 ≤ m.kind ∧ m.kind ≤ 6) ∧ nodeOk m.frm ∧ nodeOk m.to ∧ txM m ∧ (kYes m.kind = true ∨ m.yes = false) ∧ opsM m ∧ queryM m ∧ partM m
section
variable {P : Program}
theorem rowOf_pu (g : Pg P tab) (k : Int) : Pu P 77 [.int .i64 k] (fun v => v = .tup [rowV k, .bool (decide (0 ≤ k ∧ k ≤ 6))]) := by
  have h : (k = 0 ∨ k = 1 ∨ k = 2 ∨ k = 3 ∨ k = 4 ∨ k = 5 ∨ k = 6) ∨ (k ≠ 0 ∧ k ≠ 1 ∧ k ≠ 2 ∧ k ≠ 3 ∧ k ≠ 4 ∧ k ≠ 5 ∧ k ≠ 6) := by omega
  rcases h with h | ⟨h0, h1, h2, h3, h4, h5, h6⟩
  · rcases h with rfl | rfl | rfl | rfl | rfl | rfl | rfl <;> (refine g.pu (vf := v77) rfl rfl ?_; simp only [v77, RW, RX, VOp.fresh, bxC, bsC, un, most, callsOf, seval, Int.reducePow, ↓reduceIte, Nat.reduceEqDiff, reduceCtorEq]; exact ⟨_, .tup (.cons (.agg (.cons (.bool _) (.cons (.bool _) (.cons (.bool _) (.cons (.bool _) (.cons (.bool _) .nil)))))) (.cons (.bool _) .nil)), rfl⟩)
  · refine g.pu (vf := v77) rfl rfl ?_
    simp only [v77, RW, h0, h1, h2, h3, h4, h5, h6, RX, VOp.fresh, bxC, bsC, un, most, callsOf, seval, Int.reducePow, ↓reduceIte, Nat.reduceEqDiff, reduceCtorEq]
    refine ⟨_, .tup (.cons (.agg (.cons (.bool _) (.cons (.bool _) (.cons (.bool _) (.cons (.bool _) (.cons (.bool _) .nil)))))) (.cons (.bool _) .nil)), ?_⟩
    have n1 : ¬ (0 ≤ k ∧ k ≤ 6) := by omega
    have n2 : ¬ (0 ≤ k ∧ k ≤ 4) := by omega
    simp only [rowV, kTx, kOps, kYes, kQuery, kPart, h0, h1, h2, h5, h6, n1, n2, or_self, decide_false]
variable {m : Ms} {a u : AV} {t : List AV}
theorem opsMayM_pu (g : Pg P tab) (ha : IsL 112 ROp a m.ops) (tx yes q pt : Bool) : Pu P 99 [.agg [.bool tx, .bool (kOps m.kind), .bool yes, .bool q, .bool pt], .rp (msC m a u ++ t)] (IsB (opsM m)) := by
  refine g.pu (vf := v99) rfl rfl ?_
  unfold opsM
  cases kOps m.kind with
  | false =>
    simp only [v99, msC, ha.len, RX, VOp.fresh, bxC, bsC, un, most, callsOf, seval, Int.reducePow, ↓reduceIte, Nat.reduceEqDiff, reduceCtorEq]
    by_cases h1 : m.base = 0
    · simp only [h1, ha.len, len0, RX, VOp.fresh, bxC, bsC, un, most, callsOf, seval, Int.reducePow, ↓reduceIte, Nat.reduceEqDiff, reduceCtorEq]
    · simp only [h1, RX, VOp.fresh, bxC, bsC, un, most, callsOf, seval, Int.reducePow, ↓reduceIte, Nat.reduceEqDiff, reduceCtorEq]
  | true =>
    simp only [v99, msC, RX, VOp.fresh, bxC, bsC, un, most, callsOf, seval, Int.reducePow, ↓reduceIte, Nat.reduceEqDiff, reduceCtorEq]
    refine (baseMay_pu g _).go rfl ?_
    rintro v rfl
    by_cases h1 : -1 ≤ m.base ∧ m.base ≤ 65535
    · simp only [h1, RX, VOp.fresh, bxC, bsC, un, most, callsOf, seval, Int.reducePow, ↓reduceIte, Nat.reduceEqDiff, reduceCtorEq]
      refine (opsMay_pu g ha).go (by simp [AV.tolds, AV.told, ha.told tOp]) ?_
      rintro v ⟨b, rfl, hb⟩
      simp only [RX, VOp.fresh, bxC, bsC, un, most, callsOf, seval, Int.reducePow, ↓reduceIte, Nat.reduceEqDiff, reduceCtorEq]
      exact hb
    · simp only [h1, RX, VOp.fresh, bxC, bsC, un, most, callsOf, seval, Int.reducePow, ↓reduceIte, Nat.reduceEqDiff, reduceCtorEq]
theorem flat4 {a b c d a' b' c' d' : Int} : eqv (.flat [.int, .int, .int, .int]) (.agg [.int .i64 a, .int .i64 b, .int .i64 c, .int .i64 d]) (.agg [.int .i64 a', .int .i64 b', .int .i64 c', .int .i64 d']) = some (decide (a = a' ∧ b = b' ∧ c = c' ∧ d = d')) := by
  by_cases h1 : a = a' <;> by_cases h2 : b = b' <;> by_cases h3 : c = c' <;> by_cases h4 : d = d' <;> simp [eqv, sameCells, sameK, h1, h2, h3, h4]
theorem queryMayM_pu (g : Pg P tab) (tx ops yes pt : Bool) : Pu P 100 [.agg [.bool tx, .bool ops, .bool yes, .bool (kQuery m.kind), .bool pt], .rp (msC m a u ++ t)] (IsB (queryM m)) := by
  refine g.pu (vf := v100) rfl rfl ?_
  unfold queryM
  cases kQuery m.kind with
  | false =>
    simp only [v100, msC, RX, VOp.fresh, bxC, bsC, un, most, callsOf, seval, Int.reducePow, ↓reduceIte, Nat.reduceEqDiff, reduceCtorEq]
    by_cases h1 : m.query = 0
    · simp only [h1, flat4, zeroBox, RX, VOp.fresh, bxC, bsC, un, most, callsOf, seval, Int.reducePow, ↓reduceIte, Nat.reduceEqDiff, reduceCtorEq]
    · simp only [h1, RX, VOp.fresh, bxC, bsC, un, most, callsOf, seval, Int.reducePow, ↓reduceIte, Nat.reduceEqDiff, reduceCtorEq]
  | true =>
    simp only [v100, msC, RX, VOp.fresh, bxC, bsC, un, most, callsOf, seval, Int.reducePow, ↓reduceIte, Nat.reduceEqDiff, reduceCtorEq]
    by_cases h1 : 1 ≤ m.query
    · simp only [h1, RX, VOp.fresh, bxC, bsC, un, most, callsOf, seval, Int.reducePow, ↓reduceIte, Nat.reduceEqDiff, reduceCtorEq]
      by_cases h2 : m.query ≤ 65535
      · simp only [h2, RX, VOp.fresh, bxC, bsC, un, most, callsOf, seval, Int.reducePow, ↓reduceIte, Nat.reduceEqDiff, reduceCtorEq]
        refine (boxMay_pu g m.box).go rfl ?_
        rintro v rfl
        simp only [RX, VOp.fresh, bxC, bsC, un, most, callsOf, seval, Int.reducePow, ↓reduceIte, Nat.reduceEqDiff, reduceCtorEq]
      · simp only [h2, RX, VOp.fresh, bxC, bsC, un, most, callsOf, seval, Int.reducePow, ↓reduceIte, Nat.reduceEqDiff, reduceCtorEq]
    · simp only [h1, RX, VOp.fresh, bxC, bsC, un, most, callsOf, seval, Int.reducePow, ↓reduceIte, Nat.reduceEqDiff, reduceCtorEq]
theorem partMayM_pu (g : Pg P tab) (hu : IsL 40 RFeat u m.fs) (tx ops yes q : Bool) : Pu P 101 [.agg [.bool tx, .bool ops, .bool yes, .bool q, .bool (kPart m.kind)], .rp (msC m a u ++ t)] (IsB (partM m)) := by
  refine g.pu (vf := v101) rfl rfl ?_
  unfold partM
  have hcl : ((m.fs.length : Int) ≤ 256) = (m.fs.length ≤ 256) := by rw [eq_iff_iff]; omega
  cases kPart m.kind with
  | false =>
    cases hb : m.busy <;> simp only [v101, msC, hb, hu.len, RX, VOp.fresh, bxC, bsC, un, most, callsOf, seval, Int.reducePow, ↓reduceIte, Nat.reduceEqDiff, reduceCtorEq] <;> by_cases h1 : m.applied = 0 <;> simp only [h1, hu.len, len0, hb, RX, VOp.fresh, bxC, bsC, un, most, callsOf, seval, Int.reducePow, ↓reduceIte, Nat.reduceEqDiff, reduceCtorEq]
  | true =>
    cases hb : m.busy with
    | false =>
      simp only [v101, msC, hb, hu.len, RX, VOp.fresh, bxC, bsC, un, most, callsOf, seval, Int.reducePow, ↓reduceIte, Nat.reduceEqDiff, reduceCtorEq]
      by_cases h1 : 0 ≤ m.applied
      · by_cases h2 : m.applied ≤ 2147483647
        · by_cases h3 : m.fs.length ≤ 256
          · simp only [h1, h2, h3, hcl, hu.len, len0, hb, RX, VOp.fresh, bxC, bsC, un, most, callsOf, seval, Int.reducePow, ↓reduceIte, Nat.reduceEqDiff, reduceCtorEq]
            refine (rising_pu g hu).go (by simp [AV.tolds, AV.told, hu.told tFeat]) ?_
            rintro v ⟨b, rfl, hb⟩
            simp only [RX, VOp.fresh, bxC, bsC, un, most, callsOf, seval, Int.reducePow, ↓reduceIte, Nat.reduceEqDiff, reduceCtorEq]
            exact hb
          · simp only [h1, h2, h3, hcl, hu.len, RX, VOp.fresh, bxC, bsC, un, most, callsOf, seval, Int.reducePow, ↓reduceIte, Nat.reduceEqDiff, reduceCtorEq]
        · simp only [h1, h2, RX, VOp.fresh, bxC, bsC, un, most, callsOf, seval, Int.reducePow, ↓reduceIte, Nat.reduceEqDiff, reduceCtorEq]
      · simp only [h1, RX, VOp.fresh, bxC, bsC, un, most, callsOf, seval, Int.reducePow, ↓reduceIte, Nat.reduceEqDiff, reduceCtorEq]
    | true =>
      simp only [v101, msC, hb, hu.len, RX, VOp.fresh, bxC, bsC, un, most, callsOf, seval, Int.reducePow, ↓reduceIte, Nat.reduceEqDiff, reduceCtorEq]
      by_cases h1 : 0 ≤ m.applied
      · by_cases h2 : m.applied ≤ 2147483647
        · by_cases h3 : m.fs.length ≤ 256
          · by_cases h4 : m.fs = []
            · simp only [h1, h2, h3, hcl, hu.len, len0, hb, h4, RX, VOp.fresh, bxC, bsC, un, most, callsOf, seval, Int.reducePow, ↓reduceIte, Nat.reduceEqDiff, reduceCtorEq]
              rw [h4] at hu
              refine (rising_pu g hu).go (by simp [AV.tolds, AV.told, hu.told tFeat]) ?_
              rintro v ⟨b, rfl, hb⟩
              simp only [RX, VOp.fresh, bxC, bsC, un, most, callsOf, seval, Int.reducePow, ↓reduceIte, Nat.reduceEqDiff, reduceCtorEq]
              exact hb
            · simp only [h1, h2, h3, hcl, hu.len, len0, hb, h4, RX, VOp.fresh, bxC, bsC, un, most, callsOf, seval, Int.reducePow, ↓reduceIte, Nat.reduceEqDiff, reduceCtorEq]
          · simp only [h1, h2, h3, hcl, hu.len, RX, VOp.fresh, bxC, bsC, un, most, callsOf, seval, Int.reducePow, ↓reduceIte, Nat.reduceEqDiff, reduceCtorEq]
        · simp only [h1, h2, RX, VOp.fresh, bxC, bsC, un, most, callsOf, seval, Int.reducePow, ↓reduceIte, Nat.reduceEqDiff, reduceCtorEq]
      · simp only [h1, RX, VOp.fresh, bxC, bsC, un, most, callsOf, seval, Int.reducePow, ↓reduceIte, Nat.reduceEqDiff, reduceCtorEq]
theorem Pu.bool {f : Nat} {args : List AV} {p : Prop} (q : Pu P f args (IsB p)) (ha : AV.tolds args = true) : ∃ b : Bool, (∀ h, OK P f args h (.bool b) h) ∧ (b = true ↔ p) := by
  obtain ⟨v, v', h0, o, hf, b, rfl, hb⟩ := q
  exact ⟨b, fun h => o.pure (Fzs.refl ha) hf, hb⟩
def nodeAns : List AV → AV
  | [.int _ x] => .bool (decide (nodeOk x))
  | _ => .undef
def cMay (b1 b2 b3 : Bool) (f : Nat) (args : List AV) (h : Heap) : AV × Heap := (if f = 98 then nodeAns args else if f = 99 then .bool b1 else if f = 100 then .bool b2 else .bool b3, h)
theorem tolds_ms (ha : IsL 112 ROp a m.ops) (hu : IsL 40 RFeat u m.fs) : AV.tolds (msC m a u) = true := by
  simp [msC, AV.tolds, AV.told, ha.told tOp, hu.told tFeat]
open Classical in
theorem may_pu (g : Pg P tab) (ha : IsL 112 ROp a m.ops) (hu : IsL 40 RFeat u m.fs) (ht : AV.tolds t = true) : Pu P 71 [.rp (msC m a u ++ t)] (fun v => ∃ b : Bool, v = .tup [rowV m.kind, .bool b] ∧ (b = true ↔ msOk m)) := by
  refine g.pu (vf := v71) rfl rfl ?_
  have hm : AV.tolds (msC m a u ++ t) = true := by rw [Cat.told.tolds_append, tolds_ms ha hu, ht]; rfl
  have tr : ∀ k : Int, AV.told (rowV k) = true := fun k => rfl
  have tp : AV.tolds [rowV m.kind, .rp (msC m a u ++ t)] = true := by
    show (AV.told (rowV m.kind) && (AV.tolds (msC m a u ++ t) && true)) = true
    rw [hm, tr]; rfl
  obtain ⟨b1, o1, e1⟩ := (opsMayM_pu g (u := u) (t := t) ha (kTx m.kind) (kYes m.kind) (kQuery m.kind) (kPart m.kind)).bool tp
  obtain ⟨b2, o2, e2⟩ := (queryMayM_pu g (m := m) (a := a) (u := u) (t := t) (kTx m.kind) (kOps m.kind) (kYes m.kind) (kPart m.kind)).bool tp
  obtain ⟨b3, o3, e3⟩ := (partMayM_pu g (a := a) (t := t) hu (kTx m.kind) (kOps m.kind) (kYes m.kind) (kQuery m.kind)).bool tp
  obtain rfl : b1 = decide (opsM m) := by rw [Bool.eq_iff_iff, e1, decide_eq_true_iff]
  obtain rfl : b2 = decide (queryM m) := by rw [Bool.eq_iff_iff, e2, decide_eq_true_iff]
  obtain rfl : b3 = decide (partM m) := by rw [Bool.eq_iff_iff, e3, decide_eq_true_iff]
  have o4 : ∀ x h, OK P 98 [.int .i64 x] h (.bool (decide (nodeOk x))) h := fun x h => (node_pu g x).exact rfl
  have e4 : txM m ↔ (if kTx m.kind = true then txOk m.node m.seq else m.node = 0 ∧ m.seq = 0) := Iff.rfl
  have goal : ∀ b : Bool, (b = true ↔ msOk m) → Tl ⟨0, .e⟩ (.tup [rowV m.kind, .bool b]) (fun v => ∃ b : Bool, v = .tup [rowV m.kind, .bool b] ∧ (b = true ↔ msOk m)) := fun b hb => ⟨_, .tup (.cons (.agg (.cons (.bool _) (.cons (.bool _) (.cons (.bool _) (.cons (.bool _) (.cons (.bool _) .nil)))))) (.cons (.bool _) .nil)), b, rfl, hb⟩
  simp only [v71, msC, RX, VOp.fresh, bxC, bsC, un, most, callsOf, seval, Int.reducePow, ↓reduceIte, Nat.reduceEqDiff, reduceCtorEq]
  refine (rowOf_pu g m.kind).go rfl ?_
  rintro v rfl
  rw [rowV] at *
  simp only [RW, flat2, RX, VOp.fresh, bxC, bsC, un, most, callsOf, seval, Int.reducePow, ↓reduceIte, Nat.reduceEqDiff, reduceCtorEq]
  refine (nameMay_pu g _ _).go rfl ?_
  rintro v rfl
  rw [msC] at *
  unfold msOk at goal
  have eT : (if kTx m.kind = true then (0 ≤ m.node ∧ m.node < 8 ∧ 1 ≤ m.seq ∧ m.seq ≤ 65535) else (m.node = 0 ∧ m.seq = 0)) = txM m := rfl
  have tell : ∀ {h : Heap} {b : Bool} {R : AV → Prop}, R (.tup [.agg [.bool (kTx m.kind), .bool (kOps m.kind), .bool (kYes m.kind), .bool (kQuery m.kind), .bool (kPart m.kind)], .bool b]) → Tl h (.tup [.agg [.bool (kTx m.kind), .bool (kOps m.kind), .bool (kYes m.kind), .bool (kQuery m.kind), .bool (kPart m.kind)], .bool b]) R := fun r => ⟨_, .tup (.cons (.agg (.cons (.bool _) (.cons (.bool _) (.cons (.bool _) (.cons (.bool _) (.cons (.bool _) .nil)))))) (.cons (.bool _) .nil)), r⟩
  clear goal tr tp hm e1 e2 e3 e4
  simp only [List.cons_append, List.nil_append, msC] at o1 o2 o3
  unfold msOk
  generalize txM m = T at *
  generalize opsM m = A at *
  generalize queryM m = B at *
  generalize partM m = C at *
  cases hk : kTx m.kind <;> cases hy : kYes m.kind <;> cases hv : m.yes <;> simp only [hk, hy, hv, Bool.false_eq_true, if_true, if_false] at o1 o2 o3 eT tell <;> simp only [hk, hy, hv, Bool.false_eq_true, false_or, true_or, true_and, reduceCtorEq, and_false, false_and, iff_false, or_false, or_true, Bool.not_eq_true]
  all_goals
    simp only [hk, hv, RW, flat2, eT, RX, VOp.fresh, bxC, bsC, un, most, callsOf, seval, Int.reducePow, ↓reduceIte, Nat.reduceEqDiff, reduceCtorEq]
    refine EvD.sameN 45 (cMay (decide A) (decide B) (decide C)) rfl ?_
    simp +contextual (maxSteps := 2000000) only [hk, hy, hv, RW, flat2, cMay, nodeAns, o1, o2, o3, o4, eT, RX, VOp.fresh, bxC, bsC, un, most, callsOf, seval, Int.reducePow, ↓reduceIte, Nat.reduceEqDiff, reduceCtorEq]
  all_goals
    repeat' (first | apply And.intro | intro _)
    all_goals
      refine tell ?_
      refine ⟨_, rfl, ?_⟩
      simp only [decide_eq_true_eq, *, and_self, true_and, false_and, and_true, and_false, Bool.false_eq_true, reduceCtorEq, iff_self, not_true_eq_false, not_false_eq_true]
end
end Go.Proofs.Ytinonmcnofjeeaa.VM
namespace Go.Proofs.Ytinonmcnofjeeaa.VM
attribute [local irreducible] Af Nx EvO Ev Un Gd Cd EvR EvQ EvC Nc Gc Lp EvM NxM AfM GdM EvMR EvMQ EvMD EvMC Nm Gm
section
variable {P : Program} {m : Ms} {a u : AV}
theorem awake16_pu (g : Pg P tab) : Pu P 31 [] (fun v => v = .bool true) := g.run (n := 400) (by kernel_rfl)
theorem msgPut_bad (g : Pg P tab) (ha : IsL 112 ROp a m.ops) (hu : IsL 40 RFeat u m.fs) (hn : ¬ msOk m) : Pu P 25 [.agg (msC m a u)] (fun v => v = .tup [.str [], .int .i64 1600]) := by
  refine g.pu (vf := v25) rfl rfl ?_
  have hm := may_pu g ha hu (t := []) rfl
  rw [List.append_nil] at hm
  have ht := tolds_ms ha hu
  generalize msC m a u = c at hm ht
  simp only [v25, RX, VOp.fresh, bxC, bsC, un, most, callsOf, seval, Int.reducePow, ↓reduceIte, Nat.reduceEqDiff, reduceCtorEq]
  have hf : Fzs true (({ next := 0, t := T.e } : Heap).mk' 0 (.cells c 63 0)) [.ptr 0 0] [.rp c] := .cons (.ptr (by rw [Heap.get_mk, if_pos rfl]) (Fzs.refl ht)) .nil
  refine hm.cl hf ?_
  rintro x ⟨b, rfl, hb⟩
  cases b
  · rw [rowV]
    simp only [RW, RX, VOp.fresh, bxC, bsC, un, most, callsOf, seval, Int.reducePow, ↓reduceIte, Nat.reduceEqDiff, reduceCtorEq]
  · exact absurd (hb.1 rfl) hn
end
end Go.Proofs.Ytinonmcnofjeeaa.VM
namespace Go.Proofs.Ytinonmcnofjeeaa.VM
attribute [local irreducible] Af Nx EvO Ev Un Gd Cd EvR EvQ EvC Nc Gc Lp EvM NxM AfM GdM EvMR EvMQ EvMD EvMC Nm Gm
def boxB (b : Bx) : List Nat := numB b.x0 4 ++ (numB b.y0 4 ++ (numB b.x1 4 ++ numB b.y1 4))
def fsB (l : List Feat) : List Nat := numB l.length 2 ++ (l.map featB).flatten
theorem boxB_len (b : Bx) : (boxB b).length = 16 := by simp only [boxB, List.length_append, numB_len]
theorem By.box (b : Bx) : By (boxB b) := (By.num _ _).app ((By.num _ _).app ((By.num _ _).app (By.num _ _)))
theorem By.fs (l : List Feat) : By (fsB l) := (By.num _ _).app (By.flat By.feat)
theorem getD_feat {l : List Feat} {i : Nat} (hi : i < l.length) : l.getD i feat0 = l[i] := by simp [List.getD_eq_getElem?_getD, List.getElem?_eq_getElem hi]
section
variable {P : Program}
theorem wbox (g : Pg P tab) (b4 : Bx) {K : List (Nat × Blk)} {h : Heap} {b : Nat} {s : List Nat} (w : WR K h b s)
    (hl : s.length ≤ 1000000) {Q : AV → Heap → Prop} (q : ∀ v h', WR K h' b (s ++ boxB b4) → Q v h') : Cl P 72 [.ptr b 0, .agg (boxV b4)] h Q := by
  refine g.cl (vf := v72) rfl rfl ?_
  obtain ⟨x0, y0, x1, y1⟩ := b4
  have w0 := w.add (.cells [.int .i64 x0, .int .i64 y0, .int .i64 x1, .int .i64 y1] 60 0)
  simp only [v72, boxV, RX, VOp.fresh, bxC, bsC, un, most, callsOf, seval, Int.reducePow, ↓reduceIte, Nat.reduceEqDiff, reduceCtorEq]
  refine g.lpe b72_0.eq_1 ?_
  simp only [RX, VOp.fresh, bxC, bsC, un, most, callsOf, seval, Int.reducePow, ↓reduceIte, Nat.reduceEqDiff, reduceCtorEq]
  refine wnum (n := 4) g (num4_pu g _) (by decide) w0 (by omega) fun _ h1 w1 => ?_
  simp only [RX, VOp.fresh, bxC, bsC, un, most, callsOf, seval, Int.reducePow, ↓reduceIte, Nat.reduceEqDiff, reduceCtorEq]
  refine g.lpe b72_0.eq_1 ?_
  simp only [RX, VOp.fresh, bxC, bsC, un, most, callsOf, seval, Int.reducePow, ↓reduceIte, Nat.reduceEqDiff, reduceCtorEq]
  refine wnum (n := 4) g (num4_pu g _) (by decide) w1 (by simp only [List.length_append, numB_len]; omega) fun _ h2 w2 => ?_
  simp only [RX, VOp.fresh, bxC, bsC, un, most, callsOf, seval, Int.reducePow, ↓reduceIte, Nat.reduceEqDiff, reduceCtorEq]
  refine g.lpe b72_0.eq_1 ?_
  simp only [RX, VOp.fresh, bxC, bsC, un, most, callsOf, seval, Int.reducePow, ↓reduceIte, Nat.reduceEqDiff, reduceCtorEq]
  refine wnum (n := 4) g (num4_pu g _) (by decide) w2 (by simp only [List.length_append, numB_len]; omega) fun _ h3 w3 => ?_
  simp only [RX, VOp.fresh, bxC, bsC, un, most, callsOf, seval, Int.reducePow, ↓reduceIte, Nat.reduceEqDiff, reduceCtorEq]
  refine g.lpe b72_0.eq_1 ?_
  simp only [RX, VOp.fresh, bxC, bsC, un, most, callsOf, seval, Int.reducePow, ↓reduceIte, Nat.reduceEqDiff, reduceCtorEq]
  refine wnum (n := 4) g (num4_pu g _) (by decide) w3 (by simp only [List.length_append, numB_len]; omega) fun _ h4 w4 => ?_
  simp only [RX, VOp.fresh, bxC, bsC, un, most, callsOf, seval, Int.reducePow, ↓reduceIte, Nat.reduceEqDiff, reduceCtorEq]
  refine g.lpe b72_0.eq_1 ?_
  simp only [RX, VOp.fresh, bxC, bsC, un, most, callsOf, seval, Int.reducePow, ↓reduceIte, Nat.reduceEqDiff, reduceCtorEq]
  refine q _ _ ?_
  have := w4.less
  simpa only [boxB, List.append_assoc] using this
theorem wfs (g : Pg P tab) {m : Ms} {a u : AV} (hu : IsL 40 RFeat u m.fs) (hs : ∀ f ∈ m.fs, featSmall f) (hl : m.fs.length ≤ 1000) {K : List (Nat × Blk)} {e : TypeId} {ver : Nat} (hm : ((0, .cells (msC m a u) e ver) : Nat × Blk) ∈ K) {b : Nat} (acc : List Nat) (hacc : acc.length ≤ 10000) (n : Nat) :
    ∀ (i : Nat) (s : T AV) (h : Heap) (k : List Fr) (Q : Ex → T AV → Heap → Prop), i + n = m.fs.length → WR K h b (acc ++ ((m.fs.take i).map featB).flatten) → sg s 1 = .ptr 0 0 → sg s 6 = .ptr b 0 → sg s 81 = .int .i64 m.fs.length → sg s 82 = .int .i64 i →
      (∀ s' h', WR K h' b (acc ++ (m.fs.map featB).flatten) → sg s' 6 = .ptr b 0 → Un P k Q (.exit 2) s' h') → Lp P b25_1 s h (Un P k Q) := by
  induction n with
  | zero =>
    intro i s h k Q hi w h1 h6 h81 h82 hK
    refine g.lpe b25_1.eq_1 ?_
    have c1 : ¬ ((i : Int) < (m.fs.length : Int)) := by omega
    simp only [h81, h82, c1, RX, VOp.fresh, bxC, bsC, un, most, callsOf, seval, Int.reducePow, ↓reduceIte, Nat.reduceEqDiff, reduceCtorEq]
    rw [List.take_of_length_le (by omega)] at w
    refine hK _ _ w ?_
    · simp only [h6, sg_set, Nat.reduceEqDiff, ↓reduceIte]
  | succ n ih =>
    intro i s h k Q hi w h1 h6 h81 h82 hK
    refine g.lpe b25_1.eq_1 ?_
    have c1 : (i : Int) < (m.fs.length : Int) := by omega
    obtain ⟨rv, r1, hrv, _, _, _, g1⟩ := getFeat hu i (by omega)
    have w1 : IntKind.i64.wrap ((i : Int) + 1) = ((i + 1 : Nat) : Int) := by rw [w64 (by omega) (by omega)]; push_cast; rfl
    have hlt : (acc ++ ((m.fs.take i).map featB).flatten).length ≤ 100000000000 := by
      have := flat_lenT (F := featB) (B := 9000000) (l := m.fs) (fun x hx => featB_len (hs x hx)) i
      rw [List.length_append]
      have : m.fs.length * 9000000 ≤ 1000 * 9000000 := Nat.mul_le_mul_right _ hl
      omega
    have hk := (w.keep _ hm).2.2
    simp only [msC] at hk
    simp only [h1, h6, h81, h82, c1, hk, g1, RX, VOp.fresh, bxC, bsC, un, most, callsOf, seval, Int.reducePow, ↓reduceIte, Nat.reduceEqDiff, reduceCtorEq]
    refine wfeat g hrv (by rw [getD_feat (by omega)]; exact hs _ (List.getElem_mem _)) w hlt fun v h' w' => ?_
    simp only [h82, w1, RX, VOp.fresh, bxC, bsC, un, most, callsOf, seval, Int.reducePow, ↓reduceIte, Nat.reduceEqDiff, reduceCtorEq]
    rw [List.append_assoc, getD_feat (by omega), flat_take featB m.fs i (by omega)] at w'
    refine ih (i + 1) _ h' k Q (by omega) w' ?_ ?_ ?_ ?_ hK
    · simp only [h1, sg_set, Nat.reduceEqDiff, ↓reduceIte]
    · simp only [h6, sg_set, Nat.reduceEqDiff, ↓reduceIte]
    · simp only [h81, sg_set, Nat.reduceEqDiff, ↓reduceIte]
    · simp only [sg_set, Nat.reduceEqDiff, ↓reduceIte]
end
end Go.Proofs.Ytinonmcnofjeeaa.VM
namespace Go.Proofs.Ytinonmcnofjeeaa.VM
attribute [local irreducible] Af Nx EvO Ev Un Gd Cd EvR EvQ EvC Nc Gc Lp EvM NxM AfM GdM EvMR EvMQ EvMD EvMC Nm Gm
def msB (m : Ms) : List Nat := 77 :: 83 :: (numB m.kind 1 ++ (numB m.frm 1 ++ (numB m.to 1 ++ ((if kTx m.kind = true then txB m.node m.seq else []) ++ ((if kOps m.kind = true then numB (m.base + 1) 4 ++ opsB m.ops else []) ++
  ((if kYes m.kind = true then bitB m.yes else []) ++ ((if kQuery m.kind = true then numB m.query 2 ++ boxB m.box else []) ++ (if kPart m.kind = true then numB m.applied 4 ++ (bitB m.busy ++ fsB m.fs) else []))))))))
theorem By.ms (m : Ms) : By (msB m) := by
  have one : ∀ (b : Bool) (x : List Nat), By x → By (if b = true then x else []) := fun b x h => by split; exact h; exact By.nil
  have h2 : By [77, 83] := fun n hn => by simp at hn; omega
  have := h2.app ((By.num m.kind 1).app ((By.num m.frm 1).app ((By.num m.to 1).app ((one (kTx m.kind) _ ((By.num m.node 1).app (By.num m.seq 2))).app ((one (kOps m.kind) _ ((By.num (m.base + 1) 4).app (By.ops m.ops))).app
    ((one (kYes m.kind) _ (By.num (if m.yes then 1 else 0) 1)).app ((one (kQuery m.kind) _ ((By.num m.query 2).app (By.box m.box))).app (one (kPart m.kind) _ ((By.num m.applied 4).app ((By.num (if m.busy then 1 else 0) 1).app (By.fs m.fs)))))))))))
  exact this
theorem msB_ne (m : Ms) : msB m ≠ [] := by rw [msB]; simp
/-- what is written of a message -/
def msAns (m : Ms) : AV := if (msB m).length ≤ 16384 then .tup [.str (msB m), .int .i64 0] else .tup [.str [], .int .i64 1600]
theorem fsSmall {l : List Feat} (h : featsOk l) : ∀ f ∈ l, featSmall f := by
  intro f hf
  obtain ⟨i, hi, rfl⟩ := List.mem_iff_getElem.1 hf
  rw [← getD_feat hi]
  exact featOk_small (h i hi).1
section
variable {P : Program} {m : Ms} {a u : AV}
theorem msgPut_good (g : Pg P tab) (ha : IsL 112 ROp a m.ops) (hu : IsL 40 RFeat u m.fs) (ok : msOk m) : Pu P 25 [.agg (msC m a u)] (fun v => v = msAns m) := by
  refine g.pu (vf := v25) rfl rfl ?_
  have hm := may_pu g ha hu (t := []) rfl
  rw [List.append_nil] at hm
  have ht := tolds_ms ha hu
  generalize hc : msC m a u = c at hm ht ⊢
  simp only [v25, RX, VOp.fresh, bxC, bsC, un, most, callsOf, seval, Int.reducePow, ↓reduceIte, Nat.reduceEqDiff, reduceCtorEq]
  have hf : Fzs true (({ next := 0, t := T.e } : Heap).mk' 0 (.cells c 63 0)) [.ptr 0 0] [.rp c] := .cons (.ptr (by rw [Heap.get_mk, if_pos rfl]) (Fzs.refl ht)) .nil
  refine hm.cl hf ?_
  rintro x ⟨b, rfl, hb⟩
  cases b
  · exact absurd (hb.2 ok) (by simp)
  clear hm hf hb
  obtain ⟨⟨hk0, hk6⟩, hfr, hto, htx, hy, hops, hq, hpt⟩ := ok

  have head : ∀ {H : Heap} {s : T AV} {k : List Fr} {Q : Ex → T AV → Heap → Prop} {row : List AV}, H.next = 4 → H.get 3 = some (.cells [.sl 2 0 2 2 1] 103 0) → H.get 2 = some (.cells [.int .u8 77, .int .u8 83] 5 0) → H.get 1 = some (.cells row 132 1) → H.get 0 = some (.cells c 63 0) →
      sg s 26 = .agg [.int .i64 m.kind, .int .i64 m.frm, .int .i64 m.to] → sg s 27 = .int .i64 0 → sg s 6 = .ptr 3 0 → sg s 1 = .ptr 0 0 → sg s 4 = .ptr 1 0 →
      (∀ s' h', WR [(1, .cells row 132 1), (0, .cells c 63 0)] h' 3 (77 :: 83 :: (numB m.kind 1 ++ (numB m.frm 1 ++ numB m.to 1))) → sg s' 1 = .ptr 0 0 → sg s' 4 = .ptr 1 0 → sg s' 6 = .ptr 3 0 → Un P k Q (.exit 0) s' h') → Lp P b25_0 s H (Un P k Q) := by
    intro H s k Q row hn g3 g2 g1 g0 a26 a27 a6 a1 a4 hK
    have w0 : WR [(1, .cells row 132 1), (0, .cells c 63 0)] H 3 [77, 83] := by
      refine ⟨by omega, ⟨_, _, _, g3, .inr ⟨2, 5, 0, rfl, by omega, by decide, ?_, g2⟩⟩, ?_⟩
      · intro p hp; simp at hp; rcases hp with rfl | rfl <;> simp
      · intro p hp
        simp only [List.mem_cons, List.not_mem_nil, or_false] at hp
        rcases hp with rfl | rfl
        · exact ⟨by simp only; omega, show (1 : Nat) ≠ 3 by decide, g1⟩
        · exact ⟨by simp only; omega, show (0 : Nat) ≠ 3 by decide, g0⟩
    refine g.lpe b25_0.eq_1 ?_
    simp only [a26, a27, a6, a1, a4, RX, VOp.fresh, bxC, bsC, un, most, callsOf, seval, Int.reducePow, ↓reduceIte, Nat.reduceEqDiff, reduceCtorEq]
    refine wnum (n := 1) g (num1_pu g _) (by decide) w0 (by simp) fun _ h1 w1 => ?_
    simp only [a26, a27, a6, a1, a4, RX, VOp.fresh, bxC, bsC, un, most, callsOf, seval, Int.reducePow, ↓reduceIte, Nat.reduceEqDiff, reduceCtorEq]
    refine g.lpe b25_0.eq_1 ?_
    simp only [a26, a27, a6, a1, a4, RX, VOp.fresh, bxC, bsC, un, most, callsOf, seval, Int.reducePow, ↓reduceIte, Nat.reduceEqDiff, reduceCtorEq]
    refine wnum (n := 1) g (num1_pu g _) (by decide) w1 (by simp [numB_len]) fun _ h2 w2 => ?_
    simp only [a26, a27, a6, a1, a4, RX, VOp.fresh, bxC, bsC, un, most, callsOf, seval, Int.reducePow, ↓reduceIte, Nat.reduceEqDiff, reduceCtorEq]
    refine g.lpe b25_0.eq_1 ?_
    simp only [a26, a27, a6, a1, a4, RX, VOp.fresh, bxC, bsC, un, most, callsOf, seval, Int.reducePow, ↓reduceIte, Nat.reduceEqDiff, reduceCtorEq]
    refine wnum (n := 1) g (num1_pu g _) (by decide) w2 (by simp [numB_len]) fun _ h3 w3 => ?_
    simp only [a26, a27, a6, a1, a4, RX, VOp.fresh, bxC, bsC, un, most, callsOf, seval, Int.reducePow, ↓reduceIte, Nat.reduceEqDiff, reduceCtorEq]
    refine g.lpe b25_0.eq_1 ?_
    simp only [a26, a27, a6, a1, a4, RX, VOp.fresh, bxC, bsC, un, most, callsOf, seval, Int.reducePow, ↓reduceIte, Nat.reduceEqDiff, reduceCtorEq]
    refine hK _ _ (by simpa only [List.append_assoc, List.cons_append, List.nil_append] using w3) ?_ ?_ ?_
    · simp only [a1, sg_set, Nat.reduceEqDiff, ↓reduceIte]
    · simp only [a4, sg_set, Nat.reduceEqDiff, ↓reduceIte]
    · simp only [a6, sg_set, Nat.reduceEqDiff, ↓reduceIte]
  rcases (by omega : m.kind = 0 ∨ m.kind = 1 ∨ m.kind = 2 ∨ m.kind = 3 ∨ m.kind = 4 ∨ m.kind = 5 ∨ m.kind = 6) with ek | ek | ek | ek | ek | ek | ek
  · have hrow : rowV m.kind = .agg [.bool true, .bool true, .bool false, .bool false, .bool false] := by rw [ek]; rfl
    have er : msB m = 77 :: 83 :: (numB m.kind 1 ++ (numB m.frm 1 ++ (numB m.to 1 ++ (txB m.node m.seq ++ (numB (m.base + 1) 4 ++ (opsB m.ops)))))) := by
      have d1 : kTx m.kind = true := by rw [ek]; rfl
      have d2 : kOps m.kind = true := by rw [ek]; rfl
      have d3 : kYes m.kind = false := by rw [ek]; rfl
      have d4 : kQuery m.kind = false := by rw [ek]; rfl
      have d5 : kPart m.kind = false := by rw [ek]; rfl
      rw [msB, d1, d2, d3, d4, d5]
      simp only [if_true, Bool.false_eq_true, if_false, List.nil_append, List.append_nil, List.append_assoc]
    simp only [hrow, RW, ← hc, msC, RX, VOp.fresh, bxC, bsC, un, most, callsOf, seval, Int.reducePow, ↓reduceIte, Nat.reduceEqDiff, reduceCtorEq]
    refine head (row := [.bool true, .bool true, .bool false, .bool false, .bool false]) (by rfl) ?_ ?_ ?_ ?_ ?_ ?_ ?_ ?_ ?_ ?_
    · simp only [RX, VOp.fresh, bxC, bsC, un, most, callsOf, seval, Int.reducePow, ↓reduceIte, Nat.reduceEqDiff, reduceCtorEq]
    · simp only [RX, VOp.fresh, bxC, bsC, un, most, callsOf, seval, Int.reducePow, ↓reduceIte, Nat.reduceEqDiff, reduceCtorEq]
    · simp only [RX, VOp.fresh, bxC, bsC, un, most, callsOf, seval, Int.reducePow, ↓reduceIte, Nat.reduceEqDiff, reduceCtorEq]
    · simp only [← hc, msC, RX, VOp.fresh, bxC, bsC, un, most, callsOf, seval, Int.reducePow, ↓reduceIte, Nat.reduceEqDiff, reduceCtorEq]
    · simp only [sg_set, Nat.reduceEqDiff, ↓reduceIte]
    · simp only [sg_set, Nat.reduceEqDiff, ↓reduceIte]
    · simp only [sg_set, Nat.reduceEqDiff, ↓reduceIte]
    · simp only [sg_set, Nat.reduceEqDiff, ↓reduceIte]
    · simp only [sg_set, Nat.reduceEqDiff, ↓reduceIte]
    intro s' h1 w1 a1 a4 a6
    have hm1 : ((1, .cells [.bool true, .bool true, .bool false, .bool false, .bool false] 132 1) : Nat × Blk) ∈ [((1, .cells [.bool true, .bool true, .bool false, .bool false, .bool false] 132 1) : Nat × Blk), (0, .cells c 63 0)] := List.mem_cons_self
    have hm0 : ((0, .cells c 63 0) : Nat × Blk) ∈ [((1, .cells [.bool true, .bool true, .bool false, .bool false, .bool false] 132 1) : Nat × Blk), (0, .cells c 63 0)] := List.mem_cons_of_mem _ List.mem_cons_self
    rw [← hc] at w1 hm0 hm1
    have k0 := (w1.keep _ hm0).2.2
    have k1 := (w1.keep _ hm1).2.2
    simp only [msC] at k0 k1
    simp only [a1, a4, a6, k0, k1, ha.len, hu.len, RX, VOp.fresh, bxC, bsC, un, most, callsOf, seval, Int.reducePow, ↓reduceIte, Nat.reduceEqDiff, reduceCtorEq]
    refine wname g w1 (by simp only [List.length_cons, List.length_append, numB_len, txB, bitB, boxB_len]; omega) fun _ h2 w2 => ?_
    have k0 := (w2.keep _ hm0).2.2
    have k1 := (w2.keep _ hm1).2.2
    simp only [msC] at k0 k1
    simp only [a1, a4, a6, k0, k1, ha.len, hu.len, RX, VOp.fresh, bxC, bsC, un, most, callsOf, seval, Int.reducePow, ↓reduceIte, Nat.reduceEqDiff, reduceCtorEq]
    have hops' : (-1 ≤ m.base ∧ m.base ≤ 65535) ∧ opsOk 8 m.ops := by simpa only [opsM, ek, kOps, decide_true, if_true] using hops
    refine wops g ha (by have := hops'.2.2.1; omega) ?_ (by omega) (by omega) w2 (by simp only [List.length_cons, List.length_append, numB_len, txB, bitB, boxB_len]; omega) fun _ h3 w3 => ?_
    · intro o ho
      obtain ⟨j, hj, rfl⟩ := List.mem_iff_getElem.1 ho
      rw [← getD_op hj]
      exact opOk_small (hops'.2.2.2 j hj).1
    replace w3 := (show WR _ _ 3 (msB m) from by rw [er]; simpa only [List.append_assoc, List.cons_append, fsB] using w3)
    obtain ⟨v, e0, ver, hb1, ho⟩ := w3.out
    rcases ho with ⟨_, hnil⟩ | ⟨c0, e', ver', rfl, _, _, _, hc6⟩
    · exact absurd hnil (msB_ne _)
    have k1 := (w3.keep _ hm1).2.2
    simp only at k1
    by_cases hlen : (msB m).length ≤ 16384
    · have c8 : ¬ (16384 : Int) < ((msB m).length : Int) := by omega
      simp only [a1, a4, a6, k1, hb1, c8, RX, VOp.fresh, bxC, bsC, un, most, callsOf, seval, Int.reducePow, ↓reduceIte, Nat.reduceEqDiff, reduceCtorEq]
      rw [cvT_sl hc6 (List.length_map _), mb_bytes (By.ms m)]
      simp only [RX, VOp.fresh, bxC, bsC, un, most, callsOf, seval, Int.reducePow, ↓reduceIte, Nat.reduceEqDiff, reduceCtorEq]
      rw [msAns, if_pos hlen]
    · have c8 : (16384 : Int) < ((msB m).length : Int) := by omega
      simp only [a1, a4, a6, k1, hb1, c8, RX, VOp.fresh, bxC, bsC, un, most, callsOf, seval, Int.reducePow, ↓reduceIte, Nat.reduceEqDiff, reduceCtorEq]
      rw [msAns, if_neg hlen]
  · have hrow : rowV m.kind = .agg [.bool true, .bool false, .bool true, .bool false, .bool false] := by rw [ek]; rfl
    have er : msB m = 77 :: 83 :: (numB m.kind 1 ++ (numB m.frm 1 ++ (numB m.to 1 ++ (txB m.node m.seq ++ (bitB m.yes))))) := by
      have d1 : kTx m.kind = true := by rw [ek]; rfl
      have d2 : kOps m.kind = false := by rw [ek]; rfl
      have d3 : kYes m.kind = true := by rw [ek]; rfl
      have d4 : kQuery m.kind = false := by rw [ek]; rfl
      have d5 : kPart m.kind = false := by rw [ek]; rfl
      rw [msB, d1, d2, d3, d4, d5]
      simp only [if_true, Bool.false_eq_true, if_false, List.nil_append, List.append_nil, List.append_assoc]
    simp only [hrow, RW, ← hc, msC, RX, VOp.fresh, bxC, bsC, un, most, callsOf, seval, Int.reducePow, ↓reduceIte, Nat.reduceEqDiff, reduceCtorEq]
    refine head (row := [.bool true, .bool false, .bool true, .bool false, .bool false]) (by rfl) ?_ ?_ ?_ ?_ ?_ ?_ ?_ ?_ ?_ ?_
    · simp only [RX, VOp.fresh, bxC, bsC, un, most, callsOf, seval, Int.reducePow, ↓reduceIte, Nat.reduceEqDiff, reduceCtorEq]
    · simp only [RX, VOp.fresh, bxC, bsC, un, most, callsOf, seval, Int.reducePow, ↓reduceIte, Nat.reduceEqDiff, reduceCtorEq]
    · simp only [RX, VOp.fresh, bxC, bsC, un, most, callsOf, seval, Int.reducePow, ↓reduceIte, Nat.reduceEqDiff, reduceCtorEq]
    · simp only [← hc, msC, RX, VOp.fresh, bxC, bsC, un, most, callsOf, seval, Int.reducePow, ↓reduceIte, Nat.reduceEqDiff, reduceCtorEq]
    · simp only [sg_set, Nat.reduceEqDiff, ↓reduceIte]
    · simp only [sg_set, Nat.reduceEqDiff, ↓reduceIte]
    · simp only [sg_set, Nat.reduceEqDiff, ↓reduceIte]
    · simp only [sg_set, Nat.reduceEqDiff, ↓reduceIte]
    · simp only [sg_set, Nat.reduceEqDiff, ↓reduceIte]
    intro s' h1 w1 a1 a4 a6
    have hm1 : ((1, .cells [.bool true, .bool false, .bool true, .bool false, .bool false] 132 1) : Nat × Blk) ∈ [((1, .cells [.bool true, .bool false, .bool true, .bool false, .bool false] 132 1) : Nat × Blk), (0, .cells c 63 0)] := List.mem_cons_self
    have hm0 : ((0, .cells c 63 0) : Nat × Blk) ∈ [((1, .cells [.bool true, .bool false, .bool true, .bool false, .bool false] 132 1) : Nat × Blk), (0, .cells c 63 0)] := List.mem_cons_of_mem _ List.mem_cons_self
    rw [← hc] at w1 hm0 hm1
    have k0 := (w1.keep _ hm0).2.2
    have k1 := (w1.keep _ hm1).2.2
    simp only [msC] at k0 k1
    simp only [a1, a4, a6, k0, k1, ha.len, hu.len, RX, VOp.fresh, bxC, bsC, un, most, callsOf, seval, Int.reducePow, ↓reduceIte, Nat.reduceEqDiff, reduceCtorEq]
    refine wname g w1 (by simp only [List.length_cons, List.length_append, numB_len, txB, bitB, boxB_len]; omega) fun _ h2 w2 => ?_
    have k0 := (w2.keep _ hm0).2.2
    have k1 := (w2.keep _ hm1).2.2
    simp only [msC] at k0 k1
    simp only [a1, a4, a6, k0, k1, ha.len, hu.len, RX, VOp.fresh, bxC, bsC, un, most, callsOf, seval, Int.reducePow, ↓reduceIte, Nat.reduceEqDiff, reduceCtorEq]
    refine wbool g w2 (by simp only [List.length_cons, List.length_append, numB_len, txB, bitB, boxB_len]; omega) fun _ h3 w3 => ?_
    replace w3 := (show WR _ _ 3 (msB m) from by rw [er]; simpa only [List.append_assoc, List.cons_append, fsB] using w3)
    obtain ⟨v, e0, ver, hb1, ho⟩ := w3.out
    rcases ho with ⟨_, hnil⟩ | ⟨c0, e', ver', rfl, _, _, _, hc6⟩
    · exact absurd hnil (msB_ne _)
    have k1 := (w3.keep _ hm1).2.2
    simp only at k1
    by_cases hlen : (msB m).length ≤ 16384
    · have c8 : ¬ (16384 : Int) < ((msB m).length : Int) := by omega
      simp only [a1, a4, a6, k1, hb1, c8, RX, VOp.fresh, bxC, bsC, un, most, callsOf, seval, Int.reducePow, ↓reduceIte, Nat.reduceEqDiff, reduceCtorEq]
      rw [cvT_sl hc6 (List.length_map _), mb_bytes (By.ms m)]
      simp only [RX, VOp.fresh, bxC, bsC, un, most, callsOf, seval, Int.reducePow, ↓reduceIte, Nat.reduceEqDiff, reduceCtorEq]
      rw [msAns, if_pos hlen]
    · have c8 : (16384 : Int) < ((msB m).length : Int) := by omega
      simp only [a1, a4, a6, k1, hb1, c8, RX, VOp.fresh, bxC, bsC, un, most, callsOf, seval, Int.reducePow, ↓reduceIte, Nat.reduceEqDiff, reduceCtorEq]
      rw [msAns, if_neg hlen]
  · have hrow : rowV m.kind = .agg [.bool true, .bool false, .bool true, .bool false, .bool false] := by rw [ek]; rfl
    have er : msB m = 77 :: 83 :: (numB m.kind 1 ++ (numB m.frm 1 ++ (numB m.to 1 ++ (txB m.node m.seq ++ (bitB m.yes))))) := by
      have d1 : kTx m.kind = true := by rw [ek]; rfl
      have d2 : kOps m.kind = false := by rw [ek]; rfl
      have d3 : kYes m.kind = true := by rw [ek]; rfl
      have d4 : kQuery m.kind = false := by rw [ek]; rfl
      have d5 : kPart m.kind = false := by rw [ek]; rfl
      rw [msB, d1, d2, d3, d4, d5]
      simp only [if_true, Bool.false_eq_true, if_false, List.nil_append, List.append_nil, List.append_assoc]
    simp only [hrow, RW, ← hc, msC, RX, VOp.fresh, bxC, bsC, un, most, callsOf, seval, Int.reducePow, ↓reduceIte, Nat.reduceEqDiff, reduceCtorEq]
    refine head (row := [.bool true, .bool false, .bool true, .bool false, .bool false]) (by rfl) ?_ ?_ ?_ ?_ ?_ ?_ ?_ ?_ ?_ ?_
    · simp only [RX, VOp.fresh, bxC, bsC, un, most, callsOf, seval, Int.reducePow, ↓reduceIte, Nat.reduceEqDiff, reduceCtorEq]
    · simp only [RX, VOp.fresh, bxC, bsC, un, most, callsOf, seval, Int.reducePow, ↓reduceIte, Nat.reduceEqDiff, reduceCtorEq]
    · simp only [RX, VOp.fresh, bxC, bsC, un, most, callsOf, seval, Int.reducePow, ↓reduceIte, Nat.reduceEqDiff, reduceCtorEq]
    · simp only [← hc, msC, RX, VOp.fresh, bxC, bsC, un, most, callsOf, seval, Int.reducePow, ↓reduceIte, Nat.reduceEqDiff, reduceCtorEq]
    · simp only [sg_set, Nat.reduceEqDiff, ↓reduceIte]
    · simp only [sg_set, Nat.reduceEqDiff, ↓reduceIte]
    · simp only [sg_set, Nat.reduceEqDiff, ↓reduceIte]
    · simp only [sg_set, Nat.reduceEqDiff, ↓reduceIte]
    · simp only [sg_set, Nat.reduceEqDiff, ↓reduceIte]
    intro s' h1 w1 a1 a4 a6
    have hm1 : ((1, .cells [.bool true, .bool false, .bool true, .bool false, .bool false] 132 1) : Nat × Blk) ∈ [((1, .cells [.bool true, .bool false, .bool true, .bool false, .bool false] 132 1) : Nat × Blk), (0, .cells c 63 0)] := List.mem_cons_self
    have hm0 : ((0, .cells c 63 0) : Nat × Blk) ∈ [((1, .cells [.bool true, .bool false, .bool true, .bool false, .bool false] 132 1) : Nat × Blk), (0, .cells c 63 0)] := List.mem_cons_of_mem _ List.mem_cons_self
    rw [← hc] at w1 hm0 hm1
    have k0 := (w1.keep _ hm0).2.2
    have k1 := (w1.keep _ hm1).2.2
    simp only [msC] at k0 k1
    simp only [a1, a4, a6, k0, k1, ha.len, hu.len, RX, VOp.fresh, bxC, bsC, un, most, callsOf, seval, Int.reducePow, ↓reduceIte, Nat.reduceEqDiff, reduceCtorEq]
    refine wname g w1 (by simp only [List.length_cons, List.length_append, numB_len, txB, bitB, boxB_len]; omega) fun _ h2 w2 => ?_
    have k0 := (w2.keep _ hm0).2.2
    have k1 := (w2.keep _ hm1).2.2
    simp only [msC] at k0 k1
    simp only [a1, a4, a6, k0, k1, ha.len, hu.len, RX, VOp.fresh, bxC, bsC, un, most, callsOf, seval, Int.reducePow, ↓reduceIte, Nat.reduceEqDiff, reduceCtorEq]
    refine wbool g w2 (by simp only [List.length_cons, List.length_append, numB_len, txB, bitB, boxB_len]; omega) fun _ h3 w3 => ?_
    replace w3 := (show WR _ _ 3 (msB m) from by rw [er]; simpa only [List.append_assoc, List.cons_append, fsB] using w3)
    obtain ⟨v, e0, ver, hb1, ho⟩ := w3.out
    rcases ho with ⟨_, hnil⟩ | ⟨c0, e', ver', rfl, _, _, _, hc6⟩
    · exact absurd hnil (msB_ne _)
    have k1 := (w3.keep _ hm1).2.2
    simp only at k1
    by_cases hlen : (msB m).length ≤ 16384
    · have c8 : ¬ (16384 : Int) < ((msB m).length : Int) := by omega
      simp only [a1, a4, a6, k1, hb1, c8, RX, VOp.fresh, bxC, bsC, un, most, callsOf, seval, Int.reducePow, ↓reduceIte, Nat.reduceEqDiff, reduceCtorEq]
      rw [cvT_sl hc6 (List.length_map _), mb_bytes (By.ms m)]
      simp only [RX, VOp.fresh, bxC, bsC, un, most, callsOf, seval, Int.reducePow, ↓reduceIte, Nat.reduceEqDiff, reduceCtorEq]
      rw [msAns, if_pos hlen]
    · have c8 : (16384 : Int) < ((msB m).length : Int) := by omega
      simp only [a1, a4, a6, k1, hb1, c8, RX, VOp.fresh, bxC, bsC, un, most, callsOf, seval, Int.reducePow, ↓reduceIte, Nat.reduceEqDiff, reduceCtorEq]
      rw [msAns, if_neg hlen]
  · have hrow : rowV m.kind = .agg [.bool true, .bool false, .bool false, .bool false, .bool false] := by rw [ek]; rfl
    have er : msB m = 77 :: 83 :: (numB m.kind 1 ++ (numB m.frm 1 ++ (numB m.to 1 ++ (txB m.node m.seq)))) := by
      have d1 : kTx m.kind = true := by rw [ek]; rfl
      have d2 : kOps m.kind = false := by rw [ek]; rfl
      have d3 : kYes m.kind = false := by rw [ek]; rfl
      have d4 : kQuery m.kind = false := by rw [ek]; rfl
      have d5 : kPart m.kind = false := by rw [ek]; rfl
      rw [msB, d1, d2, d3, d4, d5]
      simp only [if_true, Bool.false_eq_true, if_false, List.nil_append, List.append_nil, List.append_assoc]
    simp only [hrow, RW, ← hc, msC, RX, VOp.fresh, bxC, bsC, un, most, callsOf, seval, Int.reducePow, ↓reduceIte, Nat.reduceEqDiff, reduceCtorEq]
    refine head (row := [.bool true, .bool false, .bool false, .bool false, .bool false]) (by rfl) ?_ ?_ ?_ ?_ ?_ ?_ ?_ ?_ ?_ ?_
    · simp only [RX, VOp.fresh, bxC, bsC, un, most, callsOf, seval, Int.reducePow, ↓reduceIte, Nat.reduceEqDiff, reduceCtorEq]
    · simp only [RX, VOp.fresh, bxC, bsC, un, most, callsOf, seval, Int.reducePow, ↓reduceIte, Nat.reduceEqDiff, reduceCtorEq]
    · simp only [RX, VOp.fresh, bxC, bsC, un, most, callsOf, seval, Int.reducePow, ↓reduceIte, Nat.reduceEqDiff, reduceCtorEq]
    · simp only [← hc, msC, RX, VOp.fresh, bxC, bsC, un, most, callsOf, seval, Int.reducePow, ↓reduceIte, Nat.reduceEqDiff, reduceCtorEq]
    · simp only [sg_set, Nat.reduceEqDiff, ↓reduceIte]
    · simp only [sg_set, Nat.reduceEqDiff, ↓reduceIte]
    · simp only [sg_set, Nat.reduceEqDiff, ↓reduceIte]
    · simp only [sg_set, Nat.reduceEqDiff, ↓reduceIte]
    · simp only [sg_set, Nat.reduceEqDiff, ↓reduceIte]
    intro s' h1 w1 a1 a4 a6
    have hm1 : ((1, .cells [.bool true, .bool false, .bool false, .bool false, .bool false] 132 1) : Nat × Blk) ∈ [((1, .cells [.bool true, .bool false, .bool false, .bool false, .bool false] 132 1) : Nat × Blk), (0, .cells c 63 0)] := List.mem_cons_self
    have hm0 : ((0, .cells c 63 0) : Nat × Blk) ∈ [((1, .cells [.bool true, .bool false, .bool false, .bool false, .bool false] 132 1) : Nat × Blk), (0, .cells c 63 0)] := List.mem_cons_of_mem _ List.mem_cons_self
    rw [← hc] at w1 hm0 hm1
    have k0 := (w1.keep _ hm0).2.2
    have k1 := (w1.keep _ hm1).2.2
    simp only [msC] at k0 k1
    simp only [a1, a4, a6, k0, k1, ha.len, hu.len, RX, VOp.fresh, bxC, bsC, un, most, callsOf, seval, Int.reducePow, ↓reduceIte, Nat.reduceEqDiff, reduceCtorEq]
    refine wname g w1 (by simp only [List.length_cons, List.length_append, numB_len, txB, bitB, boxB_len]; omega) fun _ h2 w2 => ?_
    replace w2 := (show WR _ _ 3 (msB m) from by rw [er]; simpa only [List.append_assoc, List.cons_append, fsB] using w2)
    obtain ⟨v, e0, ver, hb1, ho⟩ := w2.out
    rcases ho with ⟨_, hnil⟩ | ⟨c0, e', ver', rfl, _, _, _, hc6⟩
    · exact absurd hnil (msB_ne _)
    have k1 := (w2.keep _ hm1).2.2
    simp only at k1
    by_cases hlen : (msB m).length ≤ 16384
    · have c8 : ¬ (16384 : Int) < ((msB m).length : Int) := by omega
      simp only [a1, a4, a6, k1, hb1, c8, RX, VOp.fresh, bxC, bsC, un, most, callsOf, seval, Int.reducePow, ↓reduceIte, Nat.reduceEqDiff, reduceCtorEq]
      rw [cvT_sl hc6 (List.length_map _), mb_bytes (By.ms m)]
      simp only [RX, VOp.fresh, bxC, bsC, un, most, callsOf, seval, Int.reducePow, ↓reduceIte, Nat.reduceEqDiff, reduceCtorEq]
      rw [msAns, if_pos hlen]
    · have c8 : (16384 : Int) < ((msB m).length : Int) := by omega
      simp only [a1, a4, a6, k1, hb1, c8, RX, VOp.fresh, bxC, bsC, un, most, callsOf, seval, Int.reducePow, ↓reduceIte, Nat.reduceEqDiff, reduceCtorEq]
      rw [msAns, if_neg hlen]
  · have hrow : rowV m.kind = .agg [.bool true, .bool false, .bool false, .bool false, .bool false] := by rw [ek]; rfl
    have er : msB m = 77 :: 83 :: (numB m.kind 1 ++ (numB m.frm 1 ++ (numB m.to 1 ++ (txB m.node m.seq)))) := by
      have d1 : kTx m.kind = true := by rw [ek]; rfl
      have d2 : kOps m.kind = false := by rw [ek]; rfl
      have d3 : kYes m.kind = false := by rw [ek]; rfl
      have d4 : kQuery m.kind = false := by rw [ek]; rfl
      have d5 : kPart m.kind = false := by rw [ek]; rfl
      rw [msB, d1, d2, d3, d4, d5]
      simp only [if_true, Bool.false_eq_true, if_false, List.nil_append, List.append_nil, List.append_assoc]
    simp only [hrow, RW, ← hc, msC, RX, VOp.fresh, bxC, bsC, un, most, callsOf, seval, Int.reducePow, ↓reduceIte, Nat.reduceEqDiff, reduceCtorEq]
    refine head (row := [.bool true, .bool false, .bool false, .bool false, .bool false]) (by rfl) ?_ ?_ ?_ ?_ ?_ ?_ ?_ ?_ ?_ ?_
    · simp only [RX, VOp.fresh, bxC, bsC, un, most, callsOf, seval, Int.reducePow, ↓reduceIte, Nat.reduceEqDiff, reduceCtorEq]
    · simp only [RX, VOp.fresh, bxC, bsC, un, most, callsOf, seval, Int.reducePow, ↓reduceIte, Nat.reduceEqDiff, reduceCtorEq]
    · simp only [RX, VOp.fresh, bxC, bsC, un, most, callsOf, seval, Int.reducePow, ↓reduceIte, Nat.reduceEqDiff, reduceCtorEq]
    · simp only [← hc, msC, RX, VOp.fresh, bxC, bsC, un, most, callsOf, seval, Int.reducePow, ↓reduceIte, Nat.reduceEqDiff, reduceCtorEq]
    · simp only [sg_set, Nat.reduceEqDiff, ↓reduceIte]
    · simp only [sg_set, Nat.reduceEqDiff, ↓reduceIte]
    · simp only [sg_set, Nat.reduceEqDiff, ↓reduceIte]
    · simp only [sg_set, Nat.reduceEqDiff, ↓reduceIte]
    · simp only [sg_set, Nat.reduceEqDiff, ↓reduceIte]
    intro s' h1 w1 a1 a4 a6
    have hm1 : ((1, .cells [.bool true, .bool false, .bool false, .bool false, .bool false] 132 1) : Nat × Blk) ∈ [((1, .cells [.bool true, .bool false, .bool false, .bool false, .bool false] 132 1) : Nat × Blk), (0, .cells c 63 0)] := List.mem_cons_self
    have hm0 : ((0, .cells c 63 0) : Nat × Blk) ∈ [((1, .cells [.bool true, .bool false, .bool false, .bool false, .bool false] 132 1) : Nat × Blk), (0, .cells c 63 0)] := List.mem_cons_of_mem _ List.mem_cons_self
    rw [← hc] at w1 hm0 hm1
    have k0 := (w1.keep _ hm0).2.2
    have k1 := (w1.keep _ hm1).2.2
    simp only [msC] at k0 k1
    simp only [a1, a4, a6, k0, k1, ha.len, hu.len, RX, VOp.fresh, bxC, bsC, un, most, callsOf, seval, Int.reducePow, ↓reduceIte, Nat.reduceEqDiff, reduceCtorEq]
    refine wname g w1 (by simp only [List.length_cons, List.length_append, numB_len, txB, bitB, boxB_len]; omega) fun _ h2 w2 => ?_
    replace w2 := (show WR _ _ 3 (msB m) from by rw [er]; simpa only [List.append_assoc, List.cons_append, fsB] using w2)
    obtain ⟨v, e0, ver, hb1, ho⟩ := w2.out
    rcases ho with ⟨_, hnil⟩ | ⟨c0, e', ver', rfl, _, _, _, hc6⟩
    · exact absurd hnil (msB_ne _)
    have k1 := (w2.keep _ hm1).2.2
    simp only at k1
    by_cases hlen : (msB m).length ≤ 16384
    · have c8 : ¬ (16384 : Int) < ((msB m).length : Int) := by omega
      simp only [a1, a4, a6, k1, hb1, c8, RX, VOp.fresh, bxC, bsC, un, most, callsOf, seval, Int.reducePow, ↓reduceIte, Nat.reduceEqDiff, reduceCtorEq]
      rw [cvT_sl hc6 (List.length_map _), mb_bytes (By.ms m)]
      simp only [RX, VOp.fresh, bxC, bsC, un, most, callsOf, seval, Int.reducePow, ↓reduceIte, Nat.reduceEqDiff, reduceCtorEq]
      rw [msAns, if_pos hlen]
    · have c8 : (16384 : Int) < ((msB m).length : Int) := by omega
      simp only [a1, a4, a6, k1, hb1, c8, RX, VOp.fresh, bxC, bsC, un, most, callsOf, seval, Int.reducePow, ↓reduceIte, Nat.reduceEqDiff, reduceCtorEq]
      rw [msAns, if_neg hlen]
  · have hrow : rowV m.kind = .agg [.bool false, .bool false, .bool false, .bool true, .bool false] := by rw [ek]; rfl
    have er : msB m = 77 :: 83 :: (numB m.kind 1 ++ (numB m.frm 1 ++ (numB m.to 1 ++ (numB m.query 2 ++ (boxB m.box))))) := by
      have d1 : kTx m.kind = false := by rw [ek]; rfl
      have d2 : kOps m.kind = false := by rw [ek]; rfl
      have d3 : kYes m.kind = false := by rw [ek]; rfl
      have d4 : kQuery m.kind = true := by rw [ek]; rfl
      have d5 : kPart m.kind = false := by rw [ek]; rfl
      rw [msB, d1, d2, d3, d4, d5]
      simp only [if_true, Bool.false_eq_true, if_false, List.nil_append, List.append_nil, List.append_assoc]
    simp only [hrow, RW, ← hc, msC, RX, VOp.fresh, bxC, bsC, un, most, callsOf, seval, Int.reducePow, ↓reduceIte, Nat.reduceEqDiff, reduceCtorEq]
    refine head (row := [.bool false, .bool false, .bool false, .bool true, .bool false]) (by rfl) ?_ ?_ ?_ ?_ ?_ ?_ ?_ ?_ ?_ ?_
    · simp only [RX, VOp.fresh, bxC, bsC, un, most, callsOf, seval, Int.reducePow, ↓reduceIte, Nat.reduceEqDiff, reduceCtorEq]
    · simp only [RX, VOp.fresh, bxC, bsC, un, most, callsOf, seval, Int.reducePow, ↓reduceIte, Nat.reduceEqDiff, reduceCtorEq]
    · simp only [RX, VOp.fresh, bxC, bsC, un, most, callsOf, seval, Int.reducePow, ↓reduceIte, Nat.reduceEqDiff, reduceCtorEq]
    · simp only [← hc, msC, RX, VOp.fresh, bxC, bsC, un, most, callsOf, seval, Int.reducePow, ↓reduceIte, Nat.reduceEqDiff, reduceCtorEq]
    · simp only [sg_set, Nat.reduceEqDiff, ↓reduceIte]
    · simp only [sg_set, Nat.reduceEqDiff, ↓reduceIte]
    · simp only [sg_set, Nat.reduceEqDiff, ↓reduceIte]
    · simp only [sg_set, Nat.reduceEqDiff, ↓reduceIte]
    · simp only [sg_set, Nat.reduceEqDiff, ↓reduceIte]
    intro s' h1 w1 a1 a4 a6
    have hm1 : ((1, .cells [.bool false, .bool false, .bool false, .bool true, .bool false] 132 1) : Nat × Blk) ∈ [((1, .cells [.bool false, .bool false, .bool false, .bool true, .bool false] 132 1) : Nat × Blk), (0, .cells c 63 0)] := List.mem_cons_self
    have hm0 : ((0, .cells c 63 0) : Nat × Blk) ∈ [((1, .cells [.bool false, .bool false, .bool false, .bool true, .bool false] 132 1) : Nat × Blk), (0, .cells c 63 0)] := List.mem_cons_of_mem _ List.mem_cons_self
    rw [← hc] at w1 hm0 hm1
    have k0 := (w1.keep _ hm0).2.2
    have k1 := (w1.keep _ hm1).2.2
    simp only [msC] at k0 k1
    simp only [a1, a4, a6, k0, k1, ha.len, hu.len, RX, VOp.fresh, bxC, bsC, un, most, callsOf, seval, Int.reducePow, ↓reduceIte, Nat.reduceEqDiff, reduceCtorEq]
    refine wnum (n := 2) g (num2_pu g _) (by decide) w1 (by simp only [List.length_cons, List.length_append, numB_len, txB, bitB, boxB_len]; omega) fun _ h2 w2 => ?_
    have k0 := (w2.keep _ hm0).2.2
    have k1 := (w2.keep _ hm1).2.2
    simp only [msC] at k0 k1
    simp only [a1, a4, a6, k0, k1, ha.len, hu.len, RX, VOp.fresh, bxC, bsC, un, most, callsOf, seval, Int.reducePow, ↓reduceIte, Nat.reduceEqDiff, reduceCtorEq]
    refine wbox g m.box w2 (by simp only [List.length_cons, List.length_append, numB_len, txB, bitB, boxB_len]; omega) fun _ h3 w3 => ?_
    replace w3 := (show WR _ _ 3 (msB m) from by rw [er]; simpa only [List.append_assoc, List.cons_append, fsB] using w3)
    obtain ⟨v, e0, ver, hb1, ho⟩ := w3.out
    rcases ho with ⟨_, hnil⟩ | ⟨c0, e', ver', rfl, _, _, _, hc6⟩
    · exact absurd hnil (msB_ne _)
    have k1 := (w3.keep _ hm1).2.2
    simp only at k1
    by_cases hlen : (msB m).length ≤ 16384
    · have c8 : ¬ (16384 : Int) < ((msB m).length : Int) := by omega
      simp only [a1, a4, a6, k1, hb1, c8, RX, VOp.fresh, bxC, bsC, un, most, callsOf, seval, Int.reducePow, ↓reduceIte, Nat.reduceEqDiff, reduceCtorEq]
      rw [cvT_sl hc6 (List.length_map _), mb_bytes (By.ms m)]
      simp only [RX, VOp.fresh, bxC, bsC, un, most, callsOf, seval, Int.reducePow, ↓reduceIte, Nat.reduceEqDiff, reduceCtorEq]
      rw [msAns, if_pos hlen]
    · have c8 : (16384 : Int) < ((msB m).length : Int) := by omega
      simp only [a1, a4, a6, k1, hb1, c8, RX, VOp.fresh, bxC, bsC, un, most, callsOf, seval, Int.reducePow, ↓reduceIte, Nat.reduceEqDiff, reduceCtorEq]
      rw [msAns, if_neg hlen]
  · have hrow : rowV m.kind = .agg [.bool false, .bool false, .bool false, .bool true, .bool true] := by rw [ek]; rfl
    have er : msB m = 77 :: 83 :: (numB m.kind 1 ++ (numB m.frm 1 ++ (numB m.to 1 ++ (numB m.query 2 ++ (boxB m.box ++ (numB m.applied 4 ++ (bitB m.busy ++ (fsB m.fs)))))))) := by
      have d1 : kTx m.kind = false := by rw [ek]; rfl
      have d2 : kOps m.kind = false := by rw [ek]; rfl
      have d3 : kYes m.kind = false := by rw [ek]; rfl
      have d4 : kQuery m.kind = true := by rw [ek]; rfl
      have d5 : kPart m.kind = true := by rw [ek]; rfl
      rw [msB, d1, d2, d3, d4, d5]
      simp only [if_true, Bool.false_eq_true, if_false, List.nil_append, List.append_nil, List.append_assoc]
    simp only [hrow, RW, ← hc, msC, RX, VOp.fresh, bxC, bsC, un, most, callsOf, seval, Int.reducePow, ↓reduceIte, Nat.reduceEqDiff, reduceCtorEq]
    refine head (row := [.bool false, .bool false, .bool false, .bool true, .bool true]) (by rfl) ?_ ?_ ?_ ?_ ?_ ?_ ?_ ?_ ?_ ?_
    · simp only [RX, VOp.fresh, bxC, bsC, un, most, callsOf, seval, Int.reducePow, ↓reduceIte, Nat.reduceEqDiff, reduceCtorEq]
    · simp only [RX, VOp.fresh, bxC, bsC, un, most, callsOf, seval, Int.reducePow, ↓reduceIte, Nat.reduceEqDiff, reduceCtorEq]
    · simp only [RX, VOp.fresh, bxC, bsC, un, most, callsOf, seval, Int.reducePow, ↓reduceIte, Nat.reduceEqDiff, reduceCtorEq]
    · simp only [← hc, msC, RX, VOp.fresh, bxC, bsC, un, most, callsOf, seval, Int.reducePow, ↓reduceIte, Nat.reduceEqDiff, reduceCtorEq]
    · simp only [sg_set, Nat.reduceEqDiff, ↓reduceIte]
    · simp only [sg_set, Nat.reduceEqDiff, ↓reduceIte]
    · simp only [sg_set, Nat.reduceEqDiff, ↓reduceIte]
    · simp only [sg_set, Nat.reduceEqDiff, ↓reduceIte]
    · simp only [sg_set, Nat.reduceEqDiff, ↓reduceIte]
    intro s' h1 w1 a1 a4 a6
    have hm1 : ((1, .cells [.bool false, .bool false, .bool false, .bool true, .bool true] 132 1) : Nat × Blk) ∈ [((1, .cells [.bool false, .bool false, .bool false, .bool true, .bool true] 132 1) : Nat × Blk), (0, .cells c 63 0)] := List.mem_cons_self
    have hm0 : ((0, .cells c 63 0) : Nat × Blk) ∈ [((1, .cells [.bool false, .bool false, .bool false, .bool true, .bool true] 132 1) : Nat × Blk), (0, .cells c 63 0)] := List.mem_cons_of_mem _ List.mem_cons_self
    rw [← hc] at w1 hm0 hm1
    have k0 := (w1.keep _ hm0).2.2
    have k1 := (w1.keep _ hm1).2.2
    simp only [msC] at k0 k1
    simp only [a1, a4, a6, k0, k1, ha.len, hu.len, RX, VOp.fresh, bxC, bsC, un, most, callsOf, seval, Int.reducePow, ↓reduceIte, Nat.reduceEqDiff, reduceCtorEq]
    refine wnum (n := 2) g (num2_pu g _) (by decide) w1 (by simp only [List.length_cons, List.length_append, numB_len, txB, bitB, boxB_len]; omega) fun _ h2 w2 => ?_
    have k0 := (w2.keep _ hm0).2.2
    have k1 := (w2.keep _ hm1).2.2
    simp only [msC] at k0 k1
    simp only [a1, a4, a6, k0, k1, ha.len, hu.len, RX, VOp.fresh, bxC, bsC, un, most, callsOf, seval, Int.reducePow, ↓reduceIte, Nat.reduceEqDiff, reduceCtorEq]
    refine wbox g m.box w2 (by simp only [List.length_cons, List.length_append, numB_len, txB, bitB, boxB_len]; omega) fun _ h3 w3 => ?_
    have k0 := (w3.keep _ hm0).2.2
    have k1 := (w3.keep _ hm1).2.2
    simp only [msC] at k0 k1
    simp only [a1, a4, a6, k0, k1, ha.len, hu.len, RX, VOp.fresh, bxC, bsC, un, most, callsOf, seval, Int.reducePow, ↓reduceIte, Nat.reduceEqDiff, reduceCtorEq]
    refine wnum (n := 4) g (num4_pu g _) (by decide) w3 (by simp only [List.length_cons, List.length_append, numB_len, txB, bitB, boxB_len]; omega) fun _ h4 w4 => ?_
    have k0 := (w4.keep _ hm0).2.2
    have k1 := (w4.keep _ hm1).2.2
    simp only [msC] at k0 k1
    simp only [a1, a4, a6, k0, k1, ha.len, hu.len, RX, VOp.fresh, bxC, bsC, un, most, callsOf, seval, Int.reducePow, ↓reduceIte, Nat.reduceEqDiff, reduceCtorEq]
    refine wbool g w4 (by simp only [List.length_cons, List.length_append, numB_len, txB, bitB, boxB_len]; omega) fun _ h5 w5 => ?_
    have k0 := (w5.keep _ hm0).2.2
    have k1 := (w5.keep _ hm1).2.2
    simp only [msC] at k0 k1
    simp only [a1, a4, a6, k0, k1, ha.len, hu.len, RX, VOp.fresh, bxC, bsC, un, most, callsOf, seval, Int.reducePow, ↓reduceIte, Nat.reduceEqDiff, reduceCtorEq]
    refine wnum (n := 2) g (num2_pu g _) (by decide) w5 (by simp only [List.length_cons, List.length_append, numB_len, txB, bitB, boxB_len]; omega) fun _ h6 w6 => ?_
    have k0 := (w6.keep _ hm0).2.2
    have k1 := (w6.keep _ hm1).2.2
    simp only [msC] at k0 k1
    simp only [a1, a4, a6, k0, k1, ha.len, hu.len, RX, VOp.fresh, bxC, bsC, un, most, callsOf, seval, Int.reducePow, ↓reduceIte, Nat.reduceEqDiff, reduceCtorEq]
    have hpt' : (0 ≤ m.applied ∧ m.applied ≤ 2147483647) ∧ m.fs.length ≤ 256 ∧ (m.busy = true → m.fs = []) ∧ featsOk m.fs := by simpa only [partM, ek, kPart, decide_true, if_true] using hpt
    refine wfs g hu (fsSmall hpt'.2.2.2) (by omega) hm0 _ ?_ m.fs.length 0 _ _ _ _ (by omega) (by simpa using w6) ?_ ?_ ?_ ?_ ?_
    · simp only [List.length_cons, List.length_append, numB_len, bitB, boxB_len]; omega
    · simp only [a1, sg_set, Nat.reduceEqDiff, ↓reduceIte]
    · simp only [a6, sg_set, Nat.reduceEqDiff, ↓reduceIte]
    · simp only [sg_set, Nat.reduceEqDiff, ↓reduceIte]
    · simp only [sg_set, Nat.reduceEqDiff, ↓reduceIte]
      rfl
    intro s'' h7 w7 a6' 
    replace w7 := (show WR _ _ 3 (msB m) from by rw [er]; simpa only [List.append_assoc, List.cons_append, fsB] using w7)
    obtain ⟨v, e0, ver, hb1, ho⟩ := w7.out
    rcases ho with ⟨_, hnil⟩ | ⟨c0, e', ver', rfl, _, _, _, hc6⟩
    · exact absurd hnil (msB_ne _)
    have k1 := (w7.keep _ hm1).2.2
    simp only at k1
    have a6 := a6' 
    by_cases hlen : (msB m).length ≤ 16384
    · have c8 : ¬ (16384 : Int) < ((msB m).length : Int) := by omega
      simp only [a1, a4, a6, k1, hb1, c8, RX, VOp.fresh, bxC, bsC, un, most, callsOf, seval, Int.reducePow, ↓reduceIte, Nat.reduceEqDiff, reduceCtorEq]
      rw [cvT_sl hc6 (List.length_map _), mb_bytes (By.ms m)]
      simp only [RX, VOp.fresh, bxC, bsC, un, most, callsOf, seval, Int.reducePow, ↓reduceIte, Nat.reduceEqDiff, reduceCtorEq]
      rw [msAns, if_pos hlen]
    · have c8 : (16384 : Int) < ((msB m).length : Int) := by omega
      simp only [a1, a4, a6, k1, hb1, c8, RX, VOp.fresh, bxC, bsC, un, most, callsOf, seval, Int.reducePow, ↓reduceIte, Nat.reduceEqDiff, reduceCtorEq]
      rw [msAns, if_neg hlen]
end
end Go.Proofs.Ytinonmcnofjeeaa.VM
namespace Go.Proofs.Ytinonmcnofjeeaa.VM
attribute [local irreducible] Af Nx EvO Ev Un Gd Cd EvR EvQ EvC Nc Gc Lp EvM NxM AfM GdM EvMR EvMQ EvMD EvMC Nm Gm
section
variable {P : Program}
theorem sFeats_loop (g : Pg P tab) {l : List Feat} {a b : AV} (ha : IsL 40 RFeat a l) (hb : IsL 40 RFeat b l) (n : Nat) :
    ∀ (i : Nat) (s : T AV) (hh : Heap) (k : List Fr) (Q : Ex → T AV → Heap → Prop), i + n = l.length → sg s 0 = a → sg s 1 = b → sg s 5 = .int .i64 i → (∀ s' h', Un P k Q (.exit 0) s' h') → Lp P b81_0 s hh (Un P k Q) := by
  have hbd := ha.bound (by decide)
  induction n with
  | zero =>
    intro i s hh k Q hi h0 h1 h5 hK
    refine g.lpe b81_0.eq_1 ?_
    have c1 : ¬ ((i : Int) < (l.length : Int)) := by omega
    simp only [h0, h5, ha.len, c1, RX, VOp.fresh, bxC, bsC, un, most, callsOf, seval, Int.reducePow, ↓reduceIte, Nat.reduceEqDiff, reduceCtorEq]
    exact hK _ _
  | succ n ih =>
    intro i s hh k Q hi h0 h1 h5 hK
    refine g.lpe b81_0.eq_1 ?_
    have c1 : (i : Int) < (l.length : Int) := by omega
    obtain ⟨x1, r1, i4, i2, i3, _, g1⟩ := getFeat ha i (by omega)
    obtain ⟨y1, r2, k4, k2, k3, _, g2⟩ := getFeat hb i (by omega)
    have w1 : IntKind.i64.wrap ((i : Int) + 1) = ((i + 1 : Nat) : Int) := by rw [w64 (by omega) (by omega)]; push_cast; rfl
    simp only [h0, h1, h5, ha.len, c1, g1, g2, Bool.or_self, RX, VOp.fresh, bxC, bsC, un, most, callsOf, seval, Int.reducePow, ↓reduceIte, Nat.reduceEqDiff, reduceCtorEq]
    refine (sFeat_pu g (f := l.getD i feat0) ⟨_, rfl, i2, i3, i4⟩ ⟨_, rfl, k2, k3, k4⟩).go (by simp [AV.tolds, AV.told, i4.told tRing, k4.told tRing]) ?_
    rintro v rfl
    simp only [h0, h1, h5, w1, RX, VOp.fresh, bxC, bsC, un, most, callsOf, seval, Int.reducePow, ↓reduceIte, Nat.reduceEqDiff, reduceCtorEq]
    refine ih (i + 1) _ _ k Q (by omega) ?_ ?_ ?_ hK
    · simp only [h0, sg_set, Nat.reduceEqDiff, ↓reduceIte]
    · simp only [h1, sg_set, Nat.reduceEqDiff, ↓reduceIte]
    · simp only [sg_set, Nat.reduceEqDiff, ↓reduceIte]
theorem sFeats_pu (g : Pg P tab) {l : List Feat} {a b : AV} (ha : IsL 40 RFeat a l) (hb : IsL 40 RFeat b l) : Pu P 81 [a, b] (fun v => v = .bool true) := by
  refine g.pu (vf := v81) rfl rfl ?_
  simp only [v81, ha.len, hb.len, RX, VOp.fresh, bxC, bsC, un, most, callsOf, seval, Int.reducePow, ↓reduceIte, Nat.reduceEqDiff, reduceCtorEq]
  refine sFeats_loop g ha hb l.length 0 _ _ _ _ (by omega) ?_ ?_ ?_ fun s' h' => ?_
  · simp only [sg_set, Nat.reduceEqDiff, ↓reduceIte]
  · simp only [sg_set, Nat.reduceEqDiff, ↓reduceIte]
  · simp only [sg_set, Nat.reduceEqDiff, ↓reduceIte]
    rfl
  simp only [RX, VOp.fresh, bxC, bsC, un, most, callsOf, seval, Int.reducePow, ↓reduceIte, Nat.reduceEqDiff, reduceCtorEq]
theorem sMsg_pu (g : Pg P tab) {m : Ms} {a1 a2 b1 b2 : AV} (i1 : IsL 112 ROp a1 m.ops) (i2 : IsL 40 RFeat a2 m.fs) (k1 : IsL 112 ROp b1 m.ops) (k2 : IsL 40 RFeat b2 m.fs) : Pu P 29 [.agg (msC m a1 a2), .agg (msC m b1 b2)] (fun v => v = .bool true) := by
  refine g.pu (vf := v29) rfl rfl ?_
  have eb : ∀ b : Bool, eqv .bool (.bool b) (.bool b) = some true := fun b => by show some (b == b) = _; rw [beq_self_eq_true]
  simp only [v29, msC, flat2, flat4, eb, Option.map_some, RX, VOp.fresh, bxC, bsC, un, most, callsOf, seval, Int.reducePow, ↓reduceIte, Nat.reduceEqDiff, reduceCtorEq]
  refine (sOps_pu g i1 k1).go (by simp [AV.tolds, AV.told, i1.told tOp, k1.told tOp]) ?_
  rintro v rfl
  simp only [RX, VOp.fresh, bxC, bsC, un, most, callsOf, seval, Int.reducePow, ↓reduceIte, Nat.reduceEqDiff, reduceCtorEq]
  refine (sFeats_pu g i2 k2).go (by simp [AV.tolds, AV.told, i2.told tFeat, k2.told tFeat]) ?_
  rintro v rfl
  simp only [RX, VOp.fresh, bxC, bsC, un, most, callsOf, seval, Int.reducePow, ↓reduceIte, Nat.reduceEqDiff, reduceCtorEq]
end
end Go.Proofs.Ytinonmcnofjeeaa.VM
namespace Go.Proofs.Ytinonmcnofjeeaa.VM
attribute [local irreducible] Af Nx EvO Ev Un Gd Cd EvR EvQ EvC Nc Gc Lp EvM NxM AfM GdM EvMR EvMQ EvMD EvMC Nm Gm
def rdTx (k : Int) (t : List Nat) : (Int × Int) × List Nat := if kTx k = true then (((rdN 1 t).1, (rdN 2 (rdN 1 t).2).1), (rdN 2 (rdN 1 t).2).2) else ((0, 0), t)
def rdBO (k : Int) (t : List Nat) : (Int × List Op) × List Nat := if kOps k = true then (((rdN 4 t).1 - 1, (rdOps (rdN 4 t).2).1), (rdOps (rdN 4 t).2).2) else ((0, []), t)
def rdY (k : Int) (t : List Nat) : Bool × List Nat := if kYes k = true then (decide ((rdN 1 t).1 = 1), (rdN 1 t).2) else (false, t)
def rdBx (t : List Nat) : Bx × List Nat :=
  let a := rdN 4 t; let b := rdN 4 a.2; let c := rdN 4 b.2; let d := rdN 4 c.2
  (⟨a.1, b.1, c.1, d.1⟩, d.2)
def rdQ (k : Int) (t : List Nat) : (Int × Bx) × List Nat := if kQuery k = true then (((rdN 2 t).1, (rdBx (rdN 2 t).2).1), (rdBx (rdN 2 t).2).2) else ((0, ⟨0, 0, 0, 0⟩), t)
def rdFs (t : List Nat) : List Feat × List Nat := rep rdFeat (min (rdN 2 t).1 257).toNat (rdN 2 t).2
def rdPa (k : Int) (t : List Nat) : (Int × Bool × List Feat) × List Nat :=
  if kPart k = true then (((rdN 4 t).1, decide ((rdN 1 (rdN 4 t).2).1 = 1), (rdFs (rdN 1 (rdN 4 t).2).2).1), (rdFs (rdN 1 (rdN 4 t).2).2).2) else ((0, false, []), t)
def rdMs (s : List Nat) : Ms :=
  let a := rdN 1 (s.drop 2); let b := rdN 1 a.2; let c := rdN 1 b.2
  let x := rdTx a.1 c.2; let o := rdBO a.1 x.2; let y := rdY a.1 o.2; let q := rdQ a.1 y.2; let p := rdPa a.1 q.2
  ⟨a.1, b.1, c.1, x.1.1, x.1.2, o.1.1, y.1, q.1.1, p.1.1, p.1.2.1, q.1.2, o.1.2, p.1.2.2⟩
theorem bit_dec (b : Bool) : decide ((if b = true then (1 : Int) else 0) = 1) = b := by cases b <;> decide
theorem rdBit_put (b : Bool) (t : List Nat) : rdN 1 (bitB b ++ t) = (if b = true then 1 else 0, t) := by
  cases b
  · exact rdN_put (by decide) (by decide) t
  · exact rdN_put (by decide) (by decide) t
theorem rdBx_put {b : Bx} (h : boxOk b) (t : List Nat) : rdBx (boxB b ++ t) = (b, t) := by
  obtain ⟨⟨a1, a2⟩, ⟨b1, b2⟩, ⟨c1, c2⟩, ⟨d1, d2⟩, _⟩ := h
  rw [rdBx, boxB]
  simp only [List.append_assoc]
  rw [rdN_put a1 (by omega)]
  simp only
  rw [rdN_put b1 (by omega)]
  simp only
  rw [rdN_put c1 (by omega)]
  simp only
  rw [rdN_put d1 (by omega)]
theorem rdFs_put {l : List Feat} (hl : l.length ≤ 256) (h : featsOk l) (t : List Nat) : rdFs (fsB l ++ t) = (l, t) := by
  rw [rdFs, fsB, List.append_assoc, rdN_put (by omega) (by omega)]
  simp only
  rw [show (min (l.length : Int) 257).toNat = l.length by omega]
  refine rep_put l t fun f hf t => ?_
  obtain ⟨i, hi, rfl⟩ := List.mem_iff_getElem.1 hf
  have := (h i hi).1
  rw [getD_feat hi] at this
  exact rdFeat_put this t
theorem rdMs_put {m : Ms} (h : msOk m) : rdMs (msB m) = m := by
  obtain ⟨⟨k0, k6⟩, ⟨f0, f7⟩, ⟨t0, t7⟩, htx, hy, ho, hq, hp⟩ := h
  have e1 : rdN 1 ((msB m).drop 2) = (m.kind, (msB m).drop 3) := by
    rw [msB, List.drop_succ_cons, List.drop_succ_cons, List.drop_zero, rdN_put k0 (by omega)]
    rw [List.drop_succ_cons, List.drop_succ_cons, List.drop_append_of_le_length (by rw [numB_len]; omega), List.drop_of_length_le (by rw [numB_len]; omega), List.nil_append]
  have e2 : (msB m).drop 3 = numB m.frm 1 ++ (numB m.to 1 ++ ((if kTx m.kind = true then txB m.node m.seq else []) ++ ((if kOps m.kind = true then numB (m.base + 1) 4 ++ opsB m.ops else []) ++
      ((if kYes m.kind = true then bitB m.yes else []) ++ ((if kQuery m.kind = true then numB m.query 2 ++ boxB m.box else []) ++ (if kPart m.kind = true then numB m.applied 4 ++ (bitB m.busy ++ fsB m.fs) else [])))))) := by
    rw [msB, List.drop_succ_cons, List.drop_succ_cons, List.drop_append_of_le_length (by rw [numB_len]; omega), List.drop_of_length_le (by rw [numB_len]; omega), List.nil_append]
  have x1 : ∀ t, rdTx m.kind ((if kTx m.kind = true then txB m.node m.seq else []) ++ t) = ((m.node, m.seq), t) := fun t => by
    unfold rdTx
    unfold txM at htx
    cases hk : kTx m.kind with
    | true =>
      rw [hk] at htx
      simp only [if_true] at htx ⊢
      obtain ⟨a, b, c, d⟩ := htx
      rw [txB, List.append_assoc, rdN_put a (by omega), rdN_put (by omega) (by omega)]
    | false =>
      rw [hk] at htx
      simp only [Bool.false_eq_true, if_false, List.nil_append] at htx ⊢
      rw [htx.1, htx.2]
  have x2 : ∀ t, rdBO m.kind ((if kOps m.kind = true then numB (m.base + 1) 4 ++ opsB m.ops else []) ++ t) = ((m.base, m.ops), t) := fun t => by
    unfold rdBO
    unfold opsM at ho
    cases hk : kOps m.kind with
    | true =>
      rw [hk] at ho
      simp only [if_true] at ho ⊢
      obtain ⟨⟨a, b⟩, c⟩ := ho
      rw [List.append_assoc, rdN_put (by omega) (by omega), rdOps_put c]
      simp only [Prod.mk.injEq, and_true]
      omega
    | false =>
      rw [hk] at ho
      simp only [Bool.false_eq_true, if_false, List.nil_append] at ho ⊢
      rw [ho.1, ho.2]
  have x3 : ∀ t, rdY m.kind ((if kYes m.kind = true then bitB m.yes else []) ++ t) = (m.yes, t) := fun t => by
    unfold rdY
    cases hk : kYes m.kind with
    | true =>
      simp only [if_true]
      rw [rdBit_put, bit_dec]
    | false =>
      rw [hk] at hy
      simp only [Bool.false_eq_true, if_false, List.nil_append, false_or] at hy ⊢
      rw [hy]
  have x4 : ∀ t, rdQ m.kind ((if kQuery m.kind = true then numB m.query 2 ++ boxB m.box else []) ++ t) = ((m.query, m.box), t) := fun t => by
    unfold rdQ
    unfold queryM at hq
    cases hk : kQuery m.kind with
    | true =>
      rw [hk] at hq
      simp only [if_true] at hq ⊢
      obtain ⟨⟨a, b⟩, c⟩ := hq
      rw [List.append_assoc, rdN_put (by omega) (by omega), rdBx_put c]
    | false =>
      rw [hk] at hq
      simp only [Bool.false_eq_true, if_false, List.nil_append] at hq ⊢
      obtain ⟨a, b1, b2, b3, b4⟩ := hq
      have : m.box = ⟨0, 0, 0, 0⟩ := by
        cases hb : m.box
        rw [hb] at b1 b2 b3 b4
        simp only at b1 b2 b3 b4
        rw [b1, b2, b3, b4]
      rw [a, this]
  have x5 : ∀ t, rdPa m.kind ((if kPart m.kind = true then numB m.applied 4 ++ (bitB m.busy ++ fsB m.fs) else []) ++ t) = ((m.applied, m.busy, m.fs), t) := fun t => by
    unfold rdPa
    unfold partM at hp
    cases hk : kPart m.kind with
    | true =>
      rw [hk] at hp
      simp only [if_true] at hp ⊢
      obtain ⟨⟨a, b⟩, c, _, d⟩ := hp
      simp only [List.append_assoc]
      rw [rdN_put a (by omega)]
      simp only
      rw [rdBit_put, bit_dec]
      simp only
      rw [rdFs_put c d]
    | false =>
      rw [hk] at hp
      simp only [Bool.false_eq_true, if_false, List.nil_append] at hp ⊢
      rw [hp.1, hp.2.1, hp.2.2]
  have x5' := x5 []
  rw [List.append_nil] at x5'
  rw [rdMs]
  simp only [e1]
  rw [e2, rdN_put f0 (by omega)]
  simp only
  rw [rdN_put t0 (by omega)]
  simp only [x1, x2, x3, x4, x5']
end Go.Proofs.Ytinonmcnofjeeaa.VM
namespace Go.Proofs.Ytinonmcnofjeeaa.VM
attribute [local irreducible] Af Nx EvO Ev Un Gd Cd EvR EvQ EvC Nc Gc Lp EvM NxM AfM GdM EvMR EvMQ EvMD EvMC Nm Gm
def cFeats (l : List Feat) : AV := cRow ((l.map cFeat).flatten) l.length
def featsSm (l : List Feat) : Prop := l.length ≤ 1000000 ∧ ∀ f ∈ l, featSm f
theorem cFeats_is {l : List Feat} (h : featsSm l) : IsL 40 RFeat (cFeats l) l := row_isL (by rw [reach_eq]; have := h.1; omega) (cat_map fun f hf => cFeat_is (h.2 f hf))
section
variable {P : Program}
theorem rd_fsl (g : Pg P tab) {rb mb N0 : Nat} {G : Nat → Option Blk} {p0 p1 p2 p3 p4 p5 p6 p7 p8 p9 p10 p11 p12 p13 p14 : AV} (hrb : rb < N0) (hmb : mb < N0) (hne : mb ≠ rb) (n : Nat) : ∀ (done : List Feat) (t : List Nat) (s : T AV) (h : Heap) (rv : AV) (k : List Fr) (Q : Ex → T AV → Heap → Prop), done.length + n ≤ 1000 →
    N0 ≤ h.next → (∃ e ver, h.get mb = some (.cells [p0, p1, p2, p3, p4, p5, p6, p7, p8, p9, p10, p11, p12, p13, p14, rv] e ver)) → LR h (N0 ≤ ·) rv 3 ((done.map cFeat).flatten) done.length → RP rb t h → (∀ b, b < N0 → b ≠ rb → b ≠ mb → h.get b = G b) → sg s 0 = .ptr rb 0 → sg s 1 = .ptr mb 0 → sg s 16 = .int .i64 (done.length + n : Nat) → sg s 17 = .int .i64 done.length →
    (∀ s' h' rv', (∃ e ver, h'.get mb = some (.cells [p0, p1, p2, p3, p4, p5, p6, p7, p8, p9, p10, p11, p12, p13, p14, rv'] e ver)) → LR h' (N0 ≤ ·) rv' 3 (((done ++ (rep rdFeat n t).1).map cFeat).flatten) (done.length + n) → RP rb (rep rdFeat n t).2 h' → (∀ b, b < N0 → b ≠ rb → b ≠ mb → h'.get b = G b) → N0 ≤ h'.next → Un P k Q (.exit 0) s' h') → Lp P b78_0 s h (Un P k Q) := by
  induction n with
  | zero =>
    intro done t s h rv k Q hl hn0 hf r rp ex h0 h1 h16 h17 hQ
    refine g.lpe b78_0.eq_1 ?_
    have c1 : ¬ ((done.length : Int) < (done.length : Int)) := by omega
    rw [Nat.add_zero] at h16
    simp only [h16, h17, c1, RX, VOp.fresh, bxC, bsC, un, most, callsOf, seval, Int.reducePow, ↓reduceIte, Nat.reduceEqDiff, reduceCtorEq]
    refine hQ _ _ rv hf ?_ rp ex hn0
    simpa [rep] using r
  | succ n ih =>
    intro done t s h rv k Q hl hn0 hf r rp ex h0 h1 h16 h17 hQ
    refine g.lpe b78_0.eq_1 ?_
    have c1 : (done.length : Int) < ((done.length + (n + 1) : Nat) : Int) := by omega
    have w1 : IntKind.i64.wrap ((done.length : Int) + 1) = ((done.length + 1 : Nat) : Int) := by rw [w64 (by omega) (by omega)]; push_cast; rfl
    have hnb : ¬ N0 ≤ rb := by omega
    obtain ⟨ef, vf, hf⟩ := hf
    obtain ⟨_, h4, ok4, fv, rfl, r4, rp4, x4⟩ := rd_feat g rp (Q := fun v h' => ∃ fv, v = .agg [.int .i64 (rdFeat t).1.id, .int .i64 (rdFeat t).1.shape, fv] ∧ LR h' (h.next ≤ ·) fv 1 ((rdFeat t).1.rings.map cRing) (rdFeat t).1.rings.length ∧ RP rb (rdFeat t).2 h' ∧ ExtX rb h h') (fun fv h' a b c => ⟨fv, rfl, a, b, c⟩)
    have x4n := x4.1
    have hf4 : h4.get mb = some (.cells [p0, p1, p2, p3, p4, p5, p6, p7, p8, p9, p10, p11, p12, p13, p14, rv] ef vf) := (x4.2 mb (by omega) hne).trans hf
    have r4' : LR h4 (N0 ≤ ·) rv 3 ((done.map cFeat).flatten) done.length := r.frame x4.1 fun b hb hlt => x4.2 b hlt fun e => hnb (e ▸ hb)
    have em := Ext.mk (h := h4) (.cells [.int .i64 (rdFeat t).1.id, .int .i64 (rdFeat t).1.shape, fv] 52 0)
    have hn4 : (h4.mk' h4.next (.cells [.int .i64 (rdFeat t).1.id, .int .i64 (rdFeat t).1.shape, fv] 52 0)).next = h4.next + 1 := by rw [mk_next]; omega
    have hlt := r.lt
    have lv4 : Lvs (h4.mk' h4.next (.cells [.int .i64 (rdFeat t).1.id, .int .i64 (rdFeat t).1.shape, fv] 52 0)) (fun b => N0 ≤ b ∧ b ∉ blkOf rv) [.int .i64 (rdFeat t).1.id, .int .i64 (rdFeat t).1.shape, fv] (cFeat (rdFeat t).1) :=
      .cons .int (.cons .int (.cons ((r4.lv.frame em.1 fun b _ hb => em.2 b hb).weak fun b hb _ => ⟨by omega, fun hc => by have := hlt b hc; omega⟩) .nil))
    obtain ⟨h5, e5, r5, n5, k5⟩ := (r4'.frame em.1 fun b _ hb => em.2 b hb).push (nb := h4.next) (eb := 52) (vb := 0) (c := [.int .i64 (rdFeat t).1.id, .int .i64 (rdFeat t).1.shape, fv]) (by rw [Heap.get_mk, if_pos rfl]) rfl (by simp only [List.all_cons, List.all_nil, one_int, r4.one, Bool.and_self]) lv4 (by rw [hn4]; omega) (bytes := 40) (by unfold most2; omega) 52
    rw [hn4] at e5 r5 n5 k5
    have kk : ∀ b, b < h4.next → b ∉ blkOf rv → h5.get b = h4.get b := fun b hb hn => (k5 b hn (by omega)).trans (em.2 b hb)
    have hv := r4'.inB
    have hf5 : h5.get mb = some (.cells [p0, p1, p2, p3, p4, p5, p6, p7, p8, p9, p10, p11, p12, p13, p14, rv] ef vf) := (kk mb (by omega) fun hc => by have := hv mb hc; omega).trans hf4
    have hfn : ¬ mb = h4.next := by omega
    have gm := (em.2 mb (by omega)).trans hf4
    simp only [h0, h1, h16, h17, c1, hf, RX, VOp.fresh, bxC, bsC, un, most, callsOf, seval, Int.reducePow, ↓reduceIte, Nat.reduceEqDiff, reduceCtorEq]
    refine EvD.lk (fun _ _ _ => (.agg [.int .i64 (rdFeat t).1.id, .int .i64 (rdFeat t).1.shape, fv], h4)) ?_
    simp only [h0, h1, h16, h17, hf, hf4, hf5, hfn, ok4, e5, r4.one, w1, RW, RX, VOp.fresh, bxC, bsC, un, most, callsOf, seval, Int.reducePow, ↓reduceIte, Nat.reduceEqDiff, reduceCtorEq]
    refine ⟨⟨⟨?_, ?_, trivial⟩, trivial⟩, ?_⟩
    · show Lk _ _ _ _
      simp only [Lk, wanted, hf4, RX, VOp.fresh, bxC, bsC, un, most, callsOf, seval, Int.reducePow, ↓reduceIte, Nat.reduceEqDiff, reduceCtorEq]
    · show Lk _ _ _ _
      simp only [Lk, wanted, gm, hf4, hfn, RX, VOp.fresh, bxC, bsC, un, most, callsOf, seval, Int.reducePow, ↓reduceIte, Nat.reduceEqDiff, reduceCtorEq]
    refine ih (done ++ [(rdFeat t).1]) (rdFeat t).2 _ _ (.sl (h4.next + 1) 0 (done.length + 1) (done.length + 1) 3) k Q (by rw [List.length_append, List.length_singleton]; omega) ?_ ?_ ?_ ?_ ?_ ?_ ?_ ?_ ?_ ?_
    · rw [put_next]; omega
    · exact ⟨ef, vf + 1, by rw [Heap.get_put, if_pos rfl]⟩
    · have r6 := (r5.weak (B' := fun b => N0 ≤ b ∧ b ≠ mb) fun b hb _ => ⟨hb, by omega⟩).frame (h' := h5.put mb (.cells [p0, p1, p2, p3, p4, p5, p6, p7, p8, p9, p10, p11, p12, p13, p14, .sl (h4.next + 1) 0 (done.length + 1) (done.length + 1) 3] ef (vf + 1))) (by rw [put_next]; exact Nat.le_refl _) fun b hb _ => by rw [Heap.get_put, if_neg hb.2]
      have r7 := r6.weak (B' := (N0 ≤ ·)) fun b hb _ => hb.1
      simpa only [List.map_append, List.flatten_append, List.map_cons, List.map_nil, List.flatten_cons, List.flatten_nil, List.append_nil, List.length_append, List.length_singleton] using r7
    · exact (rp4.frame (by omega) (kk rb rp4.1 fun hc => by have := hv rb hc; omega)).frame (by rw [put_next]; exact Nat.le_refl _) (by rw [Heap.get_put, if_neg (fun e => hne e.symm)])
    · intro b hb hx hf'
      rw [Heap.get_put, if_neg hf', kk b (by omega) (fun hc => by have := hv b hc; omega), x4.2 b (by omega) hx, ex b hb hx hf']
    · simp only [h0, sg_set, Nat.reduceEqDiff, ↓reduceIte]
    · simp only [h1, sg_set, Nat.reduceEqDiff, ↓reduceIte]
    · simp only [h16, sg_set, Nat.reduceEqDiff, ↓reduceIte]
      rw [List.length_append, List.length_singleton]
      congr 2; omega
    · simp only [sg_set, Nat.reduceEqDiff, ↓reduceIte]
      rw [List.length_append, List.length_singleton]
    · intro s' h' rv' q1 q2 q3 q4 q5
      refine hQ s' h' rv' q1 ?_ q3 q4 q5
      simpa only [rep, List.append_assoc, List.cons_append, List.nil_append, List.length_append, List.length_singleton, Nat.add_assoc, Nat.add_comm 1 n] using q2
theorem rd_part (g : Pg P tab) {rb mb : Nat} {p0 p1 p2 p3 p4 p5 p6 p7 p8 p9 p10 p11 p12 p13 p14 : AV} {t : List Nat} {h : Heap} (rp : RP rb t h) (hmb : mb < h.next) (hne : mb ≠ rb) (hf : ∃ e ver, h.get mb = some (.cells [p0, p1, p2, p3, p4, p5, p6, p7, p8, p9, p10, p11, p12, p13, p14, .nils] e ver)) {Q : AV → Heap → Prop}
    (q : ∀ v rv h', (∃ e ver, h'.get mb = some (.cells [p0, p1, p2, p3, p4, p5, p6, p7, .int .i64 (rdPa 6 t).1.1, .bool (rdPa 6 t).1.2.1, p10, p11, p12, p13, p14, rv] e ver)) → LR h' (h.next ≤ ·) rv 3 (((rdPa 6 t).1.2.2.map cFeat).flatten) (rdPa 6 t).1.2.2.length → RP rb (rdPa 6 t).2 h' → (∀ b, b < h.next → b ≠ rb → b ≠ mb → h'.get b = h.get b) → h.next ≤ h'.next → Q v h') : Cl P 78 [.ptr rb 0, .ptr mb 0] h Q := by
  refine g.cl (vf := v78) rfl rfl ?_
  simp only [v78, RX, VOp.fresh, bxC, bsC, un, most, callsOf, seval, Int.reducePow, ↓reduceIte, Nat.reduceEqDiff, reduceCtorEq]
  refine rnum_cl g (N := 4) (by decide) rp fun h2 rp2 x2 => ?_
  obtain ⟨e1, v1, hf⟩ := hf
  have hf2 := (x2.keep mb hne).trans hf
  have e2 := x2.next
  simp only [hf2, RW, RX, VOp.fresh, bxC, bsC, un, most, callsOf, seval, Int.reducePow, ↓reduceIte, Nat.reduceEqDiff, reduceCtorEq]
  have rp3 := rp2.frame (h' := h2.put mb (.cells [p0, p1, p2, p3, p4, p5, p6, p7, .int .i64 (rdN 4 t).1, p9, p10, p11, p12, p13, p14, .nils] e1 (v1 + 1))) (by rw [put_next]; exact Nat.le_refl _) (by rw [Heap.get_put, if_neg (fun e => hne e.symm)])
  have gH3 : (h2.put mb (.cells [p0, p1, p2, p3, p4, p5, p6, p7, .int .i64 (rdN 4 t).1, p9, p10, p11, p12, p13, p14, .nils] e1 (v1 + 1))).get mb = some (.cells [p0, p1, p2, p3, p4, p5, p6, p7, .int .i64 (rdN 4 t).1, p9, p10, p11, p12, p13, p14, .nils] e1 (v1 + 1)) := by rw [Heap.get_put, if_pos rfl]
  have nH3 : (h2.put mb (.cells [p0, p1, p2, p3, p4, p5, p6, p7, .int .i64 (rdN 4 t).1, p9, p10, p11, p12, p13, p14, .nils] e1 (v1 + 1))).next = h.next := e2
  have kH3 : ∀ b, b ≠ rb → b ≠ mb → (h2.put mb (.cells [p0, p1, p2, p3, p4, p5, p6, p7, .int .i64 (rdN 4 t).1, p9, p10, p11, p12, p13, p14, .nils] e1 (v1 + 1))).get b = h.get b := fun b hr hm => by rw [Heap.get_put, if_neg hm]; exact x2.keep b hr
  generalize h2.put mb (.cells [p0, p1, p2, p3, p4, p5, p6, p7, .int .i64 (rdN 4 t).1, p9, p10, p11, p12, p13, p14, .nils] e1 (v1 + 1)) = h3 at *
  refine rd_bool g rp3 fun h4 rp4 x4 => ?_
  have x4n := x4.1
  have gH4 := (x4.2 mb (by omega) hne).trans gH3
  simp only [gH4, RW, RX, VOp.fresh, bxC, bsC, un, most, callsOf, seval, Int.reducePow, ↓reduceIte, Nat.reduceEqDiff, reduceCtorEq]
  have rp5 := rp4.frame (h' := h4.put mb (.cells [p0, p1, p2, p3, p4, p5, p6, p7, .int .i64 (rdN 4 t).1, .bool (decide ((rdN 1 (rdN 4 t).2).1 = 1)), p10, p11, p12, p13, p14, .nils] e1 (v1 + 1 + 1))) (by rw [put_next]; exact Nat.le_refl _) (by rw [Heap.get_put, if_neg (fun e => hne e.symm)])
  have gH5 : (h4.put mb (.cells [p0, p1, p2, p3, p4, p5, p6, p7, .int .i64 (rdN 4 t).1, .bool (decide ((rdN 1 (rdN 4 t).2).1 = 1)), p10, p11, p12, p13, p14, .nils] e1 (v1 + 1 + 1))).get mb = some (.cells [p0, p1, p2, p3, p4, p5, p6, p7, .int .i64 (rdN 4 t).1, .bool (decide ((rdN 1 (rdN 4 t).2).1 = 1)), p10, p11, p12, p13, p14, .nils] e1 (v1 + 1 + 1)) := by rw [Heap.get_put, if_pos rfl]
  have nH5 : h.next ≤ (h4.put mb (.cells [p0, p1, p2, p3, p4, p5, p6, p7, .int .i64 (rdN 4 t).1, .bool (decide ((rdN 1 (rdN 4 t).2).1 = 1)), p10, p11, p12, p13, p14, .nils] e1 (v1 + 1 + 1))).next := by rw [put_next]; omega
  have kH5 : ∀ b, b < h.next → b ≠ rb → b ≠ mb → (h4.put mb (.cells [p0, p1, p2, p3, p4, p5, p6, p7, .int .i64 (rdN 4 t).1, .bool (decide ((rdN 1 (rdN 4 t).2).1 = 1)), p10, p11, p12, p13, p14, .nils] e1 (v1 + 1 + 1))).get b = h.get b := fun b hb hr hm => by rw [Heap.get_put, if_neg hm, x4.2 b (by omega) hr]; exact kH3 b hr hm
  generalize h4.put mb (.cells [p0, p1, p2, p3, p4, p5, p6, p7, .int .i64 (rdN 4 t).1, .bool (decide ((rdN 1 (rdN 4 t).2).1 = 1)), p10, p11, p12, p13, p14, .nils] e1 (v1 + 1 + 1)) = h5 at *
  refine rnum_cl g (N := 2) (by decide) rp5 fun h6 rp6 x6 => ?_
  have e6 := x6.next
  have gH6 := (x6.keep mb hne).trans gH5
  have hk0 := (rdN_le (n := 2) (by decide) rp5.2.1).1
  have hrb := rp.1
  obtain ⟨k, hk⟩ : ∃ k : Nat, min (rdN 2 (rdN 1 (rdN 4 t).2).2).1 257 = (k : Int) := ⟨(min (rdN 2 (rdN 1 (rdN 4 t).2).2).1 257).toNat, by omega⟩
  have em : foldO min2 (.int .i64 (rdN 2 (rdN 1 (rdN 4 t).2).2).1) [.int .i64 257] = some (.int .i64 (k : Int)) := by
    show some (AV.int .i64 (if (257 : Int) < _ then 257 else _)) = _
    rw [← hk]
    congr 2
    split <;> omega
  have hk257 : k ≤ 257 := by omega
  simp only [em, RX, VOp.fresh, bxC, bsC, un, most, callsOf, seval, Int.reducePow, ↓reduceIte, Nat.reduceEqDiff, reduceCtorEq]
  refine rd_fsl g (N0 := h.next) hrb hmb hne (G := h.get) k [] _ _ h6 .nils _ _ (by simp; omega) (by omega) ⟨_, _, gH6⟩ (.nil _ _ _) rp6 (fun b hb hr hm => (x6.keep b hr).trans (kH5 b hb hr hm)) ?_ ?_ ?_ ?_ ?_
  · simp only [sg_set, Nat.reduceEqDiff, ↓reduceIte]
  · simp only [sg_set, Nat.reduceEqDiff, ↓reduceIte]
  · simp only [sg_set, Nat.reduceEqDiff, ↓reduceIte]
    simp
  · simp only [sg_set, Nat.reduceEqDiff, ↓reduceIte]
    rfl
  intro s' h' rv' hf' r' rp' k' n'
  have er : rdFs (rdN 1 (rdN 4 t).2).2 = rep rdFeat k (rdN 2 (rdN 1 (rdN 4 t).2).2).2 := by rw [rdFs, hk, Int.toNat_natCast]
  have ep : rdPa 6 t = (((rdN 4 t).1, decide ((rdN 1 (rdN 4 t).2).1 = 1), (rep rdFeat k (rdN 2 (rdN 1 (rdN 4 t).2).2).2).1), (rep rdFeat k (rdN 2 (rdN 1 (rdN 4 t).2).2).2).2) := by
    rw [rdPa, if_pos (show kPart 6 = true from rfl), er]
  simp only [RX, VOp.fresh, bxC, bsC, un, most, callsOf, seval, Int.reducePow, ↓reduceIte, Nat.reduceEqDiff, reduceCtorEq]
  refine q _ rv' h' ?_ ?_ ?_ k' n'
  · rw [ep]; exact hf'
  · rw [ep]
    rw [List.nil_append, show ([] : List Feat).length + k = (rep rdFeat k (rdN 2 (rdN 1 (rdN 4 t).2).2).2).1.length by rw [rep_len]; simp] at r'
    exact r'
  · rw [ep]; exact rp'
end
end Go.Proofs.Ytinonmcnofjeeaa.VM
namespace Go.Proofs.Ytinonmcnofjeeaa.VM
attribute [local irreducible] Af Nx EvO Ev Un Gd Cd EvR EvQ EvC Nc Gc Lp EvM NxM AfM GdM EvMR EvMQ EvMD EvMC Nm Gm
def c27 (n : Nat) : VCode := blk n v27.body
abbrev zMs : List AV := [.int .i64 0, .int .i64 0, .int .i64 0, .int .i64 0, .int .i64 0, .int .i64 0, .bool false, .int .i64 0, .int .i64 0, .bool false, .int .i64 0, .int .i64 0, .int .i64 0, .int .i64 0, .nils, .nils]
/-- blocks of the message's rows -/
def GB (h0 : Heap) (n b : Nat) : Prop := h0.next < b ∧ b ≠ n ∧ b ≠ h0.next + 1
/-- what stands while a message is read -/
structure GS (K : Int) (h0 : Heap) (n : Nat) (lo : List Op) (lf : List Feat) (c : List AV) (t : List Nat) (h : Heap) : Prop where
  rp : RP (h0.next + 1) t h
  z : h.get h0.next = some (.cells zMs 63 0)
  m : ∃ e ver, h.get n = some (.cells c e ver)
  r : ∃ e ver, h.get (n + 1) = some (.cells [.bool (kTx K), .bool (kOps K), .bool (kYes K), .bool (kQuery K), .bool (kPart K)] e ver)
  k : ∀ b, b < h0.next → h.get b = h0.get b
  n1 : n + 1 < h.next
  n0 : h0.next + 1 < n
  lo : Lv h (GB h0 n) (c.getD 14 .undef) (cOpsL lo)
  lf : Lv h (GB h0 n) (c.getD 15 .undef) (cFeats lf)
section
variable {K : Int} {h0 : Heap} {n : Nat} {lo lo' : List Op} {lf lf' : List Feat} {c c' : List AV} {t t' : List Nat} {h h' : Heap} {e ver : Nat}
theorem GS.read (s : GS K h0 n lo lf c t h) (rp : RP (h0.next + 1) t' h') (x : ExtX (h0.next + 1) h h') : GS K h0 n lo lf c t' h' := by
  have := s.n1
  have := s.n0
  have := x.1
  obtain ⟨e, v, m⟩ := s.m
  obtain ⟨e2, v2, r⟩ := s.r
  exact ⟨rp, (x.2 _ (by omega) (by omega)).trans s.z, ⟨e, v, (x.2 _ (by omega) (by omega)).trans m⟩, ⟨e2, v2, (x.2 _ (by omega) (by omega)).trans r⟩, fun b hb => (x.2 b (by omega) (by omega)).trans (s.k b hb), by omega, by omega,
    s.lo.frame x.1 fun b hb hl => x.2 b hl hb.2.2, s.lf.frame x.1 fun b hb hl => x.2 b hl hb.2.2⟩
theorem GS.put2 (s : GS K h0 n lo lf c t h) (ho : Lv h (GB h0 n) (c'.getD 14 .undef) (cOpsL lo')) (hf : Lv h (GB h0 n) (c'.getD 15 .undef) (cFeats lf')) : GS K h0 n lo' lf' c' t (h.put n (.cells c' e ver)) := by
  have := s.n1
  have := s.n0
  obtain ⟨e2, v2, r⟩ := s.r
  exact ⟨s.rp.frame (by rw [put_next]; exact Nat.le_refl _) (by rw [Heap.get_put, if_neg (by omega)]), by rw [Heap.get_put, if_neg (by omega)]; exact s.z, ⟨e, ver, by rw [Heap.get_put, if_pos rfl]⟩, ⟨e2, v2, by rw [Heap.get_put, if_neg (by omega)]; exact r⟩, fun b hb => by rw [Heap.get_put, if_neg (by omega)]; exact s.k b hb, by rw [put_next]; omega, by omega,
    ho.put (fun e => e.2.1 rfl) _, hf.put (fun e => e.2.1 rfl) _⟩
theorem GS.keep (s : GS K h0 n lo lf c t h) (rp : RP (h0.next + 1) t' h') (hm : ∃ e ver, h'.get n = some (.cells c' e ver)) (kx : ∀ b, b < h.next → b ≠ h0.next + 1 → b ≠ n → h'.get b = h.get b) (nx : h.next ≤ h'.next)
    (h1 : c'.getD 14 .undef = c.getD 14 .undef) (hf : Lv h' (GB h0 n) (c'.getD 15 .undef) (cFeats lf')) : GS K h0 n lo lf' c' t' h' := by
  have := s.n1
  have := s.n0
  obtain ⟨e2, v2, r⟩ := s.r
  exact ⟨rp, (kx _ (by omega) (by omega) (by omega)).trans s.z, hm, ⟨e2, v2, (kx _ (by omega) (by omega) (by omega)).trans r⟩, fun b hb => (kx b (by omega) (by omega) (by omega)).trans (s.k b hb), by omega, by omega, by rw [h1]; exact s.lo.frame nx fun b hb hl => kx b hl hb.2.2 hb.2.1, hf⟩
theorem GS.put (s : GS K h0 n lo lf c t h) (h1 : c'.getD 14 .undef = c.getD 14 .undef) (h2 : c'.getD 15 .undef = c.getD 15 .undef) : GS K h0 n lo lf c' t (h.put n (.cells c' e ver)) := s.put2 (by rw [h1]; exact s.lo) (by rw [h2]; exact s.lf)
end
/-- the slots that stay -/
def GT (h0 : Heap) (n : Nat) (S : List Nat) (s : T AV) : Prop := sg s 0 = .str S ∧ sg s 2 = .ptr h0.next 0 ∧ sg s 4 = .ptr (h0.next + 1) 0 ∧ sg s 5 = .ptr n 0 ∧ sg s 6 = .ptr (n + 1) 0
section
variable {P : Program} {K : Int} {h0 : Heap} {n : Nat} {lo : List Op} {lf : List Feat} {S t : List Nat} {s : T AV} {h : Heap} {k : List Fr} {Q : Ex → T AV → Heap → Prop}
theorem g_tx (g : Pg P tab) (gt : GT h0 n S s) {c0 c1 c2 c5 c6 c7 c8 c9 c10 c11 c12 c13 c14 c15 : AV} (gs : GS K h0 n lo lf [c0, c1, c2, .int .i64 0, .int .i64 0, c5, c6, c7, c8, c9, c10, c11, c12, c13, c14, c15] t h)
    (hK : ∀ s' h', GT h0 n S s' → GS K h0 n lo lf [c0, c1, c2, .int .i64 (rdTx K t).1.1, .int .i64 (rdTx K t).1.2, c5, c6, c7, c8, c9, c10, c11, c12, c13, c14, c15] (rdTx K t).2 h' → Un P k Q .normal s' h') : Ev P (c27 5) s h (Un P k Q) := by
  obtain ⟨t0, t2, t4, t5, t6⟩ := gt
  obtain ⟨er, vr, hr⟩ := gs.r
  unfold rdTx at hK
  simp only [c27, v27, blk, t6, hr, RX, VOp.fresh, bxC, bsC, un, most, callsOf, seval, Int.reducePow, ↓reduceIte, Nat.reduceEqDiff, reduceCtorEq]
  cases hk : kTx K with
  | false =>
    rw [hk] at hK
    simp only [Bool.false_eq_true, if_false] at hK
    simp only [RX, VOp.fresh, bxC, bsC, un, most, callsOf, seval, Int.reducePow, ↓reduceIte, Nat.reduceEqDiff, reduceCtorEq]
    exact hK _ _ ⟨by simp only [t0, sg_set, Nat.reduceEqDiff, ↓reduceIte], by simp only [t2, sg_set, Nat.reduceEqDiff, ↓reduceIte], by simp only [t4, sg_set, Nat.reduceEqDiff, ↓reduceIte], by simp only [t5, sg_set, Nat.reduceEqDiff, ↓reduceIte], by simp only [t6, sg_set, Nat.reduceEqDiff, ↓reduceIte]⟩ gs
  | true =>
    rw [hk] at hK
    simp only [if_true] at hK
    simp only [t4, RX, VOp.fresh, bxC, bsC, un, most, callsOf, seval, Int.reducePow, ↓reduceIte, Nat.reduceEqDiff, reduceCtorEq]
    refine rd_name g gs.rp fun h2 rp2 x2 => ?_
    have gs2 := gs.read rp2 x2
    obtain ⟨e2, v2, hm⟩ := gs2.m
    simp only [t5, hm, RW, RX, VOp.fresh, bxC, bsC, un, most, callsOf, seval, Int.reducePow, ↓reduceIte, Nat.reduceEqDiff, reduceCtorEq]
    exact hK _ _ ⟨by simp only [t0, sg_set, Nat.reduceEqDiff, ↓reduceIte], by simp only [t2, sg_set, Nat.reduceEqDiff, ↓reduceIte], by simp only [t4, sg_set, Nat.reduceEqDiff, ↓reduceIte], by simp only [t5, sg_set, Nat.reduceEqDiff, ↓reduceIte], by simp only [t6, sg_set, Nat.reduceEqDiff, ↓reduceIte]⟩ (gs2.put rfl rfl)
theorem g_yes (g : Pg P tab) (gt : GT h0 n S s) {c0 c1 c2 c3 c4 c5 c7 c8 c9 c10 c11 c12 c13 c14 c15 : AV} (gs : GS K h0 n lo lf [c0, c1, c2, c3, c4, c5, .bool false, c7, c8, c9, c10, c11, c12, c13, c14, c15] t h)
    (hK : ∀ s' h', GT h0 n S s' → GS K h0 n lo lf [c0, c1, c2, c3, c4, c5, .bool (rdY K t).1, c7, c8, c9, c10, c11, c12, c13, c14, c15] (rdY K t).2 h' → Un P k Q .normal s' h') : Ev P (c27 7) s h (Un P k Q) := by
  obtain ⟨t0, t2, t4, t5, t6⟩ := gt
  obtain ⟨er, vr, hr⟩ := gs.r
  unfold rdY at hK
  simp only [c27, v27, blk, t6, hr, RX, VOp.fresh, bxC, bsC, un, most, callsOf, seval, Int.reducePow, ↓reduceIte, Nat.reduceEqDiff, reduceCtorEq]
  cases hk : kYes K with
  | false =>
    rw [hk] at hK
    simp only [Bool.false_eq_true, if_false] at hK
    simp only [RX, VOp.fresh, bxC, bsC, un, most, callsOf, seval, Int.reducePow, ↓reduceIte, Nat.reduceEqDiff, reduceCtorEq]
    exact hK _ _ ⟨by simp only [t0, sg_set, Nat.reduceEqDiff, ↓reduceIte], by simp only [t2, sg_set, Nat.reduceEqDiff, ↓reduceIte], by simp only [t4, sg_set, Nat.reduceEqDiff, ↓reduceIte], by simp only [t5, sg_set, Nat.reduceEqDiff, ↓reduceIte], by simp only [t6, sg_set, Nat.reduceEqDiff, ↓reduceIte]⟩ gs
  | true =>
    rw [hk] at hK
    simp only [if_true] at hK
    simp only [t4, RX, VOp.fresh, bxC, bsC, un, most, callsOf, seval, Int.reducePow, ↓reduceIte, Nat.reduceEqDiff, reduceCtorEq]
    refine rd_bool g gs.rp fun h2 rp2 x2 => ?_
    have gs2 := gs.read rp2 x2
    obtain ⟨e2, v2, hm⟩ := gs2.m
    simp only [t5, hm, RW, RX, VOp.fresh, bxC, bsC, un, most, callsOf, seval, Int.reducePow, ↓reduceIte, Nat.reduceEqDiff, reduceCtorEq]
    exact hK _ _ ⟨by simp only [t0, sg_set, Nat.reduceEqDiff, ↓reduceIte], by simp only [t2, sg_set, Nat.reduceEqDiff, ↓reduceIte], by simp only [t4, sg_set, Nat.reduceEqDiff, ↓reduceIte], by simp only [t5, sg_set, Nat.reduceEqDiff, ↓reduceIte], by simp only [t6, sg_set, Nat.reduceEqDiff, ↓reduceIte]⟩ (gs2.put rfl rfl)
theorem g_q (g : Pg P tab) (gt : GT h0 n S s) {c0 c1 c2 c3 c4 c5 c6 c8 c9 c14 c15 : AV} (gs : GS K h0 n lo lf [c0, c1, c2, c3, c4, c5, c6, .int .i64 0, c8, c9, .int .i64 0, .int .i64 0, .int .i64 0, .int .i64 0, c14, c15] t h)
    (hK : ∀ s' h', GT h0 n S s' → GS K h0 n lo lf [c0, c1, c2, c3, c4, c5, c6, .int .i64 (rdQ K t).1.1, c8, c9, .int .i64 (rdQ K t).1.2.x0, .int .i64 (rdQ K t).1.2.y0, .int .i64 (rdQ K t).1.2.x1, .int .i64 (rdQ K t).1.2.y1, c14, c15] (rdQ K t).2 h' → Un P k Q .normal s' h') : Ev P (c27 8) s h (Un P k Q) := by
  obtain ⟨t0, t2, t4, t5, t6⟩ := gt
  obtain ⟨er, vr, hr⟩ := gs.r
  unfold rdQ at hK
  simp only [c27, v27, blk, t6, hr, RX, VOp.fresh, bxC, bsC, un, most, callsOf, seval, Int.reducePow, ↓reduceIte, Nat.reduceEqDiff, reduceCtorEq]
  cases hk : kQuery K with
  | false =>
    rw [hk] at hK
    simp only [Bool.false_eq_true, if_false] at hK
    simp only [RX, VOp.fresh, bxC, bsC, un, most, callsOf, seval, Int.reducePow, ↓reduceIte, Nat.reduceEqDiff, reduceCtorEq]
    exact hK _ _ ⟨by simp only [t0, sg_set, Nat.reduceEqDiff, ↓reduceIte], by simp only [t2, sg_set, Nat.reduceEqDiff, ↓reduceIte], by simp only [t4, sg_set, Nat.reduceEqDiff, ↓reduceIte], by simp only [t5, sg_set, Nat.reduceEqDiff, ↓reduceIte], by simp only [t6, sg_set, Nat.reduceEqDiff, ↓reduceIte]⟩ gs
  | true =>
    rw [hk] at hK
    simp only [if_true] at hK
    simp only [t4, RX, VOp.fresh, bxC, bsC, un, most, callsOf, seval, Int.reducePow, ↓reduceIte, Nat.reduceEqDiff, reduceCtorEq]
    refine rnum_cl g (N := 2) (by decide) gs.rp fun h2 rp2 x2 => ?_
    have gs2 := gs.read rp2 x2.x
    obtain ⟨e2, v2, hm⟩ := gs2.m
    simp only [t4, t5, hm, RW, RX, VOp.fresh, bxC, bsC, un, most, callsOf, seval, Int.reducePow, ↓reduceIte, Nat.reduceEqDiff, reduceCtorEq]
    have gs3 := gs2.put (c' := [c0, c1, c2, c3, c4, c5, c6, .int .i64 (rdN 2 t).1, c8, c9, .int .i64 0, .int .i64 0, .int .i64 0, .int .i64 0, c14, c15]) (e := e2) (ver := v2 + 1) rfl rfl
    generalize h2.put n (.cells [c0, c1, c2, c3, c4, c5, c6, .int .i64 (rdN 2 t).1, c8, c9, .int .i64 0, .int .i64 0, .int .i64 0, .int .i64 0, c14, c15] e2 (v2 + 1)) = h3 at *
    refine rnum_cl g (N := 4) (by decide) gs3.rp fun h4 rp4 x4 => ?_
    have gs4 := gs3.read rp4 x4.x
    simp only [t4, RX, VOp.fresh, bxC, bsC, un, most, callsOf, seval, Int.reducePow, ↓reduceIte, Nat.reduceEqDiff, reduceCtorEq]
    refine rnum_cl g (N := 4) (by decide) gs4.rp fun h5 rp5 x5 => ?_
    have gs5 := gs4.read rp5 x5.x
    simp only [t4, RX, VOp.fresh, bxC, bsC, un, most, callsOf, seval, Int.reducePow, ↓reduceIte, Nat.reduceEqDiff, reduceCtorEq]
    refine rnum_cl g (N := 4) (by decide) gs5.rp fun h6 rp6 x6 => ?_
    have gs6 := gs5.read rp6 x6.x
    simp only [t4, RX, VOp.fresh, bxC, bsC, un, most, callsOf, seval, Int.reducePow, ↓reduceIte, Nat.reduceEqDiff, reduceCtorEq]
    refine rnum_cl g (N := 4) (by decide) gs6.rp fun h7 rp7 x7 => ?_
    have gs7 := gs6.read rp7 x7.x
    obtain ⟨e7, v7, hm7⟩ := gs7.m
    simp only [t5, hm7, RW, RX, VOp.fresh, bxC, bsC, un, most, callsOf, seval, Int.reducePow, ↓reduceIte, Nat.reduceEqDiff, reduceCtorEq]
    exact hK _ _ ⟨by simp only [t0, sg_set, Nat.reduceEqDiff, ↓reduceIte], by simp only [t2, sg_set, Nat.reduceEqDiff, ↓reduceIte], by simp only [t4, sg_set, Nat.reduceEqDiff, ↓reduceIte], by simp only [t5, sg_set, Nat.reduceEqDiff, ↓reduceIte], by simp only [t6, sg_set, Nat.reduceEqDiff, ↓reduceIte]⟩ (gs7.put rfl rfl)
theorem g_ops (g : Pg P tab) (gt : GT h0 n S s) {c0 c1 c2 c3 c4 c6 c7 c8 c9 c10 c11 c12 c13 c15 : AV} (gs : GS K h0 n [] lf [c0, c1, c2, c3, c4, .int .i64 0, c6, c7, c8, c9, c10, c11, c12, c13, .nils, c15] t h)
    (hK : ∀ s' h' av, GT h0 n S s' → GS K h0 n (rdBO K t).1.2 lf [c0, c1, c2, c3, c4, .int .i64 (rdBO K t).1.1, c6, c7, c8, c9, c10, c11, c12, c13, av, c15] (rdBO K t).2 h' → Un P k Q .normal s' h') : Ev P (c27 6) s h (Un P k Q) := by
  obtain ⟨t0, t2, t4, t5, t6⟩ := gt
  obtain ⟨er, vr, hr⟩ := gs.r
  unfold rdBO at hK
  simp only [c27, v27, blk, t6, hr, RX, VOp.fresh, bxC, bsC, un, most, callsOf, seval, Int.reducePow, ↓reduceIte, Nat.reduceEqDiff, reduceCtorEq]
  cases hk : kOps K with
  | false =>
    rw [hk] at hK
    simp only [Bool.false_eq_true, if_false] at hK
    simp only [RX, VOp.fresh, bxC, bsC, un, most, callsOf, seval, Int.reducePow, ↓reduceIte, Nat.reduceEqDiff, reduceCtorEq]
    exact hK _ _ .nils ⟨by simp only [t0, sg_set, Nat.reduceEqDiff, ↓reduceIte], by simp only [t2, sg_set, Nat.reduceEqDiff, ↓reduceIte], by simp only [t4, sg_set, Nat.reduceEqDiff, ↓reduceIte], by simp only [t5, sg_set, Nat.reduceEqDiff, ↓reduceIte], by simp only [t6, sg_set, Nat.reduceEqDiff, ↓reduceIte]⟩ gs
  | true =>
    rw [hk] at hK
    simp only [if_true] at hK
    simp only [t4, RX, VOp.fresh, bxC, bsC, un, most, callsOf, seval, Int.reducePow, ↓reduceIte, Nat.reduceEqDiff, reduceCtorEq]
    refine rd_ops g gs.rp fun v h2 r2 rp2 x2 => ?_
    have gs2 := gs.read rp2 x2
    obtain ⟨e2, v2, hm⟩ := gs2.m
    have gn := gs.n1
    have g0 := gs.n0
    have lv := ((lv_opsL r2).weak (B' := GB h0 n) fun b hb _ => ⟨by omega, by omega, by omega⟩).put (b := n) (fun e => e.2.1 rfl) (.cells [c0, c1, c2, c3, c4, .int .i64 ((rdN 4 t).1 - 1), c6, c7, c8, c9, c10, c11, c12, c13, .nils, c15] e2 (v2 + 1))
    have gs3 := gs2.put (c' := [c0, c1, c2, c3, c4, .int .i64 ((rdN 4 t).1 - 1), c6, c7, c8, c9, c10, c11, c12, c13, .nils, c15]) (e := e2) (ver := v2 + 1) rfl rfl
    have hg3 : (h2.put n (.cells [c0, c1, c2, c3, c4, .int .i64 ((rdN 4 t).1 - 1), c6, c7, c8, c9, c10, c11, c12, c13, .nils, c15] e2 (v2 + 1))).get n = some (.cells [c0, c1, c2, c3, c4, .int .i64 ((rdN 4 t).1 - 1), c6, c7, c8, c9, c10, c11, c12, c13, .nils, c15] e2 (v2 + 1)) := by rw [Heap.get_put, if_pos rfl]
    simp only [t5, hm, RW, r2.cells, r2.one, RX, VOp.fresh, bxC, bsC, un, most, callsOf, seval, Int.reducePow, ↓reduceIte, Nat.reduceEqDiff, reduceCtorEq]
    generalize h2.put n (.cells [c0, c1, c2, c3, c4, .int .i64 ((rdN 4 t).1 - 1), c6, c7, c8, c9, c10, c11, c12, c13, .nils, c15] e2 (v2 + 1)) = h3 at *
    exact hK _ _ v ⟨by simp only [t0, sg_set, Nat.reduceEqDiff, ↓reduceIte], by simp only [t2, sg_set, Nat.reduceEqDiff, ↓reduceIte], by simp only [t4, sg_set, Nat.reduceEqDiff, ↓reduceIte], by simp only [t5, sg_set, Nat.reduceEqDiff, ↓reduceIte], by simp only [t6, sg_set, Nat.reduceEqDiff, ↓reduceIte]⟩ (gs3.put2 lv gs3.lf)
theorem g_part (g : Pg P tab) (gt : GT h0 n S s) {c0 c1 c2 c3 c4 c5 c6 c7 c10 c11 c12 c13 c14 : AV} (gs : GS K h0 n lo [] [c0, c1, c2, c3, c4, c5, c6, c7, .int .i64 0, .bool false, c10, c11, c12, c13, c14, .nils] t h)
    (hK : ∀ s' h' av, GT h0 n S s' → GS K h0 n lo (rdPa K t).1.2.2 [c0, c1, c2, c3, c4, c5, c6, c7, .int .i64 (rdPa K t).1.1, .bool (rdPa K t).1.2.1, c10, c11, c12, c13, c14, av] (rdPa K t).2 h' → Un P k Q .normal s' h') : Ev P (c27 9) s h (Un P k Q) := by
  obtain ⟨t0, t2, t4, t5, t6⟩ := gt
  obtain ⟨er, vr, hr⟩ := gs.r
  unfold rdPa at hK
  simp only [c27, v27, blk, t6, hr, RX, VOp.fresh, bxC, bsC, un, most, callsOf, seval, Int.reducePow, ↓reduceIte, Nat.reduceEqDiff, reduceCtorEq]
  cases hk : kPart K with
  | false =>
    rw [hk] at hK
    simp only [Bool.false_eq_true, if_false] at hK
    simp only [RX, VOp.fresh, bxC, bsC, un, most, callsOf, seval, Int.reducePow, ↓reduceIte, Nat.reduceEqDiff, reduceCtorEq]
    exact hK _ _ .nils ⟨by simp only [t0, sg_set, Nat.reduceEqDiff, ↓reduceIte], by simp only [t2, sg_set, Nat.reduceEqDiff, ↓reduceIte], by simp only [t4, sg_set, Nat.reduceEqDiff, ↓reduceIte], by simp only [t5, sg_set, Nat.reduceEqDiff, ↓reduceIte], by simp only [t6, sg_set, Nat.reduceEqDiff, ↓reduceIte]⟩ gs
  | true =>
    rw [hk] at hK
    simp only [if_true] at hK
    simp only [t4, RX, VOp.fresh, bxC, bsC, un, most, callsOf, seval, Int.reducePow, ↓reduceIte, Nat.reduceEqDiff, reduceCtorEq]
    simp only [t5, RX, VOp.fresh, bxC, bsC, un, most, callsOf, seval, Int.reducePow, ↓reduceIte, Nat.reduceEqDiff, reduceCtorEq]
    have gn := gs.n1
    have g0 := gs.n0
    refine rd_part g gs.rp (by omega) (by omega) gs.m fun v rv h2 hm2 r2 rp2 k2 n2 => ?_
    simp only [RX, VOp.fresh, bxC, bsC, un, most, callsOf, seval, Int.reducePow, ↓reduceIte, Nat.reduceEqDiff, reduceCtorEq]
    have lv : Lv h2 (GB h0 n) rv (cFeats (rdPa 6 t).1.2.2) := r2.lv.weak fun b hb _ => ⟨by omega, by omega, by omega⟩
    exact hK _ _ rv ⟨by simp only [t0, sg_set, Nat.reduceEqDiff, ↓reduceIte], by simp only [t2, sg_set, Nat.reduceEqDiff, ↓reduceIte], by simp only [t4, sg_set, Nat.reduceEqDiff, ↓reduceIte], by simp only [t5, sg_set, Nat.reduceEqDiff, ↓reduceIte], by simp only [t6, sg_set, Nat.reduceEqDiff, ↓reduceIte]⟩ (gs.keep rp2 hm2 k2 n2 rfl lv)
end
end Go.Proofs.Ytinonmcnofjeeaa.VM
namespace Go.Proofs.Ytinonmcnofjeeaa.VM
attribute [local irreducible] Af Nx EvO Ev Un Gd Cd EvR EvQ EvC Nc Gc Lp EvM NxM AfM GdM EvMR EvMQ EvMD EvMC Nm Gm
def getMok (s : List Nat) : Prop := msOk (rdMs s) ∧ msB (rdMs s) = s ∧ s.length ≤ 16384
section
variable {P : Program} {K : Int} {h0 : Heap} {n : Nat} {lo : List Op} {lf : List Feat} {S t : List Nat} {s : T AV} {h : Heap} {k : List Fr} {Q : AV → Heap → Prop}
theorem g_end (g : Pg P tab) (gt : GT h0 n S s) {a u : AV} (gs : GS K h0 n (rdMs S).ops (rdMs S).fs (msC (rdMs S) a u) t h) (so : opsSm (rdMs S).ops) (sf : featsSm (rdMs S).fs)
    (q1 : getMok S → ∀ h', Lv h' (h0.next ≤ ·) a (cOpsL (rdMs S).ops) → Lv h' (h0.next ≤ ·) u (cFeats (rdMs S).fs) → Ext h0 h' → Q (.tup [.agg (msC (rdMs S) a u), .int .i64 0]) h')
    (q2 : ¬ getMok S → ∀ h', Ext h0 h' → Q (.tup [.agg zMs, .int .i64 1600]) h') : Ev P (.seq (c27 10) (.seq (c27 11) (rst 12 v27.body))) s h (Un P [] (Fin v27.res Q)) := by
  obtain ⟨t0, t2, t4, t5, t6⟩ := gt
  obtain ⟨e1, v1, hm⟩ := gs.m
  have la : Lv h (GB h0 n) a (cOpsL (rdMs S).ops) := gs.lo
  have lu : Lv h (GB h0 n) u (cFeats (rdMs S).fs) := gs.lf
  have hz := gs.z
  have gn := gs.n1
  have g0 := gs.n0
  have oa : a.one = true := la.one_row
  have ou : u.one = true := lu.one_row
  have hf : Fzs true h [.agg (msC (rdMs S) a u)] [.agg (msC (rdMs S) (cOpsL (rdMs S).ops) (cFeats (rdMs S).fs))] :=
    .cons (.agg (.cons (.int _ _) (.cons (.int _ _) (.cons (.int _ _) (.cons (.int _ _) (.cons (.int _ _) (.cons (.int _ _) (.cons (.bool _) (.cons (.int _ _) (.cons (.int _ _) (.cons (.bool _) (.cons (.int _ _) (.cons (.int _ _) (.cons (.int _ _) (.cons (.int _ _) (.cons la.fz (.cons lu.fz .nil))))))))))))))))) .nil
  unfold msC at hm
  simp only [c27, v27, blk, rst, t5, hm, RX, VOp.fresh, bxC, bsC, un, most, callsOf, seval, Int.reducePow, ↓reduceIte, Nat.reduceEqDiff, reduceCtorEq]
  have bad : ∀ c e v, Ext h0 (h.put h0.next (.cells c e v)) := fun c e v => ⟨by rw [put_next]; omega, fun b hb => by rw [Heap.get_put, if_neg (by omega)]; exact gs.k b hb⟩
  by_cases ok : msOk (rdMs S)
  · refine (msgPut_good g (cOpsL_is so) (cFeats_is sf) ok).cl hf ?_
    rintro v rfl
    unfold msAns
    by_cases hl : (msB (rdMs S)).length ≤ 16384
    · rw [if_pos hl]
      by_cases hs : msB (rdMs S) = S
      · rw [hs]
        simp only [t0, t2, t5, hz, hm, oa, ou, RW, RX, VOp.fresh, bxC, bsC, un, most, callsOf, seval, Int.reducePow, ↓reduceIte, Nat.reduceEqDiff, reduceCtorEq]
        refine q1 ⟨ok, hs, by rw [hs] at hl; exact hl⟩ _ ?_ ?_ (bad _ _ _)
        · exact (la.put (fun e => by have := e.1; omega) _).weak fun b hb _ => Nat.le_of_lt hb.1
        · exact (lu.put (fun e => by have := e.1; omega) _).weak fun b hb _ => Nat.le_of_lt hb.1
      · simp only [t0, t2, hz, hs, RW, RX, VOp.fresh, bxC, bsC, un, most, callsOf, seval, Int.reducePow, ↓reduceIte, Nat.reduceEqDiff, reduceCtorEq]
        exact q2 (fun c => hs c.2.1) _ (bad _ _ _)
    · rw [if_neg hl]
      simp only [t0, t2, hz, RW, RX, VOp.fresh, bxC, bsC, un, most, callsOf, seval, Int.reducePow, ↓reduceIte, Nat.reduceEqDiff, reduceCtorEq]
      exact q2 (fun c => hl (by rw [c.2.1]; exact c.2.2)) _ (bad _ _ _)
  · refine (msgPut_bad g (cOpsL_is so) (cFeats_is sf) ok).cl hf ?_
    rintro v rfl
    simp only [t0, t2, hz, RW, RX, VOp.fresh, bxC, bsC, un, most, callsOf, seval, Int.reducePow, ↓reduceIte, Nat.reduceEqDiff, reduceCtorEq]
    exact q2 (fun c => ok c.1) _ (bad _ _ _)
theorem g_ini (g : Pg P tab) (hby : By S) (hsl : S.length < 4611686018427387904) {B : VCode}
    (q0 : S.length < 2 ∨ 16384 < S.length → ∀ h', Ext h0 h' → Q (.tup [.agg zMs, .int .i64 1600]) h')
    (hK : 2 ≤ S.length → S.length ≤ 16384 → ∀ s' h' n, GT h0 n S s' → GS (rdMs S).kind h0 n [] [] [.int .i64 (rdMs S).kind, .int .i64 (rdMs S).frm, .int .i64 (rdMs S).to, .int .i64 0, .int .i64 0, .int .i64 0, .bool false, .int .i64 0, .int .i64 0, .bool false, .int .i64 0, .int .i64 0, .int .i64 0, .int .i64 0, .nils, .nils] (rdN 1 (rdN 1 (rdN 1 (S.drop 2)).2).2).2 h' → Ev P B s' h' (Un P [] (Fin v27.res Q))) :
    Ev P (.seq (c27 0) (.seq (c27 1) (.seq (c27 2) (.seq (c27 3) (.seq (c27 4) B))))) (argsT [.str S] 0 .e) h0 (Un P [] (Fin v27.res Q)) := by
  have x1 := Ext.mk (h := h0) (.cells zMs 63 0)
  have z1 : (h0.mk' h0.next (.cells zMs 63 0)).get h0.next = some (.cells zMs 63 0) := by rw [Heap.get_mk, if_pos rfl]
  have n1 : (h0.mk' h0.next (.cells zMs 63 0)).next = h0.next + 1 := by rw [mk_next]; omega
  by_cases l1 : S.length < 2
  · have c1 : ((S.length : Nat) : Int) < 2 := by omega
    simp only [c27, v27, blk, c1, RW, RX, VOp.fresh, bxC, bsC, un, most, callsOf, seval, Int.reducePow, ↓reduceIte, Nat.reduceEqDiff, reduceCtorEq]
    exact q0 (.inl l1) _ ⟨by rw [put_next, mk_next]; omega, fun b hb => by rw [Heap.get_put, if_neg (by omega)]; exact x1.2 b hb⟩
  · have c1 : ¬ ((S.length : Nat) : Int) < 2 := by omega
    by_cases l2 : 16384 < S.length
    · have c2 : 16384 < ((S.length : Nat) : Int) := by omega
      simp only [c27, v27, blk, c1, c2, RW, RX, VOp.fresh, bxC, bsC, un, most, callsOf, seval, Int.reducePow, ↓reduceIte, Nat.reduceEqDiff, reduceCtorEq]
      exact q0 (.inr l2) _ ⟨by rw [put_next, mk_next]; omega, fun b hb => by rw [Heap.get_put, if_neg (by omega)]; exact x1.2 b hb⟩
    · have c2 : ¬ 16384 < ((S.length : Nat) : Int) := by omega
      have es : sliceS (.str S) (some (.int .i64 2)) none = some (.str (S.drop 2)) := sliceS_lo (k := .i64) (n := 2) (by omega)
      have n2 : ((h0.mk' h0.next (.cells zMs 63 0)).mk' (h0.next + 1) (.cells [.str (S.drop 2)] 118 0)).next = h0.next + 2 := by rw [mk_next, mk_next]; omega
      have z2 : ((h0.mk' h0.next (.cells zMs 63 0)).mk' (h0.next + 1) (.cells [.str (S.drop 2)] 118 0)).get h0.next = some (.cells zMs 63 0) := by rw [Heap.get_mk, if_neg (by omega), Heap.get_mk, if_pos rfl]
      have k2 : ∀ b, b < h0.next → ((h0.mk' h0.next (.cells zMs 63 0)).mk' (h0.next + 1) (.cells [.str (S.drop 2)] 118 0)).get b = h0.get b := fun b hb => by rw [Heap.get_mk, if_neg (by omega), Heap.get_mk, if_neg (by omega)]
      have rp2 : RP (h0.next + 1) (S.drop 2) ((h0.mk' h0.next (.cells zMs 63 0)).mk' (h0.next + 1) (.cells [.str (S.drop 2)] 118 0)) := ⟨by omega, fun x hx => hby x (List.mem_of_mem_drop hx), by rw [List.length_drop]; omega, 118, 0, by rw [Heap.get_mk, if_pos rfl]⟩
      simp only [c27, v27, blk, c1, c2, es, RW, RX, VOp.fresh, bxC, bsC, un, most, callsOf, seval, Int.reducePow, ↓reduceIte, Nat.reduceEqDiff, reduceCtorEq]
      generalize (h0.mk' h0.next (.cells zMs 63 0)).mk' (h0.next + 1) (.cells [.str (S.drop 2)] 118 0) = h2 at *
      refine rnum_cl g (N := 1) (by decide) rp2 fun h3 rp3 x3 => ?_
      simp only [RX, VOp.fresh, bxC, bsC, un, most, callsOf, seval, Int.reducePow, ↓reduceIte, Nat.reduceEqDiff, reduceCtorEq]
      refine rnum_cl g (N := 1) (by decide) rp3 fun h4 rp4 x4 => ?_
      simp only [RX, VOp.fresh, bxC, bsC, un, most, callsOf, seval, Int.reducePow, ↓reduceIte, Nat.reduceEqDiff, reduceCtorEq]
      refine rnum_cl g (N := 1) (by decide) rp4 fun h5 rp5 x5 => ?_
      simp only [RW, RX, VOp.fresh, bxC, bsC, un, most, callsOf, seval, Int.reducePow, ↓reduceIte, Nat.reduceEqDiff, reduceCtorEq]
      have e3 := x3.next
      have e4 := x4.next
      have e5 := x5.next
      have n6 : ((h5.mk' h5.next (.cells zMs 63 0)).put h5.next (.cells [.int .i64 (rdN 1 (S.drop 2)).1, .int .i64 (rdN 1 (rdN 1 (S.drop 2)).2).1, .int .i64 (rdN 1 (rdN 1 (rdN 1 (S.drop 2)).2).2).1, .int .i64 0, .int .i64 0, .int .i64 0, .bool false, .int .i64 0, .int .i64 0, .bool false, .int .i64 0, .int .i64 0, .int .i64 0, .int .i64 0, .nils, .nils] 63 1)).next = h5.next + 1 := by rw [put_next, mk_next]; omega
      have g6 : ((h5.mk' h5.next (.cells zMs 63 0)).put h5.next (.cells [.int .i64 (rdN 1 (S.drop 2)).1, .int .i64 (rdN 1 (rdN 1 (S.drop 2)).2).1, .int .i64 (rdN 1 (rdN 1 (rdN 1 (S.drop 2)).2).2).1, .int .i64 0, .int .i64 0, .int .i64 0, .bool false, .int .i64 0, .int .i64 0, .bool false, .int .i64 0, .int .i64 0, .int .i64 0, .int .i64 0, .nils, .nils] 63 1)).get h5.next = some (.cells [.int .i64 (rdN 1 (S.drop 2)).1, .int .i64 (rdN 1 (rdN 1 (S.drop 2)).2).1, .int .i64 (rdN 1 (rdN 1 (rdN 1 (S.drop 2)).2).2).1, .int .i64 0, .int .i64 0, .int .i64 0, .bool false, .int .i64 0, .int .i64 0, .bool false, .int .i64 0, .int .i64 0, .int .i64 0, .int .i64 0, .nils, .nils] 63 1) := by rw [Heap.get_put, if_pos rfl]
      have k6 : ∀ b, b < h5.next → b ≠ h0.next + 1 → ((h5.mk' h5.next (.cells zMs 63 0)).put h5.next (.cells [.int .i64 (rdN 1 (S.drop 2)).1, .int .i64 (rdN 1 (rdN 1 (S.drop 2)).2).1, .int .i64 (rdN 1 (rdN 1 (rdN 1 (S.drop 2)).2).2).1, .int .i64 0, .int .i64 0, .int .i64 0, .bool false, .int .i64 0, .int .i64 0, .bool false, .int .i64 0, .int .i64 0, .int .i64 0, .int .i64 0, .nils, .nils] 63 1)).get b = h2.get b := fun b hb hr => by
        rw [Heap.get_put, if_neg (by omega), Heap.get_mk, if_neg (by omega), x5.keep b hr, x4.keep b hr, x3.keep b hr]
      have rp6 : RP (h0.next + 1) (rdN 1 (rdN 1 (rdN 1 (S.drop 2)).2).2).2 ((h5.mk' h5.next (.cells zMs 63 0)).put h5.next (.cells [.int .i64 (rdN 1 (S.drop 2)).1, .int .i64 (rdN 1 (rdN 1 (S.drop 2)).2).1, .int .i64 (rdN 1 (rdN 1 (rdN 1 (S.drop 2)).2).2).1, .int .i64 0, .int .i64 0, .int .i64 0, .bool false, .int .i64 0, .int .i64 0, .bool false, .int .i64 0, .int .i64 0, .int .i64 0, .int .i64 0, .nils, .nils] 63 1)) := rp5.frame (by omega) (by rw [Heap.get_put, if_neg (by omega), Heap.get_mk, if_neg (by omega)])
      generalize (h5.mk' h5.next (.cells zMs 63 0)).put h5.next (.cells [.int .i64 (rdN 1 (S.drop 2)).1, .int .i64 (rdN 1 (rdN 1 (S.drop 2)).2).1, .int .i64 (rdN 1 (rdN 1 (rdN 1 (S.drop 2)).2).2).1, .int .i64 0, .int .i64 0, .int .i64 0, .bool false, .int .i64 0, .int .i64 0, .bool false, .int .i64 0, .int .i64 0, .int .i64 0, .int .i64 0, .nils, .nils] 63 1) = h6 at *
      refine (rowOf_pu g _).go rfl ?_
      rintro v rfl
      unfold rowV
      simp only [RW, RX, VOp.fresh, bxC, bsC, un, most, callsOf, seval, Int.reducePow, ↓reduceIte, Nat.reduceEqDiff, reduceCtorEq]
      have n7 : h6.next = h5.next + 1 := n6
      refine hK (by omega) (by omega) _ _ h5.next ⟨?_, ?_, ?_, ?_, ?_⟩ ?_
      · simp only [sg_set, Nat.reduceEqDiff, ↓reduceIte]
      · simp only [sg_set, Nat.reduceEqDiff, ↓reduceIte]
      · simp only [sg_set, Nat.reduceEqDiff, ↓reduceIte]
      · simp only [sg_set, Nat.reduceEqDiff, ↓reduceIte]
      · simp only [n7, sg_set, Nat.reduceEqDiff, ↓reduceIte]
      · refine ⟨rp6.frame ?_ ?_, ?_, ?_, ?_, ?_, ?_, ?_, .nils, .nils⟩
        · rw [put_next, mk_next]; omega
        · rw [Heap.get_put, if_neg (by omega), Heap.get_mk, if_neg (by omega)]
        · rw [Heap.get_put, if_neg (by omega), Heap.get_mk, if_neg (by omega), k6 _ (by omega) (by omega), z2]
        · exact ⟨_, _, by rw [Heap.get_put, if_neg (by omega), Heap.get_mk, if_neg (by omega)]; exact g6⟩
        · exact ⟨132, 1, by rw [n7, Heap.get_put, if_pos rfl]; rfl⟩
        · intro b hb
          rw [Heap.get_put, if_neg (by omega), Heap.get_mk, if_neg (by omega), k6 b (by omega) (by omega), k2 b hb]
        · rw [put_next, mk_next]; omega
        · omega
theorem rdTx_by (h : By t) : By (rdTx K t).2 := by
  unfold rdTx; split
  · exact rdN_by (rdN_by h)
  · exact h
theorem rdBO_by (h : By t) : By (rdBO K t).2 := by
  unfold rdBO; split
  · exact rep_by (fun _ h => rdOp_by h) _ _ (rdN_by (rdN_by h))
  · exact h
theorem rdY_by (h : By t) : By (rdY K t).2 := by
  unfold rdY; split
  · exact rdN_by h
  · exact h
theorem rdQ_by (h : By t) : By (rdQ K t).2 := by
  unfold rdQ; split
  · exact rdN_by (rdN_by (rdN_by (rdN_by (rdN_by h))))
  · exact h
theorem rdMs_so (hby : By S) : opsSm (rdMs S).ops ∧ featsSm (rdMs S).fs := by
  have hd : By (S.drop 2) := fun x hx => hby x (List.mem_of_mem_drop hx)
  have h3 := rdN_by (n := 1) (rdN_by (n := 1) (rdN_by (n := 1) hd))
  constructor
  · show opsSm (rdBO _ _).1.2
    unfold rdBO; split
    · exact rdOps_sm (rdN_by (rdTx_by h3))
    · exact ⟨by simp, by simp⟩
  · show featsSm (rdPa _ _).1.2.2
    unfold rdPa; split
    · have hb := rdN_by (n := 1) (rdN_by (n := 4) (rdQ_by (K := (rdN 1 (S.drop 2)).1) (rdY_by (K := (rdN 1 (S.drop 2)).1) (rdBO_by (K := (rdN 1 (S.drop 2)).1) (rdTx_by (K := (rdN 1 (S.drop 2)).1) h3)))))
      refine ⟨?_, rep_all (fun _ h => rdFeat_by h) (fun s h => rdFeat_sm h) _ _ (rdN_by hb)⟩
      show (rep rdFeat _ _).1.length ≤ _
      rw [rep_len]; omega
    · exact ⟨by simp, by simp⟩
theorem msg_get (g : Pg P tab) (hby : By S) (hsl : S.length < 4611686018427387904)
    (q1 : getMok S → ∀ a u h', Lv h' (h.next ≤ ·) a (cOpsL (rdMs S).ops) → Lv h' (h.next ≤ ·) u (cFeats (rdMs S).fs) → Ext h h' → Q (.tup [.agg (msC (rdMs S) a u), .int .i64 0]) h')
    (q2 : ¬ getMok S → ∀ h', Ext h h' → Q (.tup [.agg zMs, .int .i64 1600]) h') : Cl P 27 [.str S] h Q := by
  refine g.cl (vf := v27) rfl rfl ?_
  have e : v27.body = .seq (c27 0) (.seq (c27 1) (.seq (c27 2) (.seq (c27 3) (.seq (c27 4) (.seq (c27 5) (.seq (c27 6) (.seq (c27 7) (.seq (c27 8) (.seq (c27 9) (.seq (c27 10) (.seq (c27 11) (rst 12 v27.body)))))))))))) := rfl
  rw [e]
  refine g_ini g hby hsl (fun hl h' x => q2 (fun c => ?_) h' x) fun l1 l2 s1 h1 n gt gs => ?_
  · have h1 := c.2.1
    have h2 := c.2.2
    have := congrArg List.length h1
    rw [msB] at this
    simp only [List.length_cons] at this
    omega
  rw [ev_seq]
  refine g_tx g gt gs fun s2 h2 gt gs => ?_
  rw [un_seq, ev_seq]
  refine g_ops g gt gs fun s3 h3 a gt gs => ?_
  rw [un_seq, ev_seq]
  refine g_yes g gt gs fun s4 h4 gt gs => ?_
  rw [un_seq, ev_seq]
  refine g_q g gt gs fun s5 h5 gt gs => ?_
  rw [un_seq, ev_seq]
  refine g_part g gt gs fun s6 h6 u gt gs => ?_
  rw [un_seq]
  exact g_end g gt (a := a) (u := u) gs (rdMs_so hby).1 (rdMs_so hby).2 (fun ok h' la lu x => q1 ok a u h' la lu x) q2
end
end Go.Proofs.Ytinonmcnofjeeaa.VM
namespace Go.Proofs.Ytinonmcnofjeeaa.VM
attribute [local irreducible] Af Nx EvO Ev Un Gd Cd EvR EvQ EvC Nc Gc Lp EvM NxM AfM GdM EvMR EvMQ EvMD EvMC Nm Gm
def rdBxM (t : Option (List Nat)) : Bx × Option (List Nat) :=
  let a := rdM 4 t; let b := rdM 4 a.2; let c := rdM 4 b.2; let d := rdM 4 c.2
  (⟨a.1, b.1, c.1, d.1⟩, d.2)
def rdFsM (t : Option (List Nat)) : List Feat × Option (List Nat) := rpO rdFeatM (rdM 2 t).1.toNat (rdM 2 t).2
def ms0 (k f t : Int) : Ms := ⟨k, f, t, 0, 0, 0, false, 0, 0, false, ⟨0, 0, 0, 0⟩, [], []⟩
/-- a message's parts, by its kind -/
def rdK (k f t : Int) (s : Option (List Nat)) : Ms × Option (List Nat) :=
  if k = 5 then ({ ms0 k f t with query := (rdM 2 s).1, box := (rdBxM (rdM 2 s).2).1 }, (rdBxM (rdM 2 s).2).2)
  else if k = 6 then ({ ms0 k f t with query := (rdM 2 s).1, box := (rdBxM (rdM 2 s).2).1, applied := (rdM 4 (rdBxM (rdM 2 s).2).2).1, busy := (rdBitM (rdM 4 (rdBxM (rdM 2 s).2).2).2).1, fs := (rdFsM (rdBitM (rdM 4 (rdBxM (rdM 2 s).2).2).2).2).1 }, (rdFsM (rdBitM (rdM 4 (rdBxM (rdM 2 s).2).2).2).2).2)
  else if k = 0 then ({ ms0 k f t with node := (rdM 1 s).1, seq := (rdM 2 (rdM 1 s).2).1, base := (rdM 4 (rdM 2 (rdM 1 s).2).2).1 - 1, ops := (rdOpsM (rdM 4 (rdM 2 (rdM 1 s).2).2).2).1 }, (rdOpsM (rdM 4 (rdM 2 (rdM 1 s).2).2).2).2)
  else if k = 1 ∨ k = 2 then ({ ms0 k f t with node := (rdM 1 s).1, seq := (rdM 2 (rdM 1 s).2).1, yes := (rdBitM (rdM 2 (rdM 1 s).2).2).1 }, (rdBitM (rdM 2 (rdM 1 s).2).2).2)
  else ({ ms0 k f t with node := (rdM 1 s).1, seq := (rdM 2 (rdM 1 s).2).1 }, (rdM 2 (rdM 1 s).2).2)
def rdMsM (S : List Nat) : Ms × Option (List Nat) := rdK (S.getD 2 0 : Nat) (S.getD 3 0 : Nat) (S.getD 4 0 : Nat) (some (S.drop 5))
theorem rdBxM_put {b : Bx} (h : boxOk b) (t : List Nat) : rdBxM (some (boxB b ++ t)) = (b, some t) := by
  obtain ⟨⟨a1, a2⟩, ⟨b1, b2⟩, ⟨c1, c2⟩, ⟨d1, d2⟩, _⟩ := h
  rw [rdBxM, boxB]
  simp only [List.append_assoc]
  rw [rdM_put a1 (by omega)]
  simp only
  rw [rdM_put b1 (by omega)]
  simp only
  rw [rdM_put c1 (by omega)]
  simp only
  rw [rdM_put d1 (by omega)]
theorem rdFsM_put {l : List Feat} (hl : l.length ≤ 256) (h : featsOk l) (t : List Nat) : rdFsM (some (fsB l ++ t)) = (l, some t) := by
  rw [rdFsM, fsB, List.append_assoc, rdM_put (by omega) (by omega)]
  simp only [Int.toNat_natCast]
  refine rpO_put l t fun f hf t => ?_
  obtain ⟨i, hi, rfl⟩ := List.mem_iff_getElem.1 hf
  have := (h i hi).1
  rw [getD_feat hi] at this
  exact rdFeatM_put this t
theorem rdBitM_put (b : Bool) (t : List Nat) : rdBitM (some (bitB b ++ t)) = (b, some t) := by
  have : rdM 1 (some (bitB b ++ t)) = (if b = true then 1 else 0, some t) := by
    cases b
    · exact rdM_put (by decide) (by decide) t
    · exact rdM_put (by decide) (by decide) t
  rw [rdBitM, this]
  cases b <;> simp
theorem num1 {x : Int} (h0 : 0 ≤ x) (h1 : x < 256) : numB x 1 = [x.toNat] := by
  simp [numB]; omega
theorem rdMsM_putT {m : Ms} (h : msOk m) (z : List Nat) : rdMsM (msB m ++ z) = (m, some z) := by
  obtain ⟨⟨k0, k6⟩, ⟨f0, f7⟩, ⟨t0, t7⟩, htx, hy, ho, hq, hp⟩ := h
  have bz : ∀ {b : Bx}, zeroBox b → b = ⟨0, 0, 0, 0⟩ := fun {b} ⟨a1, a2, a3, a4⟩ => by cases b; simp only at a1 a2 a3 a4; rw [a1, a2, a3, a4]
  obtain ⟨kind, frm, to, node, seq, base, yes, query, applied, busy, box, ops, fs⟩ := m
  simp only at k0 k6 f0 f7 t0 t7 hy
  have ek : ((kind.toNat : Nat) : Int) = kind := by omega
  have ef : ((frm.toNat : Nat) : Int) = frm := by omega
  have et : ((to.toNat : Nat) : Int) = to := by omega
  have hk : kind = 0 ∨ kind = 1 ∨ kind = 2 ∨ kind = 3 ∨ kind = 4 ∨ kind = 5 ∨ kind = 6 := by omega
  unfold txM at htx
  unfold opsM at ho
  unfold queryM at hq
  unfold partM at hp
  simp only at htx ho hq hp
  have go : rdMsM (msB ⟨kind, frm, to, node, seq, base, yes, query, applied, busy, box, ops, fs⟩ ++ z) = rdK kind frm to (some (((if kTx kind = true then txB node seq else []) ++ ((if kOps kind = true then numB (base + 1) 4 ++ opsB ops else []) ++
      ((if kYes kind = true then bitB yes else []) ++ ((if kQuery kind = true then numB query 2 ++ boxB box else []) ++ (if kPart kind = true then numB applied 4 ++ (bitB busy ++ fsB fs) else []))))) ++ z)) := by
    rw [msB, rdMsM]
    simp only [num1 k0 (by omega : kind < 256), num1 f0 (by omega : frm < 256), num1 t0 (by omega : to < 256), List.cons_append, List.nil_append, List.getD_cons_succ, List.getD_cons_zero, List.drop_succ_cons, List.drop_zero, ek, ef, et]
  rw [go, rdK]
  clear go ek ef et
  rcases hk with rfl | rfl | rfl | rfl | rfl | rfl | rfl
  all_goals simp only [show kTx 0 = true from rfl, show kTx 1 = true from rfl, show kTx 2 = true from rfl, show kTx 3 = true from rfl, show kTx 4 = true from rfl, show kTx 5 = false from rfl, show kTx 6 = false from rfl, show kOps 0 = true from rfl, show kOps 1 = false from rfl, show kOps 2 = false from rfl, show kOps 3 = false from rfl, show kOps 4 = false from rfl, show kOps 5 = false from rfl, show kOps 6 = false from rfl, show kYes 0 = false from rfl, show kYes 1 = true from rfl, show kYes 2 = true from rfl, show kYes 3 = false from rfl, show kYes 4 = false from rfl, show kYes 5 = false from rfl, show kYes 6 = false from rfl, show kQuery 0 = false from rfl, show kQuery 1 = false from rfl, show kQuery 2 = false from rfl, show kQuery 3 = false from rfl, show kQuery 4 = false from rfl, show kQuery 5 = true from rfl, show kQuery 6 = true from rfl, show kPart 0 = false from rfl, show kPart 1 = false from rfl, show kPart 2 = false from rfl, show kPart 3 = false from rfl, show kPart 4 = false from rfl, show kPart 5 = false from rfl, show kPart 6 = true from rfl, if_true, Bool.false_eq_true, if_false, false_or, true_or] at htx hy ho hq hp ⊢
  all_goals simp only [Int.reduceEq, if_true, if_false, or_true, true_or, or_self, List.nil_append, List.append_nil, List.append_assoc, txB, ms0]
  · obtain ⟨a1, a2, a3, a4⟩ := htx
    obtain ⟨⟨o1, o2⟩, o3⟩ := ho
    rw [rdM_put a1 (by omega), rdM_put (by omega) (by omega)]
    simp only
    rw [rdM_put (by omega) (by omega)]
    have := rdOpsM_put o3 z
    simp only [this, hy, hq.1, bz hq.2, hp.1, hp.2.1, hp.2.2]
    congr 2
    omega
  · obtain ⟨a1, a2, a3, a4⟩ := htx
    rw [rdM_put a1 (by omega), rdM_put (by omega) (by omega)]
    have := rdBitM_put yes z
    simp only [this, ho.1, ho.2, hq.1, bz hq.2, hp.1, hp.2.1, hp.2.2]
  · obtain ⟨a1, a2, a3, a4⟩ := htx
    rw [rdM_put a1 (by omega), rdM_put (by omega) (by omega)]
    have := rdBitM_put yes z
    simp only [this, ho.1, ho.2, hq.1, bz hq.2, hp.1, hp.2.1, hp.2.2]
  · obtain ⟨a1, a2, a3, a4⟩ := htx
    have := rdM_put (x := seq) (n := 2) (by omega) (by omega) z
    rw [rdM_put a1 (by omega), this]
    simp only [hy, ho.1, ho.2, hq.1, bz hq.2, hp.1, hp.2.1, hp.2.2]
  · obtain ⟨a1, a2, a3, a4⟩ := htx
    have := rdM_put (x := seq) (n := 2) (by omega) (by omega) z
    rw [rdM_put a1 (by omega), this]
    simp only [hy, ho.1, ho.2, hq.1, bz hq.2, hp.1, hp.2.1, hp.2.2]
  · obtain ⟨⟨a1, a2⟩, a3⟩ := hq
    have := rdBxM_put a3 z
    rw [rdM_put (by omega) (by omega)]
    simp only [this, htx.1, htx.2, hy, ho.1, ho.2, hp.1, hp.2.1, hp.2.2]
  · obtain ⟨⟨a1, a2⟩, a3⟩ := hq
    obtain ⟨⟨b1, b2⟩, b3, _, b4⟩ := hp
    rw [rdM_put (by omega) (by omega)]
    simp only
    rw [rdBxM_put a3]
    simp only
    rw [rdM_put (by omega) (by omega)]
    simp only
    rw [rdBitM_put]
    have := rdFsM_put b3 b4 z
    simp only [this, htx.1, htx.2, hy, ho.1, ho.2]
theorem rdMsM_put {m : Ms} (h : msOk m) : rdMsM (msB m) = (m, some []) := by
  have := rdMsM_putT h []
  rwa [List.append_nil] at this
theorem msB_pre {m m' : Ms} (h : msOk m) (h' : msOk m') {z : List Nat} (e : msB m ++ z = msB m') : z = [] := by
  have h1 := rdMsM_putT h z
  rw [e, rdMsM_put h'] at h1
  simp only [Prod.mk.injEq, Option.some.injEq] at h1
  exact h1.2.symm
end Go.Proofs.Ytinonmcnofjeeaa.VM
namespace Go.Proofs.Ytinonmcnofjeeaa.VM
attribute [local irreducible] Af Nx EvO Ev Un Gd Cd EvR EvQ EvC Nc Gc Lp EvM NxM AfM GdM EvMR EvMQ EvMD EvMC Nm Gm
section
variable {h : Heap} {B : Nat → Prop}
theorem ms_lvs {m : Ms} {a u a' u' : AV} (la : Lv h B a a') (lu : Lv h B u u') : Lvs h B (msC m a u) (msC m a' u') :=
  .cons .int (.cons .int (.cons .int (.cons .int (.cons .int (.cons .int (.cons .bool (.cons .int (.cons .int (.cons .bool (.cons .int (.cons .int (.cons .int (.cons .int (.cons la (.cons lu .nil)))))))))))))))
end
def mz : Ms := ⟨0, 0, 0, 0, 0, 0, false, 0, 0, false, ⟨0, 0, 0, 0⟩, [], []⟩
open Classical in
noncomputable def gM (s : List Nat) : Ms := if getMok s then rdMs s else mz
open Classical in
noncomputable def gME (s : List Nat) : Int := if getMok s then 0 else 1600
theorem gM_sm {s : List Nat} (hby : By s) : opsSm (gM s).ops ∧ featsSm (gM s).fs := by
  unfold gM
  split
  · exact rdMs_so hby
  · exact ⟨⟨by simp [mz], by simp [mz]⟩, ⟨by simp [mz], by simp [mz]⟩⟩
section
variable {P : Program}
theorem gMsg_cl (g : Pg P tab) {s : List Nat} (hby : By s) (hsl : s.length < 4611686018427387904) {h : Heap} {Q : AV → Heap → Prop} (q : ∀ a u h', Lv h' (h.next ≤ ·) a (cOpsL (gM s).ops) → Lv h' (h.next ≤ ·) u (cFeats (gM s).fs) → Ext h h' → Q (.tup [.agg (msC (gM s) a u), .int .i64 (gME s)]) h') : Cl P 27 [.str s] h Q := by
  refine msg_get g hby hsl (fun ok a u h' la lu x => ?_) fun no h' x => ?_
  · have e1 : gM s = rdMs s := if_pos ok
    have e2 : gME s = 0 := if_pos ok
    rw [e1, e2] at q
    exact q a u h' la lu x
  · have e1 : gM s = mz := if_neg no
    have e2 : gME s = 1600 := if_neg no
    rw [e1, e2] at q
    exact q .nils .nils h' .nils .nils x
/-- what the laws are handed -/
abbrev shMs : List Sh := [.int .i64, .int .i64, .int .i64, .int .i64, .int .i64, .int .i64, .bool, .int .i64, .int .i64, .bool, .int .i64, .int .i64, .int .i64, .int .i64, .sl 112 shOp, .sl 40 shFeat]
theorem wMs {c : List AV} (h : Ws shMs c) : ∃ m a u, c = msC m a u ∧ IsL 112 ROp a m.ops ∧ IsL 40 RFeat u m.fs := by
  cases h with | cons h1 t => cases t with | cons h2 t => cases t with | cons h3 t => cases t with | cons h4 t => cases t with | cons h5 t => cases t with | cons h6 t => cases t with | cons h7 t => cases t with | cons h8 t => cases t with | cons h9 t => cases t with | cons h10 t => cases t with | cons h11 t => cases t with | cons h12 t => cases t with | cons h13 t => cases t with | cons h14 t => cases t with | cons h15 t => cases t with | cons h16 t =>
    cases t; cases h1 with | int _ n1 w1 => cases h2 with | int _ n2 w2 => cases h3 with | int _ n3 w3 => cases h4 with | int _ n4 w4 => cases h5 with | int _ n5 w5 => cases h6 with | int _ n6 w6 => cases h7 with | bool b7 => cases h8 with | int _ n8 w8 => cases h9 with | int _ n9 w9 => cases h10 with | bool b10 => cases h11 with | int _ n11 w11 => cases h12 with | int _ n12 w12 => cases h13 with | int _ n13 w13 => cases h14 with | int _ n14 w14 =>
      obtain ⟨l15, e15⟩ := h15.isL wOp
      obtain ⟨l16, e16⟩ := h16.isL wFeat
      exact ⟨⟨n1, n2, n3, n4, n5, n6, b7, n8, n9, b10, ⟨n11, n12, n13, n14⟩, l15, l16⟩, _, _, rfl, e15, e16⟩
end
end Go.Proofs.Ytinonmcnofjeeaa.VM
namespace Go.Proofs.Ytinonmcnofjeeaa.VM
attribute [local irreducible] Af Nx EvO Ev Un Gd Cd EvR EvQ EvC Nc Gc Lp EvM NxM AfM GdM EvMR EvMQ EvMD EvMC Nm Gm
section
variable {P : Program} {h : Heap} {s : T AV} {S : List Nat}
theorem mb_end (g : Pg P tab) (hby : By S) (hsl : S.length < 4611686018427387904) (t1 : sg s 1 = .str S) : Ev P (rst 4 v7.body) s h (Un P [] (Fin v7.res fun v h' => Tl h' v fun v => v = .bool true)) := by
  simp only [v7, rst, t1, RX, VOp.fresh, bxC, bsC, un, most, callsOf, seval, Int.reducePow, ↓reduceIte, Nat.reduceEqDiff, reduceCtorEq]
  refine gMsg_cl g hby hsl fun v1 v2 h2 l1 l2 x2 => ?_
  have sm := gM_sm hby
  have o1 := l1.one_row
  have o2 := l2.one_row
  simp only [msC, RW, o1, o2, RX, VOp.fresh, bxC, bsC, un, most, callsOf, seval, Int.reducePow, ↓reduceIte, Nat.reduceEqDiff, reduceCtorEq]
  refine (num_pu g _).go rfl ?_
  rintro v rfl
  have E := Ext.new (h := h2) (o := .cells zMs 63 0) (o' := .cells (msC (gM S) v1 v2) 63 1)
  by_cases ok : getMok S
  · have e1 : gM S = rdMs S := if_pos ok
    have e2 : gME S = 0 := if_pos ok
    rw [e1] at l1 l2 sm E ⊢
    have pp := msgPut_good g (cOpsL_is sm.1) (cFeats_is sm.2) ok.1
    simp only [e2, RX, VOp.fresh, bxC, bsC, un, most, callsOf, seval, Int.reducePow, ↓reduceIte, Nat.reduceEqDiff, reduceCtorEq]
    refine pp.cl (.cons (.agg (ms_lvs (l1.frame E.1 fun b _ hb => E.2 b hb) (l2.frame E.1 fun b _ hb => E.2 b hb)).fzs) .nil) ?_
    rintro v rfl
    have : msAns (rdMs S) = .tup [.str S, .int .i64 0] := by unfold msAns; rw [ok.2.1, if_pos ok.2.2]
    rw [this]
    simp only [RX, VOp.fresh, bxC, bsC, un, most, callsOf, seval, Int.reducePow, ↓reduceIte, Nat.reduceEqDiff, reduceCtorEq]
    refine (num_pu g _).go rfl ?_
    rintro v rfl
    simp only [t1, RX, VOp.fresh, bxC, bsC, un, most, callsOf, seval, Int.reducePow, ↓reduceIte, Nat.reduceEqDiff, reduceCtorEq]
  · have e1 : gM S = mz := if_neg ok
    have e2 : gME S = 1600 := if_neg ok
    rw [e1] at l1 l2 ⊢
    have n1 : v1 = .nils := l1.nils_inv
    have n2 : v2 = .nils := l2.nils_inv
    rw [n1, n2]
    simp only [e2, mz, RX, VOp.fresh, bxC, bsC, un, most, callsOf, seval, Int.reducePow, ↓reduceIte, Nat.reduceEqDiff, reduceCtorEq]
theorem umod (x : Int) {L : Nat} (h0 : 0 < L) (h1 : L < 4611686018427387904) : ∃ r : Nat, r < L ∧ IntKind.u64.wrap (L : Int) = (L : Int) ∧ IntKind.u64.wrap ((IntKind.u64.wrap x).tmod (L : Int)) = (r : Int) ∧ (IntKind.u64.wrap x).tmod (L : Int) = (r : Int) ∧ IntKind.i64.wrap (r : Int) = (r : Int) := by
  have e1 : IntKind.u64.wrap x = x % 18446744073709551616 := IntKind.wrap_u64 x
  obtain ⟨n, hn⟩ : ∃ n : Nat, x % 18446744073709551616 = (n : Int) := ⟨(x % 18446744073709551616).toNat, by omega⟩
  have e2 : (IntKind.u64.wrap x).tmod (L : Int) = ((n % L : Nat) : Int) := by rw [e1, hn]; exact Int.ofNat_tmod n L
  have hr := Nat.mod_lt n h0
  refine ⟨n % L, hr, wu64 (by omega) (by omega), ?_, e2, w64 (by omega) (by omega)⟩
  rw [e2]
  exact wu64 (by omega) (by omega)
theorem slice_hi {s : List Nat} {n : Nat} (hn : n ≤ s.length) : sliceS (.str s) none (some (.int .i64 (n : Int))) = some (.str (s.take n)) := by
  have : ((n : Nat) : Int) ≤ ((s.length : Nat) : Int) := by omega
  simp [sliceS, bounds, natOf, this]
theorem messageBack_pu (g : Pg P tab) {m : Ms} {a u : AV} (ha : IsL 112 ROp a m.ops) (hu : IsL 40 RFeat u m.fs) (hby : By S) (hsl : S.length < 4611686018427387904) (cut : Int) : Pu P 7 [.agg (msC m a u), .str S, .int .i64 cut] (fun v => v = .bool true) := by
  have oa := isL_1 ha
  have ou := isL_1 hu
  have tc : AV.tolds [.agg (msC m a u)] = true := by simp [AV.tolds, AV.told, tolds_ms ha hu]
  refine g.pu (vf := v7) rfl rfl ?_
  have e : v7.body = .seq (blk 0 v7.body) (.seq (blk 1 v7.body) (.seq (blk 2 v7.body) (.seq (blk 3 v7.body) (rst 4 v7.body)))) := rfl
  rw [e]
  generalize hR : rst 4 v7.body = R
  simp only [v7, blk, RX, VOp.fresh, bxC, bsC, un, most, callsOf, seval, Int.reducePow, ↓reduceIte, Nat.reduceEqDiff, reduceCtorEq]
  refine (awake16_pu g).go rfl ?_
  rintro v rfl
  simp only [msC, RX, VOp.fresh, bxC, bsC, un, most, callsOf, seval, Int.reducePow, ↓reduceIte, Nat.reduceEqDiff, reduceCtorEq]
  by_cases ok : msOk m ∧ (msB m).length ≤ 16384
  · have pp := msgPut_good g ha hu ok.1
    unfold msAns at pp
    rw [if_pos ok.2] at pp
    refine pp.go tc ?_
    rintro v rfl
    simp only [RX, VOp.fresh, bxC, bsC, un, most, callsOf, seval, Int.reducePow, ↓reduceIte, Nat.reduceEqDiff, reduceCtorEq]
    refine (num_pu g _).go rfl ?_
    rintro v rfl
    simp only [RX, VOp.fresh, bxC, bsC, un, most, callsOf, seval, Int.reducePow, ↓reduceIte, Nat.reduceEqDiff, reduceCtorEq]
    have bym := By.ms m
    have hl := ok.2
    have g1 : getMok (msB m) := by unfold getMok; rw [rdMs_put ok.1]; exact ⟨ok.1, rfl, hl⟩
    have e1 : gM (msB m) = m := by rw [gM, if_pos g1, rdMs_put ok.1]
    have e2 : gME (msB m) = 0 := if_pos g1
    refine gMsg_cl g bym (by omega) fun v1 v2 h2 l1 l2 x2 => ?_
    rw [e1] at l1 l2 ⊢
    rw [e2]
    have o1 := l1.one_row
    have o2 := l2.one_row
    have H2 : Has h2 [(0, msC m a u)] := (Has.nil.mk (Nat.le_refl _)).ext x2
    have c1 : (msB m).length + 1 < 140737488355328 := by omega
    simp only [msC, RW, o1, o2, c1, RX, VOp.fresh, bxC, bsC, un, most, callsOf, seval, Int.reducePow, ↓reduceIte, Nat.reduceEqDiff, reduceCtorEq]
    have g3 : ¬ getMok (msB m ++ [120]) := fun c => by
      have := msB_pre ok.1 c.1 c.2.1.symm
      cases this
    have e3 : gM (msB m ++ [120]) = mz := if_neg g3
    have e4 : gME (msB m ++ [120]) = 1600 := if_neg g3
    refine gMsg_cl g (bym.app (fun x hx => by rw [List.mem_singleton.1 hx]; decide)) (by rw [List.length_append, List.length_singleton]; omega) fun n1 n2 h4 k1 k2 x4 => ?_
    rw [e3] at k1 k2 ⊢
    rw [e4]
    rw [show n1 = .nils from k1.nils_inv, show n2 = .nils from k2.nils_inv]
    have H4 : Has h4 [(h2.next, msC m v1 v2), (0, msC m a u)] := H2.new.ext x4
    obtain ⟨e0, v0, g0⟩ := H4.get (b := 0) (.tail _ (.head _))
    obtain ⟨ex, vx, gx⟩ := H4.get (b := h2.next) (.head _)
    have y0 := H4.lt (b := 0) (.tail _ (.head _))
    have yx := H4.lt (b := h2.next) (.head _)
    have z0 : ¬ 0 = h4.next := by omega
    have zx : ¬ h2.next = h4.next := by omega
    have l14 := (l1.frame Ext.new.1 fun b _ hb => Ext.new.2 b hb).frame x4.1 fun b _ hb => x4.2 b hb
    have l24 := (l2.frame Ext.new.1 fun b _ hb => Ext.new.2 b hb).frame x4.1 fun b _ hb => x4.2 b hb
    have E := Ext.new (h := h4) (o := .cells zMs 63 0) (o' := .cells zMs 63 1)
    simp only [msC, RW, mz, RX, VOp.fresh, bxC, bsC, un, most, callsOf, seval, Int.reducePow, ↓reduceIte, Nat.reduceEqDiff, reduceCtorEq]
    refine (num_pu g _).go rfl ?_
    rintro v rfl
    simp only [msC, g0, gx, z0, zx, RX, VOp.fresh, bxC, bsC, un, most, callsOf, seval, Int.reducePow, ↓reduceIte, Nat.reduceEqDiff, reduceCtorEq]
    have sm := gM_sm bym
    rw [e1] at sm
    refine (sMsg_pu g (cOpsL_is sm.1) (cFeats_is sm.2) ha hu).cl (.cons (.agg (ms_lvs (l14.frame E.1 fun b _ hb => E.2 b hb) (l24.frame E.1 fun b _ hb => E.2 b hb)).fzs) (Fzs.refl tc)) ?_
    rintro v rfl
    simp only [RX, VOp.fresh, bxC, bsC, un, most, callsOf, seval, Int.reducePow, ↓reduceIte, Nat.reduceEqDiff, reduceCtorEq]
    refine (num_pu g _).go rfl ?_
    rintro v rfl
    have hpos : 0 < (msB m).length := by rw [msB]; simp
    obtain ⟨r, hr, r1, r2, r3, r4⟩ := umod cut hpos (by omega)
    have hne : ¬ ((msB m).length : Int) = 0 := by omega
    have hb : bin .rem (.int .u64 (IntKind.u64.wrap cut)) (.int .u64 ((msB m).length : Int)) = some (.int .u64 (r : Int)) := by
      show (if ((msB m).length : Int) = 0 then none else some (AV.int .u64 ((IntKind.u64.wrap cut).tmod ((msB m).length : Int)))) = _
      rw [if_neg hne, r3]
    simp only [msB_ne m, hne, hb, r1, r2, r3, r4, slice_hi (Nat.le_of_lt hr), RX, VOp.fresh, bxC, bsC, un, most, callsOf, seval, Int.reducePow, ↓reduceIte, Nat.reduceEqDiff, reduceCtorEq]
    have g5 : ¬ getMok ((msB m).take r) := fun c => by
      have := msB_pre c.1 ok.1 (z := (msB m).drop r) (by rw [c.2.1, List.take_append_drop])
      have := congrArg List.length this
      rw [List.length_drop, List.length_nil] at this
      omega
    have e5 : gM ((msB m).take r) = mz := if_neg g5
    have e6 : gME ((msB m).take r) = 1600 := if_neg g5
    refine gMsg_cl g (bym.take r) (by rw [List.length_take]; omega) fun n1 n2 h6 k1 k2 x6 => ?_
    rw [e5] at k1 k2 ⊢
    rw [e6]
    rw [show n1 = .nils from k1.nils_inv, show n2 = .nils from k2.nils_inv]
    simp only [msC, mz, RW, RX, VOp.fresh, bxC, bsC, un, most, callsOf, seval, Int.reducePow, ↓reduceIte, Nat.reduceEqDiff, reduceCtorEq]
    refine (num_pu g _).go rfl ?_
    rintro v rfl
    simp only [RX, VOp.fresh, bxC, bsC, un, most, callsOf, seval, Int.reducePow, ↓reduceIte, Nat.reduceEqDiff, reduceCtorEq]
    rw [← hR]
    exact mb_end g hby hsl (by simp only [sg_set, Nat.reduceEqDiff, ↓reduceIte])
  · have pp : Pu P 25 [.agg (msC m a u)] (fun v => v = .tup [.str [], .int .i64 1600]) := by
      by_cases o : msOk m
      · have pp := msgPut_good g ha hu o
        unfold msAns at pp
        rwa [if_neg (fun c => ok ⟨o, c⟩)] at pp
      · exact msgPut_bad g ha hu o
    refine pp.go tc ?_
    rintro v rfl
    simp only [RX, VOp.fresh, bxC, bsC, un, most, callsOf, seval, Int.reducePow, ↓reduceIte, Nat.reduceEqDiff, reduceCtorEq]
    refine (num_pu g _).go rfl ?_
    rintro v rfl
    simp only [RX, VOp.fresh, bxC, bsC, un, most, callsOf, seval, Int.reducePow, ↓reduceIte, Nat.reduceEqDiff, reduceCtorEq]
    rw [← hR]
    exact mb_end g hby hsl (by simp only [sg_set, Nat.reduceEqDiff, ↓reduceIte])
end
end Go.Proofs.Ytinonmcnofjeeaa.VM
