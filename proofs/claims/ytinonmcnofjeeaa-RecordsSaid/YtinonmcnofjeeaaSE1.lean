/- Calls that leave memory as it is: their arguments read as values, what they make told as values. -/
import Derived.Test.YtinonmcnofjeeaaSE0
namespace Go.Proofs.Ytinonmcnofjeeaa.VM
set_option linter.unusedSimpArgs false
set_option linter.unusedVariables false
set_option linter.defProp false
set_option maxHeartbeats 1000000
open Go.RowKit

mutual
/-- A value with what it reaches, told without memory. 'r': may it reach memory that is told already? -/
inductive Fz (r : Bool) (h : Heap) : AV → AV → Prop
  | undef : Fz r h .undef .undef
  | bool (b : Bool) : Fz r h (.bool b) (.bool b)
  | int (k : IntKind) (n : Int) : Fz r h (.int k n) (.int k n)
  | str (s : List Nat) : Fz r h (.str s) (.str s)
  | nilp : Fz r h .nilp .nilp
  | nils : Fz r h .nils .nils
  | nilm : Fz r h .nilm .nilm
  | nilf : Fz r h .nilf .nilf
  | sl {b off len cap sz : Nat} {l cs cs' : List AV} {e : TypeId} {ver : Nat} (hl : 0 < len) (hg : h.get b = some (.cells l e ver)) (hc : cut l off (len * sz) = some cs) (t : Fzs r h cs cs') : Fz r h (.sl b off len cap sz) (.rs cs' len)
  | sl0 {b off cap sz : Nat} : Fz r h (.sl b off 0 cap sz) (.rs [] 0)
  | ptr {b off : Nat} {l cs' : List AV} {e : TypeId} {ver : Nat} (hg : h.get b = some (.cells l e ver)) (t : Fzs r h (l.drop off) cs') : Fz r h (.ptr b off) (.rp cs')
  | agg {l l' : List AV} (t : Fzs r h l l') : Fz r h (.agg l) (.agg l')
  | tup {l l' : List AV} (t : Fzs r h l l') : Fz r h (.tup l) (.tup l')
  | fn {f : Nat} {l l' : List AV} (t : Fzs r h l l') : Fz r h (.fn f l) (.fn f l')
  | rs0 {l : List AV} : Fz r h (.rs l 0) (.rs [] 0)
  | rs {l l' : List AV} {len : Nat} (hr : r = true) (t : Fzs r h l l') : Fz r h (.rs l len) (.rs l' len)
  | rp {l l' : List AV} (hr : r = true) (t : Fzs r h l l') : Fz r h (.rp l) (.rp l')
inductive Fzs (r : Bool) (h : Heap) : List AV → List AV → Prop
  | nil : Fzs r h [] []
  | cons {x y : AV} {l k : List AV} (f : Fz r h x y) (t : Fzs r h l k) : Fzs r h (x :: l) (y :: k)
end

section
variable {r : Bool} {h : Heap} {φ ψ : Env} {w : World}
theorem VRm.cut {l cs : List AV} {B off i n : Nat} (h : VRm φ w l B off) (e : VM.cut l i n = some cs) : VRm φ w cs B (off + i) := by
  obtain ⟨rfl, _⟩ := cut_spec e
  exact (h.drop i).take n

mutual
theorem Fz.vr (hr : HR φ w h) (hψ : ∀ b B o, φ b = some (B, o) → ∀ c p, ψ c = some p → p.1 ≠ B) (hrs : r = true → ∀ c, ψ c = none) : ∀ {x y : AV} {u : Value}, Fz r h x y → VR φ w x u → VR ψ w y u
  | _, _, _, .undef, .undef => .undef
  | _, _, _, .bool _, .bool b => .bool b
  | _, _, _, .int _ _, .int k n => .int k n
  | _, _, _, .str _, .str s => .str s
  | _, _, _, .nilp, .nilp => .nilp
  | _, _, _, .nils, .nils => .nils
  | _, _, _, .nilm, .nilm => .nilm
  | _, _, _, .nilf, .nilf => .nilf
  | _, _, _, .sl hl hg hc t, .sl hb hcap hlen hs hsz => by
    obtain ⟨B', o', e', n, q1, q2, q3, q4, q5⟩ := hr.cells hg
    rw [hb] at q1
    cases q1
    exact .rs (by omega) (hψ _ _ _ hb) (hr.lt _ _ hb) (Fzs.vrm hr hψ hrs t (q3.cut hc))
  | _, _, _, .sl hl _ _ _, .sl0 a => absurd hl (by omega)
  | _, _, _, .sl0, .sl _ _ _ _ _ => .rs0 _ _
  | _, _, _, .sl0, .sl0 a => .rs0 _ _
  | _, _, _, .ptr hg t, .ptr hb => by
    obtain ⟨B', o', e', n, q1, q2, q3, q4, q5⟩ := hr.cells hg
    rw [hb] at q1
    cases q1
    exact .rp (hψ _ _ _ hb) (hr.lt _ _ hb) (Fzs.vrm hr hψ hrs t (q3.drop _))
  | _, _, _, .agg t, .agg hv => .agg (Fzs.vrs hr hψ hrs t hv)
  | _, _, _, .tup t, .tup hv => .tup (Fzs.vrs hr hψ hrs t hv)
  | _, _, _, .fn t, .fn hv => .fn (Fzs.vrs hr hψ hrs t hv)
  | _, _, _, .rs0, .rs _ _ _ _ => .rs0 _ _
  | _, _, _, .rs0, .rs0 _ _ => .rs0 _ _
  | _, _, _, .rs hR t, .rs hl hB hlt hm => .rs hl (fun b p hb => by rw [hrs hR] at hb; cases hb) hlt (Fzs.vrm hr hψ hrs t hm)
  | _, _, _, .rs hR t, .rs0 a c => by cases t; exact .rs0 _ _
  | _, _, _, .rp hR t, .rp hB hlt hm => .rp (fun b p hb => by rw [hrs hR] at hb; cases hb) hlt (Fzs.vrm hr hψ hrs t hm)
theorem Fzs.vrs (hr : HR φ w h) (hψ : ∀ b B o, φ b = some (B, o) → ∀ c p, ψ c = some p → p.1 ≠ B) (hrs : r = true → ∀ c, ψ c = none) : ∀ {x y : List AV} {u : List Value}, Fzs r h x y → VRs φ w x u → VRs ψ w y u
  | _, _, _, .nil, .nil => .nil
  | _, _, _, .cons f t, .cons hv tv => .cons (Fz.vr hr hψ hrs f hv) (Fzs.vrs hr hψ hrs t tv)
theorem Fzs.vrm (hr : HR φ w h) (hψ : ∀ b B o, φ b = some (B, o) → ∀ c p, ψ c = some p → p.1 ≠ B) (hrs : r = true → ∀ c, ψ c = none) : ∀ {x y : List AV} {B off : Nat}, Fzs r h x y → VRm φ w x B off → VRm ψ w y B off
  | _, _, _, _, .nil, .nil => .nil
  | _, _, _, _, .cons f t, .cons hc hv tv => .cons hc (Fz.vr hr hψ hrs f hv) (Fzs.vrm hr hψ hrs t tv)
end
end

section
variable {P : Program}
/-- what stays stays -/
theorem HR.same {φ : Env} {w w' : World} {h : Heap} {φ' : Env} (hr : HR φ w h) (u : Upd none0 w φ' w') : HR φ w' h ∧ UpdH φ w h φ w' h := by
  have hk : ∀ B, B < w.heap.size → w'.heap[B]? = w.heap[B]? := fun B hB => u.keep B hB fun _ _ e => by cases e
  have hu : Upd φ w φ w' := ⟨u.os, u.tape, u.output, u.size, fun _ _ e => e, fun _ _ _ e => .inl ⟨_, _, e⟩, fun B hB _ => hk B hB, u.shape⟩
  refine ⟨⟨fun b => ?_, fun b p e => Nat.lt_of_lt_of_le (hr.lt b p e) u.size, hr.inj, hr.next⟩, UpdH.same _ _ hu hk⟩
  cases hl : live (h.get b) with
  | true => exact BR.upd hr hu hl fun p hp => hk _ (hr.lt _ _ hp)
  | false =>
    have := hr.blk b
    cases hg : h.get b with
    | none => rw [hg] at this; exact this
    | some o =>
      cases o with
      | dead => trivial
      | _ => rw [hg] at hl; cases hl

/-- A call that was shown in an empty memory, its arguments told as values, is one in every memory, which it leaves. -/
theorem OK.pure {f : Nat} {args args' : List AV} {h h0 : Heap} {v v' : AV} (ha : Fzs true h args args') (o : OK P f args' ⟨0, .e⟩ v h0) (hv : Fz false h0 v v') : OK P f args h v' h := by
  refine ⟨o.1, fun φ w us hr hus => ?_⟩
  have hus' : VRs none0 w args' us.toList := Fzs.vrs hr (fun _ _ _ _ c p e => by cases e) (fun _ _ => rfl) ha hus
  refine Calls.mono (o.2 none0 w us (hr_empty w) hus') ?_
  rintro e w' ⟨φ', u, rfl, hvu, hr', hu⟩
  obtain ⟨h1, h2⟩ := hr.same hu.toUpd
  refine ⟨φ, u, rfl, Fz.vr hr' ?_ (fun e => by cases e) hv hvu, h1, h2⟩
  intro b B o hb c p hc e
  rcases hu.new b B o hb with ⟨b0, o0, e0⟩ | h0
  · cases e0
  · have := hr.lt c p hc
    omega
/-- the same, freely -/
def Pu (P : Program) (f : Nat) (args : List AV) (Q : AV → Prop) : Prop := ∃ v v' h0, OK P f args ⟨0, .e⟩ v h0 ∧ Fz false h0 v v' ∧ Q v'
theorem Pu.cl {f : Nat} {args args' : List AV} {h : Heap} {Q : AV → Prop} (p : Pu P f args' Q) (ha : Fzs true h args args') {R : AV → Heap → Prop} (k : ∀ v, Q v → R v h) : Cl P f args h R :=
  let ⟨_, v', _, o, hf, q⟩ := p
  ⟨v', h, o.pure ha hf, k v' q⟩
theorem Pu.mono {f : Nat} {args : List AV} {Q R : AV → Prop} (p : Pu P f args Q) (k : ∀ v, Q v → R v) : Pu P f args R :=
  let ⟨v, v', h0, o, hf, q⟩ := p
  ⟨v, v', h0, o, hf, k v' q⟩
theorem Pu.of {f : Nat} {args : List AV} {Q : AV → Prop} (c : Cl P f args ⟨0, .e⟩ fun v h' => ∃ v', Fz false h' v v' ∧ Q v') : Pu P f args Q :=
  let ⟨v, h', o, v', hf, q⟩ := c
  ⟨v, v', h', o, hf, q⟩

/-! values that are told already -/
mutual
def AV.told : AV → Bool
  | .ptr .. | .sl .. | .map _ => false
  | .fn _ l | .agg l | .tup l | .rs l _ | .rp l => AV.tolds l
  | _ => true
def AV.tolds : List AV → Bool
  | [] => true
  | x :: l => x.told && AV.tolds l
end
mutual
theorem Fz.refl {h : Heap} : ∀ {x : AV}, x.told = true → Fz true h x x
  | .undef, _ => .undef
  | .bool b, _ => .bool b
  | .int k n, _ => .int k n
  | .str s, _ => .str s
  | .ptr _ _, e => by simp [AV.told] at e
  | .nilp, _ => .nilp
  | .sl .., e => by simp [AV.told] at e
  | .nils, _ => .nils
  | .map _, e => by simp [AV.told] at e
  | .nilm, _ => .nilm
  | .fn f l, e => .fn (Fzs.refl (by simpa [AV.told] using e))
  | .nilf, _ => .nilf
  | .agg l, e => .agg (Fzs.refl (by simpa [AV.told] using e))
  | .tup l, e => .tup (Fzs.refl (by simpa [AV.told] using e))
  | .rs l n, e => .rs rfl (Fzs.refl (by simpa [AV.told] using e))
  | .rp l, e => .rp rfl (Fzs.refl (by simpa [AV.told] using e))
theorem Fzs.refl {h : Heap} : ∀ {l : List AV}, AV.tolds l = true → Fzs true h l l
  | [], _ => .nil
  | x :: l, e => by
    simp only [AV.tolds, Bool.and_eq_true] at e
    exact .cons (Fz.refl e.1) (Fzs.refl e.2)
end
end
end Go.Proofs.Ytinonmcnofjeeaa.VM
