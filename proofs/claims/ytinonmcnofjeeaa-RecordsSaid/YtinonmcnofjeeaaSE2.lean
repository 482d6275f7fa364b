/- Running the small machine's code by rewriting. -/
import Derived.Test.YtinonmcnofjeeaaSE1
namespace Go.Proofs.Ytinonmcnofjeeaa.VM
set_option linter.unusedSimpArgs false
set_option linter.unusedVariables false
set_option linter.defProp false
set_option maxHeartbeats 1000000
open Go.RowKit

/-- under a guard -/
def Gd (P : Program) (x : AV) (w : Bool) (d : Option Nat) (op : VOp) (l : List VO) (s : T AV) (h : Heap) (Q : T AV → Heap → Prop) : Prop := match x with
  | .bool b => if b = w then EvO P (⟨d, none, op⟩ :: l) s h Q else EvO P l (setd s d .undef) h Q
  | _ => EvO P l (setd s d .undef) h Q
/-- at a condition -/
def Cd (P : Program) (x : AV) (a b : VCode) (s : T AV) (h : Heap) (Q : Ex → T AV → Heap → Prop) : Prop := match x with
  | .bool c => if c = true then Ev P a s h Q else Ev P b s h Q
  | _ => False
/-- at a function's end -/
def Fi (v : Option AV) (h : Heap) (Q : AV → Heap → Prop) : Prop := match v with
  | some v => Q v h
  | none => False
def ldB (agg : Bool) (off n : Nat) (h : Heap) : Option Blk → Out
  | some (.cells l _ _) => valO h (part agg l off n)
  | _ => .fail
def stB (h : Heap) : Option Heap → Out
  | some h => .val .undef h
  | none => .fail
def stC (h : Heap) (b off n : Nat) : Option (List AV) → Out
  | some c => if c.length = n then stB h (writeAt h b off c) else .fail
  | none => .fail
def bxC (h : Heap) (nm : Nat) (e : TypeId) : Option (List AV) → Out
  | some c => .val (.ptr nm 0) (h.mk' nm (.cells c e 0))
  | none => .fail
def bsC (h : Heap) (nm : Nat) (len sz : Nat) (e : TypeId) : Option (List AV) → Out
  | some cs => .val (.sl nm 0 len len sz) (h.mk' nm (.cells cs e 0))
  | none => .fail
def pk (h : Heap) (c a b : AV) : Out := match c with
  | .bool c => .val (if c = true then a else b) h
  | _ => .fail
def lkB (c : EqC) (zero : AV) (ok : Bool) (h : Heap) (i : AV) : Option Blk → Out
  | some (.map es _) => match findE c i es with
    | some r => .val (if ok then .tup [r.getD zero, .bool r.isSome] else r.getD zero) h
    | none => .fail
  | _ => .fail

def NxM (P : Program) (base i : Nat) (d : Option Nat) (l : List VO) (s : T AV) (h : Heap) (Q : T AV → Heap → Prop) : Out → Prop
  | .val v h' => EvM P base l i (setd s d v) h' Q
  | .fail => False
  | .enter f args => Cl P f args h fun v h' => EvM P base l i (setd s d v) h' Q
def AfM (P : Program) (base i : Nat) (d : Option Nat) (l : List VO) (s : T AV) (Q : T AV → Heap → Prop) : AV → Heap → Prop := fun v h' => EvM P base l i (setd s d v) h' Q
def GdM (P : Program) (base i : Nat) (x : AV) (w : Bool) (d : Option Nat) (op : VOp) (l : List VO) (s : T AV) (h : Heap) (Q : T AV → Heap → Prop) : Prop := match x with
  | .bool b => if b = w then EvM P base (⟨d, none, op⟩ :: l) i s h Q else EvM P base l (i + 1) (setd s d .undef) h Q
  | _ => EvM P base l (i + 1) (setd s d .undef) h Q
def rsv (base i : Nat) (op : VOp) (h : Heap) : Heap := bif op.fresh then h.mk' (base + i) .dead else h
section
variable {P : Program} {s : T AV} {h : Heap} {Q : T AV → Heap → Prop} {K : Ex → T AV → Heap → Prop} {k : List Fr} {l : List VO} {d : Option Nat} {nm : Nat}
theorem evo_nil : EvO P [] s h Q = Q s h := by rw [EvO]
theorem evo_go {op : VOp} : EvO P (⟨d, none, op⟩ :: l) s h Q = Nx P d l s h Q (vop ⟨s, h⟩ h.next op) := by
  rw [EvO]
  show (bif true then _ else _) = _
  rw [cond_true]
  cases vop ⟨s, h⟩ h.next op <;> rfl
theorem evo_gd {t : Nat} {w : Bool} {op : VOp} : EvO P (⟨d, some (t, w), op⟩ :: l) s h Q = Gd P (sg s t) w d op l s h Q := by
  rw [EvO]
  show (bif (match St.get ⟨s, h⟩ t with | .bool b => b == w | _ => false) then _ else _) = _
  rw [stget_eq]
  unfold Gd
  cases sg s t <;> try rfl
  rename_i b
  simp only [EvO]
  cases b <;> cases w <;> rfl
theorem ite_and {c : Prop} [Decidable c] {a b : Prop} : (if c then a else b) = ((c → a) ∧ (¬ c → b)) := by
  by_cases e : c <;> simp [e]
theorem gd_tt {op : VOp} : Gd P (.bool true) true d op l s h Q = EvO P (⟨d, none, op⟩ :: l) s h Q := rfl
theorem gd_tf {op : VOp} : Gd P (.bool true) false d op l s h Q = EvO P l (setd s d .undef) h Q := rfl
theorem gd_ft {op : VOp} : Gd P (.bool false) true d op l s h Q = EvO P l (setd s d .undef) h Q := rfl
theorem gd_ff {op : VOp} : Gd P (.bool false) false d op l s h Q = EvO P (⟨d, none, op⟩ :: l) s h Q := rfl
theorem gd_t {p : Prop} [Decidable p] {op : VOp} : Gd P (.bool (decide p)) true d op l s h Q = ((p → EvO P (⟨d, none, op⟩ :: l) s h Q) ∧ (¬ p → EvO P l (setd s d .undef) h Q)) := by
  by_cases e : p <;> simp [Gd, e]
theorem gd_f {p : Prop} [Decidable p] {op : VOp} : Gd P (.bool (decide p)) false d op l s h Q = ((¬ p → EvO P (⟨d, none, op⟩ :: l) s h Q) ∧ (p → EvO P l (setd s d .undef) h Q)) := by
  by_cases e : p <;> simp [Gd, e]
theorem gd_undef {w : Bool} {op : VOp} : Gd P .undef w d op l s h Q = EvO P l (setd s d .undef) h Q := rfl
theorem nx_val {v : AV} {h' : Heap} : Nx P d l s h Q (.val v h') = EvO P l (setd s d v) h' Q := rfl
theorem nx_fail : Nx P d l s h Q .fail = False := rfl
theorem nx_enter {f : Nat} {args : List AV} : Nx P d l s h Q (.enter f args) = Cl P f args h (Af P d l s Q) := rfl
theorem nx_ite {c : Prop} [Decidable c] {a b : Out} : Nx P d l s h Q (if c then a else b) = ((c → Nx P d l s h Q a) ∧ (¬ c → Nx P d l s h Q b)) := by by_cases e : c <;> simp [e]
theorem af_go {v : AV} {h' : Heap} : Af P d l s Q v h' = EvO P l (setd s d v) h' Q := rfl
theorem setd_some {n : Nat} {v : AV} : setd s (some n) v = s.set n v := rfl
theorem setd_none {v : AV} : setd s none v = s := rfl
theorem ev_t {n : Nat} : ev s (.t n) = sg s n := rfl
theorem ev_c {v : AV} : ev s (.c v) = v := rfl

theorem ev_skip : Ev P .skip s h K = K .normal s h := by rw [Ev]
theorem ev_ops : Ev P (.ops l) s h K = EvO P l s h (K .normal) := by rw [Ev]
theorem ev_drawn {lo : List (Nat × List Nat)} : Ev P (.drawn l lo) s h K = EvR P l lo s h (K .normal) := by rw [Ev]
theorem evr_loose {p : Nat × List Nat} {lo : List (Nat × List Nat)} : EvR P l (p :: lo) s h Q = EvD P l (p :: lo) s h Q := if_neg (by simp [quietR])
def EvQ (P : Program) (q : Option (List Nat)) (l : List VO) (s : T AV) (h : Heap) (Q : T AV → Heap → Prop) : Prop := if q.isSome = true then EvO P l s h Q else EvD P l [] s h Q
theorem evr_quiet : EvR P l [] s h Q = EvQ P (callsOf l) l s h Q := by
  unfold EvR EvQ quietR
  simp only [List.isEmpty_nil, Bool.true_and]
theorem evq_some {q : List Nat} : EvQ P (some q) l s h Q = EvO P l s h Q := rfl
theorem evq_none : EvQ P none l s h Q = EvD P l [] s h Q := rfl
theorem ev_mixed {lo : List (Nat × List Nat)} : Ev P (.mixed l lo) s h K = EvMR P l lo s h (K .normal) := by rw [Ev]
theorem evmr_loose {p : Nat × List Nat} {lo : List (Nat × List Nat)} : EvMR P l (p :: lo) s h Q = EvMD P l (p :: lo) s h Q := if_neg (by simp [quietR])
def EvMQ (P : Program) (q : Option (List Nat)) (l : List VO) (s : T AV) (h : Heap) (Q : T AV → Heap → Prop) : Prop := if q.isSome = true then EvM P h.next l 0 s (reserve h.next l 0 h) Q else EvMD P l [] s h Q
theorem evmr_quiet : EvMR P l [] s h Q = EvMQ P (callsOf l) l s h Q := by
  unfold EvMR EvMQ quietR
  simp only [List.isEmpty_nil, Bool.true_and]
theorem evmq_some {q : List Nat} : EvMQ P (some q) l s h Q = EvM P h.next l 0 s (reserve h.next l 0 h) Q := rfl
theorem evmq_none : EvMQ P none l s h Q = EvMD P l [] s h Q := rfl
theorem res_nil {base i : Nat} : reserve base [] i h = h := rfl
theorem res_cons {base i : Nat} {o : VO} : reserve base (o :: l) i h = reserve base l (i + 1) (rsv base i o.op h) := by
  rw [reserve]
  rfl
theorem evm_nil {base i : Nat} : EvM P base [] i s h Q = Q s h := by rw [EvM]
theorem evm_go {base i : Nat} {op : VOp} : EvM P base (⟨d, none, op⟩ :: l) i s h Q = NxM P base (i + 1) d l s h Q (vop ⟨s, h⟩ (nmA base i op h) op) := by
  rw [EvM]
  show (bif true then _ else _) = _
  rw [cond_true]
  cases vop ⟨s, h⟩ (nmA base i op h) op <;> rfl
theorem evm_gd {base i : Nat} {t : Nat} {w : Bool} {op : VOp} : EvM P base (⟨d, some (t, w), op⟩ :: l) i s h Q = GdM P base i (sg s t) w d op l s h Q := by
  rw [EvM]
  show (bif (match St.get ⟨s, h⟩ t with | .bool b => b == w | _ => false) then _ else _) = _
  rw [stget_eq]
  unfold GdM
  cases sg s t <;> try rfl
  rename_i b
  simp only [EvM]
  cases b <;> cases w <;> rfl
section
variable {base i : Nat}
theorem gdm_tt {op : VOp} : GdM P base i (.bool true) true d op l s h Q = EvM P base (⟨d, none, op⟩ :: l) i s h Q := rfl
theorem gdm_tf {op : VOp} : GdM P base i (.bool true) false d op l s h Q = EvM P base l (i + 1) (setd s d .undef) h Q := rfl
theorem gdm_ft {op : VOp} : GdM P base i (.bool false) true d op l s h Q = EvM P base l (i + 1) (setd s d .undef) h Q := rfl
theorem gdm_ff {op : VOp} : GdM P base i (.bool false) false d op l s h Q = EvM P base (⟨d, none, op⟩ :: l) i s h Q := rfl
theorem gdm_t {p : Prop} [Decidable p] {op : VOp} : GdM P base i (.bool (decide p)) true d op l s h Q = ((p → EvM P base (⟨d, none, op⟩ :: l) i s h Q) ∧ (¬ p → EvM P base l (i + 1) (setd s d .undef) h Q)) := by
  by_cases e : p <;> simp [GdM, e]
theorem gdm_f {p : Prop} [Decidable p] {op : VOp} : GdM P base i (.bool (decide p)) false d op l s h Q = ((¬ p → EvM P base (⟨d, none, op⟩ :: l) i s h Q) ∧ (p → EvM P base l (i + 1) (setd s d .undef) h Q)) := by
  by_cases e : p <;> simp [GdM, e]
theorem gdm_undef {w : Bool} {op : VOp} : GdM P base i .undef w d op l s h Q = EvM P base l (i + 1) (setd s d .undef) h Q := rfl
theorem nxm_val {v : AV} {h' : Heap} : NxM P base i d l s h Q (.val v h') = EvM P base l i (setd s d v) h' Q := rfl
theorem nxm_fail : NxM P base i d l s h Q .fail = False := rfl
theorem nxm_enter {f : Nat} {args : List AV} : NxM P base i d l s h Q (.enter f args) = Cl P f args h (AfM P base i d l s Q) := rfl
theorem nxm_ite {c : Prop} [Decidable c] {a b : Out} : NxM P base i d l s h Q (if c then a else b) = ((c → NxM P base i d l s h Q a) ∧ (¬ c → NxM P base i d l s h Q b)) := by by_cases e : c <;> simp [e]
theorem afm_go {v : AV} {h' : Heap} : AfM P base i d l s Q v h' = EvM P base l i (setd s d v) h' Q := rfl
theorem nmA_eq {op : VOp} : nmA base i op h = if op.fresh = true then base + i else h.next := by
  unfold nmA; cases op.fresh <;> rfl
theorem rsv_eq {op : VOp} : rsv base i op h = if op.fresh = true then h.mk' (base + i) .dead else h := by
  unfold rsv; cases op.fresh <;> rfl
theorem max_add {n a : Nat} : max n (n + a) = n + a := by omega
theorem max_add' {n a b : Nat} : max (n + a) (n + b) = n + max a b := by omega
end
theorem ev_cond {c : Opd} {a b : VCode} : Ev P (.cond c a b) s h K = Cd P (ev s c) a b s h K := by
  rw [Ev]
  unfold Cd
  cases ev s c <;> try rfl
  rename_i b
  cases b <;> rfl
theorem cd_true {a b : VCode} : Cd P (.bool true) a b s h K = Ev P a s h K := rfl
theorem cd_false {a b : VCode} : Cd P (.bool false) a b s h K = Ev P b s h K := rfl
theorem cd_bool {p : Prop} [Decidable p] {a b : VCode} : Cd P (.bool (decide p)) a b s h K = ((p → Ev P a s h K) ∧ (¬ p → Ev P b s h K)) := by by_cases e : p <;> simp [Cd, e]
theorem ev_loop {b : VCode} : Ev P (.loop b) s h K = Lp P b s h K := by rw [Ev]
theorem ev_exit {i : Nat} : Ev P (.exit i) s h K = K (.exit i) s h := by rw [Ev]
theorem ev_ret : Ev P .ret s h K = K .ret s h := by rw [Ev]
theorem un_nil {ex : Ex} : Un P [] K ex s h = K ex s h := rfl
theorem un_seq {b : VCode} : Un P (.seq b :: k) K .normal s h = Ev P b s h (Un P k K) := rfl
theorem un_seq_x {b : VCode} {i : Nat} : Un P (.seq b :: k) K (.exit i) s h = Un P k K (.exit i) s h := rfl
theorem un_seq_r {b : VCode} : Un P (.seq b :: k) K .ret s h = Un P k K .ret s h := rfl
theorem un_blk {i : Nat} : Un P (.blk i :: k) K .normal s h = Un P k K .normal s h := rfl
theorem un_blk_x {i j : Nat} : Un P (.blk i :: k) K (.exit j) s h = if j = i then Un P k K .normal s h else Un P k K (.exit j) s h := rfl
theorem un_blk_r {i : Nat} : Un P (.blk i :: k) K .ret s h = Un P k K .ret s h := rfl
theorem un_lp {b : VCode} : Un P (.lp b :: k) K .normal s h = Lp P b s h (Un P k K) := rfl
theorem un_lp_x {b : VCode} {i : Nat} : Un P (.lp b :: k) K (.exit i) s h = Un P k K (.exit i) s h := rfl
theorem un_lp_r {b : VCode} : Un P (.lp b :: k) K .ret s h = Un P k K .ret s h := rfl
theorem fin_n {res : List VRes} {R : AV → Heap → Prop} : Fin res R .normal s h = Fi (VM.results ⟨s, h⟩ res) h R := rfl
theorem fin_r {res : List VRes} {R : AV → Heap → Prop} : Fin res R .ret s h = Fi (VM.results ⟨s, h⟩ res) h R := rfl
theorem fi_some {v : AV} {R : AV → Heap → Prop} : Fi (some v) h R = R v h := rfl

/-! operations -/
theorem vop_mov {x : Opd} : vop ⟨s, h⟩ nm (.mov x) = .val (ev s x) h := by cases x <;> rfl
theorem vop_pick {c a b : Opd} : vop ⟨s, h⟩ nm (.pick c a b) = pk h (ev s c) (ev s a) (ev s b) := by
  simp only [vop, eval_eq, pk]
  cases ev s c <;> try rfl
  rename_i b
  cases b <;> rfl
theorem pk_true {a b : AV} : pk h (.bool true) a b = .val a h := rfl
theorem pk_false {a b : AV} : pk h (.bool false) a b = .val b h := rfl
theorem pk_bool {p : Prop} [Decidable p] {a b : AV} : pk h (.bool (decide p)) a b = .val (if p then a else b) h := by by_cases e : p <;> simp [pk, e]
theorem vop_alloc {z : List AV} {e : TypeId} : vop ⟨s, h⟩ nm (.alloc z e) = .val (.ptr nm 0) (h.mk' nm (.cells z e 0)) := rfl
theorem vop_box {e : TypeId} {x : Opd} : vop ⟨s, h⟩ nm (.box e x) = bxC h nm e (ev s x).cells := by
  simp only [vop, eval_eq]; cases (ev s x).cells <;> rfl
theorem vop_build {z : List AV} {ps : List (Nat × Nat × Opd)} : vop ⟨s, h⟩ nm (.build z ps) = valO h ((fill z (ps.map fun (o, n, x) => (o, n, ev s x))).map .agg) := by
  simp only [vop, eval_eq]
theorem vop_bslice {z : List AV} {e : TypeId} {len : Nat} {ps : List (Nat × Nat × Opd)} : vop ⟨s, h⟩ nm (.bslice z e len ps) = bsC h nm len z.length e (fill ((List.replicate len z).flatten) (ps.map fun (o, n, x) => (o, n, ev s x))) := by
  simp only [vop, eval_eq]
  cases fill ((List.replicate len z).flatten) (ps.map fun (o, n, x) => (o, n, ev s x)) <;> rfl
def ldV (agg : Bool) (n : Nat) (h : Heap) : AV → Out
  | .ptr b off => ldB agg off n h (h.get b)
  | .rp l => valO h (part agg l 0 n)
  | _ => .fail
theorem vop_load {agg : Bool} {n : Nat} {a : Opd} : vop ⟨s, h⟩ nm (.load agg n a) = ldV agg n h (ev s a) := by
  simp only [vop, eval_eq, ldV]
  cases ev s a <;> try rfl
theorem ldV_ptr {agg : Bool} {b off n : Nat} : ldV agg n h (.ptr b off) = ldB agg off n h (h.get b) := rfl
theorem ldV_rp {agg : Bool} {l : List AV} {n : Nat} : ldV agg n h (.rp l) = valO h (part agg l 0 n) := rfl
theorem ldB_some {agg : Bool} {off n : Nat} {l : List AV} {e : TypeId} {ver : Nat} : ldB agg off n h (some (.cells l e ver)) = valO h (part agg l off n) := rfl
def stV (h : Heap) (n : Nat) (a : AV) (c : Option (List AV)) : Out := match a with
  | .ptr b off => stC h b off n c
  | _ => .fail
theorem vop_store {n : Nat} {a x : Opd} : vop ⟨s, h⟩ nm (.store n a x) = stV h n (ev s a) (ev s x).cells := by
  simp only [vop, eval_eq, stV]
  cases ev s a <;> try rfl
  simp only
  cases (ev s x).cells with
  | none => rfl
  | some c =>
    simp only [stC, T.beq_dec]
    by_cases e : c.length = n
    · rw [if_pos e, decide_eq_true e, cond_true]
      cases writeAt h _ _ c <;> rfl
    · rw [if_neg e, decide_eq_false e, cond_false]
theorem stV_ptr {n b off : Nat} {c : List AV} : stV h n (.ptr b off) (some c) = if c.length = n then stB h (writeAt h b off c) else .fail := rfl
theorem stB_some {h' : Heap} : stB h (some h') = .val .undef h' := rfl
def nkV (h : Heap) : AV → Out
  | .nilp | .nilf | .undef => .fail
  | v => .val v h
theorem vop_nilck {x : Opd} : vop ⟨s, h⟩ nm (.nilck x) = nkV h (ev s x) := by
  simp only [vop, eval_eq, nkV]
  cases ev s x <;> rfl
theorem nkV_ptr {b off : Nat} : nkV h (.ptr b off) = .val (.ptr b off) h := rfl
theorem nkV_rp {l : List AV} : nkV h (.rp l) = .val (.rp l) h := rfl
theorem nkV_fn {f : Nat} {l : List AV} : nkV h (.fn f l) = .val (.fn f l) h := rfl
theorem vop_bin {op : BinOp} {x y : Opd} : vop ⟨s, h⟩ nm (.bin op x y) = valO h (bin op (ev s x) (ev s y)) := by simp only [vop, eval_eq]
theorem vop_eqs {kk : EqK} {neg : Bool} {x y : Opd} : vop ⟨s, h⟩ nm (.eqs kk neg x y) = valO h ((eqv kk (ev s x) (ev s y)).map fun b => .bool (b != neg)) := by simp only [vop, eval_eq]
theorem vop_un {op : UnOp} {x : Opd} : vop ⟨s, h⟩ nm (.un op x) = valO h (un op (ev s x)) := by simp only [vop, eval_eq]
def cvI (h : Heap) (kk : IntKind) : AV → Out
  | .int _ n => .val (.int kk (kk.wrap n)) h
  | _ => .fail
theorem vop_cvi {kk : IntKind} {x : Opd} : vop ⟨s, h⟩ nm (.conv (.int kk) x) = cvI h kk (ev s x) := by
  simp only [vop, eval_eq, cvI]
  cases ev s x <;> rfl
theorem cvI_int {kk k' : IntKind} {n : Int} : cvI h kk (.int k' n) = .val (.int kk (kk.wrap n)) h := rfl
def cvT (h : Heap) (x : AV) : Out := match x with
  | .str _ => .fail
  | v => match lenV v with
    | some n => match cellsOf h 1 n v with
      | some cs => valO h ((cs.mapM AV.byte).map .str)
      | none => .fail
    | none => .fail
theorem vop_cvt {x : Opd} : vop ⟨s, h⟩ nm (.conv .text x) = cvT h (ev s x) := by
  simp only [vop, eval_eq, cvT]
  cases ev s x <;> rfl
theorem vop_cvs {x : Opd} : vop ⟨s, h⟩ nm (.conv .same x) = (match ev s x with | .str s => .val (.str s) h | _ => .fail) := by
  simp only [vop, eval_eq]
  cases ev s x <;> rfl
theorem vop_mkfn {f : Nat} {caps : List Opd} : vop ⟨s, h⟩ nm (.mkfn f caps) = .val (.fn f (caps.map (ev s))) h := by
  simp only [vop, eval_eq] <;> rfl
theorem vop_mkmap : vop ⟨s, h⟩ nm .mkmap = .val (.map nm) (h.mk' nm (.map [] 0)) := rfl
def mkS (h : Heap) (nm : Nat) (zero : List AV) (e : TypeId) (bytes : Nat) (l c : AV) : Out := match l, c with
  | .int .i64 l, .int .i64 c => if 0 ≤ l ∧ l ≤ c ∧ c.toNat * bytes ≤ most ∧ c.toNat ≤ most then
      .val (.sl nm 0 l.toNat c.toNat zero.length) (h.mk' nm (.cells ((List.replicate c.toNat zero).flatten) e 0)) else .fail
  | _, _ => .fail
theorem vop_mkslice {z : List AV} {e : TypeId} {bytes : Nat} {l c : Opd} : vop ⟨s, h⟩ nm (.mkslice z e bytes l c) = mkS h nm z e bytes (ev s l) (ev s c) := by
  simp only [vop, eval_eq, mkS]
  rfl
theorem vop_slice {size : Nat} {x : Opd} {lo hi mx : Option Opd} : vop ⟨s, h⟩ nm (.slice size x lo hi mx) = valO h (sliceV size (ev s x) (lo.map (ev s)) (hi.map (ev s)) (mx.map (ev s))) := by
  simp only [vop, eval_eq] <;> rfl
theorem vop_sliceA {size n : Nat} {x : Opd} {lo hi mx : Option Opd} : vop ⟨s, h⟩ nm (.sliceA size n x lo hi mx) = valO h (sliceA h size n (ev s x) (lo.map (ev s)) (hi.map (ev s)) (mx.map (ev s))) := by
  simp only [vop, eval_eq] <;> rfl
theorem vop_sliceS {x : Opd} {lo hi : Option Opd} : vop ⟨s, h⟩ nm (.sliceS x lo hi) = valO h (sliceS (ev s x) (lo.map (ev s)) (hi.map (ev s))) := by
  simp only [vop, eval_eq] <;> rfl
def faV (h : Heap) (off : Nat) : AV → Out
  | .ptr b o => .val (.ptr b (o + off)) h
  | .rp l => .val (.rp (l.drop off)) h
  | _ => .fail
theorem vop_faddr {off : Nat} {x : Opd} : vop ⟨s, h⟩ nm (.faddr off x) = faV h off (ev s x) := by
  simp only [vop, eval_eq, faV]
  cases ev s x <;> rfl
theorem faV_ptr {off b o : Nat} : faV h off (.ptr b o) = .val (.ptr b (o + off)) h := rfl
theorem faV_rp {off : Nat} {l : List AV} : faV h off (.rp l) = .val (.rp (l.drop off)) h := rfl
def fdV (h : Heap) (agg : Bool) (off n : Nat) : AV → Out
  | .agg l => valO h (part agg l off n)
  | _ => .fail
theorem vop_field {agg : Bool} {off n : Nat} {x : Opd} : vop ⟨s, h⟩ nm (.field agg off n x) = fdV h agg off n (ev s x) := by
  simp only [vop, eval_eq, fdV]
  cases ev s x <;> rfl
theorem fdV_agg {agg : Bool} {off n : Nat} {l : List AV} : fdV h agg off n (.agg l) = valO h (part agg l off n) := rfl
def iaV (h : Heap) (size : Nat) (arr : Option Nat) (x i : AV) : Out := match i with
  | .int _ i => match x, arr with
    | .ptr b o, some len => if 0 ≤ i ∧ i < len then .val (.ptr b (o + i.toNat * size)) h else .fail
    | .sl b o len _ sz, none => if 0 ≤ i ∧ i < len ∧ sz = size then .val (.ptr b (o + i.toNat * size)) h else .fail
    | .rs l len, none => if 0 ≤ i ∧ i < len then .val (.rp (l.drop (i.toNat * size))) h else .fail
    | _, _ => .fail
  | _ => .fail
theorem vop_iaddr {size : Nat} {arr : Option Nat} {x i : Opd} : vop ⟨s, h⟩ nm (.iaddr size arr x i) = iaV h size arr (ev s x) (ev s i) := by
  simp only [vop, eval_eq, iaV]
  rfl
theorem iaV_ptr {size len b o : Nat} {kk : IntKind} {i : Int} : iaV h size (some len) (.ptr b o) (.int kk i) = if 0 ≤ i ∧ i < len then .val (.ptr b (o + i.toNat * size)) h else .fail := rfl
theorem iaV_sl {size b o len cap sz : Nat} {kk : IntKind} {i : Int} : iaV h size none (.sl b o len cap sz) (.int kk i) = if 0 ≤ i ∧ i < len ∧ sz = size then .val (.ptr b (o + i.toNat * size)) h else .fail := rfl
theorem iaV_rs {size len : Nat} {l : List AV} {kk : IntKind} {i : Int} : iaV h size none (.rs l len) (.int kk i) = if 0 ≤ i ∧ i < len then .val (.rp (l.drop (i.toNat * size))) h else .fail := rfl
def ixV (h : Heap) (agg : Bool) (size len : Nat) (x i : AV) : Out := match i with
  | .int _ i => match x with
    | .agg l => if 0 ≤ i ∧ i < len then valO h (part agg l (i.toNat * size) size) else .fail
    | _ => .fail
  | _ => .fail
theorem vop_index {agg : Bool} {size len : Nat} {x i : Opd} : vop ⟨s, h⟩ nm (.index agg size len x i) = ixV h agg size len (ev s x) (ev s i) := by
  simp only [vop, eval_eq, ixV]
  cases ev s i <;> try rfl
theorem ixV_agg {agg : Bool} {size len : Nat} {l : List AV} {kk : IntKind} {i : Int} : ixV h agg size len (.agg l) (.int kk i) = if 0 ≤ i ∧ i < len then valO h (part agg l (i.toNat * size) size) else .fail := rfl
def isV (h : Heap) (x i : AV) : Out := match i with
  | .int _ i => match x with
    | .str s => if 0 ≤ i then valO h ((s[i.toNat]?).map fun c : Nat => .int .u8 c) else .fail
    | _ => .fail
  | _ => .fail
theorem vop_indexS {x i : Opd} : vop ⟨s, h⟩ nm (.indexS x i) = isV h (ev s x) (ev s i) := by
  simp only [vop, eval_eq, isV]
  cases ev s i <;> try rfl
theorem isV_str {x : List Nat} {kk : IntKind} {i : Int} : isV h (.str x) (.int kk i) = if 0 ≤ i then valO h ((x[i.toNat]?).map fun c : Nat => .int .u8 c) else .fail := rfl
def lkV (c : EqC) (zero : AV) (ok : Bool) (h : Heap) (x i : AV) : Out := match x with
  | .nilm => .val (if ok then .tup [zero, .bool false] else zero) h
  | .map b => lkB c zero ok h i (h.get b)
  | _ => .fail
theorem vop_lookup {c : EqC} {zero : AV} {ok : Bool} {x i : Opd} : vop ⟨s, h⟩ nm (.lookup c zero ok x i) = lkV c zero ok h (ev s x) (ev s i) := by
  simp only [vop, eval_eq, lkV]
  cases ev s x <;> try rfl
  simp only [lkB]
  cases h.get _ <;> try rfl
  rename_i o
  cases o <;> try rfl
  simp only
  cases findE c (ev s i) _ <;> rfl
theorem lkV_map {c : EqC} {zero : AV} {ok : Bool} {b : Nat} {i : AV} : lkV c zero ok h (.map b) i = lkB c zero ok h i (h.get b) := rfl
def muB (c : EqC) (h : Heap) (b : Nat) (k v : AV) : Option Blk → Out
  | some (.map es ver) => match findE c k es with
    | some _ => .val .undef (h.put b (.map (updE c k v es) (ver + 1)))
    | none => .fail
  | _ => .fail
def muV (c : EqC) (h : Heap) (k v : AV) : AV → Out
  | .map b => muB c h b k v (h.get b)
  | _ => .fail
theorem vop_mupd {c : EqC} {m k v : Opd} : vop ⟨s, h⟩ nm (.mupd c m k v) = muV c h (ev s k) (ev s v) (ev s m) := by
  simp only [vop, eval_eq, muV]
  cases ev s m <;> try rfl
theorem muV_map {c : EqC} {b : Nat} {k v : AV} : muV c h k v (.map b) = muB c h b k v (h.get b) := rfl
def exV (h : Heap) (i : Nat) : AV → Out
  | .tup l => valO h l[i]?
  | _ => .fail
theorem vop_extract {x : Opd} {i : Nat} : vop ⟨s, h⟩ nm (.extract x i) = exV h i (ev s x) := by
  simp only [vop, eval_eq, exV]
  cases ev s x <;> rfl
theorem exV_tup {i : Nat} {l : List AV} : exV h i (.tup l) = valO h l[i]? := rfl
theorem vop_call {f : Nat} {args : List Opd} : vop ⟨s, h⟩ nm (.call f args) = .enter f (args.map (ev s)) := by
  simp only [vop, eval_eq] <;> rfl
def cvV (args : List AV) : AV → Out
  | .fn f caps => .enter f (args ++ caps)
  | _ => .fail
theorem vop_callv {x : Opd} {args : List Opd} : vop ⟨s, h⟩ nm (.callv x args) = cvV (args.map (ev s)) (ev s x) := by
  simp only [vop, eval_eq, cvV]
  cases ev s x <;> rfl
theorem cvV_fn {args caps : List AV} {f : Nat} : cvV args (.fn f caps) = .enter f (args ++ caps) := rfl
def lnV (h : Heap) : AV → Out
  | .sl _ _ n _ _ => .val (.int .i64 n) h
  | .nils => .val (.int .i64 0) h
  | .rs _ n => .val (.int .i64 n) h
  | _ => .fail
theorem vop_len0 {x : Opd} : vop ⟨s, h⟩ nm (.bi (.len 0) [x]) = (match ev s x with | .str s => .val (.int .i64 s.length) h | _ => .fail) := by
  simp only [vop, List.map, eval_eq]
  cases ev s x <;> rfl
theorem vop_len1 {x : Opd} : vop ⟨s, h⟩ nm (.bi (.len 1) [x]) = lnV h (ev s x) := by
  simp only [vop, List.map, eval_eq, lnV]
  cases ev s x <;> rfl
theorem vop_append {size bytes : Nat} {e : TypeId} {a x : Opd} : vop ⟨s, h⟩ nm (.bi (.append size bytes e) [a, x]) = valH (appendV h size bytes e (ev s a) (ev s x)) := by
  simp only [vop, List.map, eval_eq]
theorem vop_copy {size : Nat} {a x : Opd} : vop ⟨s, h⟩ nm (.bi (.copy size) [a, x]) = valH (copyV h size (ev s a) (ev s x)) := by
  simp only [vop, List.map, eval_eq]
theorem vop_max {x : Opd} {l : List Opd} : vop ⟨s, h⟩ nm (.bi .max (x :: l)) = valO h (foldO max2 (ev s x) (l.map (ev s))) := by
  simp only [vop, List.map, eval_eq] <;> rfl
theorem vop_min {x : Opd} {l : List Opd} : vop ⟨s, h⟩ nm (.bi .min (x :: l)) = valO h (foldO min2 (ev s x) (l.map (ev s))) := by
  simp only [vop, List.map, eval_eq] <;> rfl
theorem valO_some {v : AV} : valO h (some v) = .val v h := rfl
theorem valO_ite {c : Prop} [Decidable c] {a b : Option AV} : valO h (if c then a else b) = if c then valO h a else valO h b := by split <;> rfl
theorem valH_some {v : AV} {h' : Heap} : valH (some (v, h')) = .val v h' := rfl

/-- what is left of a value, told without memory -/
def Tl (h : Heap) (v : AV) (R : AV → Prop) : Prop := ∃ v', Fz false h v v' ∧ R v'
theorem tl_bool {b : Bool} {R : AV → Prop} : Tl h (.bool b) R = R (.bool b) := propext ⟨fun ⟨_, f, r⟩ => by cases f; exact r, fun r => ⟨_, .bool b, r⟩⟩
theorem tl_int {kk : IntKind} {n : Int} {R : AV → Prop} : Tl h (.int kk n) R = R (.int kk n) := propext ⟨fun ⟨_, f, r⟩ => by cases f; exact r, fun r => ⟨_, .int kk n, r⟩⟩
theorem tl_str {x : List Nat} {R : AV → Prop} : Tl h (.str x) R = R (.str x) := propext ⟨fun ⟨_, f, r⟩ => by cases f; exact r, fun r => ⟨_, .str x, r⟩⟩
theorem Pu.enter (hm : P.follows .mixedOrders = true) {f : Nat} {fn : Func} {vf : VFun} (hf : P.funcs[f]? = some fn) (hc : cFun P fn = some vf) (hn : fn.name ≠ "runtime.NumGoroutine") {args : List AV} (hl : args.length = vf.nargs) {R : AV → Prop}
    (e : Ev P vf.body (argsT args 0 .e) ⟨0, .e⟩ (Un P [] (Fin vf.res fun v h' => Tl h' v R))) : Pu P f args R := Pu.of (Cl.enter hm hf hc hn hl e)

/-! slots -/
theorem args_nil {i : Nat} : argsT [] i s = s := rfl
theorem args_cons {v : AV} {l : List AV} {i : Nat} : argsT (v :: l) i s = argsT l (i + 1) (s.set i v) := rfl
theorem res_t {t : Nat} : resOf ⟨s, h⟩ (.tmp t) = some (sg s t) := rfl
def rcB (agg : Bool) (off n : Nat) : Option Blk → Option AV
  | some (.cells l _ _) => part agg l off n
  | _ => none
def rcV (agg : Bool) (n : Nat) (h : Heap) : AV → Option AV
  | .ptr b off => rcB agg off n (h.get b)
  | _ => none
theorem res_c {a n : Nat} {agg : Bool} : resOf ⟨s, h⟩ (.cell a agg n) = rcV agg n h (sg s a) := by
  simp only [resOf, stget_eq, rcV]
  cases sg s a <;> try rfl
theorem rcV_ptr {agg : Bool} {n b off : Nat} : rcV agg n h (.ptr b off) = rcB agg off n (h.get b) := rfl
theorem rcB_some {agg : Bool} {off n : Nat} {l : List AV} {e : TypeId} {ver : Nat} : rcB agg off n (some (.cells l e ver)) = part agg l off n := rfl
theorem results0 : VM.results ⟨s, h⟩ [] = some (.tup []) := rfl
theorem results1 {x : VRes} : VM.results ⟨s, h⟩ [x] = resOf ⟨s, h⟩ x := by
  simp only [VM.results, List.mapM_cons, List.mapM_nil]
  cases resOf ⟨s, h⟩ x <;> rfl
def two (x y : Option AV) : Option AV := match x, y with
  | some x, some y => some (.tup [x, y])
  | _, _ => none
theorem results2 {x y : VRes} : VM.results ⟨s, h⟩ [x, y] = two (resOf ⟨s, h⟩ x) (resOf ⟨s, h⟩ y) := by
  simp only [VM.results, List.mapM_cons, List.mapM_nil]
  cases resOf ⟨s, h⟩ x <;> cases resOf ⟨s, h⟩ y <;> rfl
theorem two_some {x y : AV} : two (some x) (some y) = some (.tup [x, y]) := rfl
def three (x y z : Option AV) : Option AV := match x, y, z with
  | some x, some y, some z => some (.tup [x, y, z])
  | _, _, _ => none
theorem results3 {x y z : VRes} : VM.results ⟨s, h⟩ [x, y, z] = three (resOf ⟨s, h⟩ x) (resOf ⟨s, h⟩ y) (resOf ⟨s, h⟩ z) := by
  simp only [VM.results, List.mapM_cons, List.mapM_nil]
  cases resOf ⟨s, h⟩ x <;> cases resOf ⟨s, h⟩ y <;> cases resOf ⟨s, h⟩ z <;> rfl
theorem three_some {x y z : AV} : three (some x) (some y) (some z) = some (.tup [x, y, z]) := rfl

/-! parts -/
def one : List AV → Option AV
  | [v] => some v
  | _ => none
theorem part_eq {agg : Bool} {l : List AV} {off n : Nat} : part agg l off n = if ((l.drop off).take n).length = n then (if agg = true then some (.agg ((l.drop off).take n)) else one ((l.drop off).take n)) else none := by
  unfold part cut
  simp only [T.beq_dec]
  by_cases e : ((l.drop off).take n).length = n
  · rw [if_pos e, decide_eq_true e, cond_true]
    simp only
    cases agg
    · rcases (l.drop off).take n with _ | ⟨x, _ | ⟨y, r⟩⟩ <;> rfl
    · rfl
  · rw [if_neg e, decide_eq_false e, cond_false]
theorem one_one {v : AV} : one [v] = some v := rfl
theorem cut_eq {l : List AV} {off n : Nat} : cut l off n = if ((l.drop off).take n).length = n then some ((l.drop off).take n) else none := by
  unfold cut
  simp only [T.beq_dec]
  by_cases e : ((l.drop off).take n).length = n
  · rw [if_pos e, decide_eq_true e, cond_true]
  · rw [if_neg e, decide_eq_false e, cond_false]
theorem bif_eq {α : Type} {b : Bool} {x y : α} : (bif b then x else y) = if b = true then x else y := by cases b <;> rfl
theorem part_f {l : List AV} {off : Nat} {v : AV} {r : List AV} (e : l.drop off = v :: r) : part false l off 1 = some v := by
  simp [part, cut, e]
theorem mk_next {b : Nat} {x : Blk} : (h.mk' b x).next = max h.next (b + 1) := rfl
theorem max_succ' (n : Nat) : max n (n + 1) = n + 1 := by omega
theorem get_h0 (n b : Nat) : Heap.get ⟨n, .e⟩ b = none := rfl
theorem put_next {b : Nat} {x : Blk} : (h.put b x).next = h.next := rfl
end
/-! numbers -/
theorem w64 {n : Int} (a : -9223372036854775808 ≤ n) (b : n ≤ 9223372036854775807) : IntKind.i64.wrap n = n := by rw [IntKind.wrap_i64]; omega
theorem wu8 {n : Int} : IntKind.u8.wrap n = n % 256 := IntKind.wrap_u8 n
theorem wu64 {n : Int} (a : 0 ≤ n) (b : n ≤ 18446744073709551615) : IntKind.u64.wrap n = n := by rw [IntKind.wrap_u64]; omega
theorem bits64 : IntKind.i64.bits = 64 := rfl
theorem bitsu64 : IntKind.u64.bits = 64 := rfl
theorem bitsu8 : IntKind.u8.bits = 8 := rfl
theorem fdivp {x : Int} {k : Nat} : x.fdiv (2 ^ k) = x / 2 ^ k := Int.fdiv_eq_ediv_of_nonneg _ (Int.le_of_lt (Int.pow_pos (by decide)))
theorem mkS_ok {h : Heap} {nm : Nat} {z : List AV} {e : TypeId} {bytes : Nat} {n : Int} (h0 : 0 ≤ n) (h1 : n.toNat * bytes ≤ 70368744177664) (h2 : n.toNat ≤ 70368744177664) : mkS h nm z e bytes (.int .i64 n) (.int .i64 n) = .val (.sl nm 0 n.toNat n.toNat z.length) (h.mk' nm (.cells ((List.replicate n.toNat z).flatten) e 0)) := by
  simp only [mkS]
  rw [if_pos ⟨h0, Int.le_refl _, h1, h2⟩]
/-- shifts -/
theorem minl {a b : Nat} : min a b = if a ≤ b then a else b := Nat.min_def
theorem minle {a b : Nat} (h : a ≤ b) : min a b = a := Nat.min_eq_left h
theorem fdivn {x b : Int} (h : 0 ≤ b) : x.fdiv b = x / b := Int.fdiv_eq_ediv_of_nonneg _ h
theorem bin_shl {k k' : IntKind} {a b : Int} (h : 0 ≤ b) : bin .shl (.int k a) (.int k' b) = some (.int k (k.wrap (a * 2 ^ min b.toNat k.bits))) := if_neg (by omega)
theorem bin_shr {k k' : IntKind} {a b : Int} (h : 0 ≤ b) : bin .shr (.int k a) (.int k' b) = some (.int k (a.fdiv (2 ^ min b.toNat k.bits))) := if_neg (by omega)
theorem bin_add {k : IntKind} {a b : Int} : bin .add (.int k a) (.int k b) = some (.int k (k.wrap (a + b))) := if_pos rfl
theorem bin_sub {k : IntKind} {a b : Int} : bin .sub (.int k a) (.int k b) = some (.int k (k.wrap (a - b))) := if_pos rfl
theorem bin_mul {k : IntKind} {a b : Int} : bin .mul (.int k a) (.int k b) = some (.int k (k.wrap (a * b))) := if_pos rfl
theorem bin_quo {k : IntKind} {a b : Int} (h : b ≠ 0) : bin .quo (.int k a) (.int k b) = some (.int k (k.wrap (a.tdiv b))) := (if_pos rfl).trans (if_neg h)
theorem bin_rem {k : IntKind} {a b : Int} (h : b ≠ 0) : bin .rem (.int k a) (.int k b) = some (.int k (a.tmod b)) := (if_pos rfl).trans (if_neg h)
theorem bin_and {k : IntKind} {a b : Int} : bin .and (.int k a) (.int k b) = some (.int k (bitsOf .and k a b)) := if_pos rfl
theorem bin_or {k : IntKind} {a b : Int} : bin .or (.int k a) (.int k b) = some (.int k (bitsOf .or k a b)) := if_pos rfl
theorem bin_xor {k : IntKind} {a b : Int} : bin .xor (.int k a) (.int k b) = some (.int k (bitsOf .xor k a b)) := if_pos rfl
theorem bin_andNot {k : IntKind} {a b : Int} : bin .andNot (.int k a) (.int k b) = some (.int k (bitsOf .andNot k a b)) := if_pos rfl
theorem bin_eql {k : IntKind} {a b : Int} : bin .eql (.int k a) (.int k b) = some (.bool (decide (a = b))) := if_pos rfl
theorem bin_neq {k : IntKind} {a b : Int} : bin .neq (.int k a) (.int k b) = some (.bool (decide (¬ a = b))) := (if_pos rfl).trans (show some (AV.bool (!decide (a = b))) = _ by rw [decide_not])
theorem bin_lss {k : IntKind} {a b : Int} : bin .lss (.int k a) (.int k b) = some (.bool (decide (a < b))) := if_pos rfl
theorem bin_leq {k : IntKind} {a b : Int} : bin .leq (.int k a) (.int k b) = some (.bool (decide (a ≤ b))) := if_pos rfl
theorem bin_gtr {k : IntKind} {a b : Int} : bin .gtr (.int k a) (.int k b) = some (.bool (decide (b < a))) := if_pos rfl
theorem bin_geq {k : IntKind} {a b : Int} : bin .geq (.int k a) (.int k b) = some (.bool (decide (b ≤ a))) := if_pos rfl
theorem bin_sadd {a b : List Nat} : bin .add (.str a) (.str b) = if a.length + b.length < 140737488355328 then some (.str (a ++ b)) else none := rfl
theorem bin_seql {a b : List Nat} : bin .eql (.str a) (.str b) = some (.bool (decide (a = b))) := by show some (AV.bool (a == b)) = _; rw [Bool.beq_eq_decide_eq]
theorem bin_sneq {a b : List Nat} : bin .neq (.str a) (.str b) = some (.bool (decide (¬ a = b))) := by show some (AV.bool (!(a == b))) = _; rw [Bool.beq_eq_decide_eq, decide_not]
theorem not_dec {p : Prop} [Decidable p] : (!decide p) = decide (¬ p) := by by_cases e : p <;> simp [e]
def R5 := And.intro @evr_loose (And.intro @evr_quiet (And.intro @evq_some (And.intro @evq_none (And.intro @eval_eq (And.intro @stget_eq (And.intro @w64 (And.intro @wu8 (And.intro @wu64 (And.intro @bits64 (And.intro @bitsu64 (And.intro @bitsu8 (And.intro @fdivn (And.intro @minle (And.intro @mkS_ok (And.intro @List.flatten_cons.{0} @List.flatten_nil.{0})))))))))))))))
theorem lnV_sl {h : Heap} {b off n cap sz : Nat} : lnV h (.sl b off n cap sz) = .val (.int .i64 n) h := rfl
theorem lnV_nils {h : Heap} : lnV h .nils = .val (.int .i64 0) h := rfl
theorem lnV_rs {h : Heap} {l : List AV} {n : Nat} : lnV h (.rs l n) = .val (.int .i64 n) h := rfl
theorem neF {b : Bool} : (b != false) = b := by cases b <;> rfl
theorem neT {b : Bool} : (b != true) = !b := by cases b <;> rfl
def fiC (cells : List AV) (o n : Nat) (r : List (Nat × Nat × AV)) : Option (List AV) → Option (List AV)
  | some c => if c.length = n ∧ o + n ≤ cells.length then fill (cells.take o ++ c ++ cells.drop (o + c.length)) r else none
  | none => none
theorem fill_nil {cells : List AV} : fill cells [] = some cells := rfl
theorem fill_cons {cells : List AV} {o n : Nat} {v : AV} {r : List (Nat × Nat × AV)} : fill cells ((o, n, v) :: r) = fiC cells o n r v.cells := by
  simp only [fill, fiC]
  cases v.cells with
  | none => rfl
  | some c =>
    simp only [bif_eq, Bool.and_eq_true, T.beq_dec, decide_eq_true_eq, Nat.ble_eq]
    rfl
theorem fiC_some {cells c : List AV} {o n : Nat} {r : List (Nat × Nat × AV)} : fiC cells o n r (some c) = if c.length = n ∧ o + n ≤ cells.length then fill (cells.take o ++ c ++ cells.drop (o + c.length)) r else none := rfl
def R7 := And.intro @fill_nil (And.intro @fill_cons (And.intro @fiC_some (And.intro @neF (And.intro @neT (And.intro @lnV_sl (And.intro @lnV_nils (And.intro @lnV_rs (And.intro @Int.toNat_natCast (And.intro @Nat.mul_one (And.intro @Nat.one_mul (And.intro @Bool.not_true (And.intro @Bool.not_false (And.intro @bin_shl (And.intro @bin_shr (And.intro @bin_add (And.intro @bin_sub (And.intro @bin_mul (And.intro @bin_quo (And.intro @bin_rem (And.intro @bin_and (And.intro @bin_or (And.intro @bin_xor (And.intro @bin_andNot (And.intro @bin_eql (And.intro @bin_neq (And.intro @bin_lss (And.intro @bin_leq (And.intro @bin_gtr (And.intro @bin_geq (And.intro @bin_sadd (And.intro @not_dec (And.intro @bin_seql @bin_sneq))))))))))))))))))))))))))))))))
/-- shifts by a number that is told -/
def RS := And.intro @minl (And.intro @fdivp @fdivn)
def mkV (h : Heap) : AV → Out
  | .sl b off len cap sz => if 0 < cap then mkB h b off len cap sz (h.get b) else .fail
  | _ => .fail
where mkB (h : Heap) (b off len cap sz : Nat) : Option Blk → Out
  | some (.cells ..) => .val (.sl b off len cap sz) h
  | _ => .fail
theorem conv_mark {s : T AV} {h : Heap} {nm : Nat} {x : Opd} : vop ⟨s, h⟩ nm (.conv .mark x) = mkV h (ev s x) := by
  simp only [vop, eval_eq, mkV]
  cases ev s x <;> try rfl
theorem mkV_sl {h : Heap} {b off len cap sz : Nat} {l : List AV} {e : TypeId} {ver : Nat} (hc : 0 < cap) (hg : h.get b = some (.cells l e ver)) : mkV h (.sl b off len cap sz) = .val (.sl b off len cap sz) h := by
  rw [mkV, if_pos hc, hg]; rfl
theorem mkV_go {h : Heap} {b off len cap sz : Nat} : mkV h (.sl b off len cap sz) = if 0 < cap then mkV.mkB h b off len cap sz (h.get b) else .fail := rfl
theorem mkB_some {h : Heap} {b off len cap sz : Nat} {l : List AV} {e : TypeId} {ver : Nat} : mkV.mkB h b off len cap sz (some (.cells l e ver)) = .val (.sl b off len cap sz) h := rfl
/-! all of it -/
def R0 := And.intro @evo_nil (And.intro @evo_go (And.intro @evo_gd (And.intro @gd_tt (And.intro @gd_tf (And.intro @gd_ft (And.intro @gd_ff (And.intro @gd_t (And.intro @gd_f (And.intro @gd_undef (And.intro @nx_val (And.intro @nx_fail (And.intro @nx_enter (And.intro @nx_ite (And.intro @af_go (And.intro @setd_some (And.intro @setd_none (And.intro @ev_t (And.intro @ev_c (And.intro @ev_seq (And.intro @ev_block (And.intro @ev_skip (And.intro @ev_ops (And.intro @ev_drawn (And.intro @ev_cond (And.intro @cd_true (And.intro @cd_false (And.intro @cd_bool (And.intro @ev_loop (And.intro @ev_exit (And.intro @ev_ret (And.intro @un_nil (And.intro @un_seq (And.intro @un_seq_x (And.intro @un_seq_r (And.intro @un_blk (And.intro @un_blk_x (And.intro @un_blk_r (And.intro @un_lp (And.intro @un_lp_x (And.intro @un_lp_r (And.intro @fin_n (And.intro @fin_r (And.intro @fi_some (And.intro @vop_mov (@vop_pick)))))))))))))))))))))))))))))))))))))))))))))
def R1 := And.intro @pk_true (And.intro @pk_false (And.intro @pk_bool (And.intro @vop_alloc (And.intro @vop_box (And.intro @vop_build (And.intro @vop_bslice (And.intro @vop_load (And.intro @ldV_ptr (And.intro @ldV_rp (And.intro @ldB_some (And.intro @vop_store (And.intro @stV_ptr (And.intro @stB_some (And.intro @vop_nilck (And.intro @nkV_ptr (And.intro @nkV_rp (And.intro @nkV_fn (And.intro @vop_bin (And.intro @vop_eqs (And.intro @vop_un (And.intro @vop_cvi (And.intro @cvI_int (And.intro @vop_cvt (And.intro @vop_cvs (And.intro @vop_mkfn (And.intro @vop_mkmap (And.intro @vop_mkslice (And.intro @vop_slice (And.intro @vop_sliceA (And.intro @vop_sliceS (And.intro @vop_faddr (And.intro @faV_ptr (And.intro @faV_rp (And.intro @vop_field (And.intro @fdV_agg (And.intro @vop_iaddr (And.intro @iaV_ptr (And.intro @iaV_sl (And.intro @iaV_rs (And.intro @vop_index (@ixV_agg)))))))))))))))))))))))))))))))))))))))))
def R2 := And.intro @vop_indexS (And.intro @isV_str (And.intro @vop_lookup (And.intro @lkV_map (And.intro @vop_mupd (And.intro @muV_map (And.intro @vop_extract (And.intro @exV_tup (And.intro @vop_call (And.intro @vop_callv (And.intro @cvV_fn (And.intro @vop_len0 (And.intro @vop_len1 (And.intro @vop_append (And.intro @vop_copy (And.intro @vop_max (And.intro @vop_min (And.intro @valO_some (And.intro @valO_ite (And.intro @valH_some (And.intro @args_nil (And.intro @args_cons (And.intro @res_t (And.intro @res_c (And.intro @rcV_ptr (And.intro @rcB_some (And.intro @results0 (And.intro @results1 (And.intro @results2 (And.intro @two_some (And.intro @results3 (And.intro @three_some (And.intro @part_eq (And.intro @one_one (And.intro @cut_eq (And.intro @bif_eq (And.intro @List.drop_zero.{0} (And.intro @List.drop_succ_cons.{0} (And.intro @List.take_succ_cons.{0} (@List.take_zero.{0})))))))))))))))))))))))))))))))))))))))
def R3 := And.intro @List.length_cons.{0} (And.intro @List.length_nil.{0} (And.intro @decide_eq_true_eq (And.intro @decide_true (And.intro @decide_false (And.intro @Bool.false_eq_true (And.intro @Bool.true_eq_false (And.intro @T.beq_dec (And.intro @decide_eq_false_iff_not (And.intro @true_implies (And.intro @forall_const.{0} (And.intro @implies_true.{0} (And.intro @not_true_eq_false (And.intro @not_false_eq_true (And.intro @false_implies (And.intro @and_self (And.intro @Classical.not_not (And.intro @false_and (And.intro @and_false (And.intro @tl_bool (And.intro @tl_int (And.intro @tl_str (And.intro @ge_iff_le.{0} (And.intro @gt_iff_lt.{0} (And.intro @Bool.not_eq_true' (And.intro @Bool.not_eq_false' (And.intro @mk_next (And.intro @max_succ' (And.intro @get_h0 (And.intro @put_next (And.intro @sg_set (And.intro @sg_e (And.intro @List.map_cons.{0,0} (And.intro @List.map_nil.{0,0} (And.intro @Heap.get_mk (And.intro @Heap.get_put (And.intro @Nat.zero_add (And.intro @Nat.add_zero (And.intro @Nat.max_def (@if_true.{1})))))))))))))))))))))))))))))))))))))))
def R4 := And.intro @if_false.{1} (And.intro @eq_self.{1} (And.intro @and_true (And.intro @true_and (And.intro @Option.map_some.{0,0} (And.intro @List.cons_append.{0} (@List.nil_append.{0}))))))
def R8 := And.intro @ev_mixed (And.intro @evmr_loose (And.intro @evmr_quiet (And.intro @evmq_some (And.intro @evmq_none (And.intro @res_nil (And.intro @res_cons (And.intro @evm_nil (And.intro @evm_go (And.intro @evm_gd (And.intro @gdm_tt (And.intro @gdm_tf (And.intro @gdm_ft (And.intro @gdm_ff (And.intro @gdm_t (And.intro @gdm_f (And.intro @gdm_undef (And.intro @nxm_val (And.intro @nxm_fail (And.intro @nxm_enter (And.intro @nxm_ite (And.intro @afm_go (And.intro @nmA_eq (And.intro @rsv_eq (And.intro @max_add (And.intro @max_add' (And.intro @conv_mark (And.intro @mkV_go @mkB_some)))))))))))))))))))))))))))
end Go.Proofs.Ytinonmcnofjeeaa.VM
