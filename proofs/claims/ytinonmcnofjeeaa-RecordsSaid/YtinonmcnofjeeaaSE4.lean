/- Bits and shifts of the small machine's numbers. -/
import Derived.Test.YtinonmcnofjeeaaSE3
namespace Go.Proofs.Ytinonmcnofjeeaa.VM
set_option linter.unusedSimpArgs false
set_option linter.unusedVariables false
set_option linter.defProp false
set_option maxHeartbeats 1000000

theorem mod64 {x : Nat} (h : x < 18446744073709551616) : (((x : Int) % 2 ^ IntKind.bits .i64).toNat) = x := by
  have : IntKind.bits .i64 = 64 := rfl
  rw [this]
  omega
theorem and_nat {x y : Nat} (hx : x < 9223372036854775808) (hy : y < 9223372036854775808) : bitsOf .and .i64 (x : Int) (y : Int) = ((Nat.land x y : Nat) : Int) := by
  unfold bitsOf
  simp only
  rw [mod64 (by omega), mod64 (by omega)]
  have : Nat.land x y ≤ x := Nat.and_le_left
  exact w64 (by omega) (by omega)
theorem and_low {x n : Nat} (hx : x < 9223372036854775808) (hn : n ≤ 62) : bitsOf .and .i64 (x : Int) (((2 ^ n : Nat) : Int) - 1) = ((x % 2 ^ n : Nat) : Int) := by
  have hp : 0 < 2 ^ n := Nat.two_pow_pos n
  have hle : 2 ^ n ≤ 2 ^ 62 := Nat.pow_le_pow_right (by decide) hn
  have e : (((2 ^ n : Nat) : Int) - 1) = ((2 ^ n - 1 : Nat) : Int) := by omega
  rw [e, and_nat hx (by omega)]
  have : Nat.land x (2 ^ n - 1) = x % 2 ^ n := Nat.and_two_pow_sub_one_eq_mod x n
  rw [this]
theorem and_one {x : Nat} (hx : x < 9223372036854775808) : bitsOf .and .i64 (x : Int) 1 = ((x % 2 : Nat) : Int) := by
  have := and_low (n := 1) hx (by decide)
  simpa using this
theorem shl_nat {n : Nat} (h : n ≤ 62) : IntKind.i64.wrap (1 * 2 ^ min n 64) = ((2 ^ n : Nat) : Int) := by
  have hle : 2 ^ n ≤ 2 ^ 62 := Nat.pow_le_pow_right (by decide) h
  have e : min n 64 = n := by omega
  rw [e, Int.one_mul]
  have e2 : ((2 : Int) ^ n) = ((2 ^ n : Nat) : Int) := by push_cast; rfl
  rw [e2]
  have hp : 0 < 2 ^ n := Nat.two_pow_pos n
  generalize 2 ^ n = m at *
  exact w64 (by omega) (by omega)
theorem shr_nat {x n : Nat} (h : n ≤ 64) : (x : Int).fdiv (2 ^ min n 64) = ((x / 2 ^ n : Nat) : Int) := by
  have e : min n 64 = n := by omega
  rw [e, fdivp]
  push_cast
  rfl
/-- any number's low bits -/
theorem and_any (z : Int) {n : Nat} (hn : n ≤ 62) : bitsOf .and .i64 z (((2 ^ n : Nat) : Int) - 1) = (((z % 18446744073709551616).toNat % 2 ^ n : Nat) : Int) := by
  have hp : 0 < 2 ^ n := Nat.two_pow_pos n
  have hle : 2 ^ n ≤ 2 ^ 62 := Nat.pow_le_pow_right (by decide) hn
  have e : (((2 ^ n : Nat) : Int) - 1) = ((2 ^ n - 1 : Nat) : Int) := by omega
  unfold bitsOf
  simp only
  rw [e, mod64 (by omega)]
  have eb : IntKind.bits .i64 = 64 := rfl
  rw [eb]
  have : Nat.land (z % 2 ^ 64).toNat (2 ^ n - 1) = (z % 2 ^ 64).toNat % 2 ^ n := Nat.and_two_pow_sub_one_eq_mod _ n
  rw [this]
  have hlt := Nat.mod_lt (z % 2 ^ 64).toNat hp
  have e2 : (2 : Int) ^ 64 = 18446744073709551616 := rfl
  rw [e2] at hlt ⊢
  exact w64 (by omega) (by omega)

theorem drop_take_one {α : Type} {l : List α} {j : Nat} (hj : j < l.length) : (l.drop j).take 1 = [l[j]] := by
  rw [List.drop_eq_getElem_cons hj]
  rfl
theorem wr_at {h : Heap} {b j : Nat} {l : List AV} {e : TypeId} {ver : Nat} (hg : h.get b = some (.cells l e ver)) (hj : j < l.length) {x : AV} (hx : x.one = true) : writeAt h b j [x] = some (h.put b (.cells (l.set j x) e (ver + 1))) := by
  unfold writeAt
  rw [hg]
  have : Nat.ble (j + 1) l.length = true := by rw [Nat.ble_eq]; exact hj
  have e2 : lsets [x] l j = l.set j x := by
    unfold lsets
    rw [List.set_eq_take_append_cons_drop, if_pos hj]
    simp
  simp only [List.length_cons, List.length_nil, Nat.zero_add, this, List.all_cons, hx, List.all_nil, Bool.and_self, cond_true, e2]
def wrB (h : Heap) (b off : Nat) (vs : List AV) : Option Blk → Option Heap
  | some (.cells l e ver) => if off + vs.length ≤ l.length ∧ vs.all AV.one = true then some (h.put b (.cells (l.take off ++ vs ++ l.drop (off + vs.length)) e (ver + 1))) else none
  | _ => none
theorem writeAt_go {h : Heap} {b off : Nat} {vs : List AV} : writeAt h b off vs = wrB h b off vs (h.get b) := by
  unfold writeAt wrB
  cases h.get b with
  | none => rfl
  | some o =>
    cases o with
    | cells l e ver =>
      simp only [bif_eq, Bool.and_eq_true, Nat.ble_eq]
      rfl
    | _ => rfl
theorem wrB_some {h : Heap} {b off : Nat} {vs l : List AV} {e : TypeId} {ver : Nat} : wrB h b off vs (some (.cells l e ver)) = if off + vs.length ≤ l.length ∧ vs.all AV.one = true then some (h.put b (.cells (l.take off ++ vs ++ l.drop (off + vs.length)) e (ver + 1))) else none := rfl
theorem one_int {k : IntKind} {n : Int} : AV.one (.int k n) = true := rfl
theorem one_bool {b : Bool} : AV.one (.bool b) = true := rfl
theorem one_str {s : List Nat} : AV.one (.str s) = true := rfl
theorem one_nils : AV.one .nils = true := rfl
theorem one_nilp : AV.one .nilp = true := rfl
theorem one_rs {l : List AV} {n : Nat} : AV.one (.rs l n) = true := rfl
theorem one_sl {a b c d e : Nat} : AV.one (.sl a b c d e) = true := rfl
theorem one_ptr {a b : Nat} : AV.one (.ptr a b) = true := rfl
def RW := And.intro @writeAt_go (And.intro @wrB_some (And.intro @one_int (And.intro @one_bool (And.intro @one_str (And.intro @one_nils (And.intro @one_nilp (And.intro @one_rs (And.intro @one_sl (And.intro @one_ptr (And.intro @Bool.and_self (And.intro @Bool.and_true (And.intro @List.all_cons.{0} @List.all_nil.{0}))))))))))))
/-- one cell of a block -/
theorem ld_at {h : Heap} {b j : Nat} {l : List AV} {e : TypeId} {ver : Nat} (hg : h.get b = some (.cells l e ver)) (hj : j < l.length) : ldV false 1 h (.ptr b j) = .val l[j] h := by
  rw [ldV_ptr, hg, ldB_some, part_eq, drop_take_one hj]
  simp [one, valO]
theorem ldB_at {h : Heap} {j : Nat} {l : List AV} {e : TypeId} {ver : Nat} (hj : j < l.length) : ldB false j 1 h (some (.cells l e ver)) = .val l[j] h := by
  rw [ldB_some, part_eq, drop_take_one hj]
  simp [one, valO]
theorem lsets_one {l : List AV} {j : Nat} {x : AV} (hj : j < l.length) : lsets [x] l j = l.set j x := by
  unfold lsets
  rw [List.set_eq_take_append_cons_drop, if_pos hj]
  simp
theorem st_at {h : Heap} {b j : Nat} {l : List AV} {e : TypeId} {ver : Nat} (hg : h.get b = some (.cells l e ver)) (hj : j < l.length) {x : AV} (hx : x.one = true) : stV h 1 (.ptr b j) (some [x]) = .val .undef (h.put b (.cells (l.set j x) e (ver + 1))) := by
  rw [stV_ptr, if_pos (show [x].length = 1 from rfl)]
  unfold writeAt
  rw [hg]
  have : Nat.ble (j + 1) l.length = true := by rw [Nat.ble_eq]; exact hj
  simp only [List.length_cons, List.length_nil, Nat.zero_add, this, List.all_cons, hx, List.all_nil, Bool.and_self, cond_true, lsets_one hj]
  rfl
section
variable {P : Program} {F : Nat → Option VFun}
/-- a closed call, run -/
theorem Pg.run (g : Pg P F) {n f : Nat} {b : Bool} (hv : (vcall F (fun _ _ _ => none) n f [] ⟨0, .e⟩).map (·.1) = some (.bool b)) : Pu P f [] (fun v => v = .bool b) := by
  obtain ⟨⟨v, h'⟩, e1, e2⟩ := Option.map_eq_some_iff.1 hv
  simp only at e2
  subst e2
  exact ⟨_, _, h', (vm_ok (drawn_ok g.hm) g.tb nothing_told n).2.2 f [] _ _ _ e1, .bool b, rfl⟩
/-- a value told without memory, computed -/
def fz (r : Bool) (h : Heap) : Nat → AV → Option AV
  | 0, _ => none
  | n + 1, v => match v with
    | .sl b off len _ sz => bif Nat.beq len 0 then some (.rs [] 0) else match h.get b with
      | some (.cells l _ _) => match cut l off (len * sz) with
        | some cs => (cs.mapM (fz r h n)).map (.rs · len)
        | none => none
      | _ => none
    | .ptr b off => match h.get b with
      | some (.cells l _ _) => ((l.drop off).mapM (fz r h n)).map .rp
      | _ => none
    | .agg l => (l.mapM (fz r h n)).map .agg
    | .tup l => (l.mapM (fz r h n)).map .tup
    | .fn f l => (l.mapM (fz r h n)).map (.fn f)
    | .rs l len => bif Nat.beq len 0 then some (.rs [] 0) else bif r then (l.mapM (fz r h n)).map (.rs · len) else none
    | .rp l => bif r then (l.mapM (fz r h n)).map .rp else none
    | .map _ => none
    | v => some v
theorem fzs_of {r : Bool} {h : Heap} {n : Nat} (ih : ∀ v v', fz r h n v = some v' → Fz r h v v') : ∀ {l k : List AV}, l.mapM (fz r h n) = some k → Fzs r h l k
  | [], k, e => by simp at e; subst e; exact .nil
  | x :: l, k, e => by
    simp only [List.mapM_cons, Option.bind_eq_bind, Option.bind_eq_some_iff, Option.pure_def, Option.some.injEq] at e
    obtain ⟨b, h1, k', h2, rfl⟩ := e
    exact .cons (ih _ _ h1) (fzs_of ih h2)
theorem fz_ok {r : Bool} {h : Heap} : ∀ (n : Nat) (v v' : AV), fz r h n v = some v' → Fz r h v v'
  | 0, _, _, e => by cases e
  | n + 1, v, v', e => by
    have ih := fz_ok (r := r) (h := h) n
    cases v with
    | undef => cases e; exact .undef
    | bool b => cases e; exact .bool b
    | int k m => cases e; exact .int k m
    | str s => cases e; exact .str s
    | nilp => cases e; exact .nilp
    | nils => cases e; exact .nils
    | nilm => cases e; exact .nilm
    | nilf => cases e; exact .nilf
    | map b => cases e
    | sl b off len cap sz =>
      simp only [fz, T.beq_dec] at e
      by_cases h0 : len = 0
      · rw [decide_eq_true h0, cond_true] at e
        cases e; subst h0; exact .sl0
      · rw [decide_eq_false h0, cond_false] at e
        split at e
        · rename_i l _ _ hg
          split at e
          · rename_i cs hc
            obtain ⟨k, hk, rfl⟩ := Option.map_eq_some_iff.1 e
            exact .sl (by omega) hg hc (fzs_of ih hk)
          · cases e
        · cases e
    | ptr b off =>
      simp only [fz] at e
      split at e
      · rename_i l _ _ hg
        obtain ⟨k, hk, rfl⟩ := Option.map_eq_some_iff.1 e
        exact .ptr hg (fzs_of ih hk)
      · cases e
    | agg l => simp only [fz] at e; obtain ⟨k, hk, rfl⟩ := Option.map_eq_some_iff.1 e; exact .agg (fzs_of ih hk)
    | tup l => simp only [fz] at e; obtain ⟨k, hk, rfl⟩ := Option.map_eq_some_iff.1 e; exact .tup (fzs_of ih hk)
    | fn f l => simp only [fz] at e; obtain ⟨k, hk, rfl⟩ := Option.map_eq_some_iff.1 e; exact .fn (fzs_of ih hk)
    | rs l len =>
      simp only [fz, T.beq_dec] at e
      by_cases h0 : len = 0
      · rw [decide_eq_true h0, cond_true] at e
        cases e; subst h0; exact .rs0
      · rw [decide_eq_false h0, cond_false] at e
        cases r with
        | false => cases e
        | true => obtain ⟨k, hk, rfl⟩ := Option.map_eq_some_iff.1 e; exact .rs rfl (fzs_of ih hk)
    | rp l =>
      simp only [fz] at e
      cases r with
      | false => cases e
      | true => obtain ⟨k, hk, rfl⟩ := Option.map_eq_some_iff.1 e; exact .rp rfl (fzs_of ih hk)
/-- a call with one argument, which is told first -/
theorem Pu.one {P : Program} {f : Nat} {a a' : AV} {R : AV → Prop} (p : Pu P f [a'] R) {h : Heap} (e : fz true h 40 a = some a') {Q : AV → Heap → Prop} (k : ∀ v, R v → Q v h) : Cl P f [a] h Q := p.cl (.cons (fz_ok _ _ _ e) .nil) k
/-- numbers, truths, texts alone -/
def scal1 : AV → Bool
  | .bool _ | .int .. | .str _ => true
  | _ => false
def scal : AV → Bool
  | .tup l => l.all scal1
  | x => scal1 x
theorem scal1_fz {r : Bool} {h : Heap} : ∀ {x : AV}, scal1 x = true → Fz r h x x
  | .bool b, _ => .bool b
  | .int k n, _ => .int k n
  | .str s, _ => .str s
  | .undef, e | .ptr .., e | .nilp, e | .sl .., e | .nils, e | .map _, e | .nilm, e | .fn .., e | .nilf, e | .agg _, e | .tup _, e | .rs .., e | .rp _, e => by cases e
theorem scals_fz {r : Bool} {h : Heap} : ∀ {l : List AV}, l.all scal1 = true → Fzs r h l l
  | [], _ => .nil
  | x :: l, e => by
    rw [List.all_cons, Bool.and_eq_true] at e
    exact .cons (scal1_fz e.1) (scals_fz e.2)
theorem scal_fz {r : Bool} {h : Heap} {x : AV} (e : scal x = true) : Fz r h x x := by
  cases x <;> first | exact scal1_fz e | exact .tup (scals_fz e)
/-- a call run, its answer looked at -/
theorem Pg.runB (g : Pg P F) {n f : Nat} {args : List AV} (chk : AV → Bool) (hv : (vcall F (fun _ _ _ => none) n f args ⟨0, .e⟩).map (fun r => scal r.1 && chk r.1) = some true) : Pu P f args (fun v => chk v = true) := by
  obtain ⟨⟨v, h'⟩, e1, e2⟩ := Option.map_eq_some_iff.1 hv
  rw [Bool.and_eq_true] at e2
  exact ⟨_, _, h', (vm_ok (drawn_ok g.hm) g.tb nothing_told n).2.2 f args _ _ _ e1, scal_fz e2.1, e2.2⟩
theorem EvO.of_vops {X : Told} (hX : CallOk P X) : ∀ {l : List VO} {s : T AV} {h : Heap} {st' : St} {Q : T AV → Heap → Prop}, vops X l ⟨s, h⟩ = some st' → Q st'.s st'.h → EvO P l s h Q
  | [], s, h, st', Q, e, q => by cases e; exact q
  | o :: l, s, h, st', Q, e, q => by
    simp only [vops] at e
    split at e
    · rename_i st1 hd
      rw [EvO]
      unfold vdo at hd
      cases hw : wanted ⟨s, h⟩ o.guard with
      | false =>
        rw [hw, cond_false] at hd
        rw [cond_false]
        cases hd
        rw [put_eq] at e
        exact EvO.of_vops hX e q
      | true =>
        rw [hw, cond_true] at hd
        rw [cond_true]
        cases hv : vop ⟨s, h⟩ h.next o.op with
        | fail => rw [hv] at hd; cases hd
        | val v h1 =>
          rw [hv] at hd
          cases hd
          rw [put_eq] at e
          exact EvO.of_vops hX e q
        | enter f args =>
          rw [hv] at hd
          simp only at hd
          split at hd
          · rename_i v h1 hx
            cases hd
            rw [put_eq] at e
            exact ⟨v, h1, hX _ _ _ _ _ hx, EvO.of_vops hX e q⟩
          · cases hd
    · cases e
theorem vops_of_trace {X : Told} : ∀ {l : List VO} {st : St} {tr : List St}, vtrace X l st = some tr → ∃ st', tr.getLast? = some st' ∧ vops X l st = some st'
  | [], st, tr, e => by cases e; exact ⟨st, rfl, rfl⟩
  | o :: l, st, tr, e => by
    simp only [vtrace] at e
    split at e
    · rename_i st1 hd
      obtain ⟨tr', e1, rfl⟩ := Option.map_eq_some_iff.1 e
      obtain ⟨st', e2, e3⟩ := vops_of_trace e1
      refine ⟨st', ?_, by simp only [vops, hd, e3]⟩
      cases tr' with
      | nil => cases e2
      | cons a b => simpa [List.getLast?_cons_cons] using e2
    · cases e
def mops (call : Nat → List AV → Heap → Option (AV × Heap)) (base : Nat) : List VO → Nat → St → Option St
  | [], _, st => some st
  | o :: l, i, st => match vdo call st (nameAt base i o st.h) o with
    | some st' => mops call base l (i + 1) st'
    | none => none
theorem EvM.of_mops {X : Told} (hX : CallOk P X) {base : Nat} : ∀ {l : List VO} {i : Nat} {s : T AV} {h : Heap} {st' : St} {Q : T AV → Heap → Prop}, mops X base l i ⟨s, h⟩ = some st' → Q st'.s st'.h → EvM P base l i s h Q
  | [], i, s, h, st', Q, e, q => by cases e; exact q
  | o :: l, i, s, h, st', Q, e, q => by
    simp only [mops, nameAt_eq] at e
    split at e
    · rename_i st1 hd
      rw [EvM]
      unfold vdo at hd
      cases hw : wanted ⟨s, h⟩ o.guard with
      | false =>
        rw [hw, cond_false] at hd
        rw [cond_false]
        cases hd
        rw [put_eq] at e
        exact EvM.of_mops hX e q
      | true =>
        rw [hw, cond_true] at hd
        rw [cond_true]
        cases hv : vop ⟨s, h⟩ (nmA base i o.op h) o.op with
        | fail => rw [hv] at hd; cases hd
        | val v h1 =>
          rw [hv] at hd
          cases hd
          rw [put_eq] at e
          exact EvM.of_mops hX e q
        | enter f args =>
          rw [hv] at hd
          simp only at hd
          split at hd
          · rename_i v h1 hx
            cases hd
            rw [put_eq] at e
            exact ⟨v, h1, hX _ _ _ _ _ hx, EvM.of_mops hX e q⟩
          · cases hd
    · cases e
theorem mops_of_trace {X : Told} {base : Nat} : ∀ {l : List VO} {i : Nat} {st : St} {tr : List St}, mtrace X base l i st = some tr → ∃ st', tr.getLast? = some st' ∧ mops X base l i st = some st'
  | [], i, st, tr, e => by cases e; exact ⟨st, rfl, rfl⟩
  | o :: l, i, st, tr, e => by
    simp only [mtrace] at e
    split at e
    · rename_i st1 hd
      obtain ⟨tr', e1, rfl⟩ := Option.map_eq_some_iff.1 e
      obtain ⟨st', e2, e3⟩ := mops_of_trace e1
      refine ⟨st', ?_, by simp only [mops, hd, e3]⟩
      cases tr' with
      | nil => cases e2
      | cons a b => simpa [List.getLast?_cons_cons] using e2
    · cases e
/-- code that was run -/
theorem Ev.of_exec (g : Pg P F) {X : Told} (hX : CallOk P X) : ∀ (n : Nat) {c : VCode} {s : T AV} {h : Heap} {ex : Ex} {st' : St} {Q : Ex → T AV → Heap → Prop}, vexec F X n c ⟨s, h⟩ = some (ex, st') → Q ex st'.s st'.h → Ev P c s h Q
  | 0, c, s, h, ex, st', Q, e, q => by rw [vexec] at e; cases e
  | n + 1, c, s, h, ex, st', Q, e, q => by
    have hc := (vm_ok (drawn_ok g.hm) g.tb hX n).2.2
    rw [vexec] at e
    cases c with
    | bad => cases e
    | skip => cases e; rw [Ev]; exact q
    | ops l =>
      simp only [vstep] at e
      split at e
      · rename_i st1 h1
        cases e
        rw [Ev]
        exact EvO.of_vops hc h1 q
      · cases e
    | drawn l lo =>
      simp only [vstep] at e
      split at e
      · rename_i tr h1
        cases hl : looseOk (vcall F X n) l tr lo with
        | false => rw [hl] at e; cases e
        | true =>
          rw [hl, cond_true] at e
          obtain ⟨st1, h2, h3⟩ := Option.map_eq_some_iff.1 e
          cases h3
          rw [Ev]
          unfold EvR
          split
          · obtain ⟨st2, h4, h5⟩ := vops_of_trace h1
            rw [h2] at h4
            cases h4
            exact EvO.of_vops hc h5 q
          · exact ⟨_, hc, tr, st'.s, st'.h, h1, hl, h2, q⟩
      · cases e
    | mixed l lo =>
      simp only [vstep] at e
      split at e
      · rename_i tr h1
        cases hl : looseOk (vcall F X n) l tr lo with
        | false => rw [hl] at e; cases e
        | true =>
          rw [hl, cond_true] at e
          obtain ⟨st1, h2, h3⟩ := Option.map_eq_some_iff.1 e
          cases h3
          rw [Ev]
          unfold EvMR
          split
          · obtain ⟨st2, h4, h5⟩ := mops_of_trace h1
            rw [h2] at h4
            cases h4
            exact EvM.of_mops hc h5 q
          · exact ⟨_, hc, tr, st'.s, st'.h, h1, hl, h2, q⟩
      · cases e
    | seq a b =>
      simp only [vstep] at e
      rw [Ev]
      split at e
      · rename_i st1 h1
        exact Ev.of_exec g hX n h1 (Ev.of_exec g hX n e q)
      · rename_i hne
        refine Ev.of_exec g hX n e ?_
        cases ex with
        | normal => exact absurd e (hne _)
        | exit i => exact q
        | ret => exact q
    | cond x a b =>
      simp only [vstep, eval_eq] at e
      rw [ev_cond]
      unfold Cd
      split at e
      · rename_i hb; rw [hb]; exact Ev.of_exec g hX n e q
      · rename_i hb; rw [hb]; exact Ev.of_exec g hX n e q
      · cases e
    | block id b =>
      simp only [vstep] at e
      rw [Ev]
      split at e
      · rename_i i st1 h1
        refine Ev.of_exec g hX n h1 ?_
        rw [T.beq_dec] at e
        by_cases hi : i = id
        · rw [decide_eq_true hi, cond_true] at e
          cases e
          simp only [if_pos hi]
          exact q
        · rw [decide_eq_false hi, cond_false] at e
          cases e
          simp only [if_neg hi]
          exact q
      · rename_i hne
        refine Ev.of_exec g hX n e ?_
        cases ex with
        | normal => exact q
        | exit i => exact absurd e (hne _ _)
        | ret => exact q
    | loop b =>
      simp only [vstep] at e
      rw [Ev]
      have hd : ∀ {ex1 : Ex} {st1 : St}, vexec F X n b ⟨s, h⟩ = some (ex1, st1) → Det P b ⟨s, h⟩ ex1 ⟨st1.s, st1.h⟩ := by
        intro ex1 st1 h1 nt code hc φ w a R hs hr hR
        exact (vm_ok (drawn_ok g.hm) g.tb hX n).1 nt code b hc φ w _ _ a ex1 R hs hr h1 hR
      split at e
      · rename_i st1 h1
        refine Lp.round (hd h1) ?_
        have := Ev.of_exec g hX n e q
        rw [Ev] at this
        exact this
      · rename_i hne
        refine Lp.round (hd e) ?_
        cases ex with
        | normal => exact absurd e (hne _)
        | exit i => exact q
        | ret => exact q
    | exit i => cases e; rw [Ev]; exact q
    | ret => cases e; rw [Ev]; exact q
def saysTrue (res : List VRes) : Option (Ex × St) → Bool
  | some (.ret, st) => match VM.results st res with
    | some (.bool b) => b
    | _ => false
  | _ => false
theorem Ev.of_run (g : Pg P F) {X : Told} (hX : CallOk P X) {n : Nat} {c : VCode} {s : T AV} {h : Heap} {res : List VRes} (e : saysTrue res (vexec F X n c ⟨s, h⟩) = true) : Ev P c s h (Un P [] (Fin res fun v h' => Tl h' v fun v => v = .bool true)) := by
  cases hx : vexec F X n c ⟨s, h⟩ with
  | none => rw [hx] at e; cases e
  | some r =>
    obtain ⟨ex, st⟩ := r
    rw [hx] at e
    cases ex with
    | ret =>
      refine Ev.of_exec g hX n hx ?_
      simp only [saysTrue] at e
      rw [un_nil, fin_r]
      have : VM.results ⟨st.s, st.h⟩ res = VM.results st res := rfl
      rw [this]
      cases hr : VM.results st res with
      | none => rw [hr] at e; cases e
      | some v =>
        rw [hr] at e
        cases v <;> simp only at e <;> first | (cases e; done) | skip
        subst e
        rw [fi_some]
        exact ⟨_, .bool true, rfl⟩
    | _ => cases e
end
theorem avc_agg {l : List AV} : AV.cells (.agg l) = some l := rfl
theorem avc_int {k : IntKind} {n : Int} : AV.cells (.int k n) = some [.int k n] := rfl
theorem avc_bool {b : Bool} : AV.cells (.bool b) = some [.bool b] := rfl
theorem avc_str {t : List Nat} : AV.cells (.str t) = some [.str t] := rfl
theorem avc_nils  : AV.cells .nils = some [.nils] := rfl
theorem avc_nilp  : AV.cells .nilp = some [.nilp] := rfl
theorem avc_nilm  : AV.cells .nilm = some [.nilm] := rfl
theorem avc_nilf  : AV.cells .nilf = some [.nilf] := rfl
theorem avc_sl {a b c d e : Nat} : AV.cells (.sl a b c d e) = some [.sl a b c d e] := rfl
theorem avc_ptr {a b : Nat} : AV.cells (.ptr a b) = some [.ptr a b] := rfl
theorem avc_rs {l : List AV} {a : Nat} : AV.cells (.rs l a) = some [.rs l a] := rfl
theorem avc_rp {l : List AV} : AV.cells (.rp l) = some [.rp l] := rfl
theorem avc_map {a : Nat} : AV.cells (.map a) = some [.map a] := rfl
theorem avc_fn {a : Nat} {l : List AV} : AV.cells (.fn a l) = some [.fn a l] := rfl
def R10 := And.intro @avc_agg (And.intro @avc_int (And.intro @avc_bool (And.intro @avc_str (And.intro @avc_nils (And.intro @avc_nilp (And.intro @avc_nilm (And.intro @avc_nilf (And.intro @avc_sl (And.intro @avc_ptr (And.intro @avc_rs (And.intro @avc_rp (And.intro @avc_map @avc_fn))))))))))))
end Go.Proofs.Ytinonmcnofjeeaa.VM
