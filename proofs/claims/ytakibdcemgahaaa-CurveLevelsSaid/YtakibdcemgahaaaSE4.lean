/- Bits and shifts of the small machine's numbers. -/
import Derived.Test.YtakibdcemgahaaaSE3
namespace Go.Proofs.Ytakibdcemgahaaa.VM
set_option linter.unusedSimpArgs false
set_option linter.unusedVariables false
set_option linter.defProp false

theorem mod64 {x : Nat} (h : x < 18446744073709551616) : (((x : Int) % 2 ^ IntKind.bits .i64).toNat) = x := by
  have : IntKind.bits .i64 = 64 := rfl
  rw [this]
  omega
theorem and_nat {x y : Nat} (hx : x < 9223372036854775808) (hy : y < 9223372036854775808) : bitsOf .and .i64 (x : Int) (y : Int) = ((Nat.land x y : Nat) : Int) := by
  unfold bitsOf
  simp only
  rw [mod64 (by omega), mod64 (by omega)]
  have : Nat.land x y ≤ x := Nat.and_le_left
  exact w64 (by omega) (by omega)
theorem and_low {x n : Nat} (hx : x < 9223372036854775808) (hn : n ≤ 62) : bitsOf .and .i64 (x : Int) (((2 ^ n : Nat) : Int) - 1) = ((x % 2 ^ n : Nat) : Int) := by
  have hp : 0 < 2 ^ n := Nat.two_pow_pos n
  have hle : 2 ^ n ≤ 2 ^ 62 := Nat.pow_le_pow_right (by decide) hn
  have e : (((2 ^ n : Nat) : Int) - 1) = ((2 ^ n - 1 : Nat) : Int) := by omega
  rw [e, and_nat hx (by omega)]
  have : Nat.land x (2 ^ n - 1) = x % 2 ^ n := Nat.and_two_pow_sub_one_eq_mod x n
  rw [this]
theorem and_one {x : Nat} (hx : x < 9223372036854775808) : bitsOf .and .i64 (x : Int) 1 = ((x % 2 : Nat) : Int) := by
  have := and_low (n := 1) hx (by decide)
  simpa using this
theorem shl_nat {n : Nat} (h : n ≤ 62) : IntKind.i64.wrap (1 * 2 ^ min n 64) = ((2 ^ n : Nat) : Int) := by
  have hle : 2 ^ n ≤ 2 ^ 62 := Nat.pow_le_pow_right (by decide) h
  have e : min n 64 = n := by omega
  rw [e, Int.one_mul]
  have e2 : ((2 : Int) ^ n) = ((2 ^ n : Nat) : Int) := by push_cast; rfl
  rw [e2]
  have hp : 0 < 2 ^ n := Nat.two_pow_pos n
  generalize 2 ^ n = m at *
  exact w64 (by omega) (by omega)
theorem shr_nat {x n : Nat} (h : n ≤ 64) : (x : Int).fdiv (2 ^ min n 64) = ((x / 2 ^ n : Nat) : Int) := by
  have e : min n 64 = n := by omega
  rw [e, fdivp]
  push_cast
  rfl
/-- any number's low bits -/
theorem and_any (z : Int) {n : Nat} (hn : n ≤ 62) : bitsOf .and .i64 z (((2 ^ n : Nat) : Int) - 1) = (((z % 18446744073709551616).toNat % 2 ^ n : Nat) : Int) := by
  have hp : 0 < 2 ^ n := Nat.two_pow_pos n
  have hle : 2 ^ n ≤ 2 ^ 62 := Nat.pow_le_pow_right (by decide) hn
  have e : (((2 ^ n : Nat) : Int) - 1) = ((2 ^ n - 1 : Nat) : Int) := by omega
  unfold bitsOf
  simp only
  rw [e, mod64 (by omega)]
  have eb : IntKind.bits .i64 = 64 := rfl
  rw [eb]
  have : Nat.land (z % 2 ^ 64).toNat (2 ^ n - 1) = (z % 2 ^ 64).toNat % 2 ^ n := Nat.and_two_pow_sub_one_eq_mod _ n
  rw [this]
  have hlt := Nat.mod_lt (z % 2 ^ 64).toNat hp
  have e2 : (2 : Int) ^ 64 = 18446744073709551616 := rfl
  rw [e2] at hlt ⊢
  exact w64 (by omega) (by omega)

theorem drop_take_one {α : Type} {l : List α} {j : Nat} (hj : j < l.length) : (l.drop j).take 1 = [l[j]] := by
  rw [List.drop_eq_getElem_cons hj]
  rfl
theorem wr_at {h : Heap} {b j : Nat} {l : List AV} {e : TypeId} {ver : Nat} (hg : h.get b = some (.cells l e ver)) (hj : j < l.length) {x : AV} (hx : x.one = true) : writeAt h b j [x] = some (h.put b (.cells (l.set j x) e (ver + 1))) := by
  unfold writeAt
  rw [hg]
  have : Nat.ble (j + 1) l.length = true := by rw [Nat.ble_eq]; exact hj
  have e2 : lsets [x] l j = l.set j x := by
    unfold lsets
    rw [List.set_eq_take_append_cons_drop, if_pos hj]
    simp
  simp only [List.length_cons, List.length_nil, Nat.zero_add, this, List.all_cons, hx, List.all_nil, Bool.and_self, cond_true, e2]
/-- one cell of a block -/
theorem ld_at {h : Heap} {b j : Nat} {l : List AV} {e : TypeId} {ver : Nat} (hg : h.get b = some (.cells l e ver)) (hj : j < l.length) : ldV false 1 h (.ptr b j) = .val l[j] h := by
  rw [ldV_ptr, hg, ldB_some, part_eq, drop_take_one hj]
  simp [one, valO]
theorem ldB_at {h : Heap} {j : Nat} {l : List AV} {e : TypeId} {ver : Nat} (hj : j < l.length) : ldB false j 1 h (some (.cells l e ver)) = .val l[j] h := by
  rw [ldB_some, part_eq, drop_take_one hj]
  simp [one, valO]
theorem lsets_one {l : List AV} {j : Nat} {x : AV} (hj : j < l.length) : lsets [x] l j = l.set j x := by
  unfold lsets
  rw [List.set_eq_take_append_cons_drop, if_pos hj]
  simp
theorem st_at {h : Heap} {b j : Nat} {l : List AV} {e : TypeId} {ver : Nat} (hg : h.get b = some (.cells l e ver)) (hj : j < l.length) {x : AV} (hx : x.one = true) : stV h 1 (.ptr b j) (some [x]) = .val .undef (h.put b (.cells (l.set j x) e (ver + 1))) := by
  rw [stV_ptr, if_pos (show [x].length = 1 from rfl)]
  unfold writeAt
  rw [hg]
  have : Nat.ble (j + 1) l.length = true := by rw [Nat.ble_eq]; exact hj
  simp only [List.length_cons, List.length_nil, Nat.zero_add, this, List.all_cons, hx, List.all_nil, Bool.and_self, cond_true, lsets_one hj]
  rfl
section
variable {P : Program} {F : Nat → Option VFun}
/-- a closed call, run -/
theorem Pg.run (g : Pg P F) {n f : Nat} {b : Bool} (hv : (vcall F (fun _ _ _ => none) n f [] ⟨0, .e⟩).map (·.1) = some (.bool b)) : Pu P f [] (fun v => v = .bool b) := by
  obtain ⟨⟨v, h'⟩, e1, e2⟩ := Option.map_eq_some_iff.1 hv
  simp only at e2
  subst e2
  exact ⟨_, _, h', (vm_ok (drawn_ok g.hm) g.tb nothing_told n).2.2 f [] _ _ _ e1, .bool b, rfl⟩
end
end Go.Proofs.Ytakibdcemgahaaa.VM
