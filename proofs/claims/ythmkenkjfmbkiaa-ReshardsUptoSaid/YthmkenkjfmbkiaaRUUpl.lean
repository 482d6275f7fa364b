/- A law's row where what it reads is bound; how long a slice is then. Plain laws over any program. -/
import Derived.Test.YthmkenkjfmbkiaaRUTab
import Derived.Test.YthmkenkjfmbkiaaLawRow
import Derived.ChangeArms
import Derived.JoinedCond
import Derived.Deep.CondSized
namespace Go.Proofs.Ythmkenkjfmbkiaa.LawRow
set_option linter.unusedSimpArgs false
set_option linter.unusedVariables false
set_option linter.defProp false
set_option maxHeartbeats 1000000
open Go.ChangeShapes Go.WideShapes Go.ChangeAt Go.RowKit
theorem liftedU {H : Type} {enc : TypeId × Value → H} {C : Checked} {os : Os} {f : FuncId} {fn : Func} {s : ChangeSpec} {b : TypeId} (F : Stop.Interp)
    (own : ownKnob C.prog.godebug = none) (started : os.Started) (noInit : C.prog.inits.idxOf? f = none) (hfn : C.prog.funcs[f]? = some fn)
    (witness : ∃ (w : World) (tape : Tape) (i : Input), w.os = os ∧ (w.forCall tape i).Shaped C.prog ∧ i.vars = [] ∧ Input.okWide C.prog (w.forCall tape i) .any w.heap.size f i ∧
      (Rows.OpenSpec.upto s).pre6 enc C.prog fn [] false (w.forCall tape i).memory i.args ∧ Assume.holds {} C.prog (lone (Frame.enter C.prog f i.args .normal) [] (w.forCall tape i)))
    (hvars : s.vars = []) (hl : laidOutB C.prog = true) (hread : fn.params.toList.all (fun t => C.prog.readableRec t && decide (t < C.prog.types.size)) = true)
    (hres : fn.resultTypes = #[b]) (hb : C.prog.underlying b = some .bool)
    (hs : ∀ ds : List (DataW H), ds.length = fn.params.toList.length → s.fn H ds = { results := [.lit (.bool true)], args := ds })
    (contract : ∀ (W : World) (base : Nat) (args : Array Value) (ds : List (DataW H)) (p : List MemPlace),
      (∀ (j : Nat) t v, fn.params[j]? = some t → args[j]? = some v → Value.okWide C.prog W .any base t v) →
      DataW.TrodAll enc C.prog W 0 (fun _ => true) true fn.params.toList args.toList ds p →
      (DataW.weightsEach C.prog fn.params.toList ds).all (· ≤ reachBytes) = true → Rows.uptoBulkAll ds ≤ 1048576 →
      Calls C.prog f args W fun e W' => e = .returned (.bool true) ∧ Below W.heap.size W W') :
    ReturnsInHanded {} C os f .any ((Rows.OpenSpec.upto s).pre6 enc C.prog fn [] false) (((Rows.OpenSpec.upto s).at F).post enc C.prog fn false true false false) := by
  refine returnsInHanded_of_cond_sized (C := C) (s := Rows.OpenSpec.upto s) (k := Rows.uptoSmall) rfl own started noInit hfn witness ?_
  intro W base args ds gs before hval hW _ hk hsz _
  have hW' := hW
  obtain ⟨p, q, hA, hV, rfl, hfz, hnd⟩ := hW
  have hg : gs = [] ∧ q = [] := by
    have : (Rows.OpenSpec.upto s).vars = [] := hvars
    rw [this] at hV; exact trodVars_none hV
  obtain ⟨rfl, rfl⟩ := hg
  have hvt : (Rows.OpenSpec.upto s).bare.plain.varTypes C.prog = [] := by
    have : (Rows.OpenSpec.upto s).bare.plain.vars = [] := hvars
    unfold DataSpec.varTypes
    simp [this]
  rw [hvt, List.append_nil, List.append_nil] at hsz
  rw [List.append_nil] at hk
  have hk2 : Rows.uptoBulkAll ds ≤ 1048576 := of_decide_eq_true hk
  refine (contract W base args ds p hval hA hsz hk2).mono fun e W' ⟨he, bel⟩ => ⟨_, he, ?_⟩
  have hlen : ds.length = fn.params.toList.length := trodAll_len hA
  have hs' := hs ds hlen
  show s.post enc C.prog fn false true false false W args _ W'
  refine ⟨ds, [], p ++ [], [], p, [], hW', ?_, ?_, ?_, bel.frame _, fun h => by cases h⟩
  · rw [List.append_nil, hs', hres]
    exact trodAll_mk1 (shut_bool hb _)
  · rw [List.append_nil, hs']
    exact trodAll_below hl bel hread hA (DataW.TrodAll.lt hA)
  · rw [List.append_nil, hs', hvars]
    rfl
/-- so many values at the most -/
theorem bulk_one {H : Type} (d : DataW H) : 1 ≤ Rows.uptoBulk d := by
  cases d with
  | lit l => cases l <;> simp [Rows.uptoBulk]
  | nil => simp [Rows.uptoBulk]
  | ptr d => simp [Rows.uptoBulk]
  | slice elems spare => simp [Rows.uptoBulk]
  | agg parts => simp [Rows.uptoBulk]
  | iface t d => simp [Rows.uptoBulk]
  | map entries => simp [Rows.uptoBulk]
  | held h => simp [Rows.uptoBulk]
theorem bulk_len {H : Type} (l : List (DataW H)) : l.length ≤ Rows.uptoBulkAll l := by
  induction l with
  | nil => simp [Rows.uptoBulkAll]
  | cons x r ih => have := bulk_one x; simp only [Rows.uptoBulkAll, List.length_cons]; omega
theorem bulk_part {H : Type} {d : DataW H} {l : List (DataW H)} (h : d ∈ l) : Rows.uptoBulk d ≤ Rows.uptoBulkAll l := by
  induction l with
  | nil => cases h
  | cons x r ih =>
    simp only [Rows.uptoBulkAll]
    rcases List.mem_cons.1 h with e | e
    · subst e; omega
    · have := ih e; omega
theorem bulk_slice {H : Type} (elems spare : List (DataW H)) : elems.length + 1 ≤ Rows.uptoBulk (.slice elems spare) := by
  have h1 := bulk_len elems
  simp only [Rows.uptoBulk]
  omega
end Go.Proofs.Ythmkenkjfmbkiaa.LawRow
namespace Go.Proofs.Ythmkenkjfmbkiaa.VM
open Go.RowKit
theorem len_bulk {H α : Type} {enc : TypeId × Value → H} {P : Program} {w : World} {base : Nat} {spare : Nat → Bool} {held : Bool} {t e : TypeId} {v : Value} {d : DataW H} {ps : List MemPlace} (ht : P.underlying t = some (.slice e)) (h : DataW.Trod enc P w base spare held t v d ps)
    {w1 : AV} {B : Nat} {R : α → List AV → Prop} {l : List α} (hv : VRs none0 w [w1] v.cells.toList) (hw1 : IsL B R w1 l) : l.length ≤ Rows.uptoBulk d := by
  obtain ⟨fuel, hf⟩ := h
  rcases DataW.trod_slice ht hf with ⟨hc, hx⟩ | ⟨a, len, cap, elems, rest, n, _, hc, hx, _, _, _, hlen, _, _, _⟩
  · rw [hc] at hv
    cases hv with | cons hv _ =>
      rcases hw1.2 with ⟨_, rfl⟩ | ⟨c, rfl, _⟩
      · exact Nat.zero_le _
      · generalize l.length = L at *
        cases hv
  · rw [hc] at hv
    obtain ⟨rfl, _⟩ := Prod.mk.inj hx
    have hb := LawRow.bulk_slice (elems.map (·.1)) (rest.map (·.1))
    rw [List.length_map] at hb
    cases hv with | cons hv _ =>
      rcases hw1.2 with ⟨_, rfl⟩ | ⟨c, rfl, _⟩
      · exact Nat.zero_le _
      · generalize hL : l.length = L at *
        cases hv with
        | rs => omega
        | rs0 => omega
end Go.Proofs.Ythmkenkjfmbkiaa.VM
