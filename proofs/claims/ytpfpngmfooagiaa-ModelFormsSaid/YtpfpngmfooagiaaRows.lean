/-
  No cell of these rows narrows 'for every input' (looked for: loops, veiled, ifaces, maps, wideKeys, modest, calm, conditions, laid).
  DERIVED. THE GIVEN ROWS OF THIS SEAT. 3 by the template 'for every input the law returns true; each argument reads behind the call as it read before'; 0 by the template 'total and deterministic' (their statements: YtpfpngmfooagiaaTotals.lean).
  GIVEN WITH THE SEED: the statements are not yours to turn. If you find one false, say at which input.
  Laid BY PROGRAM, IN A SANDBOX (cutbox-rows.mjs): the forced cells as the released guide's own fill.sh prints them over the translation e53aea6e75efff01… (all of the seat's roots in one cut). By AI agents, Wed Nov 11 2026. No macro, syntax, notation, axiom, sorry.
-/
import Derived.Test.YtpfpngmfooagiaaChecked
import GoSem.Claim
import GoSem.ClaimJoined
import GoSem.ClaimMapViews
import Derived.JoinedTies
import Derived.KernelRfl
namespace Go.Proofs.Ytpfpngmfooagiaa
/- THE CELL 'sum', in the pinned program and in every row, IS THE sha256 OF THE DUMP (.gsa) THAT YtpfpngmfooagiaaProg.lean LOADS. Nothing in Lean hashes anything: it is a label: what it is worth is what the hold of that sum in a sandbox is worth. -/
noncomputable def Try.pinned : Pinned := { name := "ytpfpngmfooagiaa", sum := "e53aea6e75efff0181efc8b1144c9493e891c72cda1f0d5bc9ffaac716d63273", checked := Try.checked }
namespace Rows
def none {H : Type} : Left H := { results := [], args := [] }

/-- 'furlonglaw24.ModelRules': WHATEVER THE INPUT: true; the input reads as it did. -/
def modelRulesSpec : ChangeSpec := { name := "modelRules", fn := fun _ => fun
  | [d1, d2] => { results := [.lit (.bool true)], args := [d1, d2] }
  | _ => none }
def modelRulesRow : OpenClaim := { program := "ytpfpngmfooagiaa", sum := "e53aea6e75efff0181efc8b1144c9493e891c72cda1f0d5bc9ffaac716d63273", func := "furlong/furlonglaw24.ModelRules", spec := "modelRules", inPlace := ["slices.overlaps[furlong/api.Feature]"], unfollowed := true, recurses := true, apart := false }
def ModelRulesSaid : Prop := modelRulesRow.holds Try.pinned (OpenSpec.ofChange modelRulesSpec)

/-- ITS FALSE NEIGHBOUR: 'it returns false'. Refute it at one input. -/
def modelRulesWrong : ChangeSpec := { name := "modelRules", fn := fun _ => fun
  | [d1, d2] => { results := [.lit (.bool false)], args := [d1, d2] }
  | _ => none }
def ModelRulesWrongFalsely : Prop := modelRulesRow.holds Try.pinned (OpenSpec.ofChange modelRulesWrong)

/-- 'furlonglaw24.ModelRows': WHATEVER THE INPUT: true; the input reads as it did. -/
def modelRowsSpec : ChangeSpec := { name := "modelRows", fn := fun _ => fun
  | [d1, d2, d3] => { results := [.lit (.bool true)], args := [d1, d2, d3] }
  | _ => none }
def modelRowsRow : OpenClaim := { program := "ytpfpngmfooagiaa", sum := "e53aea6e75efff0181efc8b1144c9493e891c72cda1f0d5bc9ffaac716d63273", func := "furlong/furlonglaw24.ModelRows", spec := "modelRows", inPlace := ["slices.overlaps[furlong/api.Feature]"], unfollowed := true, recurses := true, apart := false }
def ModelRowsSaid : Prop := modelRowsRow.holds Try.pinned (OpenSpec.ofChange modelRowsSpec)

/-- ITS FALSE NEIGHBOUR: 'it returns false'. Refute it at one input. -/
def modelRowsWrong : ChangeSpec := { name := "modelRows", fn := fun _ => fun
  | [d1, d2, d3] => { results := [.lit (.bool false)], args := [d1, d2, d3] }
  | _ => none }
def ModelRowsWrongFalsely : Prop := modelRowsRow.holds Try.pinned (OpenSpec.ofChange modelRowsWrong)

/-- 'furlonglaw24.ModelForms': WHATEVER THE INPUT: true; the input reads as it did. -/
def modelFormsSpec : ChangeSpec := { name := "modelForms", fn := fun _ => fun
  | [d1, d2] => { results := [.lit (.bool true)], args := [d1, d2] }
  | _ => none }
def modelFormsRow : OpenClaim := { program := "ytpfpngmfooagiaa", sum := "e53aea6e75efff0181efc8b1144c9493e891c72cda1f0d5bc9ffaac716d63273", func := "furlong/furlonglaw24.ModelForms", spec := "modelForms", inPlace := ["slices.overlaps[furlong/api.Feature]"], unfollowed := true, recurses := true, apart := false }
def ModelFormsSaid : Prop := modelFormsRow.holds Try.pinned (OpenSpec.ofChange modelFormsSpec)

/-- ITS FALSE NEIGHBOUR: 'it returns false'. Refute it at one input. -/
def modelFormsWrong : ChangeSpec := { name := "modelForms", fn := fun _ => fun
  | [d1, d2] => { results := [.lit (.bool false)], args := [d1, d2] }
  | _ => none }
def ModelFormsWrongFalsely : Prop := modelFormsRow.holds Try.pinned (OpenSpec.ofChange modelFormsWrong)

/- THE SECOND FORM. 'bulk': how many values and letters a reading holds, each counted each time it is reached (what is shared counts as often as it is met; a slice's spare places count too). A statement '..UptoSaid' is the law's where the arguments, and the package variables that the reading takes, are together of bulk at most 1048576: NARROWER than '..Said'. Prove '..Said' where nothing that the law and all that it calls make is longer than what came in: it says more and counts as full. Else prove '..UptoSaid'. A law counts once. -/
mutual
def uptoBulk {H : Type} : DataW H → Nat
  | .lit (.string bytes) => bytes.length + 1
  | .lit _ => 1
  | .nil => 1
  | .ptr d => uptoBulk d + 1
  | .slice elems spare => uptoBulkAll elems + uptoBulkAll spare + 1
  | .agg parts => uptoBulkAll parts + 1
  | .iface _ d => uptoBulk d + 1
  | .map entries => uptoBulkEntries entries + 1
  | .held _ => 1
def uptoBulkAll {H : Type} : List (DataW H) → Nat
  | [] => 0
  | d :: r => uptoBulk d + uptoBulkAll r
def uptoBulkEntries {H : Type} : List (Lit × DataW H) → Nat
  | [] => 0
  | x :: r => uptoBulkEntry x + uptoBulkEntries r
def uptoBulkEntry {H : Type} : Lit × DataW H → Nat
  | (.string bytes, d) => bytes.length + uptoBulk d + 1
  | (_, d) => uptoBulk d + 1
 end
def uptoSmall : (H : Type) → List (DataW H) → Bool := fun _ ds => decide (uptoBulkAll ds ≤ 1048576)
def OpenSpec.upto (s : _root_.Go.ChangeSpec) : _root_.Go.OpenSpec := { _root_.Go.OpenSpec.ofChange s with cond := some uptoSmall }

/-- 'furlonglaw24.ModelRules', WHERE WHAT IT READS IS OF BULK AT MOST 1048576: true; the input reads as it did. -/
def modelRulesUptoRow : OpenClaim := { program := "ytpfpngmfooagiaa", sum := "e53aea6e75efff0181efc8b1144c9493e891c72cda1f0d5bc9ffaac716d63273", func := "furlong/furlonglaw24.ModelRules", spec := "modelRules", inPlace := ["slices.overlaps[furlong/api.Feature]"], unfollowed := true, recurses := true, apart := false, narrowed := true }
def ModelRulesUptoSaid : Prop := modelRulesUptoRow.holds Try.pinned (OpenSpec.upto modelRulesSpec)

/-- 'furlonglaw24.ModelRows', WHERE WHAT IT READS IS OF BULK AT MOST 1048576: true; the input reads as it did. -/
def modelRowsUptoRow : OpenClaim := { program := "ytpfpngmfooagiaa", sum := "e53aea6e75efff0181efc8b1144c9493e891c72cda1f0d5bc9ffaac716d63273", func := "furlong/furlonglaw24.ModelRows", spec := "modelRows", inPlace := ["slices.overlaps[furlong/api.Feature]"], unfollowed := true, recurses := true, apart := false, narrowed := true }
def ModelRowsUptoSaid : Prop := modelRowsUptoRow.holds Try.pinned (OpenSpec.upto modelRowsSpec)

/-- 'furlonglaw24.ModelForms', WHERE WHAT IT READS IS OF BULK AT MOST 1048576: true; the input reads as it did. -/
def modelFormsUptoRow : OpenClaim := { program := "ytpfpngmfooagiaa", sum := "e53aea6e75efff0181efc8b1144c9493e891c72cda1f0d5bc9ffaac716d63273", func := "furlong/furlonglaw24.ModelForms", spec := "modelForms", inPlace := ["slices.overlaps[furlong/api.Feature]"], unfollowed := true, recurses := true, apart := false, narrowed := true }
def ModelFormsUptoSaid : Prop := modelFormsUptoRow.holds Try.pinned (OpenSpec.upto modelFormsSpec)

end Rows
end Go.Proofs.Ytpfpngmfooagiaa
