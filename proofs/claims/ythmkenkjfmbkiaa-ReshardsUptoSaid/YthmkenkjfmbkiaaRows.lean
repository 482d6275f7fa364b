/-
  No cell of these rows narrows 'for every input' (looked for: loops, veiled, ifaces, maps, wideKeys, modest, calm, conditions, laid).
  DERIVED. THE GIVEN ROWS OF THIS SEAT. 9 by the template 'for every input the law returns true; each argument reads behind the call as it read before'; 0 by the template 'total and deterministic' (their statements: YthmkenkjfmbkiaaTotals.lean).
  GIVEN WITH THE SEED: the statements are not yours to turn. If you find one false, say at which input.
  Laid BY PROGRAM, IN A SANDBOX (cutbox-rows.mjs): the forced cells as the released guide's own fill.sh prints them over the translation 8527b0efe194023e… (all of the seat's roots in one cut). By AI agents, Wed Nov 11 2026. No macro, syntax, notation, axiom, sorry.
-/
import Derived.Test.YthmkenkjfmbkiaaChecked
import GoSem.Claim
import GoSem.ClaimJoined
import GoSem.ClaimMapViews
import Derived.JoinedTies
import Derived.KernelRfl
namespace Go.Proofs.Ythmkenkjfmbkiaa
/- THE CELL 'sum', in the pinned program and in every row, IS THE sha256 OF THE DUMP (.gsa) THAT YthmkenkjfmbkiaaProg.lean LOADS. Nothing in Lean hashes anything: it is a label: what it is worth is what the hold of that sum in a sandbox is worth. -/
noncomputable def Try.pinned : Pinned := { name := "ythmkenkjfmbkiaa", sum := "8527b0efe194023ec3086e8fe40ae7c49936c0b96bf4bcc385501f1793fccbfd", checked := Try.checked }
namespace Rows
def none {H : Type} : Left H := { results := [], args := [] }

/-- 'furlonglaw22.Reshards': WHATEVER THE INPUT: true; the input reads as it did. -/
def reshardsSpec : ChangeSpec := { name := "reshards", fn := fun _ => fun
  | [d1, d2, d3, d4] => { results := [.lit (.bool true)], args := [d1, d2, d3, d4] }
  | _ => none }
def reshardsRow : OpenClaim := { program := "ythmkenkjfmbkiaa", sum := "8527b0efe194023ec3086e8fe40ae7c49936c0b96bf4bcc385501f1793fccbfd", func := "furlong/furlonglaw22.Reshards", spec := "reshards", inPlace := ["slices.overlaps[int]"], unfollowed := true, recurses := true, apart := false }
def ReshardsSaid : Prop := reshardsRow.holds Try.pinned (OpenSpec.ofChange reshardsSpec)

/-- ITS FALSE NEIGHBOUR: 'it returns false'. Refute it at one input. -/
def reshardsWrong : ChangeSpec := { name := "reshards", fn := fun _ => fun
  | [d1, d2, d3, d4] => { results := [.lit (.bool false)], args := [d1, d2, d3, d4] }
  | _ => none }
def ReshardsWrongFalsely : Prop := reshardsRow.holds Try.pinned (OpenSpec.ofChange reshardsWrong)

/-- 'furlonglaw22.ReshardHolds': WHATEVER THE INPUT: true; the input reads as it did. -/
def reshardHoldsSpec : ChangeSpec := { name := "reshardHolds", fn := fun _ => fun
  | [d1, d2, d3, d4] => { results := [.lit (.bool true)], args := [d1, d2, d3, d4] }
  | _ => none }
def reshardHoldsRow : OpenClaim := { program := "ythmkenkjfmbkiaa", sum := "8527b0efe194023ec3086e8fe40ae7c49936c0b96bf4bcc385501f1793fccbfd", func := "furlong/furlonglaw22.ReshardHolds", spec := "reshardHolds", inPlace := ["slices.overlaps[int]"], unfollowed := true, recurses := true, apart := false }
def ReshardHoldsSaid : Prop := reshardHoldsRow.holds Try.pinned (OpenSpec.ofChange reshardHoldsSpec)

/-- ITS FALSE NEIGHBOUR: 'it returns false'. Refute it at one input. -/
def reshardHoldsWrong : ChangeSpec := { name := "reshardHolds", fn := fun _ => fun
  | [d1, d2, d3, d4] => { results := [.lit (.bool false)], args := [d1, d2, d3, d4] }
  | _ => none }
def ReshardHoldsWrongFalsely : Prop := reshardHoldsRow.holds Try.pinned (OpenSpec.ofChange reshardHoldsWrong)

/-- 'furlonglaw22.ReshardForms': WHATEVER THE INPUT: true; the input reads as it did. -/
def reshardFormsSpec : ChangeSpec := { name := "reshardForms", fn := fun _ => fun
  | [d1, d2, d3] => { results := [.lit (.bool true)], args := [d1, d2, d3] }
  | _ => none }
def reshardFormsRow : OpenClaim := { program := "ythmkenkjfmbkiaa", sum := "8527b0efe194023ec3086e8fe40ae7c49936c0b96bf4bcc385501f1793fccbfd", func := "furlong/furlonglaw22.ReshardForms", spec := "reshardForms", inPlace := ["slices.overlaps[int]"], unfollowed := true, recurses := true, apart := false }
def ReshardFormsSaid : Prop := reshardFormsRow.holds Try.pinned (OpenSpec.ofChange reshardFormsSpec)

/-- ITS FALSE NEIGHBOUR: 'it returns false'. Refute it at one input. -/
def reshardFormsWrong : ChangeSpec := { name := "reshardForms", fn := fun _ => fun
  | [d1, d2, d3] => { results := [.lit (.bool false)], args := [d1, d2, d3] }
  | _ => none }
def ReshardFormsWrongFalsely : Prop := reshardFormsRow.holds Try.pinned (OpenSpec.ofChange reshardFormsWrong)

/-- 'furlonglaw22.ReshardBack': WHATEVER THE INPUT: true; the input reads as it did. -/
def reshardBackSpec : ChangeSpec := { name := "reshardBack", fn := fun _ => fun
  | [d1, d2, d3] => { results := [.lit (.bool true)], args := [d1, d2, d3] }
  | _ => none }
def reshardBackRow : OpenClaim := { program := "ythmkenkjfmbkiaa", sum := "8527b0efe194023ec3086e8fe40ae7c49936c0b96bf4bcc385501f1793fccbfd", func := "furlong/furlonglaw22.ReshardBack", spec := "reshardBack", inPlace := ["slices.overlaps[int]"], unfollowed := true, recurses := true, apart := false }
def ReshardBackSaid : Prop := reshardBackRow.holds Try.pinned (OpenSpec.ofChange reshardBackSpec)

/-- ITS FALSE NEIGHBOUR: 'it returns false'. Refute it at one input. -/
def reshardBackWrong : ChangeSpec := { name := "reshardBack", fn := fun _ => fun
  | [d1, d2, d3] => { results := [.lit (.bool false)], args := [d1, d2, d3] }
  | _ => none }
def ReshardBackWrongFalsely : Prop := reshardBackRow.holds Try.pinned (OpenSpec.ofChange reshardBackWrong)

/-- 'furlonglaw7.MapChanges': WHATEVER THE INPUT: true; the input reads as it did. -/
def mapChangesSpec : ChangeSpec := { name := "mapChanges", fn := fun _ => fun
  | [d1, d2, d3, d4] => { results := [.lit (.bool true)], args := [d1, d2, d3, d4] }
  | _ => none }
def mapChangesRow : OpenClaim := { program := "ythmkenkjfmbkiaa", sum := "8527b0efe194023ec3086e8fe40ae7c49936c0b96bf4bcc385501f1793fccbfd", func := "furlong/furlonglaw7.MapChanges", spec := "mapChanges", inPlace := ["slices.overlaps[int]"], recurses := true, apart := false }
def MapChangesSaid : Prop := mapChangesRow.holds Try.pinned (OpenSpec.ofChange mapChangesSpec)

/-- ITS FALSE NEIGHBOUR: 'it returns false'. Refute it at one input. -/
def mapChangesWrong : ChangeSpec := { name := "mapChanges", fn := fun _ => fun
  | [d1, d2, d3, d4] => { results := [.lit (.bool false)], args := [d1, d2, d3, d4] }
  | _ => none }
def MapChangesWrongFalsely : Prop := mapChangesRow.holds Try.pinned (OpenSpec.ofChange mapChangesWrong)

/-- 'furlonglaw7.MapFirst': WHATEVER THE INPUT: true; the input reads as it did. -/
def mapFirstSpec : ChangeSpec := { name := "mapFirst", fn := fun _ => fun
  | [d1, d2] => { results := [.lit (.bool true)], args := [d1, d2] }
  | _ => none }
def mapFirstRow : OpenClaim := { program := "ythmkenkjfmbkiaa", sum := "8527b0efe194023ec3086e8fe40ae7c49936c0b96bf4bcc385501f1793fccbfd", func := "furlong/furlonglaw7.MapFirst", spec := "mapFirst", inPlace := ["slices.overlaps[int]"], recurses := true, apart := false }
def MapFirstSaid : Prop := mapFirstRow.holds Try.pinned (OpenSpec.ofChange mapFirstSpec)

/-- ITS FALSE NEIGHBOUR: 'it returns false'. Refute it at one input. -/
def mapFirstWrong : ChangeSpec := { name := "mapFirst", fn := fun _ => fun
  | [d1, d2] => { results := [.lit (.bool false)], args := [d1, d2] }
  | _ => none }
def MapFirstWrongFalsely : Prop := mapFirstRow.holds Try.pinned (OpenSpec.ofChange mapFirstWrong)

/-- 'furlonglaw7.MapForms': WHATEVER THE INPUT: true; the input reads as it did. -/
def mapFormsSpec : ChangeSpec := { name := "mapForms", fn := fun _ => fun
  | [d1, d2] => { results := [.lit (.bool true)], args := [d1, d2] }
  | _ => none }
def mapFormsRow : OpenClaim := { program := "ythmkenkjfmbkiaa", sum := "8527b0efe194023ec3086e8fe40ae7c49936c0b96bf4bcc385501f1793fccbfd", func := "furlong/furlonglaw7.MapForms", spec := "mapForms", inPlace := ["slices.overlaps[int]"], recurses := true, apart := false }
def MapFormsSaid : Prop := mapFormsRow.holds Try.pinned (OpenSpec.ofChange mapFormsSpec)

/-- ITS FALSE NEIGHBOUR: 'it returns false'. Refute it at one input. -/
def mapFormsWrong : ChangeSpec := { name := "mapForms", fn := fun _ => fun
  | [d1, d2] => { results := [.lit (.bool false)], args := [d1, d2] }
  | _ => none }
def MapFormsWrongFalsely : Prop := mapFormsRow.holds Try.pinned (OpenSpec.ofChange mapFormsWrong)

/-- 'furlonglaw7.MapRow': WHATEVER THE INPUT: true; the input reads as it did. -/
def mapRowSpec : ChangeSpec := { name := "mapRow", fn := fun _ => fun
  | [d1, d2, d3] => { results := [.lit (.bool true)], args := [d1, d2, d3] }
  | _ => none }
def mapRowRow : OpenClaim := { program := "ythmkenkjfmbkiaa", sum := "8527b0efe194023ec3086e8fe40ae7c49936c0b96bf4bcc385501f1793fccbfd", func := "furlong/furlonglaw7.MapRow", spec := "mapRow", inPlace := ["slices.overlaps[int]"], recurses := true, apart := false }
def MapRowSaid : Prop := mapRowRow.holds Try.pinned (OpenSpec.ofChange mapRowSpec)

/-- ITS FALSE NEIGHBOUR: 'it returns false'. Refute it at one input. -/
def mapRowWrong : ChangeSpec := { name := "mapRow", fn := fun _ => fun
  | [d1, d2, d3] => { results := [.lit (.bool false)], args := [d1, d2, d3] }
  | _ => none }
def MapRowWrongFalsely : Prop := mapRowRow.holds Try.pinned (OpenSpec.ofChange mapRowWrong)

/-- 'furlonglaw7.Maps': WHATEVER THE INPUT: true; the input reads as it did. -/
def mapsSpec : ChangeSpec := { name := "maps", fn := fun _ => fun
  | [d1, d2, d3, d4, d5, d6, d7] => { results := [.lit (.bool true)], args := [d1, d2, d3, d4, d5, d6, d7] }
  | _ => none }
def mapsRow : OpenClaim := { program := "ythmkenkjfmbkiaa", sum := "8527b0efe194023ec3086e8fe40ae7c49936c0b96bf4bcc385501f1793fccbfd", func := "furlong/furlonglaw7.Maps", spec := "maps", inPlace := ["slices.overlaps[int]"], unfollowed := true, recurses := true, apart := false }
def MapsSaid : Prop := mapsRow.holds Try.pinned (OpenSpec.ofChange mapsSpec)

/-- ITS FALSE NEIGHBOUR: 'it returns false'. Refute it at one input. -/
def mapsWrong : ChangeSpec := { name := "maps", fn := fun _ => fun
  | [d1, d2, d3, d4, d5, d6, d7] => { results := [.lit (.bool false)], args := [d1, d2, d3, d4, d5, d6, d7] }
  | _ => none }
def MapsWrongFalsely : Prop := mapsRow.holds Try.pinned (OpenSpec.ofChange mapsWrong)

/- THE SECOND FORM. 'bulk': how many values and letters a reading holds, each counted each time it is reached (what is shared counts as often as it is met; a slice's spare places count too). A statement '..UptoSaid' is the law's where the arguments, and the package variables that the reading takes, are together of bulk at most 1048576: NARROWER than '..Said'. Prove '..Said' where nothing that the law and all that it calls make is longer than what came in: it says more and counts as full. Else prove '..UptoSaid'. A law counts once. -/
mutual
def uptoBulk {H : Type} : DataW H → Nat
  | .lit (.string bytes) => bytes.length + 1
  | .lit _ => 1
  | .nil => 1
  | .ptr d => uptoBulk d + 1
  | .slice elems spare => uptoBulkAll elems + uptoBulkAll spare + 1
  | .agg parts => uptoBulkAll parts + 1
  | .iface _ d => uptoBulk d + 1
  | .map entries => uptoBulkEntries entries + 1
  | .held _ => 1
def uptoBulkAll {H : Type} : List (DataW H) → Nat
  | [] => 0
  | d :: r => uptoBulk d + uptoBulkAll r
def uptoBulkEntries {H : Type} : List (Lit × DataW H) → Nat
  | [] => 0
  | x :: r => uptoBulkEntry x + uptoBulkEntries r
def uptoBulkEntry {H : Type} : Lit × DataW H → Nat
  | (.string bytes, d) => bytes.length + uptoBulk d + 1
  | (_, d) => uptoBulk d + 1
 end
def uptoSmall : (H : Type) → List (DataW H) → Bool := fun _ ds => decide (uptoBulkAll ds ≤ 1048576)
def OpenSpec.upto (s : _root_.Go.ChangeSpec) : _root_.Go.OpenSpec := { _root_.Go.OpenSpec.ofChange s with cond := some uptoSmall }

/-- 'furlonglaw22.Reshards', WHERE WHAT IT READS IS OF BULK AT MOST 1048576: true; the input reads as it did. -/
def reshardsUptoRow : OpenClaim := { program := "ythmkenkjfmbkiaa", sum := "8527b0efe194023ec3086e8fe40ae7c49936c0b96bf4bcc385501f1793fccbfd", func := "furlong/furlonglaw22.Reshards", spec := "reshards", inPlace := ["slices.overlaps[int]"], unfollowed := true, recurses := true, apart := false, narrowed := true }
def ReshardsUptoSaid : Prop := reshardsUptoRow.holds Try.pinned (OpenSpec.upto reshardsSpec)

/-- 'furlonglaw22.ReshardHolds', WHERE WHAT IT READS IS OF BULK AT MOST 1048576: true; the input reads as it did. -/
def reshardHoldsUptoRow : OpenClaim := { program := "ythmkenkjfmbkiaa", sum := "8527b0efe194023ec3086e8fe40ae7c49936c0b96bf4bcc385501f1793fccbfd", func := "furlong/furlonglaw22.ReshardHolds", spec := "reshardHolds", inPlace := ["slices.overlaps[int]"], unfollowed := true, recurses := true, apart := false, narrowed := true }
def ReshardHoldsUptoSaid : Prop := reshardHoldsUptoRow.holds Try.pinned (OpenSpec.upto reshardHoldsSpec)

/-- 'furlonglaw22.ReshardForms', WHERE WHAT IT READS IS OF BULK AT MOST 1048576: true; the input reads as it did. -/
def reshardFormsUptoRow : OpenClaim := { program := "ythmkenkjfmbkiaa", sum := "8527b0efe194023ec3086e8fe40ae7c49936c0b96bf4bcc385501f1793fccbfd", func := "furlong/furlonglaw22.ReshardForms", spec := "reshardForms", inPlace := ["slices.overlaps[int]"], unfollowed := true, recurses := true, apart := false, narrowed := true }
def ReshardFormsUptoSaid : Prop := reshardFormsUptoRow.holds Try.pinned (OpenSpec.upto reshardFormsSpec)

/-- 'furlonglaw22.ReshardBack', WHERE WHAT IT READS IS OF BULK AT MOST 1048576: true; the input reads as it did. -/
def reshardBackUptoRow : OpenClaim := { program := "ythmkenkjfmbkiaa", sum := "8527b0efe194023ec3086e8fe40ae7c49936c0b96bf4bcc385501f1793fccbfd", func := "furlong/furlonglaw22.ReshardBack", spec := "reshardBack", inPlace := ["slices.overlaps[int]"], unfollowed := true, recurses := true, apart := false, narrowed := true }
def ReshardBackUptoSaid : Prop := reshardBackUptoRow.holds Try.pinned (OpenSpec.upto reshardBackSpec)

/-- 'furlonglaw7.MapChanges', WHERE WHAT IT READS IS OF BULK AT MOST 1048576: true; the input reads as it did. -/
def mapChangesUptoRow : OpenClaim := { program := "ythmkenkjfmbkiaa", sum := "8527b0efe194023ec3086e8fe40ae7c49936c0b96bf4bcc385501f1793fccbfd", func := "furlong/furlonglaw7.MapChanges", spec := "mapChanges", inPlace := ["slices.overlaps[int]"], recurses := true, apart := false, narrowed := true }
def MapChangesUptoSaid : Prop := mapChangesUptoRow.holds Try.pinned (OpenSpec.upto mapChangesSpec)

/-- 'furlonglaw7.MapFirst', WHERE WHAT IT READS IS OF BULK AT MOST 1048576: true; the input reads as it did. -/
def mapFirstUptoRow : OpenClaim := { program := "ythmkenkjfmbkiaa", sum := "8527b0efe194023ec3086e8fe40ae7c49936c0b96bf4bcc385501f1793fccbfd", func := "furlong/furlonglaw7.MapFirst", spec := "mapFirst", inPlace := ["slices.overlaps[int]"], recurses := true, apart := false, narrowed := true }
def MapFirstUptoSaid : Prop := mapFirstUptoRow.holds Try.pinned (OpenSpec.upto mapFirstSpec)

/-- 'furlonglaw7.MapForms', WHERE WHAT IT READS IS OF BULK AT MOST 1048576: true; the input reads as it did. -/
def mapFormsUptoRow : OpenClaim := { program := "ythmkenkjfmbkiaa", sum := "8527b0efe194023ec3086e8fe40ae7c49936c0b96bf4bcc385501f1793fccbfd", func := "furlong/furlonglaw7.MapForms", spec := "mapForms", inPlace := ["slices.overlaps[int]"], recurses := true, apart := false, narrowed := true }
def MapFormsUptoSaid : Prop := mapFormsUptoRow.holds Try.pinned (OpenSpec.upto mapFormsSpec)

/-- 'furlonglaw7.MapRow', WHERE WHAT IT READS IS OF BULK AT MOST 1048576: true; the input reads as it did. -/
def mapRowUptoRow : OpenClaim := { program := "ythmkenkjfmbkiaa", sum := "8527b0efe194023ec3086e8fe40ae7c49936c0b96bf4bcc385501f1793fccbfd", func := "furlong/furlonglaw7.MapRow", spec := "mapRow", inPlace := ["slices.overlaps[int]"], recurses := true, apart := false, narrowed := true }
def MapRowUptoSaid : Prop := mapRowUptoRow.holds Try.pinned (OpenSpec.upto mapRowSpec)

/-- 'furlonglaw7.Maps', WHERE WHAT IT READS IS OF BULK AT MOST 1048576: true; the input reads as it did. -/
def mapsUptoRow : OpenClaim := { program := "ythmkenkjfmbkiaa", sum := "8527b0efe194023ec3086e8fe40ae7c49936c0b96bf4bcc385501f1793fccbfd", func := "furlong/furlonglaw7.Maps", spec := "maps", inPlace := ["slices.overlaps[int]"], unfollowed := true, recurses := true, apart := false, narrowed := true }
def MapsUptoSaid : Prop := mapsUptoRow.holds Try.pinned (OpenSpec.upto mapsSpec)

end Rows
end Go.Proofs.Ythmkenkjfmbkiaa
