/-
  No cell of these rows narrows 'for every input' (looked for: loops, veiled, ifaces, maps, wideKeys, modest, calm, conditions, laid).
  DERIVED. THE GIVEN ROWS OF THIS SEAT. 7 by the template 'for every input the law returns true; each argument reads behind the call as it read before'; 0 by the template 'total and deterministic' (their statements: YtpfpngmfooagiaaGreatTotals.lean).
  GIVEN WITH THE SEED: the statements are not yours to turn. If you find one false, say at which input.
  Laid BY PROGRAM, IN A SANDBOX (cutbox-rows.mjs): the forced cells as the released guide's own fill.sh prints them over the translation 6f97e25bc4728097… (all of the seat's roots in one cut). By AI agents, Wed Nov 11 2026. No macro, syntax, notation, axiom, sorry.
-/
import Derived.Test.YtpfpngmfooagiaaGreatChecked
import GoSem.Claim
import GoSem.ClaimJoined
import GoSem.ClaimMapViews
import Derived.JoinedTies
import Derived.KernelRfl
namespace Go.Proofs.YtpfpngmfooagiaaGreat
/- THE CELL 'sum', in the pinned program and in every row, IS THE sha256 OF THE DUMP (.gsa) THAT YtpfpngmfooagiaaGreatProg.lean LOADS. Nothing in Lean hashes anything: it is a label: what it is worth is what the hold of that sum in a sandbox is worth. -/
noncomputable def Tryz.pinned : Pinned := { name := "ytpfpngmfooagiaagreat", sum := "6f97e25bc472809774acb2bb1dec961e3b0643c4dc501821e02b7be8790ebd23", checked := Tryz.checked }
namespace Rows
def none {H : Type} : Left H := { results := [], args := [] }

/-- 'furlonglaw24.Models': WHATEVER THE INPUT: true; the input reads as it did. -/
def modelsSpec : ChangeSpec := { name := "models", fn := fun _ => fun
  | [d1, d2, d3, d4, d5] => { results := [.lit (.bool true)], args := [d1, d2, d3, d4, d5] }
  | _ => none }
def modelsRow : OpenClaim := { program := "ytpfpngmfooagiaagreat", sum := "6f97e25bc472809774acb2bb1dec961e3b0643c4dc501821e02b7be8790ebd23", func := "furlong/furlonglaw24.Models", spec := "models", inPlace := ["slices.overlaps[furlong/api.Feature]"], unfollowed := true, recurses := true, apart := false }
def ModelsSaid : Prop := modelsRow.holds Tryz.pinned (OpenSpec.ofChange modelsSpec)

/-- ITS FALSE NEIGHBOUR: 'it returns false'. Refute it at one input. -/
def modelsWrong : ChangeSpec := { name := "models", fn := fun _ => fun
  | [d1, d2, d3, d4, d5] => { results := [.lit (.bool false)], args := [d1, d2, d3, d4, d5] }
  | _ => none }
def ModelsWrongFalsely : Prop := modelsRow.holds Tryz.pinned (OpenSpec.ofChange modelsWrong)

/-- 'furlonglaw24.ModelNears': WHATEVER THE INPUT: true; the input reads as it did. -/
def modelNearsSpec : ChangeSpec := { name := "modelNears", fn := fun _ => fun
  | [d1, d2, d3] => { results := [.lit (.bool true)], args := [d1, d2, d3] }
  | _ => none }
def modelNearsRow : OpenClaim := { program := "ytpfpngmfooagiaagreat", sum := "6f97e25bc472809774acb2bb1dec961e3b0643c4dc501821e02b7be8790ebd23", func := "furlong/furlonglaw24.ModelNears", spec := "modelNears", inPlace := ["slices.overlaps[furlong/api.Feature]"], unfollowed := true, recurses := true, apart := false }
def ModelNearsSaid : Prop := modelNearsRow.holds Tryz.pinned (OpenSpec.ofChange modelNearsSpec)

/-- ITS FALSE NEIGHBOUR: 'it returns false'. Refute it at one input. -/
def modelNearsWrong : ChangeSpec := { name := "modelNears", fn := fun _ => fun
  | [d1, d2, d3] => { results := [.lit (.bool false)], args := [d1, d2, d3] }
  | _ => none }
def ModelNearsWrongFalsely : Prop := modelNearsRow.holds Tryz.pinned (OpenSpec.ofChange modelNearsWrong)

/-- 'furlonglaw18.Gathers': WHATEVER THE INPUT: true; the input reads as it did. -/
def gathersSpec : ChangeSpec := { name := "gathers", fn := fun _ => fun
  | [d1, d2, d3, d4] => { results := [.lit (.bool true)], args := [d1, d2, d3, d4] }
  | _ => none }
def gathersRow : OpenClaim := { program := "ytpfpngmfooagiaagreat", sum := "6f97e25bc472809774acb2bb1dec961e3b0643c4dc501821e02b7be8790ebd23", func := "furlong/furlonglaw18.Gathers", spec := "gathers", unfollowed := true, recurses := true, apart := false }
def GathersSaid : Prop := gathersRow.holds Tryz.pinned (OpenSpec.ofChange gathersSpec)

/-- ITS FALSE NEIGHBOUR: 'it returns false'. Refute it at one input. -/
def gathersWrong : ChangeSpec := { name := "gathers", fn := fun _ => fun
  | [d1, d2, d3, d4] => { results := [.lit (.bool false)], args := [d1, d2, d3, d4] }
  | _ => none }
def GathersWrongFalsely : Prop := gathersRow.holds Tryz.pinned (OpenSpec.ofChange gathersWrong)

/-- 'furlonglaw18.GatherOnce': WHATEVER THE INPUT: true; the input reads as it did. -/
def gatherOnceSpec : ChangeSpec := { name := "gatherOnce", fn := fun _ => fun
  | [d1, d2, d3, d4] => { results := [.lit (.bool true)], args := [d1, d2, d3, d4] }
  | _ => none }
def gatherOnceRow : OpenClaim := { program := "ytpfpngmfooagiaagreat", sum := "6f97e25bc472809774acb2bb1dec961e3b0643c4dc501821e02b7be8790ebd23", func := "furlong/furlonglaw18.GatherOnce", spec := "gatherOnce", unfollowed := true, recurses := true, apart := false }
def GatherOnceSaid : Prop := gatherOnceRow.holds Tryz.pinned (OpenSpec.ofChange gatherOnceSpec)

/-- ITS FALSE NEIGHBOUR: 'it returns false'. Refute it at one input. -/
def gatherOnceWrong : ChangeSpec := { name := "gatherOnce", fn := fun _ => fun
  | [d1, d2, d3, d4] => { results := [.lit (.bool false)], args := [d1, d2, d3, d4] }
  | _ => none }
def GatherOnceWrongFalsely : Prop := gatherOnceRow.holds Tryz.pinned (OpenSpec.ofChange gatherOnceWrong)

/-- 'furlonglaw18.GatherMerges': WHATEVER THE INPUT: true; the input reads as it did. -/
def gatherMergesSpec : ChangeSpec := { name := "gatherMerges", fn := fun _ => fun
  | [d1, d2, d3] => { results := [.lit (.bool true)], args := [d1, d2, d3] }
  | _ => none }
def gatherMergesRow : OpenClaim := { program := "ytpfpngmfooagiaagreat", sum := "6f97e25bc472809774acb2bb1dec961e3b0643c4dc501821e02b7be8790ebd23", func := "furlong/furlonglaw18.GatherMerges", spec := "gatherMerges", unfollowed := true, recurses := true, apart := false }
def GatherMergesSaid : Prop := gatherMergesRow.holds Tryz.pinned (OpenSpec.ofChange gatherMergesSpec)

/-- ITS FALSE NEIGHBOUR: 'it returns false'. Refute it at one input. -/
def gatherMergesWrong : ChangeSpec := { name := "gatherMerges", fn := fun _ => fun
  | [d1, d2, d3] => { results := [.lit (.bool false)], args := [d1, d2, d3] }
  | _ => none }
def GatherMergesWrongFalsely : Prop := gatherMergesRow.holds Tryz.pinned (OpenSpec.ofChange gatherMergesWrong)

/-- 'furlonglaw18.GatherForms': WHATEVER THE INPUT: true; the input reads as it did. -/
def gatherFormsSpec : ChangeSpec := { name := "gatherForms", fn := fun _ => fun
  | [d1, d2] => { results := [.lit (.bool true)], args := [d1, d2] }
  | _ => none }
def gatherFormsRow : OpenClaim := { program := "ytpfpngmfooagiaagreat", sum := "6f97e25bc472809774acb2bb1dec961e3b0643c4dc501821e02b7be8790ebd23", func := "furlong/furlonglaw18.GatherForms", spec := "gatherForms", unfollowed := true, recurses := true, apart := false }
def GatherFormsSaid : Prop := gatherFormsRow.holds Tryz.pinned (OpenSpec.ofChange gatherFormsSpec)

/-- ITS FALSE NEIGHBOUR: 'it returns false'. Refute it at one input. -/
def gatherFormsWrong : ChangeSpec := { name := "gatherForms", fn := fun _ => fun
  | [d1, d2] => { results := [.lit (.bool false)], args := [d1, d2] }
  | _ => none }
def GatherFormsWrongFalsely : Prop := gatherFormsRow.holds Tryz.pinned (OpenSpec.ofChange gatherFormsWrong)

/-- 'furlonglaw18.GatherNear': WHATEVER THE INPUT: true; the input reads as it did. -/
def gatherNearSpec : ChangeSpec := { name := "gatherNear", fn := fun _ => fun
  | [d1, d2, d3, d4] => { results := [.lit (.bool true)], args := [d1, d2, d3, d4] }
  | _ => none }
def gatherNearRow : OpenClaim := { program := "ytpfpngmfooagiaagreat", sum := "6f97e25bc472809774acb2bb1dec961e3b0643c4dc501821e02b7be8790ebd23", func := "furlong/furlonglaw18.GatherNear", spec := "gatherNear", unfollowed := true, recurses := true, apart := false }
def GatherNearSaid : Prop := gatherNearRow.holds Tryz.pinned (OpenSpec.ofChange gatherNearSpec)

/-- ITS FALSE NEIGHBOUR: 'it returns false'. Refute it at one input. -/
def gatherNearWrong : ChangeSpec := { name := "gatherNear", fn := fun _ => fun
  | [d1, d2, d3, d4] => { results := [.lit (.bool false)], args := [d1, d2, d3, d4] }
  | _ => none }
def GatherNearWrongFalsely : Prop := gatherNearRow.holds Tryz.pinned (OpenSpec.ofChange gatherNearWrong)

/- THE SECOND FORM. 'bulk': how many values and letters a reading holds, each counted each time it is reached (what is shared counts as often as it is met; a slice's spare places count too). A statement '..UptoSaid' is the law's where the arguments, and the package variables that the reading takes, are together of bulk at most 1048576: NARROWER than '..Said'. Prove '..Said' where nothing that the law and all that it calls make is longer than what came in: it says more and counts as full. Else prove '..UptoSaid'. A law counts once. -/
mutual
def uptoBulk {H : Type} : DataW H → Nat
  | .lit (.string bytes) => bytes.length + 1
  | .lit _ => 1
  | .nil => 1
  | .ptr d => uptoBulk d + 1
  | .slice elems spare => uptoBulkAll elems + uptoBulkAll spare + 1
  | .agg parts => uptoBulkAll parts + 1
  | .iface _ d => uptoBulk d + 1
  | .map entries => uptoBulkEntries entries + 1
  | .held _ => 1
def uptoBulkAll {H : Type} : List (DataW H) → Nat
  | [] => 0
  | d :: r => uptoBulk d + uptoBulkAll r
def uptoBulkEntries {H : Type} : List (Lit × DataW H) → Nat
  | [] => 0
  | x :: r => uptoBulkEntry x + uptoBulkEntries r
def uptoBulkEntry {H : Type} : Lit × DataW H → Nat
  | (.string bytes, d) => bytes.length + uptoBulk d + 1
  | (_, d) => uptoBulk d + 1
 end
def uptoSmall : (H : Type) → List (DataW H) → Bool := fun _ ds => decide (uptoBulkAll ds ≤ 1048576)
def OpenSpec.upto (s : _root_.Go.ChangeSpec) : _root_.Go.OpenSpec := { _root_.Go.OpenSpec.ofChange s with cond := some uptoSmall }

/-- 'furlonglaw24.Models', WHERE WHAT IT READS IS OF BULK AT MOST 1048576: true; the input reads as it did. -/
def modelsUptoRow : OpenClaim := { program := "ytpfpngmfooagiaagreat", sum := "6f97e25bc472809774acb2bb1dec961e3b0643c4dc501821e02b7be8790ebd23", func := "furlong/furlonglaw24.Models", spec := "models", inPlace := ["slices.overlaps[furlong/api.Feature]"], unfollowed := true, recurses := true, apart := false, narrowed := true }
def ModelsUptoSaid : Prop := modelsUptoRow.holds Tryz.pinned (OpenSpec.upto modelsSpec)

/-- 'furlonglaw24.ModelNears', WHERE WHAT IT READS IS OF BULK AT MOST 1048576: true; the input reads as it did. -/
def modelNearsUptoRow : OpenClaim := { program := "ytpfpngmfooagiaagreat", sum := "6f97e25bc472809774acb2bb1dec961e3b0643c4dc501821e02b7be8790ebd23", func := "furlong/furlonglaw24.ModelNears", spec := "modelNears", inPlace := ["slices.overlaps[furlong/api.Feature]"], unfollowed := true, recurses := true, apart := false, narrowed := true }
def ModelNearsUptoSaid : Prop := modelNearsUptoRow.holds Tryz.pinned (OpenSpec.upto modelNearsSpec)

/-- 'furlonglaw18.Gathers', WHERE WHAT IT READS IS OF BULK AT MOST 1048576: true; the input reads as it did. -/
def gathersUptoRow : OpenClaim := { program := "ytpfpngmfooagiaagreat", sum := "6f97e25bc472809774acb2bb1dec961e3b0643c4dc501821e02b7be8790ebd23", func := "furlong/furlonglaw18.Gathers", spec := "gathers", unfollowed := true, recurses := true, apart := false, narrowed := true }
def GathersUptoSaid : Prop := gathersUptoRow.holds Tryz.pinned (OpenSpec.upto gathersSpec)

/-- 'furlonglaw18.GatherOnce', WHERE WHAT IT READS IS OF BULK AT MOST 1048576: true; the input reads as it did. -/
def gatherOnceUptoRow : OpenClaim := { program := "ytpfpngmfooagiaagreat", sum := "6f97e25bc472809774acb2bb1dec961e3b0643c4dc501821e02b7be8790ebd23", func := "furlong/furlonglaw18.GatherOnce", spec := "gatherOnce", unfollowed := true, recurses := true, apart := false, narrowed := true }
def GatherOnceUptoSaid : Prop := gatherOnceUptoRow.holds Tryz.pinned (OpenSpec.upto gatherOnceSpec)

/-- 'furlonglaw18.GatherMerges', WHERE WHAT IT READS IS OF BULK AT MOST 1048576: true; the input reads as it did. -/
def gatherMergesUptoRow : OpenClaim := { program := "ytpfpngmfooagiaagreat", sum := "6f97e25bc472809774acb2bb1dec961e3b0643c4dc501821e02b7be8790ebd23", func := "furlong/furlonglaw18.GatherMerges", spec := "gatherMerges", unfollowed := true, recurses := true, apart := false, narrowed := true }
def GatherMergesUptoSaid : Prop := gatherMergesUptoRow.holds Tryz.pinned (OpenSpec.upto gatherMergesSpec)

/-- 'furlonglaw18.GatherForms', WHERE WHAT IT READS IS OF BULK AT MOST 1048576: true; the input reads as it did. -/
def gatherFormsUptoRow : OpenClaim := { program := "ytpfpngmfooagiaagreat", sum := "6f97e25bc472809774acb2bb1dec961e3b0643c4dc501821e02b7be8790ebd23", func := "furlong/furlonglaw18.GatherForms", spec := "gatherForms", unfollowed := true, recurses := true, apart := false, narrowed := true }
def GatherFormsUptoSaid : Prop := gatherFormsUptoRow.holds Tryz.pinned (OpenSpec.upto gatherFormsSpec)

/-- 'furlonglaw18.GatherNear', WHERE WHAT IT READS IS OF BULK AT MOST 1048576: true; the input reads as it did. -/
def gatherNearUptoRow : OpenClaim := { program := "ytpfpngmfooagiaagreat", sum := "6f97e25bc472809774acb2bb1dec961e3b0643c4dc501821e02b7be8790ebd23", func := "furlong/furlonglaw18.GatherNear", spec := "gatherNear", unfollowed := true, recurses := true, apart := false, narrowed := true }
def GatherNearUptoSaid : Prop := gatherNearUptoRow.holds Tryz.pinned (OpenSpec.upto gatherNearSpec)

end Rows
end Go.Proofs.YtpfpngmfooagiaaGreat
