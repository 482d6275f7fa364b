/-
  No cell of these rows narrows 'for every input' (looked for: loops, veiled, ifaces, maps, wideKeys, modest, calm, conditions, laid).
  DERIVED. THE GIVEN ROWS OF THIS SEAT. 10 by the template 'for every input the law returns true; each argument reads behind the call as it read before'; 0 by the template 'total and deterministic' (their statements: YtinonmcnofjeeaaTotals.lean).
  GIVEN WITH THE SEED: the statements are not yours to turn. If you find one false, say at which input.
  Laid BY PROGRAM, IN A SANDBOX (cutbox-rows.mjs): the forced cells as the released guide's own fill.sh prints them over the translation 8f371f0f5ec152b6… (all of the seat's roots in one cut). By AI agents, Wed Nov 11 2026. No macro, syntax, notation, axiom, sorry.
-/
import Derived.Test.YtinonmcnofjeeaaChecked
import GoSem.Claim
import GoSem.ClaimJoined
import GoSem.ClaimMapViews
import Derived.JoinedTies
import Derived.KernelRfl
namespace Go.Proofs.Ytinonmcnofjeeaa
/- THE CELL 'sum', in the pinned program and in every row, IS THE sha256 OF THE DUMP (.gsa) THAT YtinonmcnofjeeaaProg.lean LOADS. Nothing in Lean hashes anything: it is a label: what it is worth is what the hold of that sum in a sandbox is worth. -/
noncomputable def Try.pinned : Pinned := { name := "ytinonmcnofjeeaa", sum := "8f371f0f5ec152b6daffa8283e0212025d3bd0256dbe9a4641b9660e9f9d8315", checked := Try.checked }
namespace Rows
def none {H : Type} : Left H := { results := [], args := [] }

/-- 'furlonglaw11.Records': WHATEVER THE INPUT: true; the input reads as it did. -/
def recordsSpec : ChangeSpec := { name := "records", fn := fun _ => fun
  | [d1, d2] => { results := [.lit (.bool true)], args := [d1, d2] }
  | _ => none }
def recordsRow : OpenClaim := { program := "ytinonmcnofjeeaa", sum := "8f371f0f5ec152b6daffa8283e0212025d3bd0256dbe9a4641b9660e9f9d8315", func := "furlong/furlonglaw11.Records", spec := "records", unfollowed := true, recurses := true, apart := false }
def RecordsSaid : Prop := recordsRow.holds Try.pinned (OpenSpec.ofChange recordsSpec)

/-- ITS FALSE NEIGHBOUR: 'it returns false'. Refute it at one input. -/
def recordsWrong : ChangeSpec := { name := "records", fn := fun _ => fun
  | [d1, d2] => { results := [.lit (.bool false)], args := [d1, d2] }
  | _ => none }
def RecordsWrongFalsely : Prop := recordsRow.holds Try.pinned (OpenSpec.ofChange recordsWrong)

/-- 'furlonglaw11.RecordForms': WHATEVER THE INPUT: true; the input reads as it did. -/
def recordFormsSpec : ChangeSpec := { name := "recordForms", fn := fun _ => fun
  | [d1, d2] => { results := [.lit (.bool true)], args := [d1, d2] }
  | _ => none }
def recordFormsRow : OpenClaim := { program := "ytinonmcnofjeeaa", sum := "8f371f0f5ec152b6daffa8283e0212025d3bd0256dbe9a4641b9660e9f9d8315", func := "furlong/furlonglaw11.RecordForms", spec := "recordForms", unfollowed := true, recurses := true, apart := false }
def RecordFormsSaid : Prop := recordFormsRow.holds Try.pinned (OpenSpec.ofChange recordFormsSpec)

/-- ITS FALSE NEIGHBOUR: 'it returns false'. Refute it at one input. -/
def recordFormsWrong : ChangeSpec := { name := "recordForms", fn := fun _ => fun
  | [d1, d2] => { results := [.lit (.bool false)], args := [d1, d2] }
  | _ => none }
def RecordFormsWrongFalsely : Prop := recordFormsRow.holds Try.pinned (OpenSpec.ofChange recordFormsWrong)

/-- 'furlonglaw11.RecordRows': WHATEVER THE INPUT: true; the input reads as it did. -/
def recordRowsSpec : ChangeSpec := { name := "recordRows", fn := fun _ => fun
  | [d1, d2, d3, d4] => { results := [.lit (.bool true)], args := [d1, d2, d3, d4] }
  | _ => none }
def recordRowsRow : OpenClaim := { program := "ytinonmcnofjeeaa", sum := "8f371f0f5ec152b6daffa8283e0212025d3bd0256dbe9a4641b9660e9f9d8315", func := "furlong/furlonglaw11.RecordRows", spec := "recordRows", unfollowed := true, recurses := true, apart := false }
def RecordRowsSaid : Prop := recordRowsRow.holds Try.pinned (OpenSpec.ofChange recordRowsSpec)

/-- ITS FALSE NEIGHBOUR: 'it returns false'. Refute it at one input. -/
def recordRowsWrong : ChangeSpec := { name := "recordRows", fn := fun _ => fun
  | [d1, d2, d3, d4] => { results := [.lit (.bool false)], args := [d1, d2, d3, d4] }
  | _ => none }
def RecordRowsWrongFalsely : Prop := recordRowsRow.holds Try.pinned (OpenSpec.ofChange recordRowsWrong)

/-- 'furlonglaw16.Messages': WHATEVER THE INPUT: true; the input reads as it did. -/
def messagesSpec : ChangeSpec := { name := "messages", fn := fun _ => fun
  | [d1, d2] => { results := [.lit (.bool true)], args := [d1, d2] }
  | _ => none }
def messagesRow : OpenClaim := { program := "ytinonmcnofjeeaa", sum := "8f371f0f5ec152b6daffa8283e0212025d3bd0256dbe9a4641b9660e9f9d8315", func := "furlong/furlonglaw16.Messages", spec := "messages", unfollowed := true, recurses := true, apart := false }
def MessagesSaid : Prop := messagesRow.holds Try.pinned (OpenSpec.ofChange messagesSpec)

/-- ITS FALSE NEIGHBOUR: 'it returns false'. Refute it at one input. -/
def messagesWrong : ChangeSpec := { name := "messages", fn := fun _ => fun
  | [d1, d2] => { results := [.lit (.bool false)], args := [d1, d2] }
  | _ => none }
def MessagesWrongFalsely : Prop := messagesRow.holds Try.pinned (OpenSpec.ofChange messagesWrong)

/-- 'furlonglaw16.MessageBack': WHATEVER THE INPUT: true; the input reads as it did. -/
def messageBackSpec : ChangeSpec := { name := "messageBack", fn := fun _ => fun
  | [d1, d2, d3] => { results := [.lit (.bool true)], args := [d1, d2, d3] }
  | _ => none }
def messageBackRow : OpenClaim := { program := "ytinonmcnofjeeaa", sum := "8f371f0f5ec152b6daffa8283e0212025d3bd0256dbe9a4641b9660e9f9d8315", func := "furlong/furlonglaw16.MessageBack", spec := "messageBack", unfollowed := true, recurses := true, apart := false }
def MessageBackSaid : Prop := messageBackRow.holds Try.pinned (OpenSpec.ofChange messageBackSpec)

/-- ITS FALSE NEIGHBOUR: 'it returns false'. Refute it at one input. -/
def messageBackWrong : ChangeSpec := { name := "messageBack", fn := fun _ => fun
  | [d1, d2, d3] => { results := [.lit (.bool false)], args := [d1, d2, d3] }
  | _ => none }
def MessageBackWrongFalsely : Prop := messageBackRow.holds Try.pinned (OpenSpec.ofChange messageBackWrong)

/-- 'furlonglaw16.MessageForms': WHATEVER THE INPUT: true; the input reads as it did. -/
def messageFormsSpec : ChangeSpec := { name := "messageForms", fn := fun _ => fun
  | [d1, d2] => { results := [.lit (.bool true)], args := [d1, d2] }
  | _ => none }
def messageFormsRow : OpenClaim := { program := "ytinonmcnofjeeaa", sum := "8f371f0f5ec152b6daffa8283e0212025d3bd0256dbe9a4641b9660e9f9d8315", func := "furlong/furlonglaw16.MessageForms", spec := "messageForms", unfollowed := true, recurses := true, apart := false }
def MessageFormsSaid : Prop := messageFormsRow.holds Try.pinned (OpenSpec.ofChange messageFormsSpec)

/-- ITS FALSE NEIGHBOUR: 'it returns false'. Refute it at one input. -/
def messageFormsWrong : ChangeSpec := { name := "messageForms", fn := fun _ => fun
  | [d1, d2] => { results := [.lit (.bool false)], args := [d1, d2] }
  | _ => none }
def MessageFormsWrongFalsely : Prop := messageFormsRow.holds Try.pinned (OpenSpec.ofChange messageFormsWrong)

/-- 'furlonglaw16.MessageLong': WHATEVER THE INPUT: true; the input reads as it did. -/
def messageLongSpec : ChangeSpec := { name := "messageLong", fn := fun _ => fun
  | [d1, d2] => { results := [.lit (.bool true)], args := [d1, d2] }
  | _ => none }
def messageLongRow : OpenClaim := { program := "ytinonmcnofjeeaa", sum := "8f371f0f5ec152b6daffa8283e0212025d3bd0256dbe9a4641b9660e9f9d8315", func := "furlong/furlonglaw16.MessageLong", spec := "messageLong", unfollowed := true, recurses := true, apart := false }
def MessageLongSaid : Prop := messageLongRow.holds Try.pinned (OpenSpec.ofChange messageLongSpec)

/-- ITS FALSE NEIGHBOUR: 'it returns false'. Refute it at one input. -/
def messageLongWrong : ChangeSpec := { name := "messageLong", fn := fun _ => fun
  | [d1, d2] => { results := [.lit (.bool false)], args := [d1, d2] }
  | _ => none }
def MessageLongWrongFalsely : Prop := messageLongRow.holds Try.pinned (OpenSpec.ofChange messageLongWrong)

/-- 'furlonglaw17.QueueActs': WHATEVER THE INPUT: true; the input reads as it did. -/
def queueActsSpec : ChangeSpec := { name := "queueActs", fn := fun _ => fun
  | [d1, d2] => { results := [.lit (.bool true)], args := [d1, d2] }
  | _ => none }
def queueActsRow : OpenClaim := { program := "ytinonmcnofjeeaa", sum := "8f371f0f5ec152b6daffa8283e0212025d3bd0256dbe9a4641b9660e9f9d8315", func := "furlong/furlonglaw17.QueueActs", spec := "queueActs", unfollowed := true, recurses := true, apart := false }
def QueueActsSaid : Prop := queueActsRow.holds Try.pinned (OpenSpec.ofChange queueActsSpec)

/-- ITS FALSE NEIGHBOUR: 'it returns false'. Refute it at one input. -/
def queueActsWrong : ChangeSpec := { name := "queueActs", fn := fun _ => fun
  | [d1, d2] => { results := [.lit (.bool false)], args := [d1, d2] }
  | _ => none }
def QueueActsWrongFalsely : Prop := queueActsRow.holds Try.pinned (OpenSpec.ofChange queueActsWrong)

/-- 'furlonglaw17.QueueRow': WHATEVER THE INPUT: true; the input reads as it did. -/
def queueRowSpec : ChangeSpec := { name := "queueRow", fn := fun _ => fun
  | [d1, d2] => { results := [.lit (.bool true)], args := [d1, d2] }
  | _ => none }
def queueRowRow : OpenClaim := { program := "ytinonmcnofjeeaa", sum := "8f371f0f5ec152b6daffa8283e0212025d3bd0256dbe9a4641b9660e9f9d8315", func := "furlong/furlonglaw17.QueueRow", spec := "queueRow", unfollowed := true, recurses := true, apart := false }
def QueueRowSaid : Prop := queueRowRow.holds Try.pinned (OpenSpec.ofChange queueRowSpec)

/-- ITS FALSE NEIGHBOUR: 'it returns false'. Refute it at one input. -/
def queueRowWrong : ChangeSpec := { name := "queueRow", fn := fun _ => fun
  | [d1, d2] => { results := [.lit (.bool false)], args := [d1, d2] }
  | _ => none }
def QueueRowWrongFalsely : Prop := queueRowRow.holds Try.pinned (OpenSpec.ofChange queueRowWrong)

/-- 'furlonglaw17.QueueForms': WHATEVER THE INPUT: true; the input reads as it did. -/
def queueFormsSpec : ChangeSpec := { name := "queueForms", fn := fun _ => fun
  | [d1, d2] => { results := [.lit (.bool true)], args := [d1, d2] }
  | _ => none }
def queueFormsRow : OpenClaim := { program := "ytinonmcnofjeeaa", sum := "8f371f0f5ec152b6daffa8283e0212025d3bd0256dbe9a4641b9660e9f9d8315", func := "furlong/furlonglaw17.QueueForms", spec := "queueForms", unfollowed := true, recurses := true, apart := false }
def QueueFormsSaid : Prop := queueFormsRow.holds Try.pinned (OpenSpec.ofChange queueFormsSpec)

/-- ITS FALSE NEIGHBOUR: 'it returns false'. Refute it at one input. -/
def queueFormsWrong : ChangeSpec := { name := "queueForms", fn := fun _ => fun
  | [d1, d2] => { results := [.lit (.bool false)], args := [d1, d2] }
  | _ => none }
def QueueFormsWrongFalsely : Prop := queueFormsRow.holds Try.pinned (OpenSpec.ofChange queueFormsWrong)

/- THE SECOND FORM. 'bulk': how many values and letters a reading holds, each counted each time it is reached (what is shared counts as often as it is met; a slice's spare places count too). A statement '..UptoSaid' is the law's where the arguments, and the package variables that the reading takes, are together of bulk at most 1048576: NARROWER than '..Said'. Prove '..Said' where nothing that the law and all that it calls make is longer than what came in: it says more and counts as full. Else prove '..UptoSaid'. A law counts once. -/
mutual
def uptoBulk {H : Type} : DataW H → Nat
  | .lit (.string bytes) => bytes.length + 1
  | .lit _ => 1
  | .nil => 1
  | .ptr d => uptoBulk d + 1
  | .slice elems spare => uptoBulkAll elems + uptoBulkAll spare + 1
  | .agg parts => uptoBulkAll parts + 1
  | .iface _ d => uptoBulk d + 1
  | .map entries => uptoBulkEntries entries + 1
  | .held _ => 1
def uptoBulkAll {H : Type} : List (DataW H) → Nat
  | [] => 0
  | d :: r => uptoBulk d + uptoBulkAll r
def uptoBulkEntries {H : Type} : List (Lit × DataW H) → Nat
  | [] => 0
  | x :: r => uptoBulkEntry x + uptoBulkEntries r
def uptoBulkEntry {H : Type} : Lit × DataW H → Nat
  | (.string bytes, d) => bytes.length + uptoBulk d + 1
  | (_, d) => uptoBulk d + 1
 end
def uptoSmall : (H : Type) → List (DataW H) → Bool := fun _ ds => decide (uptoBulkAll ds ≤ 1048576)
def OpenSpec.upto (s : _root_.Go.ChangeSpec) : _root_.Go.OpenSpec := { _root_.Go.OpenSpec.ofChange s with cond := some uptoSmall }

/-- 'furlonglaw11.Records', WHERE WHAT IT READS IS OF BULK AT MOST 1048576: true; the input reads as it did. -/
def recordsUptoRow : OpenClaim := { program := "ytinonmcnofjeeaa", sum := "8f371f0f5ec152b6daffa8283e0212025d3bd0256dbe9a4641b9660e9f9d8315", func := "furlong/furlonglaw11.Records", spec := "records", unfollowed := true, recurses := true, apart := false, narrowed := true }
def RecordsUptoSaid : Prop := recordsUptoRow.holds Try.pinned (OpenSpec.upto recordsSpec)

/-- 'furlonglaw11.RecordForms', WHERE WHAT IT READS IS OF BULK AT MOST 1048576: true; the input reads as it did. -/
def recordFormsUptoRow : OpenClaim := { program := "ytinonmcnofjeeaa", sum := "8f371f0f5ec152b6daffa8283e0212025d3bd0256dbe9a4641b9660e9f9d8315", func := "furlong/furlonglaw11.RecordForms", spec := "recordForms", unfollowed := true, recurses := true, apart := false, narrowed := true }
def RecordFormsUptoSaid : Prop := recordFormsUptoRow.holds Try.pinned (OpenSpec.upto recordFormsSpec)

/-- 'furlonglaw11.RecordRows', WHERE WHAT IT READS IS OF BULK AT MOST 1048576: true; the input reads as it did. -/
def recordRowsUptoRow : OpenClaim := { program := "ytinonmcnofjeeaa", sum := "8f371f0f5ec152b6daffa8283e0212025d3bd0256dbe9a4641b9660e9f9d8315", func := "furlong/furlonglaw11.RecordRows", spec := "recordRows", unfollowed := true, recurses := true, apart := false, narrowed := true }
def RecordRowsUptoSaid : Prop := recordRowsUptoRow.holds Try.pinned (OpenSpec.upto recordRowsSpec)

/-- 'furlonglaw16.Messages', WHERE WHAT IT READS IS OF BULK AT MOST 1048576: true; the input reads as it did. -/
def messagesUptoRow : OpenClaim := { program := "ytinonmcnofjeeaa", sum := "8f371f0f5ec152b6daffa8283e0212025d3bd0256dbe9a4641b9660e9f9d8315", func := "furlong/furlonglaw16.Messages", spec := "messages", unfollowed := true, recurses := true, apart := false, narrowed := true }
def MessagesUptoSaid : Prop := messagesUptoRow.holds Try.pinned (OpenSpec.upto messagesSpec)

/-- 'furlonglaw16.MessageBack', WHERE WHAT IT READS IS OF BULK AT MOST 1048576: true; the input reads as it did. -/
def messageBackUptoRow : OpenClaim := { program := "ytinonmcnofjeeaa", sum := "8f371f0f5ec152b6daffa8283e0212025d3bd0256dbe9a4641b9660e9f9d8315", func := "furlong/furlonglaw16.MessageBack", spec := "messageBack", unfollowed := true, recurses := true, apart := false, narrowed := true }
def MessageBackUptoSaid : Prop := messageBackUptoRow.holds Try.pinned (OpenSpec.upto messageBackSpec)

/-- 'furlonglaw16.MessageForms', WHERE WHAT IT READS IS OF BULK AT MOST 1048576: true; the input reads as it did. -/
def messageFormsUptoRow : OpenClaim := { program := "ytinonmcnofjeeaa", sum := "8f371f0f5ec152b6daffa8283e0212025d3bd0256dbe9a4641b9660e9f9d8315", func := "furlong/furlonglaw16.MessageForms", spec := "messageForms", unfollowed := true, recurses := true, apart := false, narrowed := true }
def MessageFormsUptoSaid : Prop := messageFormsUptoRow.holds Try.pinned (OpenSpec.upto messageFormsSpec)

/-- 'furlonglaw16.MessageLong', WHERE WHAT IT READS IS OF BULK AT MOST 1048576: true; the input reads as it did. -/
def messageLongUptoRow : OpenClaim := { program := "ytinonmcnofjeeaa", sum := "8f371f0f5ec152b6daffa8283e0212025d3bd0256dbe9a4641b9660e9f9d8315", func := "furlong/furlonglaw16.MessageLong", spec := "messageLong", unfollowed := true, recurses := true, apart := false, narrowed := true }
def MessageLongUptoSaid : Prop := messageLongUptoRow.holds Try.pinned (OpenSpec.upto messageLongSpec)

/-- 'furlonglaw17.QueueActs', WHERE WHAT IT READS IS OF BULK AT MOST 1048576: true; the input reads as it did. -/
def queueActsUptoRow : OpenClaim := { program := "ytinonmcnofjeeaa", sum := "8f371f0f5ec152b6daffa8283e0212025d3bd0256dbe9a4641b9660e9f9d8315", func := "furlong/furlonglaw17.QueueActs", spec := "queueActs", unfollowed := true, recurses := true, apart := false, narrowed := true }
def QueueActsUptoSaid : Prop := queueActsUptoRow.holds Try.pinned (OpenSpec.upto queueActsSpec)

/-- 'furlonglaw17.QueueRow', WHERE WHAT IT READS IS OF BULK AT MOST 1048576: true; the input reads as it did. -/
def queueRowUptoRow : OpenClaim := { program := "ytinonmcnofjeeaa", sum := "8f371f0f5ec152b6daffa8283e0212025d3bd0256dbe9a4641b9660e9f9d8315", func := "furlong/furlonglaw17.QueueRow", spec := "queueRow", unfollowed := true, recurses := true, apart := false, narrowed := true }
def QueueRowUptoSaid : Prop := queueRowUptoRow.holds Try.pinned (OpenSpec.upto queueRowSpec)

/-- 'furlonglaw17.QueueForms', WHERE WHAT IT READS IS OF BULK AT MOST 1048576: true; the input reads as it did. -/
def queueFormsUptoRow : OpenClaim := { program := "ytinonmcnofjeeaa", sum := "8f371f0f5ec152b6daffa8283e0212025d3bd0256dbe9a4641b9660e9f9d8315", func := "furlong/furlonglaw17.QueueForms", spec := "queueForms", unfollowed := true, recurses := true, apart := false, narrowed := true }
def QueueFormsUptoSaid : Prop := queueFormsUptoRow.holds Try.pinned (OpenSpec.upto queueFormsSpec)

end Rows
end Go.Proofs.Ytinonmcnofjeeaa
