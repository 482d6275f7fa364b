/- Part of a proof: what stands for the program, and its walk. No condition. -/
import Derived.Below
import Derived.ChangeArms
import Derived.ChangeMaps5
import Derived.Deep.DeepAppendWide
import Derived.Laws.Cells
import Derived.Laws.IdiomCopy
import Derived.MapKept
import Derived.OrdersIn
import Derived.RangeFuncLeaves
import Derived.RangeFuncRecord
import Derived.Shelf.Spec.SlicesInsertGrow
import Derived.SizedLaws
import Derived.WalkKit
import Derived.WalkLawsBesides
import GoSem.Claim
import Derived.Test.YtpfpngmfooagiaaMFc
set_option linter.unusedSimpArgs false
set_option linter.unusedVariables false
set_option linter.defProp false
set_option maxHeartbeats 1000000
namespace Go.Proofs.Ytpfpngmfooagiaa.VM
/-- furlong/furlonglaw24.ModelForms -/
def v5 : VFun := ⟨2, [(.tmp 4)], (.seq (.ops [⟨(some 4), none, .mov (.c (.bool false))⟩])
 (.seq (.seq (.ops [⟨(some 17), none, .call 6 []⟩, ⟨(some 18), none, .un .not (.t 17)⟩])
 (.cond (.t 18) (.seq (.ops [⟨(some 4), none, .mov (.c (.bool false))⟩])
 .ret) .skip))
 (.seq (.ops [⟨(some 19), none, .mov (.t 1)⟩, ⟨(some 20), none, .bin .and (.t 19) (.c (.int .i64 63))⟩, ⟨(some 21), none, .bin .add (.c (.int .i64 1)) (.t 20)⟩, ⟨(some 5), none, .mov (.t 21)⟩])
 (.seq (.ops [⟨(some 22), none, .call 13 [(.c (.int .i64 2)), (.c (.int .i64 2)), (.c (.int .i64 2))]⟩, ⟨(some 23), none, .call 13 [(.c (.int .i64 5)), (.c (.int .i64 5)), (.c (.int .i64 5))]⟩, ⟨(some 24), none, .bslice [(.int .i64 0), (.int .i64 0), .nils] 31 2 [(0, 3, (.t 22)), (3, 3, (.t 23))]⟩, ⟨(some 6), none, .mov (.t 24)⟩])
 (.seq (.ops [⟨(some 25), none, .build [(.int .i64 0), (.int .i64 0), (.int .i64 0), .nils, (.int .i64 0), (.int .i64 0), .nils, .nils] [(0, 1, (.c (.int .i64 1))), (4, 1, (.c (.int .i64 2)))]⟩, ⟨(some 26), none, .bslice [(.int .i64 0), (.int .i64 0), (.int .i64 0), .nils, (.int .i64 0), (.int .i64 0), .nils, .nils] 36 1 [(0, 8, (.t 25))]⟩, ⟨(some 7), none, .mov (.t 26)⟩])
 (.seq (.ops [⟨(some 27), none, .build [(.int .i64 0), (.int .i64 0), (.int .i64 0), (.int .i64 0)] [(2, 1, (.c (.int .i64 9))), (3, 1, (.c (.int .i64 9)))]⟩, ⟨(some 28), none, .build [(.int .i64 0), (.int .i64 0)] []⟩, ⟨(some 8), none, .alloc [(.int .i64 0), (.int .i64 0), (.int .i64 0), (.int .i64 0)] 45⟩, ⟨(some 9), none, .alloc [(.int .i64 0), (.int .i64 0)] 47⟩, ⟨none, none, .store 4 (.t 8) (.t 27)⟩, ⟨none, none, .store 2 (.t 9) (.t 28)⟩, ⟨(some 10), none, .mov (.c (.int .i64 1))⟩])
 (.seq (.seq (.ops [⟨(some 29), none, .mov (.t 0)⟩, ⟨(some 30), none, .conv (.int .u64) (.t 29)⟩, ⟨(some 31), none, .bin .rem (.t 30) (.c (.int .u64 4))⟩])
 (.block 0 (.seq (.ops [⟨(some 38), none, .bin .eql (.t 31) (.c (.int .u64 0))⟩, ⟨(some 37), none, .mov (.t 38)⟩])
 (.cond (.t 37) (.ops [⟨(some 39), none, .mov (.t 6)⟩, ⟨(some 40), none, .iaddr 3 none (.t 39) (.c (.int .i64 1))⟩, ⟨(some 41), none, .faddr 0 (.t 40)⟩, ⟨none, none, .store 1 (.t 41) (.c (.int .i64 2))⟩]) (.seq (.ops [⟨(some 43), none, .bin .eql (.t 31) (.c (.int .u64 1))⟩, ⟨(some 42), none, .mov (.t 43)⟩])
 (.cond (.t 42) (.ops [⟨(some 44), none, .mov (.t 6)⟩, ⟨(some 45), none, .mov (.t 5)⟩, ⟨(some 46), none, .un .neg (.t 45)⟩, ⟨(some 47), none, .iaddr 3 none (.t 44) (.c (.int .i64 0))⟩, ⟨(some 48), none, .faddr 0 (.t 47)⟩, ⟨none, none, .store 1 (.t 48) (.t 46)⟩]) (.seq (.ops [⟨(some 50), none, .bin .eql (.t 31) (.c (.int .u64 2))⟩, ⟨(some 49), none, .mov (.t 50)⟩])
 (.cond (.t 49) (.seq (.ops [⟨(some 51), none, .mov (.t 7)⟩, ⟨(some 52), none, .mov (.t 7)⟩, ⟨(some 53), none, .iaddr 8 none (.t 52) (.c (.int .i64 0))⟩, ⟨(some 54), none, .load true 8 (.t 53)⟩, ⟨(some 55), none, .bslice [(.int .i64 0), (.int .i64 0), (.int .i64 0), .nils, (.int .i64 0), (.int .i64 0), .nils, .nils] 36 1 [(0, 8, (.t 54))]⟩, ⟨(some 56), none, .bi (.append 8 112 36) [(.t 51), (.t 55)]⟩, ⟨(some 7), none, .mov (.t 56)⟩])
 (.seq (.ops [⟨(some 57), none, .mov (.t 5)⟩, ⟨(some 58), none, .bin .add (.c (.int .i64 9)) (.t 57)⟩, ⟨(some 59), none, .faddr 0 (.t 8)⟩, ⟨none, none, .store 1 (.t 59) (.t 58)⟩])
 (.ops [⟨(some 60), none, .mov (.t 5)⟩, ⟨(some 61), none, .un .neg (.t 60)⟩, ⟨(some 62), none, .faddr 0 (.t 9)⟩, ⟨none, none, .store 1 (.t 62) (.t 61)⟩]))) (.seq (.ops [⟨(some 7), none, .mov (.c .nils)⟩])
 (.seq (.ops [⟨(some 32), none, .mov (.t 5)⟩, ⟨(some 33), none, .bin .add (.c (.int .i64 4294967295)) (.t 32)⟩, ⟨(some 34), none, .faddr 3 (.t 8)⟩, ⟨none, none, .store 1 (.t 34) (.t 33)⟩])
 (.ops [⟨(some 35), none, .mov (.t 5)⟩, ⟨(some 36), none, .un .neg (.t 35)⟩, ⟨(some 10), none, .mov (.t 36)⟩])))))))))))
 (.seq (.ops [⟨(some 64), none, .mov (.t 6)⟩, ⟨(some 65), none, .mov (.t 7)⟩, ⟨(some 66), none, .call 7 [(.t 64), (.t 65)]⟩, ⟨(some 63), none, .mov (.t 66)⟩, ⟨(some 67), none, .extract (.t 63) 0⟩, ⟨(some 68), none, .extract (.t 63) 1⟩, ⟨(some 11), none, .mov (.t 67)⟩, ⟨(some 12), none, .mov (.t 68)⟩])
 (.seq (.ops [⟨(some 70), none, .mov (.t 6)⟩, ⟨(some 71), none, .load true 4 (.t 8)⟩, ⟨(some 72), none, .call 14 [(.t 70), (.t 71)]⟩, ⟨(some 69), none, .mov (.t 72)⟩, ⟨(some 73), none, .extract (.t 69) 0⟩, ⟨(some 74), none, .extract (.t 69) 1⟩, ⟨(some 13), none, .mov (.t 73)⟩, ⟨(some 14), none, .mov (.t 74)⟩])
 (.seq (.ops [⟨(some 76), none, .mov (.t 6)⟩, ⟨(some 77), none, .load true 2 (.t 9)⟩, ⟨(some 78), none, .mov (.t 10)⟩, ⟨(some 79), none, .call 15 [(.t 76), (.t 77), (.t 78)]⟩, ⟨(some 75), none, .mov (.t 79)⟩, ⟨(some 80), none, .extract (.t 75) 0⟩, ⟨(some 81), none, .extract (.t 75) 1⟩, ⟨(some 15), none, .mov (.t 80)⟩, ⟨(some 16), none, .mov (.t 81)⟩])
 (.seq (.ops [⟨(some 82), none, .mov (.t 11)⟩, ⟨(some 83), none, .bi (.len 1) [(.t 82)]⟩, ⟨(some 84), none, .mov (.t 13)⟩, ⟨(some 85), none, .bi (.len 1) [(.t 84)]⟩, ⟨(some 86), none, .bin .add (.t 83) (.t 85)⟩, ⟨(some 87), none, .mov (.t 15)⟩, ⟨(some 88), none, .bi (.len 1) [(.t 87)]⟩, ⟨(some 89), none, .bin .add (.t 86) (.t 88)⟩, ⟨(some 90), none, .bin .eql (.t 89) (.c (.int .i64 0))⟩, ⟨(some 91), none, .mov (.t 90)⟩, ⟨(some 92), (some (91, true)), .mov (.t 12)⟩, ⟨(some 93), (some (91, true)), .call 8 [(.t 92)]⟩, ⟨(some 94), (some (91, true)), .bin .eql (.t 93) (.c (.int .i64 2400))⟩, ⟨(some 95), none, .pick (.t 91) (.t 94) (.c (.bool false))⟩, ⟨(some 96), none, .mov (.t 95)⟩, ⟨(some 97), (some (96, true)), .mov (.t 14)⟩, ⟨(some 98), (some (96, true)), .call 8 [(.t 97)]⟩, ⟨(some 99), (some (96, true)), .bin .eql (.t 98) (.c (.int .i64 2400))⟩, ⟨(some 100), none, .pick (.t 96) (.t 99) (.c (.bool false))⟩, ⟨(some 101), none, .mov (.t 100)⟩, ⟨(some 102), (some (101, true)), .mov (.t 16)⟩, ⟨(some 103), (some (101, true)), .call 8 [(.t 102)]⟩, ⟨(some 104), (some (101, true)), .bin .eql (.t 103) (.c (.int .i64 2400))⟩, ⟨(some 105), none, .pick (.t 101) (.t 104) (.c (.bool false))⟩, ⟨(some 4), none, .mov (.t 105)⟩])
 .ret)))))))))))⟩
/-- furlong/furlonglaw24.awake -/
def v6 : VFun := ⟨0, [(.tmp 0)], (.seq (.ops [⟨(some 0), none, .mov (.c (.bool false))⟩])
 (.seq (.ops [⟨(some 14), none, .call 13 [(.c (.int .i64 2)), (.c (.int .i64 9)), (.c (.int .i64 0))]⟩, ⟨(some 15), none, .call 13 [(.c (.int .i64 5)), (.c (.int .i64 1)), (.c (.int .i64 0))]⟩, ⟨(some 16), none, .bslice [(.int .i64 0), (.int .i64 0), .nils] 31 2 [(0, 3, (.t 14)), (3, 3, (.t 15))]⟩, ⟨(some 17), none, .call 13 [(.c (.int .i64 3)), (.c (.int .i64 4)), (.c (.int .i64 0))]⟩, ⟨(some 18), none, .build [(.int .i64 0), (.int .i64 0), (.int .i64 0), .nils, (.int .i64 0), (.int .i64 0), .nils, .nils] [(0, 1, (.c (.int .i64 0))), (1, 3, (.t 17))]⟩, ⟨(some 19), none, .build [(.int .i64 0), (.int .i64 0), (.int .i64 0), .nils, (.int .i64 0), (.int .i64 0), .nils, .nils] [(0, 1, (.c (.int .i64 1))), (4, 1, (.c (.int .i64 2)))]⟩, ⟨(some 20), none, .bslice [(.int .i64 0), (.int .i64 0), (.int .i64 0), .nils, (.int .i64 0), (.int .i64 0), .nils, .nils] 36 2 [(0, 8, (.t 18)), (8, 8, (.t 19))]⟩, ⟨(some 21), none, .call 7 [(.t 16), (.t 20)]⟩, ⟨(some 13), none, .mov (.t 21)⟩, ⟨(some 22), none, .extract (.t 13) 0⟩, ⟨(some 23), none, .extract (.t 13) 1⟩, ⟨(some 1), none, .mov (.t 22)⟩, ⟨(some 2), none, .mov (.t 23)⟩])
 (.seq (.ops [⟨(some 25), none, .mov (.t 1)⟩, ⟨(some 26), none, .build [(.int .i64 0), (.int .i64 0), (.int .i64 0), (.int .i64 0)] [(2, 1, (.c (.int .i64 3)))]⟩, ⟨(some 27), none, .call 14 [(.t 25), (.t 26)]⟩, ⟨(some 24), none, .mov (.t 27)⟩, ⟨(some 28), none, .extract (.t 24) 0⟩, ⟨(some 29), none, .extract (.t 24) 1⟩, ⟨(some 3), none, .mov (.t 28)⟩, ⟨(some 4), none, .mov (.t 29)⟩])
 (.seq (.ops [⟨(some 31), none, .mov (.t 1)⟩, ⟨(some 32), none, .build [(.int .i64 0), (.int .i64 0)] [(0, 1, (.c (.int .i64 4)))]⟩, ⟨(some 33), none, .call 15 [(.t 31), (.t 32), (.c (.int .i64 1))]⟩, ⟨(some 30), none, .mov (.t 33)⟩, ⟨(some 34), none, .extract (.t 30) 0⟩, ⟨(some 35), none, .extract (.t 30) 1⟩, ⟨(some 5), none, .mov (.t 34)⟩, ⟨(some 6), none, .mov (.t 35)⟩])
 (.seq (.ops [⟨(some 37), none, .build [(.int .i64 0), (.int .i64 0), .nils] []⟩, ⟨(some 38), none, .bslice [(.int .i64 0), (.int .i64 0), .nils] 31 1 [(0, 3, (.t 37))]⟩, ⟨(some 39), none, .call 7 [(.t 38), (.c .nils)]⟩, ⟨(some 36), none, .mov (.t 39)⟩, ⟨(some 40), none, .extract (.t 36) 0⟩, ⟨(some 41), none, .extract (.t 36) 1⟩, ⟨(some 7), none, .mov (.t 40)⟩, ⟨(some 8), none, .mov (.t 41)⟩])
 (.seq (.ops [⟨(some 43), none, .build [(.int .i64 0), (.int .i64 0)] []⟩, ⟨(some 44), none, .call 15 [(.c .nils), (.t 43), (.c (.int .i64 (-1)))]⟩, ⟨(some 42), none, .mov (.t 44)⟩, ⟨(some 45), none, .extract (.t 42) 0⟩, ⟨(some 46), none, .extract (.t 42) 1⟩, ⟨(some 9), none, .mov (.t 45)⟩, ⟨(some 10), none, .mov (.t 46)⟩])
 (.seq (.ops [⟨(some 48), none, .build [(.int .i64 0), (.int .i64 0), (.int .i64 0), (.int .i64 0)] [(0, 1, (.c (.int .i64 1)))]⟩, ⟨(some 49), none, .call 14 [(.c .nils), (.t 48)]⟩, ⟨(some 47), none, .mov (.t 49)⟩, ⟨(some 50), none, .extract (.t 47) 0⟩, ⟨(some 51), none, .extract (.t 47) 1⟩, ⟨(some 11), none, .mov (.t 50)⟩, ⟨(some 12), none, .mov (.t 51)⟩])
 (.seq (.ops [⟨(some 52), none, .mov (.t 1)⟩, ⟨(some 53), none, .call 13 [(.c (.int .i64 3)), (.c (.int .i64 4)), (.c (.int .i64 0))]⟩, ⟨(some 54), none, .call 13 [(.c (.int .i64 5)), (.c (.int .i64 1)), (.c (.int .i64 0))]⟩, ⟨(some 55), none, .bslice [(.int .i64 0), (.int .i64 0), .nils] 31 2 [(0, 3, (.t 53)), (3, 3, (.t 54))]⟩, ⟨(some 56), none, .call 12 [(.t 52), (.t 55)]⟩, ⟨(some 57), none, .mov (.t 56)⟩, ⟨(some 58), (some (57, true)), .mov (.t 2)⟩, ⟨(some 59), (some (57, true)), .call 8 [(.t 58)]⟩, ⟨(some 60), (some (57, true)), .bin .eql (.t 59) (.c (.int .i64 0))⟩, ⟨(some 61), none, .pick (.t 57) (.t 60) (.c (.bool false))⟩, ⟨(some 62), none, .mov (.t 61)⟩, ⟨(some 63), (some (62, true)), .mov (.t 3)⟩, ⟨(some 64), (some (62, true)), .call 13 [(.c (.int .i64 5)), (.c (.int .i64 1)), (.c (.int .i64 0))]⟩, ⟨(some 65), (some (62, true)), .bslice [(.int .i64 0), (.int .i64 0), .nils] 31 1 [(0, 3, (.t 64))]⟩, ⟨(some 66), (some (62, true)), .call 12 [(.t 63), (.t 65)]⟩, ⟨(some 67), none, .pick (.t 62) (.t 66) (.c (.bool false))⟩, ⟨(some 68), none, .mov (.t 67)⟩, ⟨(some 69), (some (68, true)), .mov (.t 4)⟩, ⟨(some 70), (some (68, true)), .call 8 [(.t 69)]⟩, ⟨(some 71), (some (68, true)), .bin .eql (.t 70) (.c (.int .i64 0))⟩, ⟨(some 72), none, .pick (.t 68) (.t 71) (.c (.bool false))⟩, ⟨(some 73), none, .mov (.t 72)⟩, ⟨(some 74), (some (73, true)), .mov (.t 5)⟩, ⟨(some 75), (some (73, true)), .call 13 [(.c (.int .i64 3)), (.c (.int .i64 4)), (.c (.int .i64 0))]⟩, ⟨(some 76), (some (73, true)), .bslice [(.int .i64 0), (.int .i64 0), .nils] 31 1 [(0, 3, (.t 75))]⟩, ⟨(some 77), (some (73, true)), .call 12 [(.t 74), (.t 76)]⟩, ⟨(some 78), none, .pick (.t 73) (.t 77) (.c (.bool false))⟩, ⟨(some 79), none, .mov (.t 78)⟩, ⟨(some 80), (some (79, true)), .mov (.t 6)⟩, ⟨(some 81), (some (79, true)), .call 8 [(.t 80)]⟩, ⟨(some 82), (some (79, true)), .bin .eql (.t 81) (.c (.int .i64 0))⟩, ⟨(some 83), none, .pick (.t 79) (.t 82) (.c (.bool false))⟩, ⟨(some 84), none, .mov (.t 83)⟩, ⟨(some 85), (some (84, true)), .mov (.t 8)⟩, ⟨(some 86), (some (84, true)), .call 8 [(.t 85)]⟩, ⟨(some 87), (some (84, true)), .bin .eql (.t 86) (.c (.int .i64 2400))⟩, ⟨(some 88), none, .pick (.t 84) (.t 87) (.c (.bool false))⟩, ⟨(some 89), none, .mov (.t 88)⟩, ⟨(some 90), (some (89, true)), .mov (.t 10)⟩, ⟨(some 91), (some (89, true)), .call 8 [(.t 90)]⟩, ⟨(some 92), (some (89, true)), .bin .eql (.t 91) (.c (.int .i64 2400))⟩, ⟨(some 93), none, .pick (.t 89) (.t 92) (.c (.bool false))⟩, ⟨(some 94), none, .mov (.t 93)⟩, ⟨(some 95), (some (94, true)), .mov (.t 12)⟩, ⟨(some 96), (some (94, true)), .call 8 [(.t 95)]⟩, ⟨(some 97), (some (94, true)), .bin .eql (.t 96) (.c (.int .i64 2400))⟩, ⟨(some 98), none, .pick (.t 94) (.t 97) (.c (.bool false))⟩, ⟨(some 0), none, .mov (.t 98)⟩])
 .ret))))))))⟩
def b7_0 : VCode := (.seq (.ops [⟨(some 24), none, .bin .lss (.t 23) (.t 22)⟩])
 (.seq (.cond (.t 24) .skip (.exit 0))
 (.seq (.block 1 (.seq (.ops [⟨(some 25), none, .mov (.t 23)⟩, ⟨(some 7), none, .mov (.t 25)⟩])
 (.seq (.ops [⟨(some 26), none, .mov (.t 1)⟩, ⟨(some 27), none, .mov (.t 7)⟩, ⟨(some 28), none, .iaddr 8 none (.t 26) (.t 27)⟩, ⟨(some 8), none, .mov (.t 28)⟩])
 (.seq (.ops [⟨(some 30), none, .mov (.t 6)⟩, ⟨(some 31), none, .mov (.t 8)⟩, ⟨(some 32), none, .call 20 [(.t 31)]⟩, ⟨(some 33), none, .call 19 [(.t 30), (.t 32)]⟩, ⟨(some 29), none, .mov (.t 33)⟩, ⟨(some 34), none, .extract (.t 29) 0⟩, ⟨(some 35), none, .extract (.t 29) 1⟩, ⟨(some 9), none, .mov (.t 34)⟩, ⟨(some 10), none, .mov (.t 35)⟩])
 (.seq (.seq (.ops [⟨(some 36), none, .mov (.t 10)⟩])
 (.cond (.t 36) (.ops [⟨(some 37), none, .mov (.t 6)⟩, ⟨(some 38), none, .mov (.t 9)⟩, ⟨(some 39), none, .mov (.t 9)⟩, ⟨(some 40), none, .bin .add (.t 39) (.c (.int .i64 1))⟩, ⟨(some 41), none, .call 21 [(.t 37), (.t 38), (.t 40)]⟩, ⟨(some 6), none, .mov (.t 41)⟩]) .skip))
 (.seq (.ops [⟨(some 42), none, .mov (.t 8)⟩, ⟨(some 43), none, .nilck (.t 42)⟩, ⟨(some 44), none, .faddr 0 (.t 43)⟩, ⟨(some 45), none, .load false 1 (.t 44)⟩, ⟨(some 46), none, .bin .eql (.t 45) (.c (.int .i64 0))⟩])
 (.cond (.t 46) (.ops [⟨(some 47), none, .mov (.t 6)⟩, ⟨(some 48), none, .mov (.t 9)⟩, ⟨(some 49), none, .mov (.t 8)⟩, ⟨(some 50), none, .nilck (.t 49)⟩, ⟨(some 51), none, .faddr 1 (.t 50)⟩, ⟨(some 52), none, .load true 3 (.t 51)⟩, ⟨(some 53), none, .call 23 [(.t 52)]⟩, ⟨(some 54), none, .bslice [(.int .i64 0), (.int .i64 0), .nils] 31 1 [(0, 3, (.t 53))]⟩, ⟨(some 55), none, .call 22 [(.t 47), (.t 48), (.t 54)]⟩, ⟨(some 6), none, .mov (.t 55)⟩]) .skip)))))))
 (.ops [⟨(some 56), none, .bin .add (.t 23) (.c (.int .i64 1))⟩, ⟨(some 23), none, .mov (.t 56)⟩]))))
/-- furlong/model.Apply -/
def v7 : VFun := ⟨2, [(.tmp 4), (.tmp 5)], (.seq (.ops [⟨(some 4), none, .mov (.c .nils)⟩, ⟨(some 5), none, .mov (.c (.int .i64 0))⟩])
 (.seq (.seq (.ops [⟨(some 11), none, .mov (.t 0)⟩, ⟨(some 12), none, .call 16 [(.t 11)]⟩, ⟨(some 13), none, .un .not (.t 12)⟩, ⟨(some 14), none, .mov (.t 13)⟩, ⟨(some 15), (some (14, false)), .mov (.t 1)⟩, ⟨(some 16), (some (14, false)), .call 17 [(.t 15), (.c (.int .i64 8))]⟩, ⟨(some 17), (some (14, false)), .un .not (.t 16)⟩, ⟨(some 18), none, .pick (.t 14) (.c (.bool true)) (.t 17)⟩])
 (.cond (.t 18) (.seq (.ops [⟨(some 4), none, .mov (.c .nils)⟩, ⟨(some 5), none, .mov (.c (.int .i64 2400))⟩])
 .ret) .skip))
 (.seq (.ops [⟨(some 19), none, .mov (.t 0)⟩, ⟨(some 20), none, .call 18 [(.t 19)]⟩, ⟨(some 6), none, .mov (.t 20)⟩])
 (.seq (.seq (.ops [⟨(some 21), none, .mov (.t 1)⟩, ⟨(some 22), none, .bi (.len 1) [(.t 21)]⟩, ⟨(some 23), none, .mov (.c (.int .i64 0))⟩])
 (.block 0 (.loop b7_0)))
 (.seq (.ops [⟨(some 57), none, .mov (.t 6)⟩, ⟨(some 4), none, .mov (.t 57)⟩, ⟨(some 5), none, .mov (.c (.int .i64 0))⟩])
 .ret)))))⟩
/-- furlong/furlonglaw0.Num -/
def v8 : VFun := ⟨1, [(.tmp 2)], (.seq (.ops [⟨(some 2), none, .mov (.c (.int .i64 0))⟩])
 (.seq (.ops [⟨(some 3), none, .mov (.t 0)⟩, ⟨(some 2), none, .mov (.t 3)⟩])
 .ret))⟩
def b10_0 : VCode := (.seq (.seq (.ops [⟨(some 48), none, .mov (.t 6)⟩, ⟨(some 49), none, .faddr 2 (.t 2)⟩, ⟨(some 50), none, .load false 1 (.t 49)⟩, ⟨(some 51), none, .mov (.t 5)⟩, ⟨(some 52), none, .iaddr 1 none (.t 50) (.t 51)⟩, ⟨(some 53), none, .load false 1 (.t 52)⟩, ⟨(some 54), none, .bi (.len 1) [(.t 53)]⟩, ⟨(some 55), none, .bin .lss (.t 48) (.t 54)⟩])
 (.cond (.t 55) .skip (.exit 2)))
 (.seq (.block 3 (.seq (.drawn [⟨(some 58), none, .faddr 2 (.t 2)⟩, ⟨(some 59), none, .load false 1 (.t 58)⟩, ⟨(some 60), none, .mov (.t 5)⟩, ⟨(some 61), none, .iaddr 1 none (.t 59) (.t 60)⟩, ⟨(some 62), none, .load false 1 (.t 61)⟩, ⟨(some 63), none, .mov (.t 6)⟩, ⟨(some 64), none, .iaddr 2 none (.t 62) (.t 63)⟩, ⟨(some 65), none, .load true 2 (.t 64)⟩, ⟨(some 66), none, .faddr 2 (.t 3)⟩, ⟨(some 67), none, .load false 1 (.t 66)⟩, ⟨(some 68), none, .mov (.t 5)⟩, ⟨(some 69), none, .iaddr 1 none (.t 67) (.t 68)⟩, ⟨(some 70), none, .load false 1 (.t 69)⟩, ⟨(some 71), none, .mov (.t 6)⟩, ⟨(some 72), none, .iaddr 2 none (.t 70) (.t 71)⟩, ⟨(some 73), none, .load true 2 (.t 72)⟩, ⟨(some 74), none, .eqs (.flat [.int, .int]) true (.t 65) (.t 73)⟩] [])
 (.cond (.t 74) (.seq (.ops [⟨(some 4), none, .mov (.c (.bool false))⟩])
 .ret) .skip)))
 (.ops [⟨(some 56), none, .mov (.t 6)⟩, ⟨(some 57), none, .bin .add (.t 56) (.c (.int .i64 1))⟩, ⟨(some 6), none, .mov (.t 57)⟩])))
def b10_1 : VCode := (.seq (.seq (.ops [⟨(some 28), none, .mov (.t 5)⟩, ⟨(some 29), none, .faddr 2 (.t 2)⟩, ⟨(some 30), none, .load false 1 (.t 29)⟩, ⟨(some 31), none, .bi (.len 1) [(.t 30)]⟩, ⟨(some 32), none, .bin .lss (.t 28) (.t 31)⟩])
 (.cond (.t 32) .skip (.exit 0)))
 (.seq (.block 1 (.seq (.seq (.drawn [⟨(some 35), none, .faddr 2 (.t 2)⟩, ⟨(some 36), none, .load false 1 (.t 35)⟩, ⟨(some 37), none, .mov (.t 5)⟩, ⟨(some 38), none, .iaddr 1 none (.t 36) (.t 37)⟩, ⟨(some 39), none, .load false 1 (.t 38)⟩, ⟨(some 40), none, .bi (.len 1) [(.t 39)]⟩, ⟨(some 41), none, .faddr 2 (.t 3)⟩, ⟨(some 42), none, .load false 1 (.t 41)⟩, ⟨(some 43), none, .mov (.t 5)⟩, ⟨(some 44), none, .iaddr 1 none (.t 42) (.t 43)⟩, ⟨(some 45), none, .load false 1 (.t 44)⟩, ⟨(some 46), none, .bi (.len 1) [(.t 45)]⟩, ⟨(some 47), none, .bin .neq (.t 40) (.t 46)⟩] [])
 (.cond (.t 47) (.seq (.ops [⟨(some 4), none, .mov (.c (.bool false))⟩])
 .ret) .skip))
 (.seq (.ops [⟨(some 6), none, .mov (.c (.int .i64 0))⟩])
 (.block 2 (.loop b10_0)))))
 (.ops [⟨(some 33), none, .mov (.t 5)⟩, ⟨(some 34), none, .bin .add (.t 33) (.c (.int .i64 1))⟩, ⟨(some 5), none, .mov (.t 34)⟩])))
/-- furlong/furlonglaw0.SameFeature -/
def v10 : VFun := ⟨2, [(.tmp 4)], (.seq (.ops [⟨(some 2), none, .box 31 (.t 0)⟩, ⟨(some 3), none, .box 31 (.t 1)⟩, ⟨(some 4), none, .mov (.c (.bool false))⟩])
 (.seq (.seq (.ops [⟨(some 7), none, .faddr 0 (.t 2)⟩, ⟨(some 8), none, .load false 1 (.t 7)⟩, ⟨(some 9), none, .faddr 0 (.t 3)⟩, ⟨(some 10), none, .load false 1 (.t 9)⟩, ⟨(some 11), none, .bin .neq (.t 8) (.t 10)⟩, ⟨(some 12), none, .mov (.t 11)⟩, ⟨(some 13), (some (12, false)), .faddr 1 (.t 2)⟩, ⟨(some 14), (some (12, false)), .load false 1 (.t 13)⟩, ⟨(some 15), (some (12, false)), .faddr 1 (.t 3)⟩, ⟨(some 16), (some (12, false)), .load false 1 (.t 15)⟩, ⟨(some 17), (some (12, false)), .bin .neq (.t 14) (.t 16)⟩, ⟨(some 18), none, .pick (.t 12) (.c (.bool true)) (.t 17)⟩, ⟨(some 19), none, .mov (.t 18)⟩, ⟨(some 20), (some (19, false)), .faddr 2 (.t 2)⟩, ⟨(some 21), (some (19, false)), .load false 1 (.t 20)⟩, ⟨(some 22), (some (19, false)), .bi (.len 1) [(.t 21)]⟩, ⟨(some 23), (some (19, false)), .faddr 2 (.t 3)⟩, ⟨(some 24), (some (19, false)), .load false 1 (.t 23)⟩, ⟨(some 25), (some (19, false)), .bi (.len 1) [(.t 24)]⟩, ⟨(some 26), (some (19, false)), .bin .neq (.t 22) (.t 25)⟩, ⟨(some 27), none, .pick (.t 19) (.c (.bool true)) (.t 26)⟩])
 (.cond (.t 27) (.seq (.ops [⟨(some 4), none, .mov (.c (.bool false))⟩])
 .ret) .skip))
 (.seq (.seq (.ops [⟨(some 5), none, .mov (.c (.int .i64 0))⟩])
 (.block 0 (.loop b10_1)))
 (.seq (.ops [⟨(some 4), none, .mov (.c (.bool true))⟩])
 .ret))))⟩
def b12_0 : VCode := (.seq (.seq (.ops [⟨(some 11), none, .mov (.t 5)⟩, ⟨(some 12), none, .mov (.t 0)⟩, ⟨(some 13), none, .bi (.len 1) [(.t 12)]⟩, ⟨(some 14), none, .bin .lss (.t 11) (.t 13)⟩])
 (.cond (.t 14) .skip (.exit 0)))
 (.seq (.block 1 (.seq (.drawn [⟨(some 17), none, .mov (.t 0)⟩, ⟨(some 18), none, .mov (.t 5)⟩, ⟨(some 19), none, .iaddr 3 none (.t 17) (.t 18)⟩, ⟨(some 20), none, .load true 3 (.t 19)⟩, ⟨(some 21), none, .mov (.t 1)⟩, ⟨(some 22), none, .mov (.t 5)⟩, ⟨(some 23), none, .iaddr 3 none (.t 21) (.t 22)⟩, ⟨(some 24), none, .load true 3 (.t 23)⟩, ⟨(some 25), none, .call 10 [(.t 20), (.t 24)]⟩, ⟨(some 26), none, .un .not (.t 25)⟩] [])
 (.cond (.t 26) (.seq (.ops [⟨(some 4), none, .mov (.c (.bool false))⟩])
 .ret) .skip)))
 (.ops [⟨(some 15), none, .mov (.t 5)⟩, ⟨(some 16), none, .bin .add (.t 15) (.c (.int .i64 1))⟩, ⟨(some 5), none, .mov (.t 16)⟩])))
/-- furlong/furlonglaw0.SameFeatures -/
def v12 : VFun := ⟨2, [(.tmp 4)], (.seq (.ops [⟨(some 4), none, .mov (.c (.bool false))⟩])
 (.seq (.seq (.ops [⟨(some 6), none, .mov (.t 0)⟩, ⟨(some 7), none, .bi (.len 1) [(.t 6)]⟩, ⟨(some 8), none, .mov (.t 1)⟩, ⟨(some 9), none, .bi (.len 1) [(.t 8)]⟩, ⟨(some 10), none, .bin .neq (.t 7) (.t 9)⟩])
 (.cond (.t 10) (.seq (.ops [⟨(some 4), none, .mov (.c (.bool false))⟩])
 .ret) .skip))
 (.seq (.seq (.ops [⟨(some 5), none, .mov (.c (.int .i64 0))⟩])
 (.block 0 (.loop b12_0)))
 (.seq (.ops [⟨(some 4), none, .mov (.c (.bool true))⟩])
 .ret))))⟩
/-- furlong/furlonglaw24.point -/
def v13 : VFun := ⟨3, [(.cell 6 true 3)], (.seq (.ops [⟨(some 6), none, .alloc [(.int .i64 0), (.int .i64 0), .nils] 31⟩])
 (.seq (.ops [⟨(some 7), none, .mov (.t 0)⟩, ⟨(some 8), none, .mov (.t 1)⟩, ⟨(some 9), none, .mov (.t 2)⟩, ⟨(some 10), none, .build [(.int .i64 0), (.int .i64 0)] [(0, 1, (.t 8)), (1, 1, (.t 9))]⟩, ⟨(some 11), none, .bslice [(.int .i64 0), (.int .i64 0)] 47 1 [(0, 2, (.t 10))]⟩, ⟨(some 12), none, .bslice [.nils] 61 1 [(0, 1, (.t 11))]⟩, ⟨(some 13), none, .build [(.int .i64 0), (.int .i64 0), .nils] [(0, 1, (.t 7)), (2, 1, (.t 12))]⟩, ⟨none, none, .store 3 (.t 6) (.t 13)⟩])
 .ret))⟩
def b14_0 : VCode := (.seq (.ops [⟨(some 22), none, .bin .lss (.t 21) (.t 20)⟩])
 (.seq (.cond (.t 22) .skip (.exit 0))
 (.seq (.block 1 (.seq (.ops [⟨(some 23), none, .iaddr 3 none (.t 19) (.t 21)⟩, ⟨(some 24), none, .load true 3 (.t 23)⟩, ⟨(some 8), none, .alloc [(.int .i64 0), (.int .i64 0), .nils] 31⟩, ⟨none, none, .store 3 (.t 8) (.t 24)⟩])
 (.seq (.ops [⟨(some 26), none, .load true 3 (.t 8)⟩, ⟨(some 27), none, .load true 4 (.t 3)⟩, ⟨(some 28), none, .call 25 [(.t 26), (.t 27)]⟩, ⟨(some 25), none, .mov (.t 28)⟩, ⟨(some 29), none, .extract (.t 25) 0⟩, ⟨(some 30), none, .extract (.t 25) 1⟩, ⟨(some 9), none, .mov (.t 29)⟩, ⟨(some 10), none, .mov (.t 30)⟩])
 (.seq (.ops [⟨(some 31), none, .mov (.t 9)⟩])
 (.cond (.t 31) (.ops [⟨(some 32), none, .mov (.t 6)⟩, ⟨(some 33), none, .load true 3 (.t 8)⟩, ⟨(some 34), none, .call 23 [(.t 33)]⟩, ⟨(some 35), none, .bslice [(.int .i64 0), (.int .i64 0), .nils] 31 1 [(0, 3, (.t 34))]⟩, ⟨(some 36), none, .bi (.append 3 40 31) [(.t 32), (.t 35)]⟩, ⟨(some 6), none, .mov (.t 36)⟩]) .skip)))))
 (.ops [⟨(some 37), none, .bin .add (.t 21) (.c (.int .i64 1))⟩, ⟨(some 21), none, .mov (.t 37)⟩]))))
/-- furlong/model.Window -/
def v14 : VFun := ⟨2, [(.tmp 4), (.tmp 5)], (.seq (.ops [⟨(some 3), none, .box 45 (.t 1)⟩, ⟨(some 4), none, .mov (.c .nils)⟩, ⟨(some 5), none, .mov (.c (.int .i64 0))⟩])
 (.seq (.seq (.ops [⟨(some 11), none, .mov (.t 0)⟩, ⟨(some 12), none, .call 16 [(.t 11)]⟩, ⟨(some 13), none, .un .not (.t 12)⟩, ⟨(some 14), none, .mov (.t 13)⟩, ⟨(some 15), (some (14, false)), .load true 4 (.t 3)⟩, ⟨(some 16), (some (14, false)), .call 24 [(.t 15)]⟩, ⟨(some 17), (some (14, false)), .un .not (.t 16)⟩, ⟨(some 18), none, .pick (.t 14) (.c (.bool true)) (.t 17)⟩])
 (.cond (.t 18) (.seq (.ops [⟨(some 4), none, .mov (.c .nils)⟩, ⟨(some 5), none, .mov (.c (.int .i64 2400))⟩])
 .ret) .skip))
 (.seq (.ops [⟨(some 6), none, .mov (.c .nils)⟩])
 (.seq (.seq (.ops [⟨(some 19), none, .mov (.t 0)⟩, ⟨(some 20), none, .bi (.len 1) [(.t 19)]⟩, ⟨(some 21), none, .mov (.c (.int .i64 0))⟩])
 (.block 0 (.loop b14_0)))
 (.seq (.ops [⟨(some 38), none, .mov (.t 6)⟩, ⟨(some 4), none, .mov (.t 38)⟩, ⟨(some 5), none, .mov (.c (.int .i64 0))⟩])
 .ret)))))⟩
/-- furlong/model.Near -/
def v15 : VFun := ⟨3, [(.tmp 6), (.tmp 7)], (.seq (.ops [⟨(some 4), none, .box 47 (.t 1)⟩, ⟨(some 6), none, .mov (.c .nils)⟩, ⟨(some 7), none, .mov (.c (.int .i64 0))⟩])
 (.seq (.seq (.ops [⟨(some 8), none, .mov (.t 0)⟩, ⟨(some 9), none, .call 16 [(.t 8)]⟩, ⟨(some 10), none, .un .not (.t 9)⟩, ⟨(some 11), none, .mov (.t 10)⟩, ⟨(some 12), (some (11, false)), .load true 2 (.t 4)⟩, ⟨(some 13), (some (11, false)), .call 26 [(.t 12)]⟩, ⟨(some 14), (some (11, false)), .un .not (.t 13)⟩, ⟨(some 15), none, .pick (.t 11) (.c (.bool true)) (.t 14)⟩, ⟨(some 16), none, .mov (.t 15)⟩, ⟨(some 17), (some (16, false)), .mov (.t 2)⟩, ⟨(some 18), (some (16, false)), .bin .lss (.t 17) (.c (.int .i64 0))⟩, ⟨(some 19), none, .pick (.t 16) (.c (.bool true)) (.t 18)⟩])
 (.cond (.t 19) (.seq (.ops [⟨(some 6), none, .mov (.c .nils)⟩, ⟨(some 7), none, .mov (.c (.int .i64 2400))⟩])
 .ret) .skip))
 (.seq (.drawn [⟨(some 20), none, .mov (.t 0)⟩, ⟨(some 21), none, .call 18 [(.t 20)]⟩, ⟨(some 22), none, .load true 2 (.t 4)⟩, ⟨(some 23), none, .mov (.t 2)⟩, ⟨(some 24), none, .call 27 [(.t 21), (.t 22), (.t 23)]⟩, ⟨(some 6), none, .mov (.t 24)⟩, ⟨(some 7), none, .mov (.c (.int .i64 0))⟩] [(2, [0])])
 .ret)))⟩
def b16_0 : VCode := (.seq (.ops [⟨(some 8), none, .bin .lss (.t 7) (.t 6)⟩])
 (.seq (.cond (.t 8) .skip (.exit 0))
 (.seq (.block 1 (.seq (.ops [⟨(some 9), none, .mov (.t 7)⟩, ⟨(some 10), none, .iaddr 3 none (.t 5) (.t 7)⟩, ⟨(some 11), none, .load true 3 (.t 10)⟩, ⟨(some 4), none, .alloc [(.int .i64 0), (.int .i64 0), .nils] 31⟩, ⟨(some 3), none, .mov (.t 9)⟩, ⟨none, none, .store 3 (.t 4) (.t 11)⟩])
 (.seq (.drawn [⟨(some 12), none, .load true 3 (.t 4)⟩, ⟨(some 13), none, .call 28 [(.t 12)]⟩, ⟨(some 14), none, .un .not (.t 13)⟩, ⟨(some 15), none, .mov (.t 14)⟩, ⟨(some 16), (some (15, false)), .mov (.t 3)⟩, ⟨(some 17), (some (15, false)), .bin .gtr (.t 16) (.c (.int .i64 0))⟩, ⟨(some 18), (some (15, false)), .mov (.t 17)⟩, ⟨(some 19), (some (18, true)), .mov (.t 0)⟩, ⟨(some 20), (some (18, true)), .mov (.t 3)⟩, ⟨(some 21), (some (18, true)), .bin .sub (.t 20) (.c (.int .i64 1))⟩, ⟨(some 22), (some (18, true)), .iaddr 3 none (.t 19) (.t 21)⟩, ⟨(some 23), (some (18, true)), .faddr 0 (.t 22)⟩, ⟨(some 24), (some (18, true)), .load false 1 (.t 23)⟩, ⟨(some 25), (some (18, true)), .faddr 0 (.t 4)⟩, ⟨(some 26), (some (18, true)), .load false 1 (.t 25)⟩, ⟨(some 27), (some (18, true)), .bin .geq (.t 24) (.t 26)⟩, ⟨(some 28), (some (15, false)), .pick (.t 18) (.t 27) (.c (.bool false))⟩, ⟨(some 29), none, .pick (.t 15) (.c (.bool true)) (.t 28)⟩] [])
 (.cond (.t 29) (.seq (.ops [⟨(some 2), none, .mov (.c (.bool false))⟩])
 .ret) .skip))))
 (.ops [⟨(some 30), none, .bin .add (.t 7) (.c (.int .i64 1))⟩, ⟨(some 7), none, .mov (.t 30)⟩]))))
/-- furlong/shape.Rising -/
def v16 : VFun := ⟨1, [(.tmp 2)], (.seq (.ops [⟨(some 2), none, .mov (.c (.bool false))⟩])
 (.seq (.seq (.ops [⟨(some 5), none, .mov (.t 0)⟩, ⟨(some 6), none, .bi (.len 1) [(.t 5)]⟩, ⟨(some 7), none, .mov (.c (.int .i64 0))⟩])
 (.block 0 (.loop b16_0)))
 (.seq (.ops [⟨(some 2), none, .mov (.c (.bool true))⟩])
 .ret)))⟩
def b17_0 : VCode := (.seq (.ops [⟨(some 21), none, .bin .lss (.t 20) (.t 19)⟩])
 (.seq (.cond (.t 21) .skip (.exit 0))
 (.seq (.block 1 (.seq (.ops [⟨(some 22), none, .mov (.t 20)⟩, ⟨(some 6), none, .mov (.t 22)⟩])
 (.seq (.ops [⟨(some 23), none, .mov (.t 0)⟩, ⟨(some 24), none, .mov (.t 6)⟩, ⟨(some 25), none, .iaddr 8 none (.t 23) (.t 24)⟩, ⟨(some 7), none, .mov (.t 25)⟩])
 (.seq (.seq (.ops [⟨(some 26), none, .mov (.t 7)⟩, ⟨(some 27), none, .mov (.t 1)⟩, ⟨(some 28), none, .call 29 [(.t 26), (.t 27)]⟩, ⟨(some 29), none, .un .not (.t 28)⟩, ⟨(some 30), none, .mov (.t 29)⟩, ⟨(some 31), (some (30, false)), .mov (.t 7)⟩, ⟨(some 32), (some (30, false)), .nilck (.t 31)⟩, ⟨(some 33), (some (30, false)), .faddr 0 (.t 32)⟩, ⟨(some 34), (some (30, false)), .load false 1 (.t 33)⟩, ⟨(some 35), (some (30, false)), .bin .eql (.t 34) (.c (.int .i64 2))⟩, ⟨(some 36), (some (30, false)), .mov (.t 35)⟩, ⟨(some 37), (some (36, true)), .mov (.t 6)⟩, ⟨(some 38), (some (36, true)), .bin .gtr (.t 37) (.c (.int .i64 0))⟩, ⟨(some 39), (some (30, false)), .pick (.t 36) (.t 38) (.c (.bool false))⟩, ⟨(some 40), none, .pick (.t 30) (.c (.bool true)) (.t 39)⟩])
 (.cond (.t 40) (.seq (.ops [⟨(some 4), none, .mov (.c (.bool false))⟩])
 .ret) .skip))
 (.seq (.ops [⟨(some 41), none, .mov (.t 7)⟩, ⟨(some 42), none, .call 20 [(.t 41)]⟩, ⟨(some 8), none, .mov (.t 42)⟩])
 (.seq (.ops [⟨(some 43), none, .mov (.t 8)⟩, ⟨(some 44), none, .bin .gtr (.t 43) (.c (.int .i64 0))⟩])
 (.cond (.t 44) (.seq (.seq (.ops [⟨(some 45), none, .mov (.t 5)⟩, ⟨(some 46), none, .mov (.t 8)⟩, ⟨(some 47), none, .lookup .int (.bool false) false (.t 45) (.t 46)⟩])
 (.cond (.t 47) (.seq (.ops [⟨(some 4), none, .mov (.c (.bool false))⟩])
 .ret) .skip))
 (.ops [⟨(some 48), none, .mov (.t 5)⟩, ⟨(some 49), none, .mov (.t 8)⟩, ⟨none, none, .mupd .int (.t 48) (.t 49) (.c (.bool true))⟩])) .skip)))))))
 (.ops [⟨(some 50), none, .bin .add (.t 20) (.c (.int .i64 1))⟩, ⟨(some 20), none, .mov (.t 50)⟩]))))
/-- furlong/rec.OpsMay -/
def v17 : VFun := ⟨2, [(.tmp 4)], (.seq (.ops [⟨(some 4), none, .mov (.c (.bool false))⟩])
 (.seq (.seq (.ops [⟨(some 9), none, .mov (.t 0)⟩, ⟨(some 10), none, .bi (.len 1) [(.t 9)]⟩, ⟨(some 11), none, .bin .lss (.t 10) (.c (.int .i64 1))⟩, ⟨(some 12), none, .mov (.t 11)⟩, ⟨(some 13), (some (12, false)), .mov (.t 0)⟩, ⟨(some 14), (some (12, false)), .bi (.len 1) [(.t 13)]⟩, ⟨(some 15), (some (12, false)), .bin .gtr (.t 14) (.c (.int .i64 32))⟩, ⟨(some 16), none, .pick (.t 12) (.c (.bool true)) (.t 15)⟩])
 (.cond (.t 16) (.seq (.ops [⟨(some 4), none, .mov (.c (.bool false))⟩])
 .ret) .skip))
 (.seq (.ops [⟨(some 17), none, .mkmap⟩, ⟨(some 5), none, .mov (.t 17)⟩])
 (.seq (.seq (.ops [⟨(some 18), none, .mov (.t 0)⟩, ⟨(some 19), none, .bi (.len 1) [(.t 18)]⟩, ⟨(some 20), none, .mov (.c (.int .i64 0))⟩])
 (.block 0 (.loop b17_0)))
 (.seq (.ops [⟨(some 4), none, .mov (.c (.bool true))⟩])
 .ret)))))⟩
def b18_0 : VCode := (.seq (.ops [⟨(some 9), none, .bin .lss (.t 8) (.t 7)⟩])
 (.seq (.cond (.t 9) .skip (.exit 0))
 (.seq (.block 1 (.seq (.ops [⟨(some 10), none, .iaddr 3 none (.t 6) (.t 8)⟩, ⟨(some 11), none, .load true 3 (.t 10)⟩, ⟨(some 5), none, .alloc [(.int .i64 0), (.int .i64 0), .nils] 31⟩, ⟨none, none, .store 3 (.t 5) (.t 11)⟩])
 (.ops [⟨(some 12), none, .mov (.t 3)⟩, ⟨(some 13), none, .load true 3 (.t 5)⟩, ⟨(some 14), none, .call 23 [(.t 13)]⟩, ⟨(some 15), none, .bslice [(.int .i64 0), (.int .i64 0), .nils] 31 1 [(0, 3, (.t 14))]⟩, ⟨(some 16), none, .bi (.append 3 40 31) [(.t 12), (.t 15)]⟩, ⟨(some 3), none, .mov (.t 16)⟩])))
 (.ops [⟨(some 17), none, .bin .add (.t 8) (.c (.int .i64 1))⟩, ⟨(some 8), none, .mov (.t 17)⟩]))))
/-- furlong/shape.CopyAll -/
def v18 : VFun := ⟨1, [(.tmp 2)], (.seq (.ops [⟨(some 2), none, .mov (.c .nils)⟩])
 (.seq (.ops [⟨(some 3), none, .mov (.c .nils)⟩])
 (.seq (.seq (.ops [⟨(some 6), none, .mov (.t 0)⟩, ⟨(some 7), none, .bi (.len 1) [(.t 6)]⟩, ⟨(some 8), none, .mov (.c (.int .i64 0))⟩])
 (.block 0 (.loop b18_0)))
 (.seq (.ops [⟨(some 18), none, .mov (.t 3)⟩, ⟨(some 2), none, .mov (.t 18)⟩])
 .ret))))⟩
/-- furlong/model.place -/
def v19 : VFun := ⟨2, [(.tmp 4), (.tmp 5)], (.seq (.ops [⟨(some 4), none, .mov (.c (.int .i64 0))⟩, ⟨(some 5), none, .mov (.c (.bool false))⟩])
 (.seq (.ops [⟨(some 6), none, .mov (.t 0)⟩, ⟨(some 7), none, .mov (.t 1)⟩, ⟨(some 8), none, .call 30 [(.t 6), (.t 7), (.c (.fn 31 []))]⟩, ⟨(some 9), none, .extract (.t 8) 0⟩, ⟨(some 10), none, .extract (.t 8) 1⟩, ⟨(some 4), none, .mov (.t 9)⟩, ⟨(some 5), none, .mov (.t 10)⟩])
 .ret))⟩
/-- furlong/rec.Id -/
def v20 : VFun := ⟨1, [(.tmp 2)], (.seq (.ops [⟨(some 2), none, .mov (.c (.int .i64 0))⟩])
 (.seq (.seq (.ops [⟨(some 3), none, .mov (.t 0)⟩, ⟨(some 4), none, .nilck (.t 3)⟩, ⟨(some 5), none, .faddr 0 (.t 4)⟩, ⟨(some 6), none, .load false 1 (.t 5)⟩, ⟨(some 7), none, .bin .eql (.t 6) (.c (.int .i64 0))⟩])
 (.cond (.t 7) (.seq (.ops [⟨(some 8), none, .mov (.t 0)⟩, ⟨(some 9), none, .nilck (.t 8)⟩, ⟨(some 10), none, .faddr 1 (.t 9)⟩, ⟨(some 11), none, .faddr 0 (.t 10)⟩, ⟨(some 12), none, .load false 1 (.t 11)⟩, ⟨(some 2), none, .mov (.t 12)⟩])
 .ret) .skip))
 (.seq (.ops [⟨(some 13), none, .mov (.t 0)⟩, ⟨(some 14), none, .nilck (.t 13)⟩, ⟨(some 15), none, .faddr 4 (.t 14)⟩, ⟨(some 16), none, .load false 1 (.t 15)⟩, ⟨(some 2), none, .mov (.t 16)⟩])
 .ret)))⟩
/-- slices.Delete[[]furlong/api.Feature,furlong/api.Feature] -/
def v21 : VFun := ⟨3, [(.tmp 6)], (.seq (.ops [⟨(some 6), none, .mov (.c .nils)⟩])
 (.seq (.ops [⟨(some 8), none, .mov (.t 0)⟩, ⟨(some 9), none, .mov (.t 1)⟩, ⟨(some 10), none, .mov (.t 2)⟩, ⟨(some 11), none, .mov (.t 0)⟩, ⟨(some 12), none, .bi (.len 1) [(.t 11)]⟩, ⟨(some 13), none, .slice 3 (.t 8) (some (.t 9)) (some (.t 10)) (some (.t 12))⟩])
 (.seq (.seq (.ops [⟨(some 14), none, .mov (.t 1)⟩, ⟨(some 15), none, .mov (.t 2)⟩, ⟨(some 16), none, .bin .eql (.t 14) (.t 15)⟩])
 (.cond (.t 16) (.seq (.ops [⟨(some 17), none, .mov (.t 0)⟩, ⟨(some 6), none, .mov (.t 17)⟩])
 .ret) .skip))
 (.seq (.ops [⟨(some 18), none, .mov (.t 0)⟩, ⟨(some 19), none, .bi (.len 1) [(.t 18)]⟩, ⟨(some 7), none, .mov (.t 19)⟩])
 (.seq (.drawn [⟨(some 20), none, .mov (.t 0)⟩, ⟨(some 21), none, .mov (.t 1)⟩, ⟨(some 22), none, .slice 3 (.t 20) none (some (.t 21)) none⟩, ⟨(some 23), none, .mov (.t 0)⟩, ⟨(some 24), none, .mov (.t 2)⟩, ⟨(some 25), none, .slice 3 (.t 23) (some (.t 24)) none none⟩, ⟨(some 26), none, .bi (.append 3 40 31) [(.t 22), (.t 25)]⟩, ⟨(some 0), none, .mov (.t 26)⟩] [])
 (.seq (.ops [⟨(some 27), none, .mov (.t 0)⟩, ⟨(some 28), none, .mov (.t 0)⟩, ⟨(some 29), none, .bi (.len 1) [(.t 28)]⟩, ⟨(some 30), none, .mov (.t 7)⟩, ⟨(some 31), none, .slice 3 (.t 27) (some (.t 29)) (some (.t 30)) none⟩, ⟨none, none, .bi (.clearS [(.int .i64 0), (.int .i64 0), .nils]) [(.t 31)]⟩])
 (.seq (.ops [⟨(some 32), none, .mov (.t 0)⟩, ⟨(some 6), none, .mov (.t 32)⟩])
 .ret)))))))⟩
def b23_0 : VCode := (.seq (.ops [⟨(some 14), none, .bin .lss (.t 13) (.t 12)⟩])
 (.seq (.cond (.t 14) .skip (.exit 0))
 (.seq (.block 1 (.seq (.ops [⟨(some 15), none, .mov (.t 13)⟩, ⟨(some 16), none, .iaddr 1 none (.t 11) (.t 13)⟩, ⟨(some 17), none, .load false 1 (.t 16)⟩, ⟨(some 4), none, .mov (.t 15)⟩, ⟨(some 5), none, .mov (.t 17)⟩])
 (.ops [⟨(some 18), none, .mov (.t 3)⟩, ⟨(some 19), none, .mov (.t 4)⟩, ⟨(some 20), none, .mov (.t 5)⟩, ⟨(some 21), none, .call 35 [(.t 20)]⟩, ⟨(some 22), none, .iaddr 1 none (.t 18) (.t 19)⟩, ⟨none, none, .store 1 (.t 22) (.t 21)⟩])))
 (.ops [⟨(some 23), none, .bin .add (.t 13) (.c (.int .i64 1))⟩, ⟨(some 13), none, .mov (.t 23)⟩]))))
/-- furlong/shape.Copy -/
def v23 : VFun := ⟨1, [(.cell 2 true 3)], (.seq (.ops [⟨(some 1), none, .box 31 (.t 0)⟩, ⟨(some 2), none, .alloc [(.int .i64 0), (.int .i64 0), .nils] 31⟩])
 (.seq (.ops [⟨(some 6), none, .faddr 2 (.t 1)⟩, ⟨(some 7), none, .load false 1 (.t 6)⟩, ⟨(some 8), none, .bi (.len 1) [(.t 7)]⟩, ⟨(some 9), none, .mkslice [.nils] 61 24 (.t 8) (.t 8)⟩, ⟨(some 3), none, .mov (.t 9)⟩])
 (.seq (.seq (.ops [⟨(some 10), none, .faddr 2 (.t 1)⟩, ⟨(some 11), none, .load false 1 (.t 10)⟩, ⟨(some 12), none, .bi (.len 1) [(.t 11)]⟩, ⟨(some 13), none, .mov (.c (.int .i64 0))⟩])
 (.block 0 (.loop b23_0)))
 (.seq (.ops [⟨(some 24), none, .mov (.t 3)⟩, ⟨(some 25), none, .faddr 2 (.t 1)⟩, ⟨none, none, .store 1 (.t 25) (.t 24)⟩])
 (.seq (.ops [⟨(some 26), none, .load true 3 (.t 1)⟩, ⟨none, none, .store 3 (.t 2) (.t 26)⟩])
 .ret)))))⟩
/-- furlong/geom.BoxMay -/
def v24 : VFun := ⟨1, [(.tmp 2)], (.seq (.ops [⟨(some 1), none, .box 45 (.t 0)⟩, ⟨(some 2), none, .mov (.c (.bool false))⟩])
 (.seq (.ops [⟨(some 3), none, .faddr 0 (.t 1)⟩, ⟨(some 4), none, .load false 1 (.t 3)⟩, ⟨(some 5), none, .call 36 [(.t 4)]⟩, ⟨(some 6), none, .mov (.t 5)⟩, ⟨(some 7), (some (6, true)), .faddr 1 (.t 1)⟩, ⟨(some 8), (some (6, true)), .load false 1 (.t 7)⟩, ⟨(some 9), (some (6, true)), .call 36 [(.t 8)]⟩, ⟨(some 10), none, .pick (.t 6) (.t 9) (.c (.bool false))⟩, ⟨(some 11), none, .mov (.t 10)⟩, ⟨(some 12), (some (11, true)), .faddr 2 (.t 1)⟩, ⟨(some 13), (some (11, true)), .load false 1 (.t 12)⟩, ⟨(some 14), (some (11, true)), .call 36 [(.t 13)]⟩, ⟨(some 15), none, .pick (.t 11) (.t 14) (.c (.bool false))⟩, ⟨(some 16), none, .mov (.t 15)⟩, ⟨(some 17), (some (16, true)), .faddr 3 (.t 1)⟩, ⟨(some 18), (some (16, true)), .load false 1 (.t 17)⟩, ⟨(some 19), (some (16, true)), .call 36 [(.t 18)]⟩, ⟨(some 20), none, .pick (.t 16) (.t 19) (.c (.bool false))⟩, ⟨(some 21), none, .mov (.t 20)⟩, ⟨(some 22), (some (21, true)), .faddr 0 (.t 1)⟩, ⟨(some 23), (some (21, true)), .load false 1 (.t 22)⟩, ⟨(some 24), (some (21, true)), .faddr 2 (.t 1)⟩, ⟨(some 25), (some (21, true)), .load false 1 (.t 24)⟩, ⟨(some 26), (some (21, true)), .bin .leq (.t 23) (.t 25)⟩, ⟨(some 27), none, .pick (.t 21) (.t 26) (.c (.bool false))⟩, ⟨(some 28), none, .mov (.t 27)⟩, ⟨(some 29), (some (28, true)), .faddr 1 (.t 1)⟩, ⟨(some 30), (some (28, true)), .load false 1 (.t 29)⟩, ⟨(some 31), (some (28, true)), .faddr 3 (.t 1)⟩, ⟨(some 32), (some (28, true)), .load false 1 (.t 31)⟩, ⟨(some 33), (some (28, true)), .bin .leq (.t 30) (.t 32)⟩, ⟨(some 34), none, .pick (.t 28) (.t 33) (.c (.bool false))⟩, ⟨(some 2), none, .mov (.t 34)⟩])
 .ret))⟩
def b25_0 : VCode := (.ops [⟨(some 6), none, .alloc [(.int .i64 0), (.int .i64 0)] 47⟩, ⟨none, none, .store 2 (.t 6) (.t 20)⟩])
def b25_1 : VCode := (.block 1 (.seq (.ops [⟨(some 21), none, .load true 2 (.t 6)⟩, ⟨(some 22), none, .load true 4 (.t 3)⟩, ⟨(some 23), none, .call 38 [(.t 21), (.t 22)]⟩])
 (.cond (.t 23) (.seq (.ops [⟨none, none, .store 1 (.t 4) (.c (.bool true))⟩, ⟨none, none, .store 1 (.t 5) (.c (.int .i64 0))⟩])
 .ret) .skip)))
def b25_2 : VCode := (.seq (.ops [⟨(some 8), none, .alloc [(.int .i64 0), (.int .i64 0)] 47⟩, ⟨none, none, .store 2 (.t 8) (.t 27)⟩])
 (.ops [⟨(some 9), none, .alloc [(.int .i64 0), (.int .i64 0)] 47⟩, ⟨none, none, .store 2 (.t 9) (.t 28)⟩]))
def b25_3 : VCode := (.block 3 (.seq (.ops [⟨(some 29), none, .load true 2 (.t 8)⟩, ⟨(some 30), none, .load true 2 (.t 9)⟩, ⟨(some 31), none, .load true 8 (.t 7)⟩, ⟨(some 32), none, .call 41 [(.t 29), (.t 30), (.t 31)]⟩])
 (.cond (.t 32) (.seq (.ops [⟨none, none, .store 1 (.t 4) (.c (.bool true))⟩, ⟨none, none, .store 1 (.t 5) (.c (.int .i64 0))⟩])
 .ret) .skip)))
/-- furlong/shape.Meets -/
def v25 : VFun := ⟨2, [(.cell 4 false 1), (.cell 5 false 1)], (.seq (.ops [⟨(some 2), none, .box 31 (.t 0)⟩, ⟨(some 3), none, .box 45 (.t 1)⟩, ⟨(some 4), none, .alloc [(.bool false)] 4⟩, ⟨(some 5), none, .alloc [(.int .i64 0)] 25⟩])
 (.seq (.seq (.ops [⟨(some 11), none, .load true 3 (.t 2)⟩, ⟨(some 12), none, .call 28 [(.t 11)]⟩, ⟨(some 13), none, .un .not (.t 12)⟩, ⟨(some 14), none, .mov (.t 13)⟩, ⟨(some 15), (some (14, false)), .load true 4 (.t 3)⟩, ⟨(some 16), (some (14, false)), .call 24 [(.t 15)]⟩, ⟨(some 17), (some (14, false)), .un .not (.t 16)⟩, ⟨(some 18), none, .pick (.t 14) (.c (.bool true)) (.t 17)⟩])
 (.cond (.t 18) (.seq (.ops [⟨none, none, .store 1 (.t 4) (.c (.bool false))⟩, ⟨none, none, .store 1 (.t 5) (.c (.int .i64 400))⟩])
 .ret) .skip))
 (.seq (.seq (.ops [⟨(some 19), none, .call 37 [(.t 2)]⟩])
 (.block 0 (.rangeFn (.t 19) [20] b25_0 b25_1)))
 (.seq (.ops [⟨(some 24), none, .load true 4 (.t 3)⟩, ⟨(some 25), none, .call 39 [(.t 24)]⟩, ⟨(some 7), none, .alloc [(.int .i64 0), (.int .i64 0), (.int .i64 0), (.int .i64 0), (.int .i64 0), (.int .i64 0), (.int .i64 0), (.int .i64 0)] 81⟩, ⟨none, none, .store 8 (.t 7) (.t 25)⟩])
 (.seq (.seq (.ops [⟨(some 26), none, .call 40 [(.t 2)]⟩])
 (.block 2 (.rangeFn (.t 26) [27, 28] b25_2 b25_3)))
 (.seq (.ops [⟨(some 33), none, .mkfn 42 [(.t 2)]⟩, ⟨(some 10), none, .mov (.t 33)⟩])
 (.seq (.ops [⟨(some 34), none, .faddr 1 (.t 2)⟩, ⟨(some 35), none, .load false 1 (.t 34)⟩, ⟨(some 36), none, .bin .eql (.t 35) (.c (.int .i64 2))⟩, ⟨(some 37), none, .mov (.t 36)⟩, ⟨(some 38), (some (37, true)), .sliceA 2 4 (.t 7) none none none⟩, ⟨(some 39), (some (37, true)), .mov (.t 10)⟩, ⟨(some 40), (some (37, true)), .call 44 [(.t 38), (.t 39)]⟩, ⟨(some 41), none, .pick (.t 37) (.t 40) (.c (.bool false))⟩, ⟨none, none, .store 1 (.t 4) (.t 41)⟩, ⟨none, none, .store 1 (.t 5) (.c (.int .i64 0))⟩])
 .ret)))))))⟩
/-- furlong/geom.PointMay -/
def v26 : VFun := ⟨1, [(.tmp 2)], (.seq (.ops [⟨(some 1), none, .box 47 (.t 0)⟩, ⟨(some 2), none, .mov (.c (.bool false))⟩])
 (.seq (.ops [⟨(some 3), none, .faddr 0 (.t 1)⟩, ⟨(some 4), none, .load false 1 (.t 3)⟩, ⟨(some 5), none, .call 36 [(.t 4)]⟩, ⟨(some 6), none, .mov (.t 5)⟩, ⟨(some 7), (some (6, true)), .faddr 1 (.t 1)⟩, ⟨(some 8), (some (6, true)), .load false 1 (.t 7)⟩, ⟨(some 9), (some (6, true)), .call 36 [(.t 8)]⟩, ⟨(some 10), none, .pick (.t 6) (.t 9) (.c (.bool false))⟩, ⟨(some 2), none, .mov (.t 10)⟩])
 .ret))⟩
/-- furlong/query.Nearest -/
def v27 : VFun := ⟨3, [(.tmp 6)], (.seq (.ops [⟨(some 4), none, .box 47 (.t 1)⟩, ⟨(some 6), none, .mov (.c .nils)⟩])
 (.seq (.ops [⟨(some 7), none, .mov (.t 0)⟩, ⟨(some 8), none, .load true 2 (.t 4)⟩, ⟨(some 9), none, .mov (.t 2)⟩, ⟨(some 10), none, .call 45 [(.t 7), (.t 8), (.t 9), (.c (.fn 46 []))]⟩, ⟨(some 6), none, .mov (.t 10)⟩])
 .ret))⟩
/-- furlong/shape.May -/
def v28 : VFun := ⟨1, [(.tmp 2)], (.seq (.ops [⟨(some 1), none, .box 31 (.t 0)⟩, ⟨(some 2), none, .mov (.c (.bool false))⟩])
 (.seq (.seq (.ops [⟨(some 3), none, .faddr 0 (.t 1)⟩, ⟨(some 4), none, .load false 1 (.t 3)⟩, ⟨(some 5), none, .bin .lss (.t 4) (.c (.int .i64 1))⟩, ⟨(some 6), none, .mov (.t 5)⟩, ⟨(some 7), (some (6, false)), .faddr 0 (.t 1)⟩, ⟨(some 8), (some (6, false)), .load false 1 (.t 7)⟩, ⟨(some 9), (some (6, false)), .bin .gtr (.t 8) (.c (.int .i64 65535))⟩, ⟨(some 10), none, .pick (.t 6) (.c (.bool true)) (.t 9)⟩, ⟨(some 11), none, .mov (.t 10)⟩, ⟨(some 12), (some (11, false)), .faddr 2 (.t 1)⟩, ⟨(some 13), (some (11, false)), .load false 1 (.t 12)⟩, ⟨(some 14), (some (11, false)), .bi (.len 1) [(.t 13)]⟩, ⟨(some 15), (some (11, false)), .bin .lss (.t 14) (.c (.int .i64 1))⟩, ⟨(some 16), none, .pick (.t 11) (.c (.bool true)) (.t 15)⟩, ⟨(some 17), none, .mov (.t 16)⟩, ⟨(some 18), (some (17, false)), .faddr 2 (.t 1)⟩, ⟨(some 19), (some (17, false)), .load false 1 (.t 18)⟩, ⟨(some 20), (some (17, false)), .bi (.len 1) [(.t 19)]⟩, ⟨(some 21), (some (17, false)), .bin .gtr (.t 20) (.c (.int .i64 4))⟩, ⟨(some 22), none, .pick (.t 17) (.c (.bool true)) (.t 21)⟩])
 (.cond (.t 22) (.seq (.ops [⟨(some 2), none, .mov (.c (.bool false))⟩])
 .ret) .skip))
 (.seq (.seq (.ops [⟨(some 23), none, .faddr 1 (.t 1)⟩, ⟨(some 24), none, .load false 1 (.t 23)⟩])
 (.block 0 (.seq (.ops [⟨(some 26), none, .bin .eql (.t 24) (.c (.int .i64 0))⟩, ⟨(some 25), none, .mov (.t 26)⟩])
 (.cond (.t 25) (.seq (.ops [⟨(some 27), none, .faddr 2 (.t 1)⟩, ⟨(some 28), none, .load false 1 (.t 27)⟩, ⟨(some 29), none, .bi (.len 1) [(.t 28)]⟩, ⟨(some 30), none, .bin .eql (.t 29) (.c (.int .i64 1))⟩, ⟨(some 31), none, .mov (.t 30)⟩, ⟨(some 32), (some (31, true)), .faddr 2 (.t 1)⟩, ⟨(some 33), (some (31, true)), .load false 1 (.t 32)⟩, ⟨(some 34), (some (31, true)), .iaddr 1 none (.t 33) (.c (.int .i64 0))⟩, ⟨(some 35), (some (31, true)), .load false 1 (.t 34)⟩, ⟨(some 36), (some (31, true)), .bi (.len 1) [(.t 35)]⟩, ⟨(some 37), (some (31, true)), .bin .eql (.t 36) (.c (.int .i64 1))⟩, ⟨(some 38), none, .pick (.t 31) (.t 37) (.c (.bool false))⟩, ⟨(some 39), none, .mov (.t 38)⟩, ⟨(some 40), (some (39, true)), .faddr 2 (.t 1)⟩, ⟨(some 41), (some (39, true)), .load false 1 (.t 40)⟩, ⟨(some 42), (some (39, true)), .iaddr 1 none (.t 41) (.c (.int .i64 0))⟩, ⟨(some 43), (some (39, true)), .load false 1 (.t 42)⟩, ⟨(some 44), (some (39, true)), .iaddr 2 none (.t 43) (.c (.int .i64 0))⟩, ⟨(some 45), (some (39, true)), .load true 2 (.t 44)⟩, ⟨(some 46), (some (39, true)), .call 26 [(.t 45)]⟩, ⟨(some 47), none, .pick (.t 39) (.t 46) (.c (.bool false))⟩, ⟨(some 2), none, .mov (.t 47)⟩])
 .ret) (.seq (.ops [⟨(some 49), none, .bin .eql (.t 24) (.c (.int .i64 1))⟩, ⟨(some 48), none, .mov (.t 49)⟩])
 (.cond (.t 48) (.seq (.ops [⟨(some 50), none, .faddr 2 (.t 1)⟩, ⟨(some 51), none, .load false 1 (.t 50)⟩, ⟨(some 52), none, .bi (.len 1) [(.t 51)]⟩, ⟨(some 53), none, .bin .eql (.t 52) (.c (.int .i64 1))⟩, ⟨(some 54), none, .mov (.t 53)⟩, ⟨(some 55), (some (54, true)), .faddr 2 (.t 1)⟩, ⟨(some 56), (some (54, true)), .load false 1 (.t 55)⟩, ⟨(some 57), (some (54, true)), .iaddr 1 none (.t 56) (.c (.int .i64 0))⟩, ⟨(some 58), (some (54, true)), .load false 1 (.t 57)⟩, ⟨(some 59), (some (54, true)), .call 48 [(.t 58), (.c (.int .i64 2)), (.c (.bool false))]⟩, ⟨(some 60), none, .pick (.t 54) (.t 59) (.c (.bool false))⟩, ⟨(some 2), none, .mov (.t 60)⟩])
 .ret) (.seq (.ops [⟨(some 62), none, .bin .eql (.t 24) (.c (.int .i64 2))⟩, ⟨(some 61), none, .mov (.t 62)⟩])
 (.cond (.t 61) (.seq (.ops [⟨(some 63), none, .faddr 2 (.t 1)⟩, ⟨(some 64), none, .load false 1 (.t 63)⟩, ⟨(some 65), none, .call 49 [(.t 64), (.c (.fn 50 []))]⟩, ⟨(some 66), none, .un .not (.t 65)⟩, ⟨(some 2), none, .mov (.t 66)⟩])
 .ret) .skip))))))))
 (.seq (.ops [⟨(some 2), none, .mov (.c (.bool false))⟩])
 .ret))))⟩
/-- furlong/rec.opMay -/
def v29 : VFun := ⟨2, [(.tmp 4)], (.seq (.ops [⟨(some 4), none, .mov (.c (.bool false))⟩])
 (.seq (.seq (.ops [⟨(some 5), none, .mov (.t 0)⟩, ⟨(some 6), none, .nilck (.t 5)⟩, ⟨(some 7), none, .faddr 0 (.t 6)⟩, ⟨(some 8), none, .load false 1 (.t 7)⟩])
 (.block 0 (.seq (.ops [⟨(some 10), none, .bin .eql (.t 8) (.c (.int .i64 0))⟩, ⟨(some 9), none, .mov (.t 10)⟩])
 (.cond (.t 9) (.seq (.ops [⟨(some 11), none, .mov (.t 0)⟩, ⟨(some 12), none, .nilck (.t 11)⟩, ⟨(some 13), none, .faddr 1 (.t 12)⟩, ⟨(some 14), none, .load true 3 (.t 13)⟩, ⟨(some 15), none, .call 28 [(.t 14)]⟩, ⟨(some 16), none, .mov (.t 15)⟩, ⟨(some 17), (some (16, true)), .mov (.t 0)⟩, ⟨(some 18), (some (16, true)), .nilck (.t 17)⟩, ⟨(some 19), (some (16, true)), .faddr 4 (.t 18)⟩, ⟨(some 20), (some (16, true)), .load false 1 (.t 19)⟩, ⟨(some 21), (some (16, true)), .bin .eql (.t 20) (.c (.int .i64 0))⟩, ⟨(some 22), none, .pick (.t 16) (.t 21) (.c (.bool false))⟩, ⟨(some 23), none, .mov (.t 22)⟩, ⟨(some 24), (some (23, true)), .mov (.t 0)⟩, ⟨(some 25), (some (23, true)), .nilck (.t 24)⟩, ⟨(some 26), (some (23, true)), .faddr 5 (.t 25)⟩, ⟨(some 27), (some (23, true)), .call 51 [(.t 26)]⟩, ⟨(some 28), none, .pick (.t 23) (.t 27) (.c (.bool false))⟩, ⟨(some 4), none, .mov (.t 28)⟩])
 .ret) (.seq (.ops [⟨(some 30), none, .bin .eql (.t 8) (.c (.int .i64 1))⟩, ⟨(some 29), none, .mov (.t 30)⟩])
 (.cond (.t 29) (.seq (.ops [⟨(some 31), none, .mov (.t 0)⟩, ⟨(some 32), none, .nilck (.t 31)⟩, ⟨(some 33), none, .faddr 4 (.t 32)⟩, ⟨(some 34), none, .load false 1 (.t 33)⟩, ⟨(some 35), none, .bin .geq (.t 34) (.c (.int .i64 1))⟩, ⟨(some 36), none, .mov (.t 35)⟩, ⟨(some 37), (some (36, true)), .mov (.t 0)⟩, ⟨(some 38), (some (36, true)), .nilck (.t 37)⟩, ⟨(some 39), (some (36, true)), .faddr 4 (.t 38)⟩, ⟨(some 40), (some (36, true)), .load false 1 (.t 39)⟩, ⟨(some 41), (some (36, true)), .bin .leq (.t 40) (.c (.int .i64 65535))⟩, ⟨(some 42), none, .pick (.t 36) (.t 41) (.c (.bool false))⟩, ⟨(some 43), none, .mov (.t 42)⟩, ⟨(some 44), (some (43, true)), .mov (.t 0)⟩, ⟨(some 45), (some (43, true)), .nilck (.t 44)⟩, ⟨(some 46), (some (43, true)), .faddr 1 (.t 45)⟩, ⟨(some 47), (some (43, true)), .call 52 [(.t 46)]⟩, ⟨(some 48), none, .pick (.t 43) (.t 47) (.c (.bool false))⟩, ⟨(some 49), none, .mov (.t 48)⟩, ⟨(some 50), (some (49, true)), .mov (.t 0)⟩, ⟨(some 51), (some (49, true)), .nilck (.t 50)⟩, ⟨(some 52), (some (49, true)), .faddr 5 (.t 51)⟩, ⟨(some 53), (some (49, true)), .call 51 [(.t 52)]⟩, ⟨(some 54), none, .pick (.t 49) (.t 53) (.c (.bool false))⟩, ⟨(some 4), none, .mov (.t 54)⟩])
 .ret) (.seq (.ops [⟨(some 56), none, .bin .eql (.t 8) (.c (.int .i64 2))⟩, ⟨(some 55), none, .mov (.t 56)⟩])
 (.cond (.t 55) (.seq (.ops [⟨(some 57), none, .mov (.t 0)⟩, ⟨(some 58), none, .nilck (.t 57)⟩, ⟨(some 59), none, .faddr 5 (.t 58)⟩, ⟨(some 60), none, .load true 3 (.t 59)⟩, ⟨(some 61), none, .mov (.t 1)⟩, ⟨(some 62), none, .call 53 [(.t 60), (.t 61)]⟩, ⟨(some 63), none, .mov (.t 62)⟩, ⟨(some 64), (some (63, true)), .mov (.t 0)⟩, ⟨(some 65), (some (63, true)), .nilck (.t 64)⟩, ⟨(some 66), (some (63, true)), .faddr 4 (.t 65)⟩, ⟨(some 67), (some (63, true)), .load false 1 (.t 66)⟩, ⟨(some 68), (some (63, true)), .bin .eql (.t 67) (.c (.int .i64 0))⟩, ⟨(some 69), none, .pick (.t 63) (.t 68) (.c (.bool false))⟩, ⟨(some 70), none, .mov (.t 69)⟩, ⟨(some 71), (some (70, true)), .mov (.t 0)⟩, ⟨(some 72), (some (70, true)), .nilck (.t 71)⟩, ⟨(some 73), (some (70, true)), .faddr 1 (.t 72)⟩, ⟨(some 74), (some (70, true)), .call 52 [(.t 73)]⟩, ⟨(some 75), none, .pick (.t 70) (.t 74) (.c (.bool false))⟩, ⟨(some 4), none, .mov (.t 75)⟩])
 .ret) .skip))))))))
 (.seq (.ops [⟨(some 4), none, .mov (.c (.bool false))⟩])
 .ret)))⟩
def b30_0 : VCode := (.seq (.seq (.ops [⟨(some 15), none, .mov (.t 9)⟩, ⟨(some 16), none, .mov (.t 10)⟩, ⟨(some 17), none, .bin .lss (.t 15) (.t 16)⟩])
 (.cond (.t 17) .skip (.exit 0)))
 (.block 1 (.seq (.ops [⟨(some 18), none, .mov (.t 9)⟩, ⟨(some 19), none, .mov (.t 10)⟩, ⟨(some 20), none, .bin .add (.t 18) (.t 19)⟩, ⟨(some 21), none, .conv (.int .u64) (.t 20)⟩, ⟨(some 22), none, .bin .shr (.t 21) (.c (.int .u64 1))⟩, ⟨(some 23), none, .conv (.int .i64) (.t 22)⟩, ⟨(some 11), none, .mov (.t 23)⟩])
 (.seq (.ops [⟨(some 24), none, .mov (.t 2)⟩, ⟨(some 25), none, .mov (.t 0)⟩, ⟨(some 26), none, .mov (.t 11)⟩, ⟨(some 27), none, .iaddr 3 none (.t 25) (.t 26)⟩, ⟨(some 28), none, .load true 3 (.t 27)⟩, ⟨(some 29), none, .mov (.t 1)⟩, ⟨(some 30), none, .callv (.t 24) [(.t 28), (.t 29)]⟩, ⟨(some 31), none, .bin .lss (.t 30) (.c (.int .i64 0))⟩])
 (.cond (.t 31) (.ops [⟨(some 32), none, .mov (.t 11)⟩, ⟨(some 33), none, .bin .add (.t 32) (.c (.int .i64 1))⟩, ⟨(some 9), none, .mov (.t 33)⟩]) (.ops [⟨(some 34), none, .mov (.t 11)⟩, ⟨(some 10), none, .mov (.t 34)⟩]))))))
/-- slices.BinarySearchFunc[[]furlong/api.Feature,furlong/api.Feature,int] -/
def v30 : VFun := ⟨3, [(.tmp 6), (.tmp 7)], (.seq (.ops [⟨(some 6), none, .mov (.c (.int .i64 0))⟩, ⟨(some 7), none, .mov (.c (.bool false))⟩])
 (.seq (.ops [⟨(some 12), none, .mov (.t 0)⟩, ⟨(some 13), none, .bi (.len 1) [(.t 12)]⟩, ⟨(some 8), none, .mov (.t 13)⟩])
 (.seq (.ops [⟨(some 14), none, .mov (.t 8)⟩, ⟨(some 9), none, .mov (.c (.int .i64 0))⟩, ⟨(some 10), none, .mov (.t 14)⟩])
 (.seq (.block 0 (.loop b30_0))
 (.seq (.ops [⟨(some 35), none, .mov (.t 9)⟩, ⟨(some 36), none, .mov (.t 9)⟩, ⟨(some 37), none, .mov (.t 8)⟩, ⟨(some 38), none, .bin .lss (.t 36) (.t 37)⟩, ⟨(some 39), none, .mov (.t 38)⟩, ⟨(some 40), (some (39, true)), .mov (.t 2)⟩, ⟨(some 41), (some (39, true)), .mov (.t 0)⟩, ⟨(some 42), (some (39, true)), .mov (.t 9)⟩, ⟨(some 43), (some (39, true)), .iaddr 3 none (.t 41) (.t 42)⟩, ⟨(some 44), (some (39, true)), .load true 3 (.t 43)⟩, ⟨(some 45), (some (39, true)), .mov (.t 1)⟩, ⟨(some 46), (some (39, true)), .callv (.t 40) [(.t 44), (.t 45)]⟩, ⟨(some 47), (some (39, true)), .bin .eql (.t 46) (.c (.int .i64 0))⟩, ⟨(some 48), none, .pick (.t 39) (.t 47) (.c (.bool false))⟩, ⟨(some 6), none, .mov (.t 35)⟩, ⟨(some 7), none, .mov (.t 48)⟩])
 .ret)))))⟩
/-- furlong/model.place$1 -/
def v31 : VFun := ⟨2, [(.tmp 4)], (.seq (.ops [⟨(some 2), none, .box 31 (.t 0)⟩, ⟨(some 4), none, .mov (.c (.int .i64 0))⟩])
 (.seq (.ops [⟨(some 5), none, .faddr 0 (.t 2)⟩, ⟨(some 6), none, .load false 1 (.t 5)⟩, ⟨(some 7), none, .mov (.t 1)⟩, ⟨(some 8), none, .call 32 [(.t 6), (.t 7)]⟩, ⟨(some 4), none, .mov (.t 8)⟩])
 .ret))⟩
/-- cmp.Compare[int] -/
def v32 : VFun := ⟨2, [(.tmp 4)], (.seq (.ops [⟨(some 4), none, .mov (.c (.int .i64 0))⟩])
 (.seq (.ops [⟨(some 7), none, .mov (.t 0)⟩, ⟨(some 8), none, .call 54 [(.t 7)]⟩, ⟨(some 5), none, .mov (.t 8)⟩])
 (.seq (.ops [⟨(some 9), none, .mov (.t 1)⟩, ⟨(some 10), none, .call 54 [(.t 9)]⟩, ⟨(some 6), none, .mov (.t 10)⟩])
 (.seq (.seq (.ops [⟨(some 11), none, .mov (.t 5)⟩])
 (.cond (.t 11) (.seq (.seq (.ops [⟨(some 12), none, .mov (.t 6)⟩])
 (.cond (.t 12) (.seq (.ops [⟨(some 4), none, .mov (.c (.int .i64 0))⟩])
 .ret) .skip))
 (.seq (.ops [⟨(some 4), none, .mov (.c (.int .i64 (-1)))⟩])
 .ret)) .skip))
 (.seq (.seq (.ops [⟨(some 13), none, .mov (.t 6)⟩])
 (.cond (.t 13) (.seq (.ops [⟨(some 4), none, .mov (.c (.int .i64 1))⟩])
 .ret) .skip))
 (.seq (.seq (.ops [⟨(some 14), none, .mov (.t 0)⟩, ⟨(some 15), none, .mov (.t 1)⟩, ⟨(some 16), none, .bin .lss (.t 14) (.t 15)⟩])
 (.cond (.t 16) (.seq (.ops [⟨(some 4), none, .mov (.c (.int .i64 (-1)))⟩])
 .ret) .skip))
 (.seq (.seq (.ops [⟨(some 17), none, .mov (.t 0)⟩, ⟨(some 18), none, .mov (.t 1)⟩, ⟨(some 19), none, .bin .gtr (.t 17) (.t 18)⟩])
 (.cond (.t 19) (.seq (.ops [⟨(some 4), none, .mov (.c (.int .i64 1))⟩])
 .ret) .skip))
 (.seq (.ops [⟨(some 4), none, .mov (.c (.int .i64 0))⟩])
 .ret))))))))⟩
/-- slices.Clone[[]furlong/api.Point,furlong/api.Point] -/
def v35 : VFun := ⟨1, [(.tmp 2)], (.seq (.ops [⟨(some 2), none, .mov (.c .nils)⟩])
 (.seq (.seq (.ops [⟨(some 3), none, .mov (.t 0)⟩, ⟨(some 4), none, .eqs .sl false (.t 3) (.c .nils)⟩])
 (.cond (.t 4) (.seq (.ops [⟨(some 2), none, .mov (.c .nils)⟩])
 .ret) .skip))
 (.seq (.ops [⟨(some 5), none, .bslice [(.int .i64 0), (.int .i64 0)] 47 0 []⟩, ⟨(some 6), none, .mov (.t 0)⟩, ⟨(some 7), none, .bi (.append 2 16 47) [(.t 5), (.t 6)]⟩, ⟨(some 2), none, .mov (.t 7)⟩])
 .ret)))⟩
/-- furlong/geom.coord -/
def v36 : VFun := ⟨1, [(.tmp 2)], (.seq (.ops [⟨(some 2), none, .mov (.c (.bool false))⟩])
 (.seq (.ops [⟨(some 3), none, .mov (.t 0)⟩, ⟨(some 4), none, .bin .geq (.t 3) (.c (.int .i64 0))⟩, ⟨(some 5), none, .mov (.t 4)⟩, ⟨(some 6), (some (5, true)), .mov (.t 0)⟩, ⟨(some 7), (some (5, true)), .bin .leq (.t 6) (.c (.int .i64 4294967295))⟩, ⟨(some 8), none, .pick (.t 5) (.t 7) (.c (.bool false))⟩, ⟨(some 2), none, .mov (.t 8)⟩])
 .ret))⟩
/-- furlong/shape.points -/
def v37 : VFun := ⟨1, [(.tmp 2)], (.seq (.ops [⟨(some 1), none, .box 79 (.t 0)⟩, ⟨(some 2), none, .mov (.c .nilf)⟩])
 (.seq (.ops [⟨(some 3), none, .mkfn 56 [(.t 1)]⟩, ⟨(some 2), none, .mov (.t 3)⟩])
 .ret))⟩
/-- furlong/geom.Within -/
def v38 : VFun := ⟨2, [(.tmp 4)], (.seq (.ops [⟨(some 2), none, .box 47 (.t 0)⟩, ⟨(some 3), none, .box 45 (.t 1)⟩, ⟨(some 4), none, .mov (.c (.bool false))⟩])
 (.seq (.ops [⟨(some 5), none, .load true 2 (.t 2)⟩, ⟨(some 6), none, .call 26 [(.t 5)]⟩, ⟨(some 7), none, .mov (.t 6)⟩, ⟨(some 8), (some (7, true)), .load true 4 (.t 3)⟩, ⟨(some 9), (some (7, true)), .call 24 [(.t 8)]⟩, ⟨(some 10), none, .pick (.t 7) (.t 9) (.c (.bool false))⟩, ⟨(some 11), none, .mov (.t 10)⟩, ⟨(some 12), (some (11, true)), .faddr 0 (.t 2)⟩, ⟨(some 13), (some (11, true)), .load false 1 (.t 12)⟩, ⟨(some 14), (some (11, true)), .faddr 0 (.t 3)⟩, ⟨(some 15), (some (11, true)), .load false 1 (.t 14)⟩, ⟨(some 16), (some (11, true)), .bin .geq (.t 13) (.t 15)⟩, ⟨(some 17), none, .pick (.t 11) (.t 16) (.c (.bool false))⟩, ⟨(some 18), none, .mov (.t 17)⟩, ⟨(some 19), (some (18, true)), .faddr 0 (.t 2)⟩, ⟨(some 20), (some (18, true)), .load false 1 (.t 19)⟩, ⟨(some 21), (some (18, true)), .faddr 2 (.t 3)⟩, ⟨(some 22), (some (18, true)), .load false 1 (.t 21)⟩, ⟨(some 23), (some (18, true)), .bin .leq (.t 20) (.t 22)⟩, ⟨(some 24), none, .pick (.t 18) (.t 23) (.c (.bool false))⟩, ⟨(some 25), none, .mov (.t 24)⟩, ⟨(some 26), (some (25, true)), .faddr 1 (.t 2)⟩, ⟨(some 27), (some (25, true)), .load false 1 (.t 26)⟩, ⟨(some 28), (some (25, true)), .faddr 1 (.t 3)⟩, ⟨(some 29), (some (25, true)), .load false 1 (.t 28)⟩, ⟨(some 30), (some (25, true)), .bin .geq (.t 27) (.t 29)⟩, ⟨(some 31), none, .pick (.t 25) (.t 30) (.c (.bool false))⟩, ⟨(some 32), none, .mov (.t 31)⟩, ⟨(some 33), (some (32, true)), .faddr 1 (.t 2)⟩, ⟨(some 34), (some (32, true)), .load false 1 (.t 33)⟩, ⟨(some 35), (some (32, true)), .faddr 3 (.t 3)⟩, ⟨(some 36), (some (32, true)), .load false 1 (.t 35)⟩, ⟨(some 37), (some (32, true)), .bin .leq (.t 34) (.t 36)⟩, ⟨(some 38), none, .pick (.t 32) (.t 37) (.c (.bool false))⟩, ⟨(some 4), none, .mov (.t 38)⟩])
 .ret))⟩
/-- furlong/shape.corners -/
def v39 : VFun := ⟨1, [(.cell 2 true 8)], (.seq (.ops [⟨(some 1), none, .box 45 (.t 0)⟩, ⟨(some 2), none, .alloc [(.int .i64 0), (.int .i64 0), (.int .i64 0), (.int .i64 0), (.int .i64 0), (.int .i64 0), (.int .i64 0), (.int .i64 0)] 81⟩])
 (.seq (.ops [⟨(some 3), none, .faddr 0 (.t 1)⟩, ⟨(some 4), none, .load false 1 (.t 3)⟩, ⟨(some 5), none, .faddr 1 (.t 1)⟩, ⟨(some 6), none, .load false 1 (.t 5)⟩, ⟨(some 7), none, .build [(.int .i64 0), (.int .i64 0)] [(0, 1, (.t 4)), (1, 1, (.t 6))]⟩, ⟨(some 8), none, .faddr 2 (.t 1)⟩, ⟨(some 9), none, .load false 1 (.t 8)⟩, ⟨(some 10), none, .faddr 1 (.t 1)⟩, ⟨(some 11), none, .load false 1 (.t 10)⟩, ⟨(some 12), none, .build [(.int .i64 0), (.int .i64 0)] [(0, 1, (.t 9)), (1, 1, (.t 11))]⟩, ⟨(some 13), none, .faddr 2 (.t 1)⟩, ⟨(some 14), none, .load false 1 (.t 13)⟩, ⟨(some 15), none, .faddr 3 (.t 1)⟩, ⟨(some 16), none, .load false 1 (.t 15)⟩, ⟨(some 17), none, .build [(.int .i64 0), (.int .i64 0)] [(0, 1, (.t 14)), (1, 1, (.t 16))]⟩, ⟨(some 18), none, .faddr 0 (.t 1)⟩, ⟨(some 19), none, .load false 1 (.t 18)⟩, ⟨(some 20), none, .faddr 3 (.t 1)⟩, ⟨(some 21), none, .load false 1 (.t 20)⟩, ⟨(some 22), none, .build [(.int .i64 0), (.int .i64 0)] [(0, 1, (.t 19)), (1, 1, (.t 21))]⟩, ⟨(some 23), none, .build [(.int .i64 0), (.int .i64 0), (.int .i64 0), (.int .i64 0), (.int .i64 0), (.int .i64 0), (.int .i64 0), (.int .i64 0)] [(0, 2, (.t 7)), (2, 2, (.t 12)), (4, 2, (.t 17)), (6, 2, (.t 22))]⟩, ⟨none, none, .store 8 (.t 2) (.t 23)⟩])
 .ret))⟩
/-- furlong/shape.stretches -/
def v40 : VFun := ⟨1, [(.tmp 2)], (.seq (.ops [⟨(some 1), none, .box 79 (.t 0)⟩, ⟨(some 2), none, .mov (.c .nilf)⟩])
 (.seq (.ops [⟨(some 3), none, .mkfn 57 [(.t 1)]⟩, ⟨(some 2), none, .mov (.t 3)⟩])
 .ret))⟩
def b41_0 : VCode := (.seq (.ops [⟨(some 13), none, .bin .lss (.t 12) (.c (.int .i64 4))⟩])
 (.seq (.cond (.t 13) .skip (.exit 0))
 (.seq (.block 1 (.seq (.ops [⟨(some 14), none, .mov (.t 12)⟩, ⟨(some 15), none, .index true 2 4 (.t 11) (.t 12)⟩, ⟨(some 8), none, .alloc [(.int .i64 0), (.int .i64 0)] 47⟩, ⟨(some 7), none, .mov (.t 14)⟩, ⟨none, none, .store 2 (.t 8) (.t 15)⟩])
 (.seq (.drawn [⟨(some 17), none, .load true 2 (.t 3)⟩, ⟨(some 18), none, .load true 2 (.t 4)⟩, ⟨(some 19), none, .load true 2 (.t 8)⟩, ⟨(some 20), none, .mov (.t 7)⟩, ⟨(some 21), none, .bin .add (.t 20) (.c (.int .i64 1))⟩, ⟨(some 22), none, .bin .rem (.t 21) (.c (.int .i64 4))⟩, ⟨(some 23), none, .iaddr 2 (some 4) (.t 5) (.t 22)⟩, ⟨(some 24), none, .load true 2 (.t 23)⟩, ⟨(some 25), none, .call 58 [(.t 17), (.t 18), (.t 19), (.t 24)]⟩, ⟨(some 16), none, .mov (.t 25)⟩, ⟨(some 26), none, .extract (.t 16) 0⟩, ⟨(some 27), none, .extract (.t 16) 1⟩, ⟨(some 9), none, .mov (.t 26)⟩, ⟨(some 10), none, .mov (.t 27)⟩] [])
 (.seq (.ops [⟨(some 28), none, .mov (.t 9)⟩])
 (.cond (.t 28) (.seq (.ops [⟨(some 6), none, .mov (.c (.bool true))⟩])
 .ret) .skip)))))
 (.ops [⟨(some 29), none, .bin .add (.t 12) (.c (.int .i64 1))⟩, ⟨(some 12), none, .mov (.t 29)⟩]))))
/-- furlong/shape.sides -/
def v41 : VFun := ⟨3, [(.tmp 6)], (.seq (.ops [⟨(some 3), none, .box 47 (.t 0)⟩, ⟨(some 4), none, .box 47 (.t 1)⟩, ⟨(some 5), none, .box 81 (.t 2)⟩, ⟨(some 6), none, .mov (.c (.bool false))⟩])
 (.seq (.seq (.ops [⟨(some 11), none, .load true 8 (.t 5)⟩, ⟨(some 12), none, .mov (.c (.int .i64 0))⟩])
 (.block 0 (.loop b41_0)))
 (.seq (.ops [⟨(some 6), none, .mov (.c (.bool false))⟩])
 .ret)))⟩
/-- furlong/shape.Meets$1 -/
def v42 : VFun := ⟨2, [(.tmp 3)], (.seq (.ops [⟨(some 2), none, .box 47 (.t 0)⟩, ⟨(some 3), none, .mov (.c (.bool false))⟩])
 (.seq (.ops [⟨(some 4), none, .load true 2 (.t 2)⟩, ⟨(some 5), none, .call 43 [(.t 1), (.t 4)]⟩, ⟨(some 3), none, .mov (.t 5)⟩])
 .ret))⟩
def b43_0 : VCode := (.seq (.ops [⟨(some 6), none, .alloc [(.int .i64 0), (.int .i64 0)] 47⟩, ⟨none, none, .store 2 (.t 6) (.t 25)⟩])
 (.ops [⟨(some 7), none, .alloc [(.int .i64 0), (.int .i64 0)] 47⟩, ⟨none, none, .store 2 (.t 7) (.t 26)⟩]))
def b43_1 : VCode := (.block 1 (.seq (.seq (.ops [⟨(some 27), none, .load true 2 (.t 3)⟩, ⟨(some 28), none, .load true 2 (.t 6)⟩, ⟨(some 29), none, .load true 2 (.t 7)⟩, ⟨(some 30), none, .call 59 [(.t 27), (.t 28), (.t 29)]⟩])
 (.cond (.t 30) (.seq (.ops [⟨none, none, .store 1 (.t 4) (.c (.bool true))⟩])
 .ret) .skip))
 (.seq (.ops [⟨(some 31), none, .load true 2 (.t 3)⟩, ⟨(some 32), none, .load true 2 (.t 6)⟩, ⟨(some 33), none, .load true 2 (.t 7)⟩, ⟨(some 34), none, .call 60 [(.t 31), (.t 32), (.t 33)]⟩])
 (.cond (.t 34) (.ops [⟨(some 35), none, .load false 1 (.t 5)⟩, ⟨(some 36), none, .un .not (.t 35)⟩, ⟨none, none, .store 1 (.t 5) (.t 36)⟩]) .skip))))
/-- furlong/shape.has -/
def v43 : VFun := ⟨2, [(.cell 4 false 1)], (.seq (.ops [⟨(some 3), none, .box 47 (.t 1)⟩, ⟨(some 4), none, .alloc [(.bool false)] 4⟩])
 (.seq (.seq (.ops [⟨(some 8), none, .mov (.t 0)⟩, ⟨(some 9), none, .nilck (.t 8)⟩, ⟨(some 10), none, .faddr 1 (.t 9)⟩, ⟨(some 11), none, .load false 1 (.t 10)⟩, ⟨(some 12), none, .bin .eql (.t 11) (.c (.int .i64 0))⟩])
 (.cond (.t 12) (.seq (.drawn [⟨(some 13), none, .mov (.t 0)⟩, ⟨(some 14), none, .nilck (.t 13)⟩, ⟨(some 15), none, .faddr 2 (.t 14)⟩, ⟨(some 16), none, .load false 1 (.t 15)⟩, ⟨(some 17), none, .iaddr 1 none (.t 16) (.c (.int .i64 0))⟩, ⟨(some 18), none, .load false 1 (.t 17)⟩, ⟨(some 19), none, .iaddr 2 none (.t 18) (.c (.int .i64 0))⟩, ⟨(some 20), none, .load true 2 (.t 19)⟩, ⟨(some 21), none, .load true 2 (.t 3)⟩, ⟨(some 22), none, .eqs (.flat [.int, .int]) false (.t 20) (.t 21)⟩, ⟨none, none, .store 1 (.t 4) (.t 22)⟩] [])
 .ret) .skip))
 (.seq (.ops [⟨(some 5), none, .alloc [(.bool false)] 4⟩, ⟨none, none, .store 1 (.t 5) (.c (.bool false))⟩])
 (.seq (.seq (.ops [⟨(some 23), none, .mov (.t 0)⟩, ⟨(some 24), none, .call 40 [(.t 23)]⟩])
 (.block 0 (.rangeFn (.t 24) [25, 26] b43_0 b43_1)))
 (.seq (.ops [⟨(some 37), none, .load false 1 (.t 5)⟩, ⟨(some 38), none, .mov (.t 37)⟩, ⟨(some 39), (some (38, true)), .mov (.t 0)⟩, ⟨(some 40), (some (38, true)), .nilck (.t 39)⟩, ⟨(some 41), (some (38, true)), .faddr 1 (.t 40)⟩, ⟨(some 42), (some (38, true)), .load false 1 (.t 41)⟩, ⟨(some 43), (some (38, true)), .bin .eql (.t 42) (.c (.int .i64 2))⟩, ⟨(some 44), none, .pick (.t 38) (.t 43) (.c (.bool false))⟩, ⟨none, none, .store 1 (.t 4) (.t 44)⟩])
 .ret)))))⟩
/-- slices.ContainsFunc[[]furlong/api.Point,furlong/api.Point] -/
def v44 : VFun := ⟨2, [(.tmp 4)], (.seq (.ops [⟨(some 4), none, .mov (.c (.bool false))⟩])
 (.seq (.ops [⟨(some 5), none, .mov (.t 0)⟩, ⟨(some 6), none, .mov (.t 1)⟩, ⟨(some 7), none, .call 61 [(.t 5), (.t 6)]⟩, ⟨(some 8), none, .bin .geq (.t 7) (.c (.int .i64 0))⟩, ⟨(some 4), none, .mov (.t 8)⟩])
 .ret))⟩
def b45_0 : VCode := (.seq (.ops [⟨(some 21), none, .bin .lss (.t 20) (.t 19)⟩])
 (.seq (.cond (.t 21) .skip (.exit 0))
 (.seq (.block 1 (.seq (.ops [⟨(some 22), none, .iaddr 3 none (.t 18) (.t 20)⟩, ⟨(some 23), none, .load true 3 (.t 22)⟩, ⟨(some 11), none, .alloc [(.int .i64 0), (.int .i64 0), .nils] 31⟩, ⟨none, none, .store 3 (.t 11) (.t 23)⟩])
 (.seq (.ops [⟨(some 24), none, .mov (.t 3)⟩, ⟨(some 25), none, .load true 3 (.t 11)⟩, ⟨(some 26), none, .callv (.t 24) [(.t 25)]⟩, ⟨(some 12), none, .alloc [(.int .i64 0), (.int .i64 0), (.int .i64 0), (.int .i64 0), (.int .i64 0)] 91⟩, ⟨none, none, .store 5 (.t 12) (.t 26)⟩])
 (.seq (.ops [⟨(some 28), none, .load true 2 (.t 5)⟩, ⟨(some 29), none, .faddr 1 (.t 12)⟩, ⟨(some 30), none, .load true 4 (.t 29)⟩, ⟨(some 31), none, .call 62 [(.t 28), (.t 30)]⟩, ⟨(some 27), none, .mov (.t 31)⟩, ⟨(some 32), none, .extract (.t 27) 0⟩, ⟨(some 33), none, .extract (.t 27) 1⟩, ⟨(some 13), none, .alloc [(.int .u64 0), (.int .u64 0)] 109⟩, ⟨none, none, .store 2 (.t 13) (.t 32)⟩, ⟨(some 14), none, .mov (.t 33)⟩])
 (.ops [⟨(some 34), none, .mov (.t 9)⟩, ⟨(some 35), none, .load true 3 (.t 11)⟩, ⟨(some 36), none, .load true 2 (.t 13)⟩, ⟨(some 37), none, .faddr 0 (.t 12)⟩, ⟨(some 38), none, .load false 1 (.t 37)⟩, ⟨(some 39), none, .build [(.int .i64 0), (.int .i64 0), .nils, (.int .u64 0), (.int .u64 0), (.int .i64 0)] [(0, 3, (.t 35)), (3, 2, (.t 36)), (5, 1, (.t 38))]⟩, ⟨(some 40), none, .bslice [(.int .i64 0), (.int .i64 0), .nils, (.int .u64 0), (.int .u64 0), (.int .i64 0)] 113 1 [(0, 6, (.t 39))]⟩, ⟨(some 41), none, .bi (.append 6 64 113) [(.t 34), (.t 40)]⟩, ⟨(some 9), none, .mov (.t 41)⟩])))))
 (.ops [⟨(some 42), none, .bin .add (.t 20) (.c (.int .i64 1))⟩, ⟨(some 20), none, .mov (.t 42)⟩]))))
def b45_1 : VCode := (.seq (.ops [⟨(some 53), none, .bin .lss (.t 52) (.t 51)⟩])
 (.seq (.cond (.t 53) .skip (.exit 2))
 (.seq (.block 3 (.seq (.ops [⟨(some 54), none, .iaddr 6 none (.t 50) (.t 52)⟩, ⟨(some 55), none, .load true 6 (.t 54)⟩, ⟨(some 17), none, .alloc [(.int .i64 0), (.int .i64 0), .nils, (.int .u64 0), (.int .u64 0), (.int .i64 0)] 113⟩, ⟨none, none, .store 6 (.t 17) (.t 55)⟩])
 (.ops [⟨(some 56), none, .mov (.t 15)⟩, ⟨(some 57), none, .faddr 0 (.t 17)⟩, ⟨(some 58), none, .load true 3 (.t 57)⟩, ⟨(some 59), none, .bslice [(.int .i64 0), (.int .i64 0), .nils] 31 1 [(0, 3, (.t 58))]⟩, ⟨(some 60), none, .bi (.append 3 40 31) [(.t 56), (.t 59)]⟩, ⟨(some 15), none, .mov (.t 60)⟩])))
 (.ops [⟨(some 61), none, .bin .add (.t 52) (.c (.int .i64 1))⟩, ⟨(some 52), none, .mov (.t 61)⟩]))))
/-- furlong/index.Nearest[furlong/api.Feature] -/
def v45 : VFun := ⟨4, [(.tmp 8)], (.seq (.ops [⟨(some 5), none, .box 47 (.t 1)⟩, ⟨(some 8), none, .mov (.c .nils)⟩])
 (.seq (.ops [⟨(some 9), none, .mov (.c .nils)⟩])
 (.seq (.seq (.ops [⟨(some 18), none, .mov (.t 0)⟩, ⟨(some 19), none, .bi (.len 1) [(.t 18)]⟩, ⟨(some 20), none, .mov (.c (.int .i64 0))⟩])
 (.block 0 (.loop b45_0)))
 (.seq (.ops [⟨(some 43), none, .mov (.t 9)⟩, ⟨(some 44), none, .call 63 [(.t 43), (.c (.fn 64 []))]⟩])
 (.seq (.ops [⟨(some 15), none, .mov (.c .nils)⟩])
 (.seq (.seq (.ops [⟨(some 45), none, .mov (.t 9)⟩, ⟨(some 46), none, .mov (.t 2)⟩, ⟨(some 47), none, .mov (.t 9)⟩, ⟨(some 48), none, .bi (.len 1) [(.t 47)]⟩, ⟨(some 49), none, .bi .min [(.t 46), (.t 48)]⟩, ⟨(some 50), none, .slice 6 (.t 45) none (some (.t 49)) none⟩, ⟨(some 51), none, .bi (.len 1) [(.t 50)]⟩, ⟨(some 52), none, .mov (.c (.int .i64 0))⟩])
 (.block 2 (.loop b45_1)))
 (.seq (.ops [⟨(some 62), none, .mov (.t 15)⟩, ⟨(some 8), none, .mov (.t 62)⟩])
 .ret)))))))⟩
/-- furlong/query.Nearest$1 -/
def v46 : VFun := ⟨1, [(.cell 2 true 5)], (.seq (.ops [⟨(some 1), none, .box 31 (.t 0)⟩, ⟨(some 2), none, .alloc [(.int .i64 0), (.int .i64 0), (.int .i64 0), (.int .i64 0), (.int .i64 0)] 91⟩])
 (.seq (.ops [⟨(some 6), none, .load true 3 (.t 1)⟩, ⟨(some 7), none, .call 47 [(.t 6)]⟩, ⟨(some 5), none, .mov (.t 7)⟩, ⟨(some 8), none, .extract (.t 5) 0⟩, ⟨(some 9), none, .extract (.t 5) 1⟩, ⟨(some 3), none, .alloc [(.int .i64 0), (.int .i64 0), (.int .i64 0), (.int .i64 0)] 45⟩, ⟨none, none, .store 4 (.t 3) (.t 8)⟩, ⟨(some 4), none, .mov (.t 9)⟩])
 (.seq (.ops [⟨(some 10), none, .faddr 0 (.t 1)⟩, ⟨(some 11), none, .load false 1 (.t 10)⟩, ⟨(some 12), none, .load true 4 (.t 3)⟩, ⟨(some 13), none, .build [(.int .i64 0), (.int .i64 0), (.int .i64 0), (.int .i64 0), (.int .i64 0)] [(0, 1, (.t 11)), (1, 4, (.t 12))]⟩, ⟨none, none, .store 5 (.t 2) (.t 13)⟩])
 .ret)))⟩
def b47_0 : VCode := (.ops [⟨(some 5), none, .alloc [(.int .i64 0), (.int .i64 0)] 47⟩, ⟨none, none, .store 2 (.t 5) (.t 24)⟩])
def b47_1 : VCode := (.block 1 (.drawn [⟨(some 26), none, .load true 4 (.t 4)⟩, ⟨(some 27), none, .load true 2 (.t 5)⟩, ⟨(some 28), none, .load true 2 (.t 5)⟩, ⟨(some 29), none, .call 67 [(.t 27), (.t 28)]⟩, ⟨(some 30), none, .call 68 [(.t 26), (.t 29)]⟩, ⟨(some 25), none, .mov (.t 30)⟩, ⟨(some 31), none, .extract (.t 25) 0⟩, ⟨(some 32), none, .extract (.t 25) 1⟩, ⟨none, none, .store 4 (.t 4) (.t 31)⟩] [(0, [4])]))
/-- furlong/shape.Box -/
def v47 : VFun := ⟨1, [(.cell 2 true 4), (.tmp 3)], (.seq (.ops [⟨(some 1), none, .box 31 (.t 0)⟩, ⟨(some 2), none, .alloc [(.int .i64 0), (.int .i64 0), (.int .i64 0), (.int .i64 0)] 45⟩, ⟨(some 3), none, .mov (.c (.int .i64 0))⟩])
 (.seq (.seq (.ops [⟨(some 6), none, .load true 3 (.t 1)⟩, ⟨(some 7), none, .call 28 [(.t 6)]⟩, ⟨(some 8), none, .un .not (.t 7)⟩])
 (.cond (.t 8) (.seq (.ops [⟨(some 9), none, .build [(.int .i64 0), (.int .i64 0), (.int .i64 0), (.int .i64 0)] []⟩, ⟨none, none, .store 4 (.t 2) (.t 9)⟩, ⟨(some 3), none, .mov (.c (.int .i64 400))⟩])
 .ret) .skip))
 (.seq (.mixed [⟨(some 10), none, .faddr 2 (.t 1)⟩, ⟨(some 11), none, .load false 1 (.t 10)⟩, ⟨(some 12), none, .iaddr 1 none (.t 11) (.c (.int .i64 0))⟩, ⟨(some 13), none, .load false 1 (.t 12)⟩, ⟨(some 14), none, .iaddr 2 none (.t 13) (.c (.int .i64 0))⟩, ⟨(some 15), none, .load true 2 (.t 14)⟩, ⟨(some 16), none, .faddr 2 (.t 1)⟩, ⟨(some 17), none, .load false 1 (.t 16)⟩, ⟨(some 18), none, .iaddr 1 none (.t 17) (.c (.int .i64 0))⟩, ⟨(some 19), none, .load false 1 (.t 18)⟩, ⟨(some 20), none, .iaddr 2 none (.t 19) (.c (.int .i64 0))⟩, ⟨(some 21), none, .load true 2 (.t 20)⟩, ⟨(some 22), none, .call 67 [(.t 15), (.t 21)]⟩, ⟨(some 4), none, .alloc [(.int .i64 0), (.int .i64 0), (.int .i64 0), (.int .i64 0)] 45⟩, ⟨none, none, .store 4 (.t 4) (.t 22)⟩] [])
 (.seq (.seq (.ops [⟨(some 23), none, .call 37 [(.t 1)]⟩])
 (.block 0 (.rangeFn (.t 23) [24] b47_0 b47_1)))
 (.seq (.ops [⟨(some 33), none, .load true 4 (.t 4)⟩, ⟨none, none, .store 4 (.t 2) (.t 33)⟩, ⟨(some 3), none, .mov (.c (.int .i64 0))⟩])
 .ret)))))⟩
def b48_0 : VCode := (.seq (.ops [⟨(some 22), none, .bin .lss (.t 21) (.t 20)⟩])
 (.seq (.cond (.t 22) .skip (.exit 0))
 (.seq (.block 1 (.seq (.ops [⟨(some 23), none, .mov (.t 21)⟩, ⟨(some 24), none, .iaddr 2 none (.t 19) (.t 21)⟩, ⟨(some 25), none, .load true 2 (.t 24)⟩, ⟨(some 8), none, .alloc [(.int .i64 0), (.int .i64 0)] 47⟩, ⟨(some 7), none, .mov (.t 23)⟩, ⟨none, none, .store 2 (.t 8) (.t 25)⟩])
 (.seq (.ops [⟨(some 26), none, .mov (.t 7)⟩, ⟨(some 27), none, .bin .add (.t 26) (.c (.int .i64 1))⟩, ⟨(some 9), none, .mov (.t 27)⟩])
 (.seq (.seq (.ops [⟨(some 28), none, .mov (.t 9)⟩, ⟨(some 29), none, .mov (.t 0)⟩, ⟨(some 30), none, .bi (.len 1) [(.t 29)]⟩, ⟨(some 31), none, .bin .eql (.t 28) (.t 30)⟩])
 (.cond (.t 31) (.ops [⟨(some 9), none, .mov (.c (.int .i64 0))⟩]) .skip))
 (.seq (.drawn [⟨(some 32), none, .load true 2 (.t 8)⟩, ⟨(some 33), none, .call 26 [(.t 32)]⟩, ⟨(some 34), none, .un .not (.t 33)⟩, ⟨(some 35), none, .mov (.t 34)⟩, ⟨(some 36), (some (35, false)), .mov (.t 9)⟩, ⟨(some 37), (some (35, false)), .bin .gtr (.t 36) (.c (.int .i64 0))⟩, ⟨(some 38), (some (35, false)), .mov (.t 37)⟩, ⟨(some 39), (some (38, false)), .mov (.t 2)⟩, ⟨(some 40), (some (35, false)), .pick (.t 38) (.c (.bool true)) (.t 39)⟩, ⟨(some 41), (some (35, false)), .mov (.t 40)⟩, ⟨(some 42), (some (41, true)), .load true 2 (.t 8)⟩, ⟨(some 43), (some (41, true)), .mov (.t 0)⟩, ⟨(some 44), (some (41, true)), .mov (.t 9)⟩, ⟨(some 45), (some (41, true)), .iaddr 2 none (.t 43) (.t 44)⟩, ⟨(some 46), (some (41, true)), .load true 2 (.t 45)⟩, ⟨(some 47), (some (41, true)), .eqs (.flat [.int, .int]) false (.t 42) (.t 46)⟩, ⟨(some 48), (some (35, false)), .pick (.t 41) (.t 47) (.c (.bool false))⟩, ⟨(some 49), none, .pick (.t 35) (.c (.bool true)) (.t 48)⟩] [])
 (.cond (.t 49) (.seq (.ops [⟨(some 6), none, .mov (.c (.bool false))⟩])
 .ret) .skip))))))
 (.ops [⟨(some 50), none, .bin .add (.t 21) (.c (.int .i64 1))⟩, ⟨(some 21), none, .mov (.t 50)⟩]))))
/-- furlong/shape.ring -/
def v48 : VFun := ⟨3, [(.tmp 6)], (.seq (.ops [⟨(some 6), none, .mov (.c (.bool false))⟩])
 (.seq (.seq (.ops [⟨(some 10), none, .mov (.t 0)⟩, ⟨(some 11), none, .bi (.len 1) [(.t 10)]⟩, ⟨(some 12), none, .mov (.t 1)⟩, ⟨(some 13), none, .bin .lss (.t 11) (.t 12)⟩, ⟨(some 14), none, .mov (.t 13)⟩, ⟨(some 15), (some (14, false)), .mov (.t 0)⟩, ⟨(some 16), (some (14, false)), .bi (.len 1) [(.t 15)]⟩, ⟨(some 17), (some (14, false)), .bin .gtr (.t 16) (.c (.int .i64 16))⟩, ⟨(some 18), none, .pick (.t 14) (.c (.bool true)) (.t 17)⟩])
 (.cond (.t 18) (.seq (.ops [⟨(some 6), none, .mov (.c (.bool false))⟩])
 .ret) .skip))
 (.seq (.seq (.ops [⟨(some 19), none, .mov (.t 0)⟩, ⟨(some 20), none, .bi (.len 1) [(.t 19)]⟩, ⟨(some 21), none, .mov (.c (.int .i64 0))⟩])
 (.block 0 (.loop b48_0)))
 (.seq (.ops [⟨(some 6), none, .mov (.c (.bool true))⟩])
 .ret))))⟩
/-- slices.ContainsFunc[[][]furlong/api.Point,[]furlong/api.Point] -/
def v49 : VFun := ⟨2, [(.tmp 4)], (.seq (.ops [⟨(some 4), none, .mov (.c (.bool false))⟩])
 (.seq (.ops [⟨(some 5), none, .mov (.t 0)⟩, ⟨(some 6), none, .mov (.t 1)⟩, ⟨(some 7), none, .call 69 [(.t 5), (.t 6)]⟩, ⟨(some 8), none, .bin .geq (.t 7) (.c (.int .i64 0))⟩, ⟨(some 4), none, .mov (.t 8)⟩])
 .ret))⟩
/-- furlong/shape.May$1 -/
def v50 : VFun := ⟨1, [(.tmp 2)], (.seq (.ops [⟨(some 2), none, .mov (.c (.bool false))⟩])
 (.seq (.ops [⟨(some 3), none, .mov (.t 0)⟩, ⟨(some 4), none, .call 48 [(.t 3), (.c (.int .i64 3)), (.c (.bool true))]⟩, ⟨(some 5), none, .un .not (.t 4)⟩, ⟨(some 2), none, .mov (.t 5)⟩])
 .ret))⟩
/-- furlong/rec.noMap -/
def v51 : VFun := ⟨1, [(.tmp 2)], (.seq (.ops [⟨(some 2), none, .mov (.c (.bool false))⟩])
 (.seq (.ops [⟨(some 3), none, .mov (.t 0)⟩, ⟨(some 4), none, .nilck (.t 3)⟩, ⟨(some 5), none, .faddr 0 (.t 4)⟩, ⟨(some 6), none, .load false 1 (.t 5)⟩, ⟨(some 7), none, .bin .eql (.t 6) (.c (.int .i64 0))⟩, ⟨(some 8), none, .mov (.t 7)⟩, ⟨(some 9), (some (8, true)), .mov (.t 0)⟩, ⟨(some 10), (some (8, true)), .nilck (.t 9)⟩, ⟨(some 11), (some (8, true)), .faddr 1 (.t 10)⟩, ⟨(some 12), (some (8, true)), .load false 1 (.t 11)⟩, ⟨(some 13), (some (8, true)), .bi (.len 1) [(.t 12)]⟩, ⟨(some 14), (some (8, true)), .bin .eql (.t 13) (.c (.int .i64 0))⟩, ⟨(some 15), none, .pick (.t 8) (.t 14) (.c (.bool false))⟩, ⟨(some 16), none, .mov (.t 15)⟩, ⟨(some 17), (some (16, true)), .mov (.t 0)⟩, ⟨(some 18), (some (16, true)), .nilck (.t 17)⟩, ⟨(some 19), (some (16, true)), .faddr 2 (.t 18)⟩, ⟨(some 20), (some (16, true)), .load false 1 (.t 19)⟩, ⟨(some 21), (some (16, true)), .bi (.len 1) [(.t 20)]⟩, ⟨(some 22), (some (16, true)), .bin .eql (.t 21) (.c (.int .i64 0))⟩, ⟨(some 23), none, .pick (.t 16) (.t 22) (.c (.bool false))⟩, ⟨(some 2), none, .mov (.t 23)⟩])
 .ret))⟩
/-- furlong/rec.noFeature -/
def v52 : VFun := ⟨1, [(.tmp 2)], (.seq (.ops [⟨(some 2), none, .mov (.c (.bool false))⟩])
 (.seq (.ops [⟨(some 3), none, .mov (.t 0)⟩, ⟨(some 4), none, .nilck (.t 3)⟩, ⟨(some 5), none, .faddr 0 (.t 4)⟩, ⟨(some 6), none, .load false 1 (.t 5)⟩, ⟨(some 7), none, .bin .eql (.t 6) (.c (.int .i64 0))⟩, ⟨(some 8), none, .mov (.t 7)⟩, ⟨(some 9), (some (8, true)), .mov (.t 0)⟩, ⟨(some 10), (some (8, true)), .nilck (.t 9)⟩, ⟨(some 11), (some (8, true)), .faddr 1 (.t 10)⟩, ⟨(some 12), (some (8, true)), .load false 1 (.t 11)⟩, ⟨(some 13), (some (8, true)), .bin .eql (.t 12) (.c (.int .i64 0))⟩, ⟨(some 14), none, .pick (.t 8) (.t 13) (.c (.bool false))⟩, ⟨(some 15), none, .mov (.t 14)⟩, ⟨(some 16), (some (15, true)), .mov (.t 0)⟩, ⟨(some 17), (some (15, true)), .nilck (.t 16)⟩, ⟨(some 18), (some (15, true)), .faddr 2 (.t 17)⟩, ⟨(some 19), (some (15, true)), .load false 1 (.t 18)⟩, ⟨(some 20), (some (15, true)), .bi (.len 1) [(.t 19)]⟩, ⟨(some 21), (some (15, true)), .bin .eql (.t 20) (.c (.int .i64 0))⟩, ⟨(some 22), none, .pick (.t 15) (.t 21) (.c (.bool false))⟩, ⟨(some 2), none, .mov (.t 22)⟩])
 .ret))⟩
def b53_0 : VCode := (.seq (.ops [⟨(some 55), none, .bin .lss (.t 54) (.t 53)⟩])
 (.seq (.cond (.t 55) .skip (.exit 0))
 (.seq (.block 1 (.seq (.ops [⟨(some 56), none, .mov (.t 54)⟩, ⟨(some 57), none, .iaddr 1 none (.t 52) (.t 54)⟩, ⟨(some 58), none, .load false 1 (.t 57)⟩, ⟨(some 5), none, .mov (.t 56)⟩, ⟨(some 6), none, .mov (.t 58)⟩])
 (.seq (.ops [⟨(some 59), none, .mov (.t 6)⟩, ⟨(some 60), none, .bin .geq (.t 59) (.c (.int .i64 4294967296))⟩, ⟨(some 61), none, .mov (.t 60)⟩, ⟨(some 62), (some (61, false)), .mov (.t 5)⟩, ⟨(some 63), (some (61, false)), .bin .gtr (.t 62) (.c (.int .i64 0))⟩, ⟨(some 64), (some (61, false)), .mov (.t 63)⟩, ⟨(some 65), (some (64, true)), .mov (.t 6)⟩, ⟨(some 66), (some (64, true)), .faddr 1 (.t 2)⟩, ⟨(some 67), (some (64, true)), .load false 1 (.t 66)⟩, ⟨(some 68), (some (64, true)), .mov (.t 5)⟩, ⟨(some 69), (some (64, true)), .bin .sub (.t 68) (.c (.int .i64 1))⟩, ⟨(some 70), (some (64, true)), .iaddr 1 none (.t 67) (.t 69)⟩, ⟨(some 71), (some (64, true)), .load false 1 (.t 70)⟩, ⟨(some 72), (some (64, true)), .bin .leq (.t 65) (.t 71)⟩, ⟨(some 73), (some (61, false)), .pick (.t 64) (.t 72) (.c (.bool false))⟩, ⟨(some 74), none, .pick (.t 61) (.c (.bool true)) (.t 73)⟩, ⟨(some 75), none, .mov (.t 74)⟩, ⟨(some 76), (some (75, false)), .faddr 2 (.t 2)⟩, ⟨(some 77), (some (75, false)), .load false 1 (.t 76)⟩, ⟨(some 78), (some (75, false)), .mov (.t 5)⟩, ⟨(some 79), (some (75, false)), .iaddr 1 none (.t 77) (.t 78)⟩, ⟨(some 80), (some (75, false)), .load false 1 (.t 79)⟩, ⟨(some 81), (some (75, false)), .bin .lss (.t 80) (.c (.int .i64 0))⟩, ⟨(some 82), none, .pick (.t 75) (.c (.bool true)) (.t 81)⟩, ⟨(some 83), none, .mov (.t 82)⟩, ⟨(some 84), (some (83, false)), .faddr 2 (.t 2)⟩, ⟨(some 85), (some (83, false)), .load false 1 (.t 84)⟩, ⟨(some 86), (some (83, false)), .mov (.t 5)⟩, ⟨(some 87), (some (83, false)), .iaddr 1 none (.t 85) (.t 86)⟩, ⟨(some 88), (some (83, false)), .load false 1 (.t 87)⟩, ⟨(some 89), (some (83, false)), .mov (.t 1)⟩, ⟨(some 90), (some (83, false)), .bin .geq (.t 88) (.t 89)⟩, ⟨(some 91), none, .pick (.t 83) (.c (.bool true)) (.t 90)⟩])
 (.cond (.t 91) (.seq (.ops [⟨(some 4), none, .mov (.c (.bool false))⟩])
 .ret) .skip))))
 (.ops [⟨(some 92), none, .bin .add (.t 54) (.c (.int .i64 1))⟩, ⟨(some 54), none, .mov (.t 92)⟩]))))
/-- furlong/smap.May -/
def v53 : VFun := ⟨2, [(.tmp 4)], (.seq (.ops [⟨(some 2), none, .box 34 (.t 0)⟩, ⟨(some 4), none, .mov (.c (.bool false))⟩])
 (.seq (.seq (.ops [⟨(some 7), none, .mov (.t 1)⟩, ⟨(some 8), none, .bin .lss (.t 7) (.c (.int .i64 1))⟩, ⟨(some 9), none, .mov (.t 8)⟩, ⟨(some 10), (some (9, false)), .mov (.t 1)⟩, ⟨(some 11), (some (9, false)), .bin .gtr (.t 10) (.c (.int .i64 8))⟩, ⟨(some 12), none, .pick (.t 9) (.c (.bool true)) (.t 11)⟩, ⟨(some 13), none, .mov (.t 12)⟩, ⟨(some 14), (some (13, false)), .faddr 0 (.t 2)⟩, ⟨(some 15), (some (13, false)), .load false 1 (.t 14)⟩, ⟨(some 16), (some (13, false)), .bin .lss (.t 15) (.c (.int .i64 1))⟩, ⟨(some 17), none, .pick (.t 13) (.c (.bool true)) (.t 16)⟩, ⟨(some 18), none, .mov (.t 17)⟩, ⟨(some 19), (some (18, false)), .faddr 0 (.t 2)⟩, ⟨(some 20), (some (18, false)), .load false 1 (.t 19)⟩, ⟨(some 21), (some (18, false)), .bin .gtr (.t 20) (.c (.int .i64 65535))⟩, ⟨(some 22), none, .pick (.t 18) (.c (.bool true)) (.t 21)⟩, ⟨(some 23), none, .mov (.t 22)⟩, ⟨(some 24), (some (23, false)), .faddr 1 (.t 2)⟩, ⟨(some 25), (some (23, false)), .load false 1 (.t 24)⟩, ⟨(some 26), (some (23, false)), .bi (.len 1) [(.t 25)]⟩, ⟨(some 27), (some (23, false)), .bin .lss (.t 26) (.c (.int .i64 1))⟩, ⟨(some 28), none, .pick (.t 23) (.c (.bool true)) (.t 27)⟩, ⟨(some 29), none, .mov (.t 28)⟩, ⟨(some 30), (some (29, false)), .faddr 1 (.t 2)⟩, ⟨(some 31), (some (29, false)), .load false 1 (.t 30)⟩, ⟨(some 32), (some (29, false)), .bi (.len 1) [(.t 31)]⟩, ⟨(some 33), (some (29, false)), .bin .gtr (.t 32) (.c (.int .i64 32))⟩, ⟨(some 34), none, .pick (.t 29) (.c (.bool true)) (.t 33)⟩, ⟨(some 35), none, .mov (.t 34)⟩, ⟨(some 36), (some (35, false)), .faddr 2 (.t 2)⟩, ⟨(some 37), (some (35, false)), .load false 1 (.t 36)⟩, ⟨(some 38), (some (35, false)), .bi (.len 1) [(.t 37)]⟩, ⟨(some 39), (some (35, false)), .faddr 1 (.t 2)⟩, ⟨(some 40), (some (35, false)), .load false 1 (.t 39)⟩, ⟨(some 41), (some (35, false)), .bi (.len 1) [(.t 40)]⟩, ⟨(some 42), (some (35, false)), .bin .neq (.t 38) (.t 41)⟩, ⟨(some 43), none, .pick (.t 35) (.c (.bool true)) (.t 42)⟩, ⟨(some 44), none, .mov (.t 43)⟩, ⟨(some 45), (some (44, false)), .faddr 1 (.t 2)⟩, ⟨(some 46), (some (44, false)), .load false 1 (.t 45)⟩, ⟨(some 47), (some (44, false)), .iaddr 1 none (.t 46) (.c (.int .i64 0))⟩, ⟨(some 48), (some (44, false)), .load false 1 (.t 47)⟩, ⟨(some 49), (some (44, false)), .bin .neq (.t 48) (.c (.int .i64 0))⟩, ⟨(some 50), none, .pick (.t 44) (.c (.bool true)) (.t 49)⟩])
 (.cond (.t 50) (.seq (.ops [⟨(some 4), none, .mov (.c (.bool false))⟩])
 .ret) .skip))
 (.seq (.seq (.ops [⟨(some 51), none, .faddr 1 (.t 2)⟩, ⟨(some 52), none, .load false 1 (.t 51)⟩, ⟨(some 53), none, .bi (.len 1) [(.t 52)]⟩, ⟨(some 54), none, .mov (.c (.int .i64 0))⟩])
 (.block 0 (.loop b53_0)))
 (.seq (.ops [⟨(some 4), none, .mov (.c (.bool true))⟩])
 .ret))))⟩
/-- cmp.isNaN[int] -/
def v54 : VFun := ⟨1, [(.tmp 2)], (.seq (.ops [⟨(some 2), none, .mov (.c (.bool false))⟩])
 (.seq (.ops [⟨(some 3), none, .mov (.t 0)⟩, ⟨(some 4), none, .mov (.t 0)⟩, ⟨(some 5), none, .bin .neq (.t 3) (.t 4)⟩, ⟨(some 2), none, .mov (.t 5)⟩])
 .ret))⟩
def b56_0 : VCode := (.seq (.ops [⟨(some 19), none, .bin .lss (.t 18) (.t 17)⟩])
 (.seq (.cond (.t 19) .skip (.exit 2))
 (.seq (.block 3 (.seq (.ops [⟨(some 20), none, .iaddr 2 none (.t 16) (.t 18)⟩, ⟨(some 21), none, .load true 2 (.t 20)⟩, ⟨(some 6), none, .alloc [(.int .i64 0), (.int .i64 0)] 47⟩, ⟨none, none, .store 2 (.t 6) (.t 21)⟩])
 (.seq (.ops [⟨(some 22), none, .mov (.t 0)⟩, ⟨(some 23), none, .load true 2 (.t 6)⟩, ⟨(some 24), none, .callv (.t 22) [(.t 23)]⟩, ⟨(some 25), none, .un .not (.t 24)⟩])
 (.cond (.t 25) .ret .skip))))
 (.ops [⟨(some 26), none, .bin .add (.t 18) (.c (.int .i64 1))⟩, ⟨(some 18), none, .mov (.t 26)⟩]))))
def b56_1 : VCode := (.seq (.ops [⟨(some 13), none, .bin .lss (.t 12) (.t 11)⟩])
 (.seq (.cond (.t 13) .skip (.exit 0))
 (.seq (.block 1 (.seq (.ops [⟨(some 14), none, .iaddr 1 none (.t 10) (.t 12)⟩, ⟨(some 15), none, .load false 1 (.t 14)⟩, ⟨(some 4), none, .mov (.t 15)⟩])
 (.seq (.ops [⟨(some 16), none, .mov (.t 4)⟩, ⟨(some 17), none, .bi (.len 1) [(.t 16)]⟩, ⟨(some 18), none, .mov (.c (.int .i64 0))⟩])
 (.block 2 (.loop b56_0)))))
 (.ops [⟨(some 27), none, .bin .add (.t 12) (.c (.int .i64 1))⟩, ⟨(some 12), none, .mov (.t 27)⟩]))))
/-- furlong/shape.points$1 -/
def v56 : VFun := ⟨2, [], (.seq (.ops [⟨(some 7), none, .load false 1 (.t 1)⟩, ⟨(some 8), none, .nilck (.t 7)⟩, ⟨(some 9), none, .faddr 2 (.t 8)⟩, ⟨(some 10), none, .load false 1 (.t 9)⟩, ⟨(some 11), none, .bi (.len 1) [(.t 10)]⟩, ⟨(some 12), none, .mov (.c (.int .i64 0))⟩])
 (.block 0 (.loop b56_1)))⟩
def b57_0 : VCode := (.seq (.seq (.ops [⟨(some 15), none, .mov (.t 5)⟩, ⟨(some 16), none, .mov (.t 4)⟩, ⟨(some 17), none, .bi (.len 1) [(.t 16)]⟩, ⟨(some 18), none, .bin .lss (.t 15) (.t 17)⟩])
 (.cond (.t 18) .skip (.exit 2)))
 (.seq (.block 3 (.seq (.drawn [⟨(some 21), none, .mov (.t 0)⟩, ⟨(some 22), none, .mov (.t 4)⟩, ⟨(some 23), none, .mov (.t 5)⟩, ⟨(some 24), none, .bin .sub (.t 23) (.c (.int .i64 1))⟩, ⟨(some 25), none, .iaddr 2 none (.t 22) (.t 24)⟩, ⟨(some 26), none, .load true 2 (.t 25)⟩, ⟨(some 27), none, .mov (.t 4)⟩, ⟨(some 28), none, .mov (.t 5)⟩, ⟨(some 29), none, .iaddr 2 none (.t 27) (.t 28)⟩, ⟨(some 30), none, .load true 2 (.t 29)⟩, ⟨(some 31), none, .callv (.t 21) [(.t 26), (.t 30)]⟩, ⟨(some 32), none, .un .not (.t 31)⟩] [])
 (.cond (.t 32) .ret .skip)))
 (.ops [⟨(some 19), none, .mov (.t 5)⟩, ⟨(some 20), none, .bin .add (.t 19) (.c (.int .i64 1))⟩, ⟨(some 5), none, .mov (.t 20)⟩])))
def b57_1 : VCode := (.seq (.ops [⟨(some 12), none, .bin .lss (.t 11) (.t 10)⟩])
 (.seq (.cond (.t 12) .skip (.exit 0))
 (.seq (.block 1 (.seq (.ops [⟨(some 13), none, .iaddr 1 none (.t 9) (.t 11)⟩, ⟨(some 14), none, .load false 1 (.t 13)⟩, ⟨(some 4), none, .mov (.t 14)⟩])
 (.seq (.seq (.ops [⟨(some 5), none, .mov (.c (.int .i64 1))⟩])
 (.block 2 (.loop b57_0)))
 (.seq (.drawn [⟨(some 33), none, .load false 1 (.t 1)⟩, ⟨(some 34), none, .nilck (.t 33)⟩, ⟨(some 35), none, .faddr 1 (.t 34)⟩, ⟨(some 36), none, .load false 1 (.t 35)⟩, ⟨(some 37), none, .bin .eql (.t 36) (.c (.int .i64 2))⟩, ⟨(some 38), none, .mov (.t 37)⟩, ⟨(some 39), (some (38, true)), .mov (.t 0)⟩, ⟨(some 40), (some (38, true)), .mov (.t 4)⟩, ⟨(some 41), (some (38, true)), .mov (.t 4)⟩, ⟨(some 42), (some (38, true)), .bi (.len 1) [(.t 41)]⟩, ⟨(some 43), (some (38, true)), .bin .sub (.t 42) (.c (.int .i64 1))⟩, ⟨(some 44), (some (38, true)), .iaddr 2 none (.t 40) (.t 43)⟩, ⟨(some 45), (some (38, true)), .load true 2 (.t 44)⟩, ⟨(some 46), (some (38, true)), .mov (.t 4)⟩, ⟨(some 47), (some (38, true)), .iaddr 2 none (.t 46) (.c (.int .i64 0))⟩, ⟨(some 48), (some (38, true)), .load true 2 (.t 47)⟩, ⟨(some 49), (some (38, true)), .callv (.t 39) [(.t 45), (.t 48)]⟩, ⟨(some 50), (some (38, true)), .un .not (.t 49)⟩, ⟨(some 51), none, .pick (.t 38) (.t 50) (.c (.bool false))⟩] [])
 (.cond (.t 51) .ret .skip)))))
 (.ops [⟨(some 52), none, .bin .add (.t 11) (.c (.int .i64 1))⟩, ⟨(some 11), none, .mov (.t 52)⟩]))))
/-- furlong/shape.stretches$1 -/
def v57 : VFun := ⟨2, [], (.seq (.ops [⟨(some 6), none, .load false 1 (.t 1)⟩, ⟨(some 7), none, .nilck (.t 6)⟩, ⟨(some 8), none, .faddr 2 (.t 7)⟩, ⟨(some 9), none, .load false 1 (.t 8)⟩, ⟨(some 10), none, .bi (.len 1) [(.t 9)]⟩, ⟨(some 11), none, .mov (.c (.int .i64 0))⟩])
 (.block 0 (.loop b57_1)))⟩
/-- furlong/geom.Cross -/
def v58 : VFun := ⟨4, [(.tmp 8), (.tmp 9)], (.seq (.ops [⟨(some 4), none, .box 47 (.t 0)⟩, ⟨(some 5), none, .box 47 (.t 1)⟩, ⟨(some 6), none, .box 47 (.t 2)⟩, ⟨(some 7), none, .box 47 (.t 3)⟩, ⟨(some 8), none, .mov (.c (.bool false))⟩, ⟨(some 9), none, .mov (.c (.int .i64 0))⟩])
 (.seq (.seq (.ops [⟨(some 10), none, .load true 2 (.t 4)⟩, ⟨(some 11), none, .call 26 [(.t 10)]⟩, ⟨(some 12), none, .un .not (.t 11)⟩, ⟨(some 13), none, .mov (.t 12)⟩, ⟨(some 14), (some (13, false)), .load true 2 (.t 5)⟩, ⟨(some 15), (some (13, false)), .call 26 [(.t 14)]⟩, ⟨(some 16), (some (13, false)), .un .not (.t 15)⟩, ⟨(some 17), none, .pick (.t 13) (.c (.bool true)) (.t 16)⟩, ⟨(some 18), none, .mov (.t 17)⟩, ⟨(some 19), (some (18, false)), .load true 2 (.t 6)⟩, ⟨(some 20), (some (18, false)), .call 26 [(.t 19)]⟩, ⟨(some 21), (some (18, false)), .un .not (.t 20)⟩, ⟨(some 22), none, .pick (.t 18) (.c (.bool true)) (.t 21)⟩, ⟨(some 23), none, .mov (.t 22)⟩, ⟨(some 24), (some (23, false)), .load true 2 (.t 7)⟩, ⟨(some 25), (some (23, false)), .call 26 [(.t 24)]⟩, ⟨(some 26), (some (23, false)), .un .not (.t 25)⟩, ⟨(some 27), none, .pick (.t 23) (.c (.bool true)) (.t 26)⟩])
 (.cond (.t 27) (.seq (.ops [⟨(some 8), none, .mov (.c (.bool false))⟩, ⟨(some 9), none, .mov (.c (.int .i64 300))⟩])
 .ret) .skip))
 (.seq (.seq (.ops [⟨(some 28), none, .load true 2 (.t 6)⟩, ⟨(some 29), none, .load true 2 (.t 4)⟩, ⟨(some 30), none, .load true 2 (.t 5)⟩, ⟨(some 31), none, .call 59 [(.t 28), (.t 29), (.t 30)]⟩, ⟨(some 32), none, .mov (.t 31)⟩, ⟨(some 33), (some (32, false)), .load true 2 (.t 7)⟩, ⟨(some 34), (some (32, false)), .load true 2 (.t 4)⟩, ⟨(some 35), (some (32, false)), .load true 2 (.t 5)⟩, ⟨(some 36), (some (32, false)), .call 59 [(.t 33), (.t 34), (.t 35)]⟩, ⟨(some 37), none, .pick (.t 32) (.c (.bool true)) (.t 36)⟩, ⟨(some 38), none, .mov (.t 37)⟩, ⟨(some 39), (some (38, false)), .load true 2 (.t 4)⟩, ⟨(some 40), (some (38, false)), .load true 2 (.t 6)⟩, ⟨(some 41), (some (38, false)), .load true 2 (.t 7)⟩, ⟨(some 42), (some (38, false)), .call 59 [(.t 39), (.t 40), (.t 41)]⟩, ⟨(some 43), none, .pick (.t 38) (.c (.bool true)) (.t 42)⟩, ⟨(some 44), none, .mov (.t 43)⟩, ⟨(some 45), (some (44, false)), .load true 2 (.t 5)⟩, ⟨(some 46), (some (44, false)), .load true 2 (.t 6)⟩, ⟨(some 47), (some (44, false)), .load true 2 (.t 7)⟩, ⟨(some 48), (some (44, false)), .call 59 [(.t 45), (.t 46), (.t 47)]⟩, ⟨(some 49), none, .pick (.t 44) (.c (.bool true)) (.t 48)⟩])
 (.cond (.t 49) (.seq (.ops [⟨(some 8), none, .mov (.c (.bool true))⟩, ⟨(some 9), none, .mov (.c (.int .i64 0))⟩])
 .ret) .skip))
 (.seq (.drawn [⟨(some 50), none, .load true 2 (.t 4)⟩, ⟨(some 51), none, .load true 2 (.t 5)⟩, ⟨(some 52), none, .load true 2 (.t 6)⟩, ⟨(some 53), none, .call 71 [(.t 50), (.t 51), (.t 52)]⟩, ⟨(some 54), none, .load true 2 (.t 4)⟩, ⟨(some 55), none, .load true 2 (.t 5)⟩, ⟨(some 56), none, .load true 2 (.t 7)⟩, ⟨(some 57), none, .call 71 [(.t 54), (.t 55), (.t 56)]⟩, ⟨(some 58), none, .bin .mul (.t 53) (.t 57)⟩, ⟨(some 59), none, .bin .lss (.t 58) (.c (.int .i64 0))⟩, ⟨(some 60), none, .mov (.t 59)⟩, ⟨(some 61), (some (60, true)), .load true 2 (.t 6)⟩, ⟨(some 62), (some (60, true)), .load true 2 (.t 7)⟩, ⟨(some 63), (some (60, true)), .load true 2 (.t 4)⟩, ⟨(some 64), (some (60, true)), .call 71 [(.t 61), (.t 62), (.t 63)]⟩, ⟨(some 65), (some (60, true)), .load true 2 (.t 6)⟩, ⟨(some 66), (some (60, true)), .load true 2 (.t 7)⟩, ⟨(some 67), (some (60, true)), .load true 2 (.t 5)⟩, ⟨(some 68), (some (60, true)), .call 71 [(.t 65), (.t 66), (.t 67)]⟩, ⟨(some 69), (some (60, true)), .bin .mul (.t 64) (.t 68)⟩, ⟨(some 70), (some (60, true)), .bin .lss (.t 69) (.c (.int .i64 0))⟩, ⟨(some 71), none, .pick (.t 60) (.t 70) (.c (.bool false))⟩, ⟨(some 8), none, .mov (.t 71)⟩, ⟨(some 9), none, .mov (.c (.int .i64 0))⟩] [(4, [0]), (5, [0]), (6, [0]), (15, [8]), (16, [8]), (17, [8])])
 .ret))))⟩
/-- furlong/geom.On -/
def v59 : VFun := ⟨3, [(.tmp 6)], (.seq (.ops [⟨(some 3), none, .box 47 (.t 0)⟩, ⟨(some 4), none, .box 47 (.t 1)⟩, ⟨(some 5), none, .box 47 (.t 2)⟩, ⟨(some 6), none, .mov (.c (.bool false))⟩])
 (.seq (.drawn [⟨(some 7), none, .load true 2 (.t 4)⟩, ⟨(some 8), none, .load true 2 (.t 5)⟩, ⟨(some 9), none, .load true 2 (.t 3)⟩, ⟨(some 10), none, .call 71 [(.t 7), (.t 8), (.t 9)]⟩, ⟨(some 11), none, .bin .eql (.t 10) (.c (.int .i64 0))⟩, ⟨(some 12), none, .mov (.t 11)⟩, ⟨(some 13), (some (12, true)), .load true 2 (.t 3)⟩, ⟨(some 14), (some (12, true)), .load true 2 (.t 4)⟩, ⟨(some 15), (some (12, true)), .load true 2 (.t 5)⟩, ⟨(some 16), (some (12, true)), .call 67 [(.t 14), (.t 15)]⟩, ⟨(some 17), (some (12, true)), .call 38 [(.t 13), (.t 16)]⟩, ⟨(some 18), none, .pick (.t 12) (.t 17) (.c (.bool false))⟩, ⟨(some 6), none, .mov (.t 18)⟩] [(6, [10])])
 .ret))⟩
/-- furlong/shape.over -/
def v60 : VFun := ⟨3, [(.tmp 6)], (.seq (.ops [⟨(some 3), none, .box 47 (.t 0)⟩, ⟨(some 4), none, .box 47 (.t 1)⟩, ⟨(some 5), none, .box 47 (.t 2)⟩, ⟨(some 6), none, .mov (.c (.bool false))⟩])
 (.seq (.seq (.ops [⟨(some 9), none, .faddr 1 (.t 4)⟩, ⟨(some 10), none, .load false 1 (.t 9)⟩, ⟨(some 11), none, .faddr 1 (.t 3)⟩, ⟨(some 12), none, .load false 1 (.t 11)⟩, ⟨(some 13), none, .bin .gtr (.t 10) (.t 12)⟩, ⟨(some 14), none, .faddr 1 (.t 5)⟩, ⟨(some 15), none, .load false 1 (.t 14)⟩, ⟨(some 16), none, .faddr 1 (.t 3)⟩, ⟨(some 17), none, .load false 1 (.t 16)⟩, ⟨(some 18), none, .bin .gtr (.t 15) (.t 17)⟩, ⟨(some 19), none, .eqs .bool false (.t 13) (.t 18)⟩])
 (.cond (.t 19) (.seq (.ops [⟨(some 6), none, .mov (.c (.bool false))⟩])
 .ret) .skip))
 (.seq (.seq (.ops [⟨(some 20), none, .faddr 1 (.t 4)⟩, ⟨(some 21), none, .load false 1 (.t 20)⟩, ⟨(some 22), none, .faddr 1 (.t 5)⟩, ⟨(some 23), none, .load false 1 (.t 22)⟩, ⟨(some 24), none, .bin .gtr (.t 21) (.t 23)⟩])
 (.cond (.t 24) (.ops [⟨(some 25), none, .load true 2 (.t 5)⟩, ⟨(some 26), none, .load true 2 (.t 4)⟩, ⟨none, none, .store 2 (.t 4) (.t 25)⟩, ⟨none, none, .store 2 (.t 5) (.t 26)⟩]) .skip))
 (.seq (.ops [⟨(some 28), none, .load true 2 (.t 4)⟩, ⟨(some 29), none, .load true 2 (.t 5)⟩, ⟨(some 30), none, .load true 2 (.t 3)⟩, ⟨(some 31), none, .call 72 [(.t 28), (.t 29), (.t 30)]⟩, ⟨(some 27), none, .mov (.t 31)⟩, ⟨(some 32), none, .extract (.t 27) 0⟩, ⟨(some 33), none, .extract (.t 27) 1⟩, ⟨(some 7), none, .mov (.t 32)⟩, ⟨(some 8), none, .mov (.t 33)⟩])
 (.seq (.ops [⟨(some 34), none, .mov (.t 7)⟩, ⟨(some 35), none, .bin .gtr (.t 34) (.c (.int .i64 0))⟩, ⟨(some 6), none, .mov (.t 35)⟩])
 .ret)))))⟩
def b61_0 : VCode := (.seq (.ops [⟨(some 9), none, .bin .lss (.t 8) (.t 7)⟩])
 (.seq (.cond (.t 9) .skip (.exit 0))
 (.seq (.block 1 (.seq (.ops [⟨(some 10), none, .mov (.t 8)⟩, ⟨(some 5), none, .mov (.t 10)⟩])
 (.seq (.ops [⟨(some 11), none, .mov (.t 1)⟩, ⟨(some 12), none, .mov (.t 0)⟩, ⟨(some 13), none, .mov (.t 5)⟩, ⟨(some 14), none, .iaddr 2 none (.t 12) (.t 13)⟩, ⟨(some 15), none, .load true 2 (.t 14)⟩, ⟨(some 16), none, .callv (.t 11) [(.t 15)]⟩])
 (.cond (.t 16) (.seq (.ops [⟨(some 17), none, .mov (.t 5)⟩, ⟨(some 4), none, .mov (.t 17)⟩])
 .ret) .skip))))
 (.ops [⟨(some 18), none, .bin .add (.t 8) (.c (.int .i64 1))⟩, ⟨(some 8), none, .mov (.t 18)⟩]))))
/-- slices.IndexFunc[[]furlong/api.Point,furlong/api.Point] -/
def v61 : VFun := ⟨2, [(.tmp 4)], (.seq (.ops [⟨(some 4), none, .mov (.c (.int .i64 0))⟩])
 (.seq (.seq (.ops [⟨(some 6), none, .mov (.t 0)⟩, ⟨(some 7), none, .bi (.len 1) [(.t 6)]⟩, ⟨(some 8), none, .mov (.c (.int .i64 0))⟩])
 (.block 0 (.loop b61_0)))
 (.seq (.ops [⟨(some 4), none, .mov (.c (.int .i64 (-1)))⟩])
 .ret)))⟩
/-- furlong/geom.Far -/
def v62 : VFun := ⟨2, [(.cell 4 true 2), (.tmp 5)], (.seq (.ops [⟨(some 2), none, .box 47 (.t 0)⟩, ⟨(some 3), none, .box 45 (.t 1)⟩, ⟨(some 4), none, .alloc [(.int .u64 0), (.int .u64 0)] 109⟩, ⟨(some 5), none, .mov (.c (.int .i64 0))⟩])
 (.seq (.seq (.ops [⟨(some 10), none, .load true 2 (.t 2)⟩, ⟨(some 11), none, .call 26 [(.t 10)]⟩, ⟨(some 12), none, .un .not (.t 11)⟩, ⟨(some 13), none, .mov (.t 12)⟩, ⟨(some 14), (some (13, false)), .load true 4 (.t 3)⟩, ⟨(some 15), (some (13, false)), .call 24 [(.t 14)]⟩, ⟨(some 16), (some (13, false)), .un .not (.t 15)⟩, ⟨(some 17), none, .pick (.t 13) (.c (.bool true)) (.t 16)⟩])
 (.cond (.t 17) (.seq (.ops [⟨(some 18), none, .build [(.int .u64 0), (.int .u64 0)] []⟩, ⟨none, none, .store 2 (.t 4) (.t 18)⟩, ⟨(some 5), none, .mov (.c (.int .i64 300))⟩])
 .ret) .skip))
 (.seq (.ops [⟨(some 19), none, .faddr 0 (.t 3)⟩, ⟨(some 20), none, .load false 1 (.t 19)⟩, ⟨(some 21), none, .faddr 0 (.t 2)⟩, ⟨(some 22), none, .load false 1 (.t 21)⟩, ⟨(some 23), none, .bin .sub (.t 20) (.t 22)⟩, ⟨(some 24), none, .faddr 0 (.t 2)⟩, ⟨(some 25), none, .load false 1 (.t 24)⟩, ⟨(some 26), none, .faddr 2 (.t 3)⟩, ⟨(some 27), none, .load false 1 (.t 26)⟩, ⟨(some 28), none, .bin .sub (.t 25) (.t 27)⟩, ⟨(some 29), none, .bi .max [(.t 23), (.c (.int .i64 0)), (.t 28)]⟩, ⟨(some 30), none, .conv (.int .u64) (.t 29)⟩, ⟨(some 6), none, .mov (.t 30)⟩])
 (.seq (.ops [⟨(some 31), none, .faddr 1 (.t 3)⟩, ⟨(some 32), none, .load false 1 (.t 31)⟩, ⟨(some 33), none, .faddr 1 (.t 2)⟩, ⟨(some 34), none, .load false 1 (.t 33)⟩, ⟨(some 35), none, .bin .sub (.t 32) (.t 34)⟩, ⟨(some 36), none, .faddr 1 (.t 2)⟩, ⟨(some 37), none, .load false 1 (.t 36)⟩, ⟨(some 38), none, .faddr 3 (.t 3)⟩, ⟨(some 39), none, .load false 1 (.t 38)⟩, ⟨(some 40), none, .bin .sub (.t 37) (.t 39)⟩, ⟨(some 41), none, .bi .max [(.t 35), (.c (.int .i64 0)), (.t 40)]⟩, ⟨(some 42), none, .conv (.int .u64) (.t 41)⟩, ⟨(some 7), none, .mov (.t 42)⟩])
 (.seq (.ops [⟨(some 44), none, .mov (.t 6)⟩, ⟨(some 45), none, .mov (.t 6)⟩, ⟨(some 46), none, .call 74 [(.t 44), (.t 45)]⟩, ⟨(some 47), none, .mov (.t 7)⟩, ⟨(some 48), none, .mov (.t 7)⟩, ⟨(some 49), none, .call 74 [(.t 47), (.t 48)]⟩, ⟨(some 50), none, .call 73 [(.t 46), (.t 49)]⟩, ⟨(some 43), none, .mov (.t 50)⟩, ⟨(some 51), none, .extract (.t 43) 0⟩, ⟨(some 52), none, .extract (.t 43) 1⟩, ⟨(some 8), none, .alloc [(.int .u64 0), (.int .u64 0)] 109⟩, ⟨none, none, .store 2 (.t 8) (.t 51)⟩, ⟨(some 9), none, .mov (.t 52)⟩])
 (.seq (.ops [⟨(some 53), none, .load true 2 (.t 8)⟩, ⟨none, none, .store 2 (.t 4) (.t 53)⟩, ⟨(some 5), none, .mov (.c (.int .i64 0))⟩])
 .ret))))))⟩
/-- slices.SortFunc[[]furlong/index.far,furlong/index.far] -/
def v63 : VFun := ⟨2, [], (.seq (.ops [⟨(some 5), none, .mov (.t 0)⟩, ⟨(some 6), none, .bi (.len 1) [(.t 5)]⟩, ⟨(some 4), none, .mov (.t 6)⟩])
 (.ops [⟨(some 7), none, .mov (.t 0)⟩, ⟨(some 8), none, .mov (.t 4)⟩, ⟨(some 9), none, .mov (.t 4)⟩, ⟨(some 10), none, .conv (.int .u64) (.t 9)⟩, ⟨(some 11), none, .call 76 [(.t 10)]⟩, ⟨(some 12), none, .mov (.t 1)⟩, ⟨(some 13), none, .call 75 [(.t 7), (.c (.int .i64 0)), (.t 8), (.t 11), (.t 12)]⟩]))⟩
/-- furlong/index.Nearest[furlong/api.Feature]$1 -/
def v64 : VFun := ⟨2, [(.tmp 4)], (.seq (.ops [⟨(some 2), none, .box 113 (.t 0)⟩, ⟨(some 3), none, .box 113 (.t 1)⟩, ⟨(some 4), none, .mov (.c (.int .i64 0))⟩])
 (.seq (.drawn [⟨(some 5), none, .faddr 3 (.t 2)⟩, ⟨(some 6), none, .load true 2 (.t 5)⟩, ⟨(some 7), none, .faddr 3 (.t 3)⟩, ⟨(some 8), none, .load true 2 (.t 7)⟩, ⟨(some 9), none, .call 66 [(.t 6), (.t 8)]⟩, ⟨(some 10), none, .faddr 5 (.t 2)⟩, ⟨(some 11), none, .load false 1 (.t 10)⟩, ⟨(some 12), none, .faddr 5 (.t 3)⟩, ⟨(some 13), none, .load false 1 (.t 12)⟩, ⟨(some 14), none, .bin .sub (.t 11) (.t 13)⟩, ⟨(some 15), none, .bslice [(.int .i64 0)] 3 2 [(0, 1, (.t 9)), (1, 1, (.t 14))]⟩, ⟨(some 16), none, .call 65 [(.t 15)]⟩, ⟨(some 4), none, .mov (.t 16)⟩] [(6, [0]), (8, [0])])
 .ret))⟩
def b65_0 : VCode := (.seq (.ops [⟨(some 9), none, .bin .lss (.t 8) (.t 7)⟩])
 (.seq (.cond (.t 9) .skip (.exit 0))
 (.seq (.block 1 (.seq (.ops [⟨(some 10), none, .iaddr 1 none (.t 6) (.t 8)⟩, ⟨(some 11), none, .load false 1 (.t 10)⟩, ⟨(some 5), none, .mov (.t 11)⟩])
 (.seq (.ops [⟨(some 12), none, .mov (.t 5)⟩, ⟨(some 13), none, .mov (.t 3)⟩, ⟨(some 14), none, .bin .neq (.t 12) (.t 13)⟩])
 (.cond (.t 14) (.seq (.ops [⟨(some 15), none, .mov (.t 5)⟩, ⟨(some 2), none, .mov (.t 15)⟩])
 .ret) .skip))))
 (.ops [⟨(some 16), none, .bin .add (.t 8) (.c (.int .i64 1))⟩, ⟨(some 8), none, .mov (.t 16)⟩]))))
/-- cmp.Or[int] -/
def v65 : VFun := ⟨1, [(.tmp 2)], (.seq (.ops [⟨(some 2), none, .mov (.c (.int .i64 0))⟩])
 (.seq (.ops [⟨(some 3), none, .mov (.c (.int .i64 0))⟩])
 (.seq (.seq (.ops [⟨(some 6), none, .mov (.t 0)⟩, ⟨(some 7), none, .bi (.len 1) [(.t 6)]⟩, ⟨(some 8), none, .mov (.c (.int .i64 0))⟩])
 (.block 0 (.loop b65_0)))
 (.seq (.ops [⟨(some 17), none, .mov (.t 3)⟩, ⟨(some 2), none, .mov (.t 17)⟩])
 .ret))))⟩
/-- furlong/wide.Cmp -/
def v66 : VFun := ⟨2, [(.tmp 4)], (.seq (.ops [⟨(some 2), none, .box 109 (.t 0)⟩, ⟨(some 3), none, .box 109 (.t 1)⟩, ⟨(some 4), none, .mov (.c (.int .i64 0))⟩])
 (.seq (.drawn [⟨(some 5), none, .faddr 0 (.t 2)⟩, ⟨(some 6), none, .load false 1 (.t 5)⟩, ⟨(some 7), none, .faddr 0 (.t 3)⟩, ⟨(some 8), none, .load false 1 (.t 7)⟩, ⟨(some 9), none, .call 77 [(.t 6), (.t 8)]⟩, ⟨(some 10), none, .faddr 1 (.t 2)⟩, ⟨(some 11), none, .load false 1 (.t 10)⟩, ⟨(some 12), none, .faddr 1 (.t 3)⟩, ⟨(some 13), none, .load false 1 (.t 12)⟩, ⟨(some 14), none, .call 77 [(.t 11), (.t 13)]⟩, ⟨(some 15), none, .bslice [(.int .i64 0)] 3 2 [(0, 1, (.t 9)), (1, 1, (.t 14))]⟩, ⟨(some 16), none, .call 65 [(.t 15)]⟩, ⟨(some 4), none, .mov (.t 16)⟩] [(6, [0]), (8, [0])])
 .ret))⟩
/-- furlong/geom.Between -/
def v67 : VFun := ⟨2, [(.cell 4 true 4)], (.seq (.ops [⟨(some 2), none, .box 47 (.t 0)⟩, ⟨(some 3), none, .box 47 (.t 1)⟩, ⟨(some 4), none, .alloc [(.int .i64 0), (.int .i64 0), (.int .i64 0), (.int .i64 0)] 45⟩])
 (.seq (.ops [⟨(some 5), none, .faddr 0 (.t 2)⟩, ⟨(some 6), none, .load false 1 (.t 5)⟩, ⟨(some 7), none, .faddr 0 (.t 3)⟩, ⟨(some 8), none, .load false 1 (.t 7)⟩, ⟨(some 9), none, .bi .min [(.t 6), (.t 8)]⟩, ⟨(some 10), none, .faddr 1 (.t 2)⟩, ⟨(some 11), none, .load false 1 (.t 10)⟩, ⟨(some 12), none, .faddr 1 (.t 3)⟩, ⟨(some 13), none, .load false 1 (.t 12)⟩, ⟨(some 14), none, .bi .min [(.t 11), (.t 13)]⟩, ⟨(some 15), none, .faddr 0 (.t 2)⟩, ⟨(some 16), none, .load false 1 (.t 15)⟩, ⟨(some 17), none, .faddr 0 (.t 3)⟩, ⟨(some 18), none, .load false 1 (.t 17)⟩, ⟨(some 19), none, .bi .max [(.t 16), (.t 18)]⟩, ⟨(some 20), none, .faddr 1 (.t 2)⟩, ⟨(some 21), none, .load false 1 (.t 20)⟩, ⟨(some 22), none, .faddr 1 (.t 3)⟩, ⟨(some 23), none, .load false 1 (.t 22)⟩, ⟨(some 24), none, .bi .max [(.t 21), (.t 23)]⟩, ⟨(some 25), none, .build [(.int .i64 0), (.int .i64 0), (.int .i64 0), (.int .i64 0)] [(0, 1, (.t 9)), (1, 1, (.t 14)), (2, 1, (.t 19)), (3, 1, (.t 24))]⟩, ⟨none, none, .store 4 (.t 4) (.t 25)⟩])
 .ret))⟩
/-- furlong/geom.Join -/
def v68 : VFun := ⟨2, [(.cell 4 true 4), (.tmp 5)], (.seq (.ops [⟨(some 2), none, .box 45 (.t 0)⟩, ⟨(some 3), none, .box 45 (.t 1)⟩, ⟨(some 4), none, .alloc [(.int .i64 0), (.int .i64 0), (.int .i64 0), (.int .i64 0)] 45⟩, ⟨(some 5), none, .mov (.c (.int .i64 0))⟩])
 (.seq (.seq (.ops [⟨(some 6), none, .load true 4 (.t 2)⟩, ⟨(some 7), none, .call 24 [(.t 6)]⟩, ⟨(some 8), none, .un .not (.t 7)⟩, ⟨(some 9), none, .mov (.t 8)⟩, ⟨(some 10), (some (9, false)), .load true 4 (.t 3)⟩, ⟨(some 11), (some (9, false)), .call 24 [(.t 10)]⟩, ⟨(some 12), (some (9, false)), .un .not (.t 11)⟩, ⟨(some 13), none, .pick (.t 9) (.c (.bool true)) (.t 12)⟩])
 (.cond (.t 13) (.seq (.ops [⟨(some 14), none, .build [(.int .i64 0), (.int .i64 0), (.int .i64 0), (.int .i64 0)] []⟩, ⟨none, none, .store 4 (.t 4) (.t 14)⟩, ⟨(some 5), none, .mov (.c (.int .i64 300))⟩])
 .ret) .skip))
 (.seq (.ops [⟨(some 15), none, .faddr 0 (.t 2)⟩, ⟨(some 16), none, .load false 1 (.t 15)⟩, ⟨(some 17), none, .faddr 0 (.t 3)⟩, ⟨(some 18), none, .load false 1 (.t 17)⟩, ⟨(some 19), none, .bi .min [(.t 16), (.t 18)]⟩, ⟨(some 20), none, .faddr 1 (.t 2)⟩, ⟨(some 21), none, .load false 1 (.t 20)⟩, ⟨(some 22), none, .faddr 1 (.t 3)⟩, ⟨(some 23), none, .load false 1 (.t 22)⟩, ⟨(some 24), none, .bi .min [(.t 21), (.t 23)]⟩, ⟨(some 25), none, .faddr 2 (.t 2)⟩, ⟨(some 26), none, .load false 1 (.t 25)⟩, ⟨(some 27), none, .faddr 2 (.t 3)⟩, ⟨(some 28), none, .load false 1 (.t 27)⟩, ⟨(some 29), none, .bi .max [(.t 26), (.t 28)]⟩, ⟨(some 30), none, .faddr 3 (.t 2)⟩, ⟨(some 31), none, .load false 1 (.t 30)⟩, ⟨(some 32), none, .faddr 3 (.t 3)⟩, ⟨(some 33), none, .load false 1 (.t 32)⟩, ⟨(some 34), none, .bi .max [(.t 31), (.t 33)]⟩, ⟨(some 35), none, .build [(.int .i64 0), (.int .i64 0), (.int .i64 0), (.int .i64 0)] [(0, 1, (.t 19)), (1, 1, (.t 24)), (2, 1, (.t 29)), (3, 1, (.t 34))]⟩, ⟨none, none, .store 4 (.t 4) (.t 35)⟩, ⟨(some 5), none, .mov (.c (.int .i64 0))⟩])
 .ret)))⟩
def b69_0 : VCode := (.seq (.ops [⟨(some 9), none, .bin .lss (.t 8) (.t 7)⟩])
 (.seq (.cond (.t 9) .skip (.exit 0))
 (.seq (.block 1 (.seq (.ops [⟨(some 10), none, .mov (.t 8)⟩, ⟨(some 5), none, .mov (.t 10)⟩])
 (.seq (.ops [⟨(some 11), none, .mov (.t 1)⟩, ⟨(some 12), none, .mov (.t 0)⟩, ⟨(some 13), none, .mov (.t 5)⟩, ⟨(some 14), none, .iaddr 1 none (.t 12) (.t 13)⟩, ⟨(some 15), none, .load false 1 (.t 14)⟩, ⟨(some 16), none, .callv (.t 11) [(.t 15)]⟩])
 (.cond (.t 16) (.seq (.ops [⟨(some 17), none, .mov (.t 5)⟩, ⟨(some 4), none, .mov (.t 17)⟩])
 .ret) .skip))))
 (.ops [⟨(some 18), none, .bin .add (.t 8) (.c (.int .i64 1))⟩, ⟨(some 8), none, .mov (.t 18)⟩]))))
/-- slices.IndexFunc[[][]furlong/api.Point,[]furlong/api.Point] -/
def v69 : VFun := ⟨2, [(.tmp 4)], (.seq (.ops [⟨(some 4), none, .mov (.c (.int .i64 0))⟩])
 (.seq (.seq (.ops [⟨(some 6), none, .mov (.t 0)⟩, ⟨(some 7), none, .bi (.len 1) [(.t 6)]⟩, ⟨(some 8), none, .mov (.c (.int .i64 0))⟩])
 (.block 0 (.loop b69_0)))
 (.seq (.ops [⟨(some 4), none, .mov (.c (.int .i64 (-1)))⟩])
 .ret)))⟩
/-- furlong/geom.turn -/
def v71 : VFun := ⟨3, [(.tmp 6)], (.seq (.ops [⟨(some 3), none, .box 47 (.t 0)⟩, ⟨(some 4), none, .box 47 (.t 1)⟩, ⟨(some 5), none, .box 47 (.t 2)⟩, ⟨(some 6), none, .mov (.c (.int .i64 0))⟩])
 (.seq (.drawn [⟨(some 7), none, .faddr 0 (.t 4)⟩, ⟨(some 8), none, .load false 1 (.t 7)⟩, ⟨(some 9), none, .faddr 0 (.t 3)⟩, ⟨(some 10), none, .load false 1 (.t 9)⟩, ⟨(some 11), none, .bin .sub (.t 8) (.t 10)⟩, ⟨(some 12), none, .faddr 1 (.t 5)⟩, ⟨(some 13), none, .load false 1 (.t 12)⟩, ⟨(some 14), none, .faddr 1 (.t 3)⟩, ⟨(some 15), none, .load false 1 (.t 14)⟩, ⟨(some 16), none, .bin .sub (.t 13) (.t 15)⟩, ⟨(some 17), none, .call 78 [(.t 11), (.t 16)]⟩, ⟨(some 18), none, .faddr 1 (.t 4)⟩, ⟨(some 19), none, .load false 1 (.t 18)⟩, ⟨(some 20), none, .faddr 1 (.t 3)⟩, ⟨(some 21), none, .load false 1 (.t 20)⟩, ⟨(some 22), none, .bin .sub (.t 19) (.t 21)⟩, ⟨(some 23), none, .faddr 0 (.t 5)⟩, ⟨(some 24), none, .load false 1 (.t 23)⟩, ⟨(some 25), none, .faddr 0 (.t 3)⟩, ⟨(some 26), none, .load false 1 (.t 25)⟩, ⟨(some 27), none, .bin .sub (.t 24) (.t 26)⟩, ⟨(some 28), none, .call 78 [(.t 22), (.t 27)]⟩, ⟨(some 29), none, .call 79 [(.t 17), (.t 28)]⟩, ⟨(some 6), none, .mov (.t 29)⟩] [(12, [0]), (14, [0]), (17, [0]), (19, [0])])
 .ret))⟩
/-- furlong/geom.Turn -/
def v72 : VFun := ⟨3, [(.tmp 6), (.tmp 7)], (.seq (.ops [⟨(some 3), none, .box 47 (.t 0)⟩, ⟨(some 4), none, .box 47 (.t 1)⟩, ⟨(some 5), none, .box 47 (.t 2)⟩, ⟨(some 6), none, .mov (.c (.int .i64 0))⟩, ⟨(some 7), none, .mov (.c (.int .i64 0))⟩])
 (.seq (.seq (.ops [⟨(some 8), none, .load true 2 (.t 3)⟩, ⟨(some 9), none, .call 26 [(.t 8)]⟩, ⟨(some 10), none, .un .not (.t 9)⟩, ⟨(some 11), none, .mov (.t 10)⟩, ⟨(some 12), (some (11, false)), .load true 2 (.t 4)⟩, ⟨(some 13), (some (11, false)), .call 26 [(.t 12)]⟩, ⟨(some 14), (some (11, false)), .un .not (.t 13)⟩, ⟨(some 15), none, .pick (.t 11) (.c (.bool true)) (.t 14)⟩, ⟨(some 16), none, .mov (.t 15)⟩, ⟨(some 17), (some (16, false)), .load true 2 (.t 5)⟩, ⟨(some 18), (some (16, false)), .call 26 [(.t 17)]⟩, ⟨(some 19), (some (16, false)), .un .not (.t 18)⟩, ⟨(some 20), none, .pick (.t 16) (.c (.bool true)) (.t 19)⟩])
 (.cond (.t 20) (.seq (.ops [⟨(some 6), none, .mov (.c (.int .i64 0))⟩, ⟨(some 7), none, .mov (.c (.int .i64 300))⟩])
 .ret) .skip))
 (.seq (.ops [⟨(some 21), none, .load true 2 (.t 3)⟩, ⟨(some 22), none, .load true 2 (.t 4)⟩, ⟨(some 23), none, .load true 2 (.t 5)⟩, ⟨(some 24), none, .call 71 [(.t 21), (.t 22), (.t 23)]⟩, ⟨(some 6), none, .mov (.t 24)⟩, ⟨(some 7), none, .mov (.c (.int .i64 0))⟩])
 .ret)))⟩
/-- furlong/wide.Add -/
def v73 : VFun := ⟨2, [(.cell 4 true 2), (.tmp 5)], (.seq (.ops [⟨(some 2), none, .box 109 (.t 0)⟩, ⟨(some 3), none, .box 109 (.t 1)⟩, ⟨(some 4), none, .alloc [(.int .u64 0), (.int .u64 0)] 109⟩, ⟨(some 5), none, .mov (.c (.bool false))⟩])
 (.seq (.ops [⟨(some 9), none, .faddr 1 (.t 2)⟩, ⟨(some 10), none, .load false 1 (.t 9)⟩, ⟨(some 11), none, .faddr 1 (.t 3)⟩, ⟨(some 12), none, .load false 1 (.t 11)⟩, ⟨(some 13), none, .bin .add (.t 10) (.t 12)⟩, ⟨(some 6), none, .mov (.t 13)⟩])
 (.seq (.ops [⟨(some 14), none, .faddr 0 (.t 2)⟩, ⟨(some 15), none, .load false 1 (.t 14)⟩, ⟨(some 16), none, .faddr 0 (.t 3)⟩, ⟨(some 17), none, .load false 1 (.t 16)⟩, ⟨(some 18), none, .bin .add (.t 15) (.t 17)⟩, ⟨(some 7), none, .mov (.t 18)⟩])
 (.seq (.ops [⟨(some 19), none, .mov (.t 7)⟩, ⟨(some 20), none, .faddr 0 (.t 2)⟩, ⟨(some 21), none, .load false 1 (.t 20)⟩, ⟨(some 22), none, .bin .lss (.t 19) (.t 21)⟩, ⟨(some 8), none, .mov (.t 22)⟩])
 (.seq (.seq (.ops [⟨(some 23), none, .mov (.t 6)⟩, ⟨(some 24), none, .faddr 1 (.t 2)⟩, ⟨(some 25), none, .load false 1 (.t 24)⟩, ⟨(some 26), none, .bin .lss (.t 23) (.t 25)⟩])
 (.cond (.t 26) (.seq (.ops [⟨(some 27), none, .mov (.t 7)⟩, ⟨(some 28), none, .bin .add (.t 27) (.c (.int .u64 1))⟩, ⟨(some 7), none, .mov (.t 28)⟩])
 (.ops [⟨(some 29), none, .mov (.t 8)⟩, ⟨(some 30), none, .mov (.t 29)⟩, ⟨(some 31), (some (30, false)), .mov (.t 7)⟩, ⟨(some 32), (some (30, false)), .bin .eql (.t 31) (.c (.int .u64 0))⟩, ⟨(some 33), none, .pick (.t 30) (.c (.bool true)) (.t 32)⟩, ⟨(some 8), none, .mov (.t 33)⟩])) .skip))
 (.seq (.seq (.ops [⟨(some 34), none, .mov (.t 8)⟩])
 (.cond (.t 34) (.seq (.ops [⟨(some 35), none, .build [(.int .u64 0), (.int .u64 0)] []⟩, ⟨none, none, .store 2 (.t 4) (.t 35)⟩, ⟨(some 5), none, .mov (.c (.bool false))⟩])
 .ret) .skip))
 (.seq (.ops [⟨(some 36), none, .mov (.t 7)⟩, ⟨(some 37), none, .mov (.t 6)⟩, ⟨(some 38), none, .build [(.int .u64 0), (.int .u64 0)] [(0, 1, (.t 36)), (1, 1, (.t 37))]⟩, ⟨none, none, .store 2 (.t 4) (.t 38)⟩, ⟨(some 5), none, .mov (.c (.bool true))⟩])
 .ret)))))))⟩
/-- furlong/wide.Mul -/
def v74 : VFun := ⟨2, [(.cell 4 true 2)], (.seq (.ops [⟨(some 4), none, .alloc [(.int .u64 0), (.int .u64 0)] 109⟩])
 (.seq (.ops [⟨(some 12), none, .mov (.t 0)⟩, ⟨(some 13), none, .bin .shr (.t 12) (.c (.int .u64 32))⟩, ⟨(some 14), none, .mov (.t 0)⟩, ⟨(some 15), none, .bin .and (.t 14) (.c (.int .u64 4294967295))⟩, ⟨(some 16), none, .mov (.t 1)⟩, ⟨(some 17), none, .bin .shr (.t 16) (.c (.int .u64 32))⟩, ⟨(some 18), none, .mov (.t 1)⟩, ⟨(some 19), none, .bin .and (.t 18) (.c (.int .u64 4294967295))⟩, ⟨(some 5), none, .mov (.t 13)⟩, ⟨(some 6), none, .mov (.t 15)⟩, ⟨(some 7), none, .mov (.t 17)⟩, ⟨(some 8), none, .mov (.t 19)⟩])
 (.seq (.ops [⟨(some 20), none, .mov (.t 6)⟩, ⟨(some 21), none, .mov (.t 8)⟩, ⟨(some 22), none, .bin .mul (.t 20) (.t 21)⟩, ⟨(some 9), none, .mov (.t 22)⟩])
 (.seq (.ops [⟨(some 23), none, .mov (.t 5)⟩, ⟨(some 24), none, .mov (.t 8)⟩, ⟨(some 25), none, .bin .mul (.t 23) (.t 24)⟩, ⟨(some 26), none, .mov (.t 9)⟩, ⟨(some 27), none, .bin .shr (.t 26) (.c (.int .u64 32))⟩, ⟨(some 28), none, .bin .add (.t 25) (.t 27)⟩, ⟨(some 10), none, .mov (.t 28)⟩])
 (.seq (.ops [⟨(some 29), none, .mov (.t 6)⟩, ⟨(some 30), none, .mov (.t 7)⟩, ⟨(some 31), none, .bin .mul (.t 29) (.t 30)⟩, ⟨(some 32), none, .mov (.t 10)⟩, ⟨(some 33), none, .bin .and (.t 32) (.c (.int .u64 4294967295))⟩, ⟨(some 34), none, .bin .add (.t 31) (.t 33)⟩, ⟨(some 11), none, .mov (.t 34)⟩])
 (.seq (.ops [⟨(some 35), none, .mov (.t 5)⟩, ⟨(some 36), none, .mov (.t 7)⟩, ⟨(some 37), none, .bin .mul (.t 35) (.t 36)⟩, ⟨(some 38), none, .mov (.t 10)⟩, ⟨(some 39), none, .bin .shr (.t 38) (.c (.int .u64 32))⟩, ⟨(some 40), none, .bin .add (.t 37) (.t 39)⟩, ⟨(some 41), none, .mov (.t 11)⟩, ⟨(some 42), none, .bin .shr (.t 41) (.c (.int .u64 32))⟩, ⟨(some 43), none, .bin .add (.t 40) (.t 42)⟩, ⟨(some 44), none, .mov (.t 11)⟩, ⟨(some 45), none, .bin .shl (.t 44) (.c (.int .u64 32))⟩, ⟨(some 46), none, .mov (.t 9)⟩, ⟨(some 47), none, .bin .and (.t 46) (.c (.int .u64 4294967295))⟩, ⟨(some 48), none, .bin .or (.t 45) (.t 47)⟩, ⟨(some 49), none, .build [(.int .u64 0), (.int .u64 0)] [(0, 1, (.t 43)), (1, 1, (.t 48))]⟩, ⟨none, none, .store 2 (.t 4) (.t 49)⟩])
 .ret))))))⟩
def b75_0 : VCode := (.block 1 (.seq (.ops [⟨(some 21), none, .mov (.t 2)⟩, ⟨(some 22), none, .mov (.t 1)⟩, ⟨(some 23), none, .bin .sub (.t 21) (.t 22)⟩, ⟨(some 12), none, .mov (.t 23)⟩])
 (.seq (.seq (.ops [⟨(some 24), none, .mov (.t 12)⟩, ⟨(some 25), none, .bin .leq (.t 24) (.c (.int .i64 12))⟩])
 (.cond (.t 25) (.seq (.ops [⟨(some 26), none, .mov (.t 0)⟩, ⟨(some 27), none, .mov (.t 1)⟩, ⟨(some 28), none, .mov (.t 2)⟩, ⟨(some 29), none, .mov (.t 4)⟩, ⟨(some 30), none, .call 80 [(.t 26), (.t 27), (.t 28), (.t 29)]⟩])
 .ret) .skip))
 (.seq (.seq (.ops [⟨(some 31), none, .mov (.t 3)⟩, ⟨(some 32), none, .bin .eql (.t 31) (.c (.int .i64 0))⟩])
 (.cond (.t 32) (.seq (.ops [⟨(some 33), none, .mov (.t 0)⟩, ⟨(some 34), none, .mov (.t 1)⟩, ⟨(some 35), none, .mov (.t 2)⟩, ⟨(some 36), none, .mov (.t 4)⟩, ⟨(some 37), none, .call 81 [(.t 33), (.t 34), (.t 35), (.t 36)]⟩])
 .ret) .skip))
 (.seq (.seq (.ops [⟨(some 38), none, .mov (.t 10)⟩, ⟨(some 39), none, .un .not (.t 38)⟩])
 (.cond (.t 39) (.seq (.ops [⟨(some 40), none, .mov (.t 0)⟩, ⟨(some 41), none, .mov (.t 1)⟩, ⟨(some 42), none, .mov (.t 2)⟩, ⟨(some 43), none, .mov (.t 4)⟩, ⟨(some 44), none, .call 82 [(.t 40), (.t 41), (.t 42), (.t 43)]⟩])
 (.ops [⟨(some 45), none, .mov (.t 3)⟩, ⟨(some 46), none, .bin .sub (.t 45) (.c (.int .i64 1))⟩, ⟨(some 3), none, .mov (.t 46)⟩])) .skip))
 (.seq (.ops [⟨(some 48), none, .mov (.t 0)⟩, ⟨(some 49), none, .mov (.t 1)⟩, ⟨(some 50), none, .mov (.t 2)⟩, ⟨(some 51), none, .mov (.t 4)⟩, ⟨(some 52), none, .call 83 [(.t 48), (.t 49), (.t 50), (.t 51)]⟩, ⟨(some 47), none, .mov (.t 52)⟩, ⟨(some 53), none, .extract (.t 47) 0⟩, ⟨(some 54), none, .extract (.t 47) 1⟩, ⟨(some 13), none, .mov (.t 53)⟩, ⟨(some 14), none, .mov (.t 54)⟩])
 (.seq (.seq (.ops [⟨(some 55), none, .mov (.t 14)⟩, ⟨(some 56), none, .bin .eql (.t 55) (.c (.int .i64 2))⟩])
 (.cond (.t 56) (.seq (.ops [⟨(some 57), none, .mov (.t 0)⟩, ⟨(some 58), none, .mov (.t 1)⟩, ⟨(some 59), none, .mov (.t 2)⟩, ⟨(some 60), none, .mov (.t 4)⟩, ⟨(some 61), none, .call 84 [(.t 57), (.t 58), (.t 59), (.t 60)]⟩])
 (.seq (.ops [⟨(some 62), none, .mov (.t 2)⟩, ⟨(some 63), none, .bin .sub (.t 62) (.c (.int .i64 1))⟩, ⟨(some 64), none, .mov (.t 13)⟩, ⟨(some 65), none, .mov (.t 1)⟩, ⟨(some 66), none, .bin .sub (.t 64) (.t 65)⟩, ⟨(some 67), none, .bin .sub (.t 63) (.t 66)⟩, ⟨(some 13), none, .mov (.t 67)⟩])
 (.ops [⟨(some 14), none, .mov (.c (.int .i64 1))⟩]))) .skip))
 (.seq (.seq (.ops [⟨(some 68), none, .mov (.t 10)⟩, ⟨(some 69), none, .mov (.t 68)⟩, ⟨(some 70), (some (69, true)), .mov (.t 11)⟩, ⟨(some 71), none, .pick (.t 69) (.t 70) (.c (.bool false))⟩, ⟨(some 72), none, .mov (.t 71)⟩, ⟨(some 73), (some (72, true)), .mov (.t 14)⟩, ⟨(some 74), (some (72, true)), .bin .eql (.t 73) (.c (.int .i64 1))⟩, ⟨(some 75), none, .pick (.t 72) (.t 74) (.c (.bool false))⟩])
 (.cond (.t 75) (.seq (.ops [⟨(some 76), none, .mov (.t 0)⟩, ⟨(some 77), none, .mov (.t 1)⟩, ⟨(some 78), none, .mov (.t 2)⟩, ⟨(some 79), none, .mov (.t 4)⟩, ⟨(some 80), none, .call 85 [(.t 76), (.t 77), (.t 78), (.t 79)]⟩])
 (.cond (.t 80) .ret .skip)) .skip))
 (.seq (.seq (.drawn [⟨(some 81), none, .mov (.t 1)⟩, ⟨(some 82), none, .bin .gtr (.t 81) (.c (.int .i64 0))⟩, ⟨(some 83), none, .mov (.t 82)⟩, ⟨(some 84), (some (83, true)), .mov (.t 4)⟩, ⟨(some 85), (some (83, true)), .mov (.t 0)⟩, ⟨(some 86), (some (83, true)), .mov (.t 1)⟩, ⟨(some 87), (some (83, true)), .bin .sub (.t 86) (.c (.int .i64 1))⟩, ⟨(some 88), (some (83, true)), .iaddr 6 none (.t 85) (.t 87)⟩, ⟨(some 89), (some (83, true)), .load true 6 (.t 88)⟩, ⟨(some 90), (some (83, true)), .mov (.t 0)⟩, ⟨(some 91), (some (83, true)), .mov (.t 13)⟩, ⟨(some 92), (some (83, true)), .iaddr 6 none (.t 90) (.t 91)⟩, ⟨(some 93), (some (83, true)), .load true 6 (.t 92)⟩, ⟨(some 94), (some (83, true)), .callv (.t 84) [(.t 89), (.t 93)]⟩, ⟨(some 95), (some (83, true)), .bin .lss (.t 94) (.c (.int .i64 0))⟩, ⟨(some 96), (some (83, true)), .un .not (.t 95)⟩, ⟨(some 97), none, .pick (.t 83) (.t 96) (.c (.bool false))⟩] [])
 (.cond (.t 97) (.seq (.ops [⟨(some 98), none, .mov (.t 0)⟩, ⟨(some 99), none, .mov (.t 1)⟩, ⟨(some 100), none, .mov (.t 2)⟩, ⟨(some 101), none, .mov (.t 13)⟩, ⟨(some 102), none, .mov (.t 4)⟩, ⟨(some 103), none, .call 86 [(.t 98), (.t 99), (.t 100), (.t 101), (.t 102)]⟩, ⟨(some 15), none, .mov (.t 103)⟩])
 (.seq (.ops [⟨(some 104), none, .mov (.t 15)⟩, ⟨(some 1), none, .mov (.t 104)⟩])
 (.exit 1))) .skip))
 (.seq (.ops [⟨(some 106), none, .mov (.t 0)⟩, ⟨(some 107), none, .mov (.t 1)⟩, ⟨(some 108), none, .mov (.t 2)⟩, ⟨(some 109), none, .mov (.t 13)⟩, ⟨(some 110), none, .mov (.t 4)⟩, ⟨(some 111), none, .call 87 [(.t 106), (.t 107), (.t 108), (.t 109), (.t 110)]⟩, ⟨(some 105), none, .mov (.t 111)⟩, ⟨(some 112), none, .extract (.t 105) 0⟩, ⟨(some 113), none, .extract (.t 105) 1⟩, ⟨(some 16), none, .mov (.t 112)⟩, ⟨(some 17), none, .mov (.t 113)⟩])
 (.seq (.ops [⟨(some 114), none, .mov (.t 17)⟩, ⟨(some 11), none, .mov (.t 114)⟩])
 (.seq (.ops [⟨(some 115), none, .mov (.t 16)⟩, ⟨(some 116), none, .mov (.t 1)⟩, ⟨(some 117), none, .bin .sub (.t 115) (.t 116)⟩, ⟨(some 118), none, .mov (.t 2)⟩, ⟨(some 119), none, .mov (.t 16)⟩, ⟨(some 120), none, .bin .sub (.t 118) (.t 119)⟩, ⟨(some 18), none, .mov (.t 117)⟩, ⟨(some 19), none, .mov (.t 120)⟩])
 (.seq (.ops [⟨(some 121), none, .mov (.t 12)⟩, ⟨(some 122), none, .bin .quo (.t 121) (.c (.int .i64 8))⟩, ⟨(some 20), none, .mov (.t 122)⟩])
 (.seq (.ops [⟨(some 123), none, .mov (.t 18)⟩, ⟨(some 124), none, .mov (.t 19)⟩, ⟨(some 125), none, .bin .lss (.t 123) (.t 124)⟩])
 (.cond (.t 125) (.seq (.ops [⟨(some 126), none, .mov (.t 18)⟩, ⟨(some 127), none, .mov (.t 20)⟩, ⟨(some 128), none, .bin .geq (.t 126) (.t 127)⟩, ⟨(some 10), none, .mov (.t 128)⟩])
 (.seq (.ops [⟨(some 129), none, .mov (.t 0)⟩, ⟨(some 130), none, .mov (.t 1)⟩, ⟨(some 131), none, .mov (.t 16)⟩, ⟨(some 132), none, .mov (.t 3)⟩, ⟨(some 133), none, .mov (.t 4)⟩, ⟨(some 134), none, .call 75 [(.t 129), (.t 130), (.t 131), (.t 132), (.t 133)]⟩])
 (.ops [⟨(some 135), none, .mov (.t 16)⟩, ⟨(some 136), none, .bin .add (.t 135) (.c (.int .i64 1))⟩, ⟨(some 1), none, .mov (.t 136)⟩]))) (.seq (.ops [⟨(some 137), none, .mov (.t 19)⟩, ⟨(some 138), none, .mov (.t 20)⟩, ⟨(some 139), none, .bin .geq (.t 137) (.t 138)⟩, ⟨(some 10), none, .mov (.t 139)⟩])
 (.seq (.ops [⟨(some 140), none, .mov (.t 0)⟩, ⟨(some 141), none, .mov (.t 16)⟩, ⟨(some 142), none, .bin .add (.t 141) (.c (.int .i64 1))⟩, ⟨(some 143), none, .mov (.t 2)⟩, ⟨(some 144), none, .mov (.t 3)⟩, ⟨(some 145), none, .mov (.t 4)⟩, ⟨(some 146), none, .call 75 [(.t 140), (.t 142), (.t 143), (.t 144), (.t 145)]⟩])
 (.ops [⟨(some 147), none, .mov (.t 16)⟩, ⟨(some 2), none, .mov (.t 147)⟩]))))))))))))))))))
/-- slices.pdqsortCmpFunc[furlong/index.far] -/
def v75 : VFun := ⟨5, [], (.seq (.ops [⟨(some 10), none, .mov (.c (.bool true))⟩])
 (.seq (.ops [⟨(some 11), none, .mov (.c (.bool true))⟩])
 (.block 0 (.loop b75_0))))⟩
/-- math/bits.Len -/
def v76 : VFun := ⟨1, [(.tmp 2)], (.seq (.ops [⟨(some 2), none, .mov (.c (.int .i64 0))⟩])
 (.seq (.cond (.c (.bool false)) (.seq (.ops [⟨(some 3), none, .mov (.t 0)⟩, ⟨(some 4), none, .conv (.int .u32) (.t 3)⟩, ⟨(some 5), none, .call 88 [(.t 4)]⟩, ⟨(some 2), none, .mov (.t 5)⟩])
 .ret) .skip)
 (.seq (.ops [⟨(some 6), none, .mov (.t 0)⟩, ⟨(some 7), none, .call 89 [(.t 6)]⟩, ⟨(some 2), none, .mov (.t 7)⟩])
 .ret)))⟩
/-- cmp.Compare[uint64] -/
def v77 : VFun := ⟨2, [(.tmp 4)], (.seq (.ops [⟨(some 4), none, .mov (.c (.int .i64 0))⟩])
 (.seq (.ops [⟨(some 7), none, .mov (.t 0)⟩, ⟨(some 8), none, .call 90 [(.t 7)]⟩, ⟨(some 5), none, .mov (.t 8)⟩])
 (.seq (.ops [⟨(some 9), none, .mov (.t 1)⟩, ⟨(some 10), none, .call 90 [(.t 9)]⟩, ⟨(some 6), none, .mov (.t 10)⟩])
 (.seq (.seq (.ops [⟨(some 11), none, .mov (.t 5)⟩])
 (.cond (.t 11) (.seq (.seq (.ops [⟨(some 12), none, .mov (.t 6)⟩])
 (.cond (.t 12) (.seq (.ops [⟨(some 4), none, .mov (.c (.int .i64 0))⟩])
 .ret) .skip))
 (.seq (.ops [⟨(some 4), none, .mov (.c (.int .i64 (-1)))⟩])
 .ret)) .skip))
 (.seq (.seq (.ops [⟨(some 13), none, .mov (.t 6)⟩])
 (.cond (.t 13) (.seq (.ops [⟨(some 4), none, .mov (.c (.int .i64 1))⟩])
 .ret) .skip))
 (.seq (.seq (.ops [⟨(some 14), none, .mov (.t 0)⟩, ⟨(some 15), none, .mov (.t 1)⟩, ⟨(some 16), none, .bin .lss (.t 14) (.t 15)⟩])
 (.cond (.t 16) (.seq (.ops [⟨(some 4), none, .mov (.c (.int .i64 (-1)))⟩])
 .ret) .skip))
 (.seq (.seq (.ops [⟨(some 17), none, .mov (.t 0)⟩, ⟨(some 18), none, .mov (.t 1)⟩, ⟨(some 19), none, .bin .gtr (.t 17) (.t 18)⟩])
 (.cond (.t 19) (.seq (.ops [⟨(some 4), none, .mov (.c (.int .i64 1))⟩])
 .ret) .skip))
 (.seq (.ops [⟨(some 4), none, .mov (.c (.int .i64 0))⟩])
 .ret))))))))⟩
/-- furlong/geom.times -/
def v78 : VFun := ⟨2, [(.cell 4 true 3)], (.seq (.ops [⟨(some 4), none, .alloc [(.bool false), (.int .u64 0), (.int .u64 0)] 132⟩])
 (.seq (.ops [⟨(some 6), none, .mov (.t 0)⟩, ⟨(some 7), none, .bin .lss (.t 6) (.c (.int .i64 0))⟩, ⟨(some 8), none, .mov (.t 1)⟩, ⟨(some 9), none, .bin .lss (.t 8) (.c (.int .i64 0))⟩, ⟨(some 10), none, .eqs .bool true (.t 7) (.t 9)⟩, ⟨(some 11), none, .mov (.t 10)⟩, ⟨(some 12), (some (11, true)), .mov (.t 0)⟩, ⟨(some 13), (some (11, true)), .bin .neq (.t 12) (.c (.int .i64 0))⟩, ⟨(some 14), none, .pick (.t 11) (.t 13) (.c (.bool false))⟩, ⟨(some 15), none, .mov (.t 14)⟩, ⟨(some 16), (some (15, true)), .mov (.t 1)⟩, ⟨(some 17), (some (15, true)), .bin .neq (.t 16) (.c (.int .i64 0))⟩, ⟨(some 18), none, .pick (.t 15) (.t 17) (.c (.bool false))⟩, ⟨(some 19), none, .build [(.bool false), (.int .u64 0), (.int .u64 0)] [(0, 1, (.t 18))]⟩, ⟨(some 5), none, .alloc [(.bool false), (.int .u64 0), (.int .u64 0)] 132⟩, ⟨none, none, .store 3 (.t 5) (.t 19)⟩])
 (.seq (.ops [⟨(some 20), none, .mov (.t 0)⟩, ⟨(some 21), none, .mov (.t 0)⟩, ⟨(some 22), none, .un .neg (.t 21)⟩, ⟨(some 23), none, .bi .max [(.t 20), (.t 22)]⟩, ⟨(some 24), none, .conv (.int .u64) (.t 23)⟩, ⟨(some 25), none, .mov (.t 1)⟩, ⟨(some 26), none, .mov (.t 1)⟩, ⟨(some 27), none, .un .neg (.t 26)⟩, ⟨(some 28), none, .bi .max [(.t 25), (.t 27)]⟩, ⟨(some 29), none, .conv (.int .u64) (.t 28)⟩, ⟨(some 30), none, .call 74 [(.t 24), (.t 29)]⟩, ⟨(some 31), none, .faddr 1 (.t 5)⟩, ⟨none, none, .store 2 (.t 31) (.t 30)⟩])
 (.seq (.ops [⟨(some 32), none, .load true 3 (.t 5)⟩, ⟨none, none, .store 3 (.t 4) (.t 32)⟩])
 .ret))))⟩
/-- (furlong/geom.product).compare -/
def v79 : VFun := ⟨2, [(.tmp 4)], (.seq (.ops [⟨(some 2), none, .box 132 (.t 0)⟩, ⟨(some 3), none, .box 132 (.t 1)⟩, ⟨(some 4), none, .mov (.c (.int .i64 0))⟩])
 (.seq (.block 0 (.seq (.ops [⟨(some 6), none, .faddr 0 (.t 2)⟩, ⟨(some 7), none, .load false 1 (.t 6)⟩, ⟨(some 8), none, .mov (.t 7)⟩, ⟨(some 9), (some (8, true)), .faddr 0 (.t 3)⟩, ⟨(some 10), (some (8, true)), .load false 1 (.t 9)⟩, ⟨(some 11), none, .pick (.t 8) (.t 10) (.c (.bool false))⟩, ⟨(some 5), none, .mov (.t 11)⟩])
 (.cond (.t 5) (.seq (.ops [⟨(some 12), none, .faddr 1 (.t 3)⟩, ⟨(some 13), none, .load true 2 (.t 12)⟩, ⟨(some 14), none, .faddr 1 (.t 2)⟩, ⟨(some 15), none, .load true 2 (.t 14)⟩, ⟨(some 16), none, .call 66 [(.t 13), (.t 15)]⟩, ⟨(some 4), none, .mov (.t 16)⟩])
 .ret) (.seq (.ops [⟨(some 18), none, .faddr 0 (.t 2)⟩, ⟨(some 19), none, .load false 1 (.t 18)⟩, ⟨(some 17), none, .mov (.t 19)⟩])
 (.cond (.t 17) (.seq (.ops [⟨(some 4), none, .mov (.c (.int .i64 (-1)))⟩])
 .ret) (.seq (.ops [⟨(some 21), none, .faddr 0 (.t 3)⟩, ⟨(some 22), none, .load false 1 (.t 21)⟩, ⟨(some 20), none, .mov (.t 22)⟩])
 (.cond (.t 20) (.seq (.ops [⟨(some 4), none, .mov (.c (.int .i64 1))⟩])
 .ret) .skip)))))))
 (.seq (.ops [⟨(some 23), none, .faddr 1 (.t 2)⟩, ⟨(some 24), none, .load true 2 (.t 23)⟩, ⟨(some 25), none, .faddr 1 (.t 3)⟩, ⟨(some 26), none, .load true 2 (.t 25)⟩, ⟨(some 27), none, .call 66 [(.t 24), (.t 26)]⟩, ⟨(some 4), none, .mov (.t 27)⟩])
 .ret)))⟩
def b80_0 : VCode := (.seq (.seq (.drawn [⟨(some 18), none, .mov (.t 9)⟩, ⟨(some 19), none, .mov (.t 1)⟩, ⟨(some 20), none, .bin .gtr (.t 18) (.t 19)⟩, ⟨(some 21), none, .mov (.t 20)⟩, ⟨(some 22), (some (21, true)), .mov (.t 3)⟩, ⟨(some 23), (some (21, true)), .mov (.t 0)⟩, ⟨(some 24), (some (21, true)), .mov (.t 9)⟩, ⟨(some 25), (some (21, true)), .iaddr 6 none (.t 23) (.t 24)⟩, ⟨(some 26), (some (21, true)), .load true 6 (.t 25)⟩, ⟨(some 27), (some (21, true)), .mov (.t 0)⟩, ⟨(some 28), (some (21, true)), .mov (.t 9)⟩, ⟨(some 29), (some (21, true)), .bin .sub (.t 28) (.c (.int .i64 1))⟩, ⟨(some 30), (some (21, true)), .iaddr 6 none (.t 27) (.t 29)⟩, ⟨(some 31), (some (21, true)), .load true 6 (.t 30)⟩, ⟨(some 32), (some (21, true)), .callv (.t 22) [(.t 26), (.t 31)]⟩, ⟨(some 33), (some (21, true)), .bin .lss (.t 32) (.c (.int .i64 0))⟩, ⟨(some 34), none, .pick (.t 21) (.t 33) (.c (.bool false))⟩] [])
 (.cond (.t 34) .skip (.exit 2)))
 (.seq (.block 3 (.drawn [⟨(some 37), none, .mov (.t 0)⟩, ⟨(some 38), none, .mov (.t 9)⟩, ⟨(some 39), none, .mov (.t 0)⟩, ⟨(some 40), none, .mov (.t 9)⟩, ⟨(some 41), none, .bin .sub (.t 40) (.c (.int .i64 1))⟩, ⟨(some 42), none, .mov (.t 0)⟩, ⟨(some 43), none, .mov (.t 9)⟩, ⟨(some 44), none, .bin .sub (.t 43) (.c (.int .i64 1))⟩, ⟨(some 45), none, .iaddr 6 none (.t 42) (.t 44)⟩, ⟨(some 46), none, .load true 6 (.t 45)⟩, ⟨(some 47), none, .mov (.t 0)⟩, ⟨(some 48), none, .mov (.t 9)⟩, ⟨(some 49), none, .iaddr 6 none (.t 47) (.t 48)⟩, ⟨(some 50), none, .load true 6 (.t 49)⟩, ⟨(some 51), none, .iaddr 6 none (.t 37) (.t 38)⟩, ⟨none, none, .store 6 (.t 51) (.t 46)⟩, ⟨(some 52), none, .iaddr 6 none (.t 39) (.t 41)⟩, ⟨none, none, .store 6 (.t 52) (.t 50)⟩] []))
 (.ops [⟨(some 35), none, .mov (.t 9)⟩, ⟨(some 36), none, .bin .sub (.t 35) (.c (.int .i64 1))⟩, ⟨(some 9), none, .mov (.t 36)⟩])))
def b80_1 : VCode := (.seq (.seq (.ops [⟨(some 12), none, .mov (.t 8)⟩, ⟨(some 13), none, .mov (.t 2)⟩, ⟨(some 14), none, .bin .lss (.t 12) (.t 13)⟩])
 (.cond (.t 14) .skip (.exit 0)))
 (.seq (.block 1 (.seq (.ops [⟨(some 17), none, .mov (.t 8)⟩, ⟨(some 9), none, .mov (.t 17)⟩])
 (.block 2 (.loop b80_0))))
 (.ops [⟨(some 15), none, .mov (.t 8)⟩, ⟨(some 16), none, .bin .add (.t 15) (.c (.int .i64 1))⟩, ⟨(some 8), none, .mov (.t 16)⟩])))
/-- slices.insertionSortCmpFunc[furlong/index.far] -/
def v80 : VFun := ⟨4, [], (.seq (.ops [⟨(some 10), none, .mov (.t 1)⟩, ⟨(some 11), none, .bin .add (.t 10) (.c (.int .i64 1))⟩, ⟨(some 8), none, .mov (.t 11)⟩])
 (.block 0 (.loop b80_1)))⟩
def b81_0 : VCode := (.seq (.seq (.ops [⟨(some 20), none, .mov (.t 11)⟩, ⟨(some 21), none, .bin .geq (.t 20) (.c (.int .i64 0))⟩])
 (.cond (.t 21) .skip (.exit 0)))
 (.seq (.block 1 (.ops [⟨(some 24), none, .mov (.t 0)⟩, ⟨(some 25), none, .mov (.t 11)⟩, ⟨(some 26), none, .mov (.t 10)⟩, ⟨(some 27), none, .mov (.t 8)⟩, ⟨(some 28), none, .mov (.t 3)⟩, ⟨(some 29), none, .call 91 [(.t 24), (.t 25), (.t 26), (.t 27), (.t 28)]⟩]))
 (.ops [⟨(some 22), none, .mov (.t 11)⟩, ⟨(some 23), none, .bin .sub (.t 22) (.c (.int .i64 1))⟩, ⟨(some 11), none, .mov (.t 23)⟩])))
def b81_1 : VCode := (.seq (.seq (.ops [⟨(some 32), none, .mov (.t 12)⟩, ⟨(some 33), none, .bin .geq (.t 32) (.c (.int .i64 0))⟩])
 (.cond (.t 33) .skip (.exit 2)))
 (.seq (.block 3 (.seq (.drawn [⟨(some 36), none, .mov (.t 0)⟩, ⟨(some 37), none, .mov (.t 8)⟩, ⟨(some 38), none, .mov (.t 0)⟩, ⟨(some 39), none, .mov (.t 8)⟩, ⟨(some 40), none, .mov (.t 12)⟩, ⟨(some 41), none, .bin .add (.t 39) (.t 40)⟩, ⟨(some 42), none, .mov (.t 0)⟩, ⟨(some 43), none, .mov (.t 8)⟩, ⟨(some 44), none, .mov (.t 12)⟩, ⟨(some 45), none, .bin .add (.t 43) (.t 44)⟩, ⟨(some 46), none, .iaddr 6 none (.t 42) (.t 45)⟩, ⟨(some 47), none, .load true 6 (.t 46)⟩, ⟨(some 48), none, .mov (.t 0)⟩, ⟨(some 49), none, .mov (.t 8)⟩, ⟨(some 50), none, .iaddr 6 none (.t 48) (.t 49)⟩, ⟨(some 51), none, .load true 6 (.t 50)⟩, ⟨(some 52), none, .iaddr 6 none (.t 36) (.t 37)⟩, ⟨none, none, .store 6 (.t 52) (.t 47)⟩, ⟨(some 53), none, .iaddr 6 none (.t 38) (.t 41)⟩, ⟨none, none, .store 6 (.t 53) (.t 51)⟩] [])
 (.ops [⟨(some 54), none, .mov (.t 0)⟩, ⟨(some 55), none, .mov (.t 9)⟩, ⟨(some 56), none, .mov (.t 12)⟩, ⟨(some 57), none, .mov (.t 8)⟩, ⟨(some 58), none, .mov (.t 3)⟩, ⟨(some 59), none, .call 91 [(.t 54), (.t 55), (.t 56), (.t 57), (.t 58)]⟩])))
 (.ops [⟨(some 34), none, .mov (.t 12)⟩, ⟨(some 35), none, .bin .sub (.t 34) (.c (.int .i64 1))⟩, ⟨(some 12), none, .mov (.t 35)⟩])))
/-- slices.heapSortCmpFunc[furlong/index.far] -/
def v81 : VFun := ⟨4, [], (.seq (.ops [⟨(some 13), none, .mov (.t 1)⟩, ⟨(some 8), none, .mov (.t 13)⟩])
 (.seq (.ops [⟨(some 9), none, .mov (.c (.int .i64 0))⟩])
 (.seq (.ops [⟨(some 14), none, .mov (.t 2)⟩, ⟨(some 15), none, .mov (.t 1)⟩, ⟨(some 16), none, .bin .sub (.t 14) (.t 15)⟩, ⟨(some 10), none, .mov (.t 16)⟩])
 (.seq (.seq (.ops [⟨(some 17), none, .mov (.t 10)⟩, ⟨(some 18), none, .bin .sub (.t 17) (.c (.int .i64 1))⟩, ⟨(some 19), none, .bin .quo (.t 18) (.c (.int .i64 2))⟩, ⟨(some 11), none, .mov (.t 19)⟩])
 (.block 0 (.loop b81_0)))
 (.seq (.ops [⟨(some 30), none, .mov (.t 10)⟩, ⟨(some 31), none, .bin .sub (.t 30) (.c (.int .i64 1))⟩, ⟨(some 12), none, .mov (.t 31)⟩])
 (.block 2 (.loop b81_1)))))))⟩
def b82_0 : VCode := (.seq (.seq (.ops [⟨(some 28), none, .mov (.t 11)⟩, ⟨(some 29), none, .mov (.t 1)⟩, ⟨(some 30), none, .mov (.t 8)⟩, ⟨(some 31), none, .bin .quo (.t 30) (.c (.int .i64 4))⟩, ⟨(some 32), none, .bin .mul (.t 31) (.c (.int .i64 2))⟩, ⟨(some 33), none, .bin .add (.t 29) (.t 32)⟩, ⟨(some 34), none, .bin .add (.t 33) (.c (.int .i64 1))⟩, ⟨(some 35), none, .bin .leq (.t 28) (.t 34)⟩])
 (.cond (.t 35) .skip (.exit 0)))
 (.seq (.block 1 (.seq (.ops [⟨(some 38), none, .call 93 [(.t 9)]⟩, ⟨(some 39), none, .mov (.t 10)⟩, ⟨(some 40), none, .bin .sub (.t 39) (.c (.int .u64 1))⟩, ⟨(some 41), none, .bin .and (.t 38) (.t 40)⟩, ⟨(some 42), none, .conv (.int .i64) (.t 41)⟩, ⟨(some 12), none, .mov (.t 42)⟩])
 (.seq (.seq (.ops [⟨(some 43), none, .mov (.t 12)⟩, ⟨(some 44), none, .mov (.t 8)⟩, ⟨(some 45), none, .bin .geq (.t 43) (.t 44)⟩])
 (.cond (.t 45) (.ops [⟨(some 46), none, .mov (.t 12)⟩, ⟨(some 47), none, .mov (.t 8)⟩, ⟨(some 48), none, .bin .sub (.t 46) (.t 47)⟩, ⟨(some 12), none, .mov (.t 48)⟩]) .skip))
 (.drawn [⟨(some 49), none, .mov (.t 0)⟩, ⟨(some 50), none, .mov (.t 11)⟩, ⟨(some 51), none, .mov (.t 0)⟩, ⟨(some 52), none, .mov (.t 1)⟩, ⟨(some 53), none, .mov (.t 12)⟩, ⟨(some 54), none, .bin .add (.t 52) (.t 53)⟩, ⟨(some 55), none, .mov (.t 0)⟩, ⟨(some 56), none, .mov (.t 1)⟩, ⟨(some 57), none, .mov (.t 12)⟩, ⟨(some 58), none, .bin .add (.t 56) (.t 57)⟩, ⟨(some 59), none, .iaddr 6 none (.t 55) (.t 58)⟩, ⟨(some 60), none, .load true 6 (.t 59)⟩, ⟨(some 61), none, .mov (.t 0)⟩, ⟨(some 62), none, .mov (.t 11)⟩, ⟨(some 63), none, .iaddr 6 none (.t 61) (.t 62)⟩, ⟨(some 64), none, .load true 6 (.t 63)⟩, ⟨(some 65), none, .iaddr 6 none (.t 49) (.t 50)⟩, ⟨none, none, .store 6 (.t 65) (.t 60)⟩, ⟨(some 66), none, .iaddr 6 none (.t 51) (.t 54)⟩, ⟨none, none, .store 6 (.t 66) (.t 64)⟩] []))))
 (.ops [⟨(some 36), none, .mov (.t 11)⟩, ⟨(some 37), none, .bin .add (.t 36) (.c (.int .i64 1))⟩, ⟨(some 11), none, .mov (.t 37)⟩])))
/-- slices.breakPatternsCmpFunc[furlong/index.far] -/
def v82 : VFun := ⟨4, [], (.seq (.ops [⟨(some 13), none, .mov (.t 2)⟩, ⟨(some 14), none, .mov (.t 1)⟩, ⟨(some 15), none, .bin .sub (.t 13) (.t 14)⟩, ⟨(some 8), none, .mov (.t 15)⟩])
 (.seq (.ops [⟨(some 16), none, .mov (.t 8)⟩, ⟨(some 17), none, .bin .geq (.t 16) (.c (.int .i64 8))⟩])
 (.cond (.t 17) (.seq (.ops [⟨(some 18), none, .mov (.t 8)⟩, ⟨(some 19), none, .conv (.int .u64) (.t 18)⟩, ⟨(some 9), none, .alloc [(.int .u64 0)] 146⟩, ⟨none, none, .store 1 (.t 9) (.t 19)⟩])
 (.seq (.ops [⟨(some 20), none, .mov (.t 8)⟩, ⟨(some 21), none, .call 92 [(.t 20)]⟩, ⟨(some 10), none, .mov (.t 21)⟩])
 (.seq (.ops [⟨(some 22), none, .mov (.t 1)⟩, ⟨(some 23), none, .mov (.t 8)⟩, ⟨(some 24), none, .bin .quo (.t 23) (.c (.int .i64 4))⟩, ⟨(some 25), none, .bin .mul (.t 24) (.c (.int .i64 2))⟩, ⟨(some 26), none, .bin .add (.t 22) (.t 25)⟩, ⟨(some 27), none, .bin .sub (.t 26) (.c (.int .i64 1))⟩, ⟨(some 11), none, .mov (.t 27)⟩])
 (.block 0 (.loop b82_0))))) .skip)))⟩
/-- slices.choosePivotCmpFunc[furlong/index.far] -/
def v83 : VFun := ⟨4, [(.tmp 8), (.tmp 9)], (.seq (.ops [⟨(some 8), none, .mov (.c (.int .i64 0))⟩, ⟨(some 9), none, .mov (.c (.int .i64 0))⟩])
 (.seq (.ops [⟨(some 15), none, .mov (.t 2)⟩, ⟨(some 16), none, .mov (.t 1)⟩, ⟨(some 17), none, .bin .sub (.t 15) (.t 16)⟩, ⟨(some 10), none, .mov (.t 17)⟩])
 (.seq (.ops [⟨(some 11), none, .alloc [(.int .i64 0)] 3⟩])
 (.seq (.ops [⟨(some 18), none, .mov (.t 1)⟩, ⟨(some 19), none, .mov (.t 10)⟩, ⟨(some 20), none, .bin .quo (.t 19) (.c (.int .i64 4))⟩, ⟨(some 21), none, .bin .mul (.t 20) (.c (.int .i64 1))⟩, ⟨(some 22), none, .bin .add (.t 18) (.t 21)⟩, ⟨(some 12), none, .mov (.t 22)⟩])
 (.seq (.ops [⟨(some 23), none, .mov (.t 1)⟩, ⟨(some 24), none, .mov (.t 10)⟩, ⟨(some 25), none, .bin .quo (.t 24) (.c (.int .i64 4))⟩, ⟨(some 26), none, .bin .mul (.t 25) (.c (.int .i64 2))⟩, ⟨(some 27), none, .bin .add (.t 23) (.t 26)⟩, ⟨(some 13), none, .mov (.t 27)⟩])
 (.seq (.ops [⟨(some 28), none, .mov (.t 1)⟩, ⟨(some 29), none, .mov (.t 10)⟩, ⟨(some 30), none, .bin .quo (.t 29) (.c (.int .i64 4))⟩, ⟨(some 31), none, .bin .mul (.t 30) (.c (.int .i64 3))⟩, ⟨(some 32), none, .bin .add (.t 28) (.t 31)⟩, ⟨(some 14), none, .mov (.t 32)⟩])
 (.seq (.seq (.ops [⟨(some 33), none, .mov (.t 10)⟩, ⟨(some 34), none, .bin .geq (.t 33) (.c (.int .i64 8))⟩])
 (.cond (.t 34) (.seq (.seq (.ops [⟨(some 35), none, .mov (.t 10)⟩, ⟨(some 36), none, .bin .geq (.t 35) (.c (.int .i64 50))⟩])
 (.cond (.t 36) (.seq (.ops [⟨(some 37), none, .mov (.t 0)⟩, ⟨(some 38), none, .mov (.t 12)⟩, ⟨(some 39), none, .mov (.t 3)⟩, ⟨(some 40), none, .call 94 [(.t 37), (.t 38), (.t 11), (.t 39)]⟩, ⟨(some 12), none, .mov (.t 40)⟩])
 (.seq (.ops [⟨(some 41), none, .mov (.t 0)⟩, ⟨(some 42), none, .mov (.t 13)⟩, ⟨(some 43), none, .mov (.t 3)⟩, ⟨(some 44), none, .call 94 [(.t 41), (.t 42), (.t 11), (.t 43)]⟩, ⟨(some 13), none, .mov (.t 44)⟩])
 (.ops [⟨(some 45), none, .mov (.t 0)⟩, ⟨(some 46), none, .mov (.t 14)⟩, ⟨(some 47), none, .mov (.t 3)⟩, ⟨(some 48), none, .call 94 [(.t 45), (.t 46), (.t 11), (.t 47)]⟩, ⟨(some 14), none, .mov (.t 48)⟩]))) .skip))
 (.ops [⟨(some 49), none, .mov (.t 0)⟩, ⟨(some 50), none, .mov (.t 12)⟩, ⟨(some 51), none, .mov (.t 13)⟩, ⟨(some 52), none, .mov (.t 14)⟩, ⟨(some 53), none, .mov (.t 3)⟩, ⟨(some 54), none, .call 95 [(.t 49), (.t 50), (.t 51), (.t 52), (.t 11), (.t 53)]⟩, ⟨(some 13), none, .mov (.t 54)⟩])) .skip))
 (.seq (.ops [⟨(some 55), none, .load false 1 (.t 11)⟩])
 (.block 0 (.seq (.ops [⟨(some 58), none, .bin .eql (.t 55) (.c (.int .i64 0))⟩, ⟨(some 57), none, .mov (.t 58)⟩])
 (.cond (.t 57) (.seq (.ops [⟨(some 59), none, .mov (.t 13)⟩, ⟨(some 8), none, .mov (.t 59)⟩, ⟨(some 9), none, .mov (.c (.int .i64 1))⟩])
 .ret) (.seq (.ops [⟨(some 61), none, .bin .eql (.t 55) (.c (.int .i64 12))⟩, ⟨(some 60), none, .mov (.t 61)⟩])
 (.cond (.t 60) (.seq (.ops [⟨(some 62), none, .mov (.t 13)⟩, ⟨(some 8), none, .mov (.t 62)⟩, ⟨(some 9), none, .mov (.c (.int .i64 2))⟩])
 .ret) (.seq (.ops [⟨(some 56), none, .mov (.t 13)⟩, ⟨(some 8), none, .mov (.t 56)⟩, ⟨(some 9), none, .mov (.c (.int .i64 0))⟩])
 .ret))))))))))))))⟩
def b84_0 : VCode := (.seq (.seq (.ops [⟨(some 13), none, .mov (.t 8)⟩, ⟨(some 14), none, .mov (.t 9)⟩, ⟨(some 15), none, .bin .lss (.t 13) (.t 14)⟩])
 (.cond (.t 15) .skip (.exit 0)))
 (.block 1 (.seq (.drawn [⟨(some 16), none, .mov (.t 0)⟩, ⟨(some 17), none, .mov (.t 8)⟩, ⟨(some 18), none, .mov (.t 0)⟩, ⟨(some 19), none, .mov (.t 9)⟩, ⟨(some 20), none, .mov (.t 0)⟩, ⟨(some 21), none, .mov (.t 9)⟩, ⟨(some 22), none, .iaddr 6 none (.t 20) (.t 21)⟩, ⟨(some 23), none, .load true 6 (.t 22)⟩, ⟨(some 24), none, .mov (.t 0)⟩, ⟨(some 25), none, .mov (.t 8)⟩, ⟨(some 26), none, .iaddr 6 none (.t 24) (.t 25)⟩, ⟨(some 27), none, .load true 6 (.t 26)⟩, ⟨(some 28), none, .iaddr 6 none (.t 16) (.t 17)⟩, ⟨none, none, .store 6 (.t 28) (.t 23)⟩, ⟨(some 29), none, .iaddr 6 none (.t 18) (.t 19)⟩, ⟨none, none, .store 6 (.t 29) (.t 27)⟩] [])
 (.seq (.ops [⟨(some 30), none, .mov (.t 8)⟩, ⟨(some 31), none, .bin .add (.t 30) (.c (.int .i64 1))⟩, ⟨(some 8), none, .mov (.t 31)⟩])
 (.ops [⟨(some 32), none, .mov (.t 9)⟩, ⟨(some 33), none, .bin .sub (.t 32) (.c (.int .i64 1))⟩, ⟨(some 9), none, .mov (.t 33)⟩])))))
/-- slices.reverseRangeCmpFunc[furlong/index.far] -/
def v84 : VFun := ⟨4, [], (.seq (.ops [⟨(some 10), none, .mov (.t 1)⟩, ⟨(some 8), none, .mov (.t 10)⟩])
 (.seq (.ops [⟨(some 11), none, .mov (.t 2)⟩, ⟨(some 12), none, .bin .sub (.t 11) (.c (.int .i64 1))⟩, ⟨(some 9), none, .mov (.t 12)⟩])
 (.block 0 (.loop b84_0))))⟩
def b85_0 : VCode := (.seq (.seq (.drawn [⟨(some 19), none, .mov (.t 9)⟩, ⟨(some 20), none, .mov (.t 2)⟩, ⟨(some 21), none, .bin .lss (.t 19) (.t 20)⟩, ⟨(some 22), none, .mov (.t 21)⟩, ⟨(some 23), (some (22, true)), .mov (.t 3)⟩, ⟨(some 24), (some (22, true)), .mov (.t 0)⟩, ⟨(some 25), (some (22, true)), .mov (.t 9)⟩, ⟨(some 26), (some (22, true)), .iaddr 6 none (.t 24) (.t 25)⟩, ⟨(some 27), (some (22, true)), .load true 6 (.t 26)⟩, ⟨(some 28), (some (22, true)), .mov (.t 0)⟩, ⟨(some 29), (some (22, true)), .mov (.t 9)⟩, ⟨(some 30), (some (22, true)), .bin .sub (.t 29) (.c (.int .i64 1))⟩, ⟨(some 31), (some (22, true)), .iaddr 6 none (.t 28) (.t 30)⟩, ⟨(some 32), (some (22, true)), .load true 6 (.t 31)⟩, ⟨(some 33), (some (22, true)), .callv (.t 23) [(.t 27), (.t 32)]⟩, ⟨(some 34), (some (22, true)), .bin .lss (.t 33) (.c (.int .i64 0))⟩, ⟨(some 35), (some (22, true)), .un .not (.t 34)⟩, ⟨(some 36), none, .pick (.t 22) (.t 35) (.c (.bool false))⟩] [])
 (.cond (.t 36) .skip (.exit 2)))
 (.block 3 (.ops [⟨(some 37), none, .mov (.t 9)⟩, ⟨(some 38), none, .bin .add (.t 37) (.c (.int .i64 1))⟩, ⟨(some 9), none, .mov (.t 38)⟩])))
def b85_1 : VCode := (.seq (.seq (.ops [⟨(some 68), none, .mov (.t 11)⟩, ⟨(some 69), none, .bin .geq (.t 68) (.c (.int .i64 1))⟩])
 (.cond (.t 69) .skip (.exit 4)))
 (.seq (.block 5 (.seq (.seq (.drawn [⟨(some 72), none, .mov (.t 3)⟩, ⟨(some 73), none, .mov (.t 0)⟩, ⟨(some 74), none, .mov (.t 11)⟩, ⟨(some 75), none, .iaddr 6 none (.t 73) (.t 74)⟩, ⟨(some 76), none, .load true 6 (.t 75)⟩, ⟨(some 77), none, .mov (.t 0)⟩, ⟨(some 78), none, .mov (.t 11)⟩, ⟨(some 79), none, .bin .sub (.t 78) (.c (.int .i64 1))⟩, ⟨(some 80), none, .iaddr 6 none (.t 77) (.t 79)⟩, ⟨(some 81), none, .load true 6 (.t 80)⟩, ⟨(some 82), none, .callv (.t 72) [(.t 76), (.t 81)]⟩, ⟨(some 83), none, .bin .lss (.t 82) (.c (.int .i64 0))⟩, ⟨(some 84), none, .un .not (.t 83)⟩] [])
 (.cond (.t 84) (.exit 4) .skip))
 (.drawn [⟨(some 85), none, .mov (.t 0)⟩, ⟨(some 86), none, .mov (.t 11)⟩, ⟨(some 87), none, .mov (.t 0)⟩, ⟨(some 88), none, .mov (.t 11)⟩, ⟨(some 89), none, .bin .sub (.t 88) (.c (.int .i64 1))⟩, ⟨(some 90), none, .mov (.t 0)⟩, ⟨(some 91), none, .mov (.t 11)⟩, ⟨(some 92), none, .bin .sub (.t 91) (.c (.int .i64 1))⟩, ⟨(some 93), none, .iaddr 6 none (.t 90) (.t 92)⟩, ⟨(some 94), none, .load true 6 (.t 93)⟩, ⟨(some 95), none, .mov (.t 0)⟩, ⟨(some 96), none, .mov (.t 11)⟩, ⟨(some 97), none, .iaddr 6 none (.t 95) (.t 96)⟩, ⟨(some 98), none, .load true 6 (.t 97)⟩, ⟨(some 99), none, .iaddr 6 none (.t 85) (.t 86)⟩, ⟨none, none, .store 6 (.t 99) (.t 94)⟩, ⟨(some 100), none, .iaddr 6 none (.t 87) (.t 89)⟩, ⟨none, none, .store 6 (.t 100) (.t 98)⟩] [])))
 (.ops [⟨(some 70), none, .mov (.t 11)⟩, ⟨(some 71), none, .bin .sub (.t 70) (.c (.int .i64 1))⟩, ⟨(some 11), none, .mov (.t 71)⟩])))
def b85_2 : VCode := (.seq (.seq (.ops [⟨(some 107), none, .mov (.t 12)⟩, ⟨(some 108), none, .mov (.t 2)⟩, ⟨(some 109), none, .bin .lss (.t 107) (.t 108)⟩])
 (.cond (.t 109) .skip (.exit 6)))
 (.seq (.block 7 (.seq (.seq (.drawn [⟨(some 112), none, .mov (.t 3)⟩, ⟨(some 113), none, .mov (.t 0)⟩, ⟨(some 114), none, .mov (.t 12)⟩, ⟨(some 115), none, .iaddr 6 none (.t 113) (.t 114)⟩, ⟨(some 116), none, .load true 6 (.t 115)⟩, ⟨(some 117), none, .mov (.t 0)⟩, ⟨(some 118), none, .mov (.t 12)⟩, ⟨(some 119), none, .bin .sub (.t 118) (.c (.int .i64 1))⟩, ⟨(some 120), none, .iaddr 6 none (.t 117) (.t 119)⟩, ⟨(some 121), none, .load true 6 (.t 120)⟩, ⟨(some 122), none, .callv (.t 112) [(.t 116), (.t 121)]⟩, ⟨(some 123), none, .bin .lss (.t 122) (.c (.int .i64 0))⟩, ⟨(some 124), none, .un .not (.t 123)⟩] [])
 (.cond (.t 124) (.exit 6) .skip))
 (.drawn [⟨(some 125), none, .mov (.t 0)⟩, ⟨(some 126), none, .mov (.t 12)⟩, ⟨(some 127), none, .mov (.t 0)⟩, ⟨(some 128), none, .mov (.t 12)⟩, ⟨(some 129), none, .bin .sub (.t 128) (.c (.int .i64 1))⟩, ⟨(some 130), none, .mov (.t 0)⟩, ⟨(some 131), none, .mov (.t 12)⟩, ⟨(some 132), none, .bin .sub (.t 131) (.c (.int .i64 1))⟩, ⟨(some 133), none, .iaddr 6 none (.t 130) (.t 132)⟩, ⟨(some 134), none, .load true 6 (.t 133)⟩, ⟨(some 135), none, .mov (.t 0)⟩, ⟨(some 136), none, .mov (.t 12)⟩, ⟨(some 137), none, .iaddr 6 none (.t 135) (.t 136)⟩, ⟨(some 138), none, .load true 6 (.t 137)⟩, ⟨(some 139), none, .iaddr 6 none (.t 125) (.t 126)⟩, ⟨none, none, .store 6 (.t 139) (.t 134)⟩, ⟨(some 140), none, .iaddr 6 none (.t 127) (.t 129)⟩, ⟨none, none, .store 6 (.t 140) (.t 138)⟩] [])))
 (.ops [⟨(some 110), none, .mov (.t 12)⟩, ⟨(some 111), none, .bin .add (.t 110) (.c (.int .i64 1))⟩, ⟨(some 12), none, .mov (.t 111)⟩])))
def b85_3 : VCode := (.seq (.seq (.ops [⟨(some 15), none, .mov (.t 10)⟩, ⟨(some 16), none, .bin .lss (.t 15) (.c (.int .i64 5))⟩])
 (.cond (.t 16) .skip (.exit 0)))
 (.seq (.block 1 (.seq (.block 2 (.loop b85_0))
 (.seq (.seq (.ops [⟨(some 39), none, .mov (.t 9)⟩, ⟨(some 40), none, .mov (.t 2)⟩, ⟨(some 41), none, .bin .eql (.t 39) (.t 40)⟩])
 (.cond (.t 41) (.seq (.ops [⟨(some 8), none, .mov (.c (.bool true))⟩])
 .ret) .skip))
 (.seq (.seq (.ops [⟨(some 42), none, .mov (.t 2)⟩, ⟨(some 43), none, .mov (.t 1)⟩, ⟨(some 44), none, .bin .sub (.t 42) (.t 43)⟩, ⟨(some 45), none, .bin .lss (.t 44) (.c (.int .i64 50))⟩])
 (.cond (.t 45) (.seq (.ops [⟨(some 8), none, .mov (.c (.bool false))⟩])
 .ret) .skip))
 (.seq (.drawn [⟨(some 46), none, .mov (.t 0)⟩, ⟨(some 47), none, .mov (.t 9)⟩, ⟨(some 48), none, .mov (.t 0)⟩, ⟨(some 49), none, .mov (.t 9)⟩, ⟨(some 50), none, .bin .sub (.t 49) (.c (.int .i64 1))⟩, ⟨(some 51), none, .mov (.t 0)⟩, ⟨(some 52), none, .mov (.t 9)⟩, ⟨(some 53), none, .bin .sub (.t 52) (.c (.int .i64 1))⟩, ⟨(some 54), none, .iaddr 6 none (.t 51) (.t 53)⟩, ⟨(some 55), none, .load true 6 (.t 54)⟩, ⟨(some 56), none, .mov (.t 0)⟩, ⟨(some 57), none, .mov (.t 9)⟩, ⟨(some 58), none, .iaddr 6 none (.t 56) (.t 57)⟩, ⟨(some 59), none, .load true 6 (.t 58)⟩, ⟨(some 60), none, .iaddr 6 none (.t 46) (.t 47)⟩, ⟨none, none, .store 6 (.t 60) (.t 55)⟩, ⟨(some 61), none, .iaddr 6 none (.t 48) (.t 50)⟩, ⟨none, none, .store 6 (.t 61) (.t 59)⟩] [])
 (.seq (.seq (.ops [⟨(some 62), none, .mov (.t 9)⟩, ⟨(some 63), none, .mov (.t 1)⟩, ⟨(some 64), none, .bin .sub (.t 62) (.t 63)⟩, ⟨(some 65), none, .bin .geq (.t 64) (.c (.int .i64 2))⟩])
 (.cond (.t 65) (.seq (.ops [⟨(some 66), none, .mov (.t 9)⟩, ⟨(some 67), none, .bin .sub (.t 66) (.c (.int .i64 1))⟩, ⟨(some 11), none, .mov (.t 67)⟩])
 (.block 4 (.loop b85_1))) .skip))
 (.seq (.ops [⟨(some 101), none, .mov (.t 2)⟩, ⟨(some 102), none, .mov (.t 9)⟩, ⟨(some 103), none, .bin .sub (.t 101) (.t 102)⟩, ⟨(some 104), none, .bin .geq (.t 103) (.c (.int .i64 2))⟩])
 (.cond (.t 104) (.seq (.ops [⟨(some 105), none, .mov (.t 9)⟩, ⟨(some 106), none, .bin .add (.t 105) (.c (.int .i64 1))⟩, ⟨(some 12), none, .mov (.t 106)⟩])
 (.block 6 (.loop b85_2))) .skip))))))))
 (.ops [⟨(some 17), none, .mov (.t 10)⟩, ⟨(some 18), none, .bin .add (.t 17) (.c (.int .i64 1))⟩, ⟨(some 10), none, .mov (.t 18)⟩])))
/-- slices.partialInsertionSortCmpFunc[furlong/index.far] -/
def v85 : VFun := ⟨4, [(.tmp 8)], (.seq (.ops [⟨(some 8), none, .mov (.c (.bool false))⟩])
 (.seq (.ops [⟨(some 13), none, .mov (.t 1)⟩, ⟨(some 14), none, .bin .add (.t 13) (.c (.int .i64 1))⟩, ⟨(some 9), none, .mov (.t 14)⟩])
 (.seq (.seq (.ops [⟨(some 10), none, .mov (.c (.int .i64 0))⟩])
 (.block 0 (.loop b85_3)))
 (.seq (.ops [⟨(some 8), none, .mov (.c (.bool false))⟩])
 .ret))))⟩
def b86_0 : VCode := (.seq (.seq (.drawn [⟨(some 31), none, .mov (.t 11)⟩, ⟨(some 32), none, .mov (.t 12)⟩, ⟨(some 33), none, .bin .leq (.t 31) (.t 32)⟩, ⟨(some 34), none, .mov (.t 33)⟩, ⟨(some 35), (some (34, true)), .mov (.t 4)⟩, ⟨(some 36), (some (34, true)), .mov (.t 0)⟩, ⟨(some 37), (some (34, true)), .mov (.t 1)⟩, ⟨(some 38), (some (34, true)), .iaddr 6 none (.t 36) (.t 37)⟩, ⟨(some 39), (some (34, true)), .load true 6 (.t 38)⟩, ⟨(some 40), (some (34, true)), .mov (.t 0)⟩, ⟨(some 41), (some (34, true)), .mov (.t 11)⟩, ⟨(some 42), (some (34, true)), .iaddr 6 none (.t 40) (.t 41)⟩, ⟨(some 43), (some (34, true)), .load true 6 (.t 42)⟩, ⟨(some 44), (some (34, true)), .callv (.t 35) [(.t 39), (.t 43)]⟩, ⟨(some 45), (some (34, true)), .bin .lss (.t 44) (.c (.int .i64 0))⟩, ⟨(some 46), (some (34, true)), .un .not (.t 45)⟩, ⟨(some 47), none, .pick (.t 34) (.t 46) (.c (.bool false))⟩] [])
 (.cond (.t 47) .skip (.exit 2)))
 (.block 3 (.ops [⟨(some 48), none, .mov (.t 11)⟩, ⟨(some 49), none, .bin .add (.t 48) (.c (.int .i64 1))⟩, ⟨(some 11), none, .mov (.t 49)⟩])))
def b86_1 : VCode := (.seq (.seq (.drawn [⟨(some 50), none, .mov (.t 11)⟩, ⟨(some 51), none, .mov (.t 12)⟩, ⟨(some 52), none, .bin .leq (.t 50) (.t 51)⟩, ⟨(some 53), none, .mov (.t 52)⟩, ⟨(some 54), (some (53, true)), .mov (.t 4)⟩, ⟨(some 55), (some (53, true)), .mov (.t 0)⟩, ⟨(some 56), (some (53, true)), .mov (.t 1)⟩, ⟨(some 57), (some (53, true)), .iaddr 6 none (.t 55) (.t 56)⟩, ⟨(some 58), (some (53, true)), .load true 6 (.t 57)⟩, ⟨(some 59), (some (53, true)), .mov (.t 0)⟩, ⟨(some 60), (some (53, true)), .mov (.t 12)⟩, ⟨(some 61), (some (53, true)), .iaddr 6 none (.t 59) (.t 60)⟩, ⟨(some 62), (some (53, true)), .load true 6 (.t 61)⟩, ⟨(some 63), (some (53, true)), .callv (.t 54) [(.t 58), (.t 62)]⟩, ⟨(some 64), (some (53, true)), .bin .lss (.t 63) (.c (.int .i64 0))⟩, ⟨(some 65), none, .pick (.t 53) (.t 64) (.c (.bool false))⟩] [])
 (.cond (.t 65) .skip (.exit 4)))
 (.block 5 (.ops [⟨(some 66), none, .mov (.t 12)⟩, ⟨(some 67), none, .bin .sub (.t 66) (.c (.int .i64 1))⟩, ⟨(some 12), none, .mov (.t 67)⟩])))
def b86_2 : VCode := (.block 1 (.seq (.block 2 (.loop b86_0))
 (.seq (.block 4 (.loop b86_1))
 (.seq (.seq (.ops [⟨(some 68), none, .mov (.t 11)⟩, ⟨(some 69), none, .mov (.t 12)⟩, ⟨(some 70), none, .bin .gtr (.t 68) (.t 69)⟩])
 (.cond (.t 70) (.exit 0) .skip))
 (.seq (.drawn [⟨(some 71), none, .mov (.t 0)⟩, ⟨(some 72), none, .mov (.t 11)⟩, ⟨(some 73), none, .mov (.t 0)⟩, ⟨(some 74), none, .mov (.t 12)⟩, ⟨(some 75), none, .mov (.t 0)⟩, ⟨(some 76), none, .mov (.t 12)⟩, ⟨(some 77), none, .iaddr 6 none (.t 75) (.t 76)⟩, ⟨(some 78), none, .load true 6 (.t 77)⟩, ⟨(some 79), none, .mov (.t 0)⟩, ⟨(some 80), none, .mov (.t 11)⟩, ⟨(some 81), none, .iaddr 6 none (.t 79) (.t 80)⟩, ⟨(some 82), none, .load true 6 (.t 81)⟩, ⟨(some 83), none, .iaddr 6 none (.t 71) (.t 72)⟩, ⟨none, none, .store 6 (.t 83) (.t 78)⟩, ⟨(some 84), none, .iaddr 6 none (.t 73) (.t 74)⟩, ⟨none, none, .store 6 (.t 84) (.t 82)⟩] [])
 (.seq (.ops [⟨(some 85), none, .mov (.t 11)⟩, ⟨(some 86), none, .bin .add (.t 85) (.c (.int .i64 1))⟩, ⟨(some 11), none, .mov (.t 86)⟩])
 (.ops [⟨(some 87), none, .mov (.t 12)⟩, ⟨(some 88), none, .bin .sub (.t 87) (.c (.int .i64 1))⟩, ⟨(some 12), none, .mov (.t 88)⟩])))))))
/-- slices.partitionEqualCmpFunc[furlong/index.far] -/
def v86 : VFun := ⟨5, [(.tmp 10)], (.seq (.ops [⟨(some 10), none, .mov (.c (.int .i64 0))⟩])
 (.seq (.drawn [⟨(some 13), none, .mov (.t 0)⟩, ⟨(some 14), none, .mov (.t 1)⟩, ⟨(some 15), none, .mov (.t 0)⟩, ⟨(some 16), none, .mov (.t 3)⟩, ⟨(some 17), none, .mov (.t 0)⟩, ⟨(some 18), none, .mov (.t 3)⟩, ⟨(some 19), none, .iaddr 6 none (.t 17) (.t 18)⟩, ⟨(some 20), none, .load true 6 (.t 19)⟩, ⟨(some 21), none, .mov (.t 0)⟩, ⟨(some 22), none, .mov (.t 1)⟩, ⟨(some 23), none, .iaddr 6 none (.t 21) (.t 22)⟩, ⟨(some 24), none, .load true 6 (.t 23)⟩, ⟨(some 25), none, .iaddr 6 none (.t 13) (.t 14)⟩, ⟨none, none, .store 6 (.t 25) (.t 20)⟩, ⟨(some 26), none, .iaddr 6 none (.t 15) (.t 16)⟩, ⟨none, none, .store 6 (.t 26) (.t 24)⟩] [])
 (.seq (.ops [⟨(some 27), none, .mov (.t 1)⟩, ⟨(some 28), none, .bin .add (.t 27) (.c (.int .i64 1))⟩, ⟨(some 29), none, .mov (.t 2)⟩, ⟨(some 30), none, .bin .sub (.t 29) (.c (.int .i64 1))⟩, ⟨(some 11), none, .mov (.t 28)⟩, ⟨(some 12), none, .mov (.t 30)⟩])
 (.seq (.block 0 (.loop b86_2))
 (.seq (.ops [⟨(some 89), none, .mov (.t 11)⟩, ⟨(some 10), none, .mov (.t 89)⟩])
 .ret)))))⟩
def b87_0 : VCode := (.seq (.seq (.drawn [⟨(some 32), none, .mov (.t 12)⟩, ⟨(some 33), none, .mov (.t 13)⟩, ⟨(some 34), none, .bin .leq (.t 32) (.t 33)⟩, ⟨(some 35), none, .mov (.t 34)⟩, ⟨(some 36), (some (35, true)), .mov (.t 4)⟩, ⟨(some 37), (some (35, true)), .mov (.t 0)⟩, ⟨(some 38), (some (35, true)), .mov (.t 12)⟩, ⟨(some 39), (some (35, true)), .iaddr 6 none (.t 37) (.t 38)⟩, ⟨(some 40), (some (35, true)), .load true 6 (.t 39)⟩, ⟨(some 41), (some (35, true)), .mov (.t 0)⟩, ⟨(some 42), (some (35, true)), .mov (.t 1)⟩, ⟨(some 43), (some (35, true)), .iaddr 6 none (.t 41) (.t 42)⟩, ⟨(some 44), (some (35, true)), .load true 6 (.t 43)⟩, ⟨(some 45), (some (35, true)), .callv (.t 36) [(.t 40), (.t 44)]⟩, ⟨(some 46), (some (35, true)), .bin .lss (.t 45) (.c (.int .i64 0))⟩, ⟨(some 47), none, .pick (.t 35) (.t 46) (.c (.bool false))⟩] [])
 (.cond (.t 47) .skip (.exit 0)))
 (.block 1 (.ops [⟨(some 48), none, .mov (.t 12)⟩, ⟨(some 49), none, .bin .add (.t 48) (.c (.int .i64 1))⟩, ⟨(some 12), none, .mov (.t 49)⟩])))
def b87_1 : VCode := (.seq (.seq (.drawn [⟨(some 50), none, .mov (.t 12)⟩, ⟨(some 51), none, .mov (.t 13)⟩, ⟨(some 52), none, .bin .leq (.t 50) (.t 51)⟩, ⟨(some 53), none, .mov (.t 52)⟩, ⟨(some 54), (some (53, true)), .mov (.t 4)⟩, ⟨(some 55), (some (53, true)), .mov (.t 0)⟩, ⟨(some 56), (some (53, true)), .mov (.t 13)⟩, ⟨(some 57), (some (53, true)), .iaddr 6 none (.t 55) (.t 56)⟩, ⟨(some 58), (some (53, true)), .load true 6 (.t 57)⟩, ⟨(some 59), (some (53, true)), .mov (.t 0)⟩, ⟨(some 60), (some (53, true)), .mov (.t 1)⟩, ⟨(some 61), (some (53, true)), .iaddr 6 none (.t 59) (.t 60)⟩, ⟨(some 62), (some (53, true)), .load true 6 (.t 61)⟩, ⟨(some 63), (some (53, true)), .callv (.t 54) [(.t 58), (.t 62)]⟩, ⟨(some 64), (some (53, true)), .bin .lss (.t 63) (.c (.int .i64 0))⟩, ⟨(some 65), (some (53, true)), .un .not (.t 64)⟩, ⟨(some 66), none, .pick (.t 53) (.t 65) (.c (.bool false))⟩] [])
 (.cond (.t 66) .skip (.exit 2)))
 (.block 3 (.ops [⟨(some 67), none, .mov (.t 13)⟩, ⟨(some 68), none, .bin .sub (.t 67) (.c (.int .i64 1))⟩, ⟨(some 13), none, .mov (.t 68)⟩])))
def b87_2 : VCode := (.seq (.seq (.drawn [⟨(some 105), none, .mov (.t 12)⟩, ⟨(some 106), none, .mov (.t 13)⟩, ⟨(some 107), none, .bin .leq (.t 105) (.t 106)⟩, ⟨(some 108), none, .mov (.t 107)⟩, ⟨(some 109), (some (108, true)), .mov (.t 4)⟩, ⟨(some 110), (some (108, true)), .mov (.t 0)⟩, ⟨(some 111), (some (108, true)), .mov (.t 12)⟩, ⟨(some 112), (some (108, true)), .iaddr 6 none (.t 110) (.t 111)⟩, ⟨(some 113), (some (108, true)), .load true 6 (.t 112)⟩, ⟨(some 114), (some (108, true)), .mov (.t 0)⟩, ⟨(some 115), (some (108, true)), .mov (.t 1)⟩, ⟨(some 116), (some (108, true)), .iaddr 6 none (.t 114) (.t 115)⟩, ⟨(some 117), (some (108, true)), .load true 6 (.t 116)⟩, ⟨(some 118), (some (108, true)), .callv (.t 109) [(.t 113), (.t 117)]⟩, ⟨(some 119), (some (108, true)), .bin .lss (.t 118) (.c (.int .i64 0))⟩, ⟨(some 120), none, .pick (.t 108) (.t 119) (.c (.bool false))⟩] [])
 (.cond (.t 120) .skip (.exit 6)))
 (.block 7 (.ops [⟨(some 121), none, .mov (.t 12)⟩, ⟨(some 122), none, .bin .add (.t 121) (.c (.int .i64 1))⟩, ⟨(some 12), none, .mov (.t 122)⟩])))
def b87_3 : VCode := (.seq (.seq (.drawn [⟨(some 123), none, .mov (.t 12)⟩, ⟨(some 124), none, .mov (.t 13)⟩, ⟨(some 125), none, .bin .leq (.t 123) (.t 124)⟩, ⟨(some 126), none, .mov (.t 125)⟩, ⟨(some 127), (some (126, true)), .mov (.t 4)⟩, ⟨(some 128), (some (126, true)), .mov (.t 0)⟩, ⟨(some 129), (some (126, true)), .mov (.t 13)⟩, ⟨(some 130), (some (126, true)), .iaddr 6 none (.t 128) (.t 129)⟩, ⟨(some 131), (some (126, true)), .load true 6 (.t 130)⟩, ⟨(some 132), (some (126, true)), .mov (.t 0)⟩, ⟨(some 133), (some (126, true)), .mov (.t 1)⟩, ⟨(some 134), (some (126, true)), .iaddr 6 none (.t 132) (.t 133)⟩, ⟨(some 135), (some (126, true)), .load true 6 (.t 134)⟩, ⟨(some 136), (some (126, true)), .callv (.t 127) [(.t 131), (.t 135)]⟩, ⟨(some 137), (some (126, true)), .bin .lss (.t 136) (.c (.int .i64 0))⟩, ⟨(some 138), (some (126, true)), .un .not (.t 137)⟩, ⟨(some 139), none, .pick (.t 126) (.t 138) (.c (.bool false))⟩] [])
 (.cond (.t 139) .skip (.exit 8)))
 (.block 9 (.ops [⟨(some 140), none, .mov (.t 13)⟩, ⟨(some 141), none, .bin .sub (.t 140) (.c (.int .i64 1))⟩, ⟨(some 13), none, .mov (.t 141)⟩])))
def b87_4 : VCode := (.block 5 (.seq (.block 6 (.loop b87_2))
 (.seq (.block 8 (.loop b87_3))
 (.seq (.seq (.ops [⟨(some 142), none, .mov (.t 12)⟩, ⟨(some 143), none, .mov (.t 13)⟩, ⟨(some 144), none, .bin .gtr (.t 142) (.t 143)⟩])
 (.cond (.t 144) (.exit 4) .skip))
 (.seq (.drawn [⟨(some 145), none, .mov (.t 0)⟩, ⟨(some 146), none, .mov (.t 12)⟩, ⟨(some 147), none, .mov (.t 0)⟩, ⟨(some 148), none, .mov (.t 13)⟩, ⟨(some 149), none, .mov (.t 0)⟩, ⟨(some 150), none, .mov (.t 13)⟩, ⟨(some 151), none, .iaddr 6 none (.t 149) (.t 150)⟩, ⟨(some 152), none, .load true 6 (.t 151)⟩, ⟨(some 153), none, .mov (.t 0)⟩, ⟨(some 154), none, .mov (.t 12)⟩, ⟨(some 155), none, .iaddr 6 none (.t 153) (.t 154)⟩, ⟨(some 156), none, .load true 6 (.t 155)⟩, ⟨(some 157), none, .iaddr 6 none (.t 145) (.t 146)⟩, ⟨none, none, .store 6 (.t 157) (.t 152)⟩, ⟨(some 158), none, .iaddr 6 none (.t 147) (.t 148)⟩, ⟨none, none, .store 6 (.t 158) (.t 156)⟩] [])
 (.seq (.ops [⟨(some 159), none, .mov (.t 12)⟩, ⟨(some 160), none, .bin .add (.t 159) (.c (.int .i64 1))⟩, ⟨(some 12), none, .mov (.t 160)⟩])
 (.ops [⟨(some 161), none, .mov (.t 13)⟩, ⟨(some 162), none, .bin .sub (.t 161) (.c (.int .i64 1))⟩, ⟨(some 13), none, .mov (.t 162)⟩])))))))
/-- slices.partitionCmpFunc[furlong/index.far] -/
def v87 : VFun := ⟨5, [(.tmp 10), (.tmp 11)], (.seq (.ops [⟨(some 10), none, .mov (.c (.int .i64 0))⟩, ⟨(some 11), none, .mov (.c (.bool false))⟩])
 (.seq (.drawn [⟨(some 14), none, .mov (.t 0)⟩, ⟨(some 15), none, .mov (.t 1)⟩, ⟨(some 16), none, .mov (.t 0)⟩, ⟨(some 17), none, .mov (.t 3)⟩, ⟨(some 18), none, .mov (.t 0)⟩, ⟨(some 19), none, .mov (.t 3)⟩, ⟨(some 20), none, .iaddr 6 none (.t 18) (.t 19)⟩, ⟨(some 21), none, .load true 6 (.t 20)⟩, ⟨(some 22), none, .mov (.t 0)⟩, ⟨(some 23), none, .mov (.t 1)⟩, ⟨(some 24), none, .iaddr 6 none (.t 22) (.t 23)⟩, ⟨(some 25), none, .load true 6 (.t 24)⟩, ⟨(some 26), none, .iaddr 6 none (.t 14) (.t 15)⟩, ⟨none, none, .store 6 (.t 26) (.t 21)⟩, ⟨(some 27), none, .iaddr 6 none (.t 16) (.t 17)⟩, ⟨none, none, .store 6 (.t 27) (.t 25)⟩] [])
 (.seq (.ops [⟨(some 28), none, .mov (.t 1)⟩, ⟨(some 29), none, .bin .add (.t 28) (.c (.int .i64 1))⟩, ⟨(some 30), none, .mov (.t 2)⟩, ⟨(some 31), none, .bin .sub (.t 30) (.c (.int .i64 1))⟩, ⟨(some 12), none, .mov (.t 29)⟩, ⟨(some 13), none, .mov (.t 31)⟩])
 (.seq (.block 0 (.loop b87_0))
 (.seq (.block 2 (.loop b87_1))
 (.seq (.seq (.ops [⟨(some 69), none, .mov (.t 12)⟩, ⟨(some 70), none, .mov (.t 13)⟩, ⟨(some 71), none, .bin .gtr (.t 69) (.t 70)⟩])
 (.cond (.t 71) (.seq (.drawn [⟨(some 72), none, .mov (.t 0)⟩, ⟨(some 73), none, .mov (.t 13)⟩, ⟨(some 74), none, .mov (.t 0)⟩, ⟨(some 75), none, .mov (.t 1)⟩, ⟨(some 76), none, .mov (.t 0)⟩, ⟨(some 77), none, .mov (.t 1)⟩, ⟨(some 78), none, .iaddr 6 none (.t 76) (.t 77)⟩, ⟨(some 79), none, .load true 6 (.t 78)⟩, ⟨(some 80), none, .mov (.t 0)⟩, ⟨(some 81), none, .mov (.t 13)⟩, ⟨(some 82), none, .iaddr 6 none (.t 80) (.t 81)⟩, ⟨(some 83), none, .load true 6 (.t 82)⟩, ⟨(some 84), none, .iaddr 6 none (.t 72) (.t 73)⟩, ⟨none, none, .store 6 (.t 84) (.t 79)⟩, ⟨(some 85), none, .iaddr 6 none (.t 74) (.t 75)⟩, ⟨none, none, .store 6 (.t 85) (.t 83)⟩] [])
 (.seq (.ops [⟨(some 86), none, .mov (.t 13)⟩, ⟨(some 10), none, .mov (.t 86)⟩, ⟨(some 11), none, .mov (.c (.bool true))⟩])
 .ret)) .skip))
 (.seq (.drawn [⟨(some 87), none, .mov (.t 0)⟩, ⟨(some 88), none, .mov (.t 12)⟩, ⟨(some 89), none, .mov (.t 0)⟩, ⟨(some 90), none, .mov (.t 13)⟩, ⟨(some 91), none, .mov (.t 0)⟩, ⟨(some 92), none, .mov (.t 13)⟩, ⟨(some 93), none, .iaddr 6 none (.t 91) (.t 92)⟩, ⟨(some 94), none, .load true 6 (.t 93)⟩, ⟨(some 95), none, .mov (.t 0)⟩, ⟨(some 96), none, .mov (.t 12)⟩, ⟨(some 97), none, .iaddr 6 none (.t 95) (.t 96)⟩, ⟨(some 98), none, .load true 6 (.t 97)⟩, ⟨(some 99), none, .iaddr 6 none (.t 87) (.t 88)⟩, ⟨none, none, .store 6 (.t 99) (.t 94)⟩, ⟨(some 100), none, .iaddr 6 none (.t 89) (.t 90)⟩, ⟨none, none, .store 6 (.t 100) (.t 98)⟩] [])
 (.seq (.ops [⟨(some 101), none, .mov (.t 12)⟩, ⟨(some 102), none, .bin .add (.t 101) (.c (.int .i64 1))⟩, ⟨(some 12), none, .mov (.t 102)⟩])
 (.seq (.ops [⟨(some 103), none, .mov (.t 13)⟩, ⟨(some 104), none, .bin .sub (.t 103) (.c (.int .i64 1))⟩, ⟨(some 13), none, .mov (.t 104)⟩])
 (.seq (.block 4 (.loop b87_4))
 (.seq (.drawn [⟨(some 163), none, .mov (.t 0)⟩, ⟨(some 164), none, .mov (.t 13)⟩, ⟨(some 165), none, .mov (.t 0)⟩, ⟨(some 166), none, .mov (.t 1)⟩, ⟨(some 167), none, .mov (.t 0)⟩, ⟨(some 168), none, .mov (.t 1)⟩, ⟨(some 169), none, .iaddr 6 none (.t 167) (.t 168)⟩, ⟨(some 170), none, .load true 6 (.t 169)⟩, ⟨(some 171), none, .mov (.t 0)⟩, ⟨(some 172), none, .mov (.t 13)⟩, ⟨(some 173), none, .iaddr 6 none (.t 171) (.t 172)⟩, ⟨(some 174), none, .load true 6 (.t 173)⟩, ⟨(some 175), none, .iaddr 6 none (.t 163) (.t 164)⟩, ⟨none, none, .store 6 (.t 175) (.t 170)⟩, ⟨(some 176), none, .iaddr 6 none (.t 165) (.t 166)⟩, ⟨none, none, .store 6 (.t 176) (.t 174)⟩] [])
 (.seq (.ops [⟨(some 177), none, .mov (.t 13)⟩, ⟨(some 10), none, .mov (.t 177)⟩, ⟨(some 11), none, .mov (.c (.bool false))⟩])
 .ret))))))))))))⟩
/-- math/bits.Len32 -/
def v88 : VFun := ⟨1, [(.tmp 2)], (.seq (.ops [⟨(some 2), none, .mov (.c (.int .i64 0))⟩])
 (.seq (.seq (.ops [⟨(some 3), none, .mov (.t 0)⟩, ⟨(some 4), none, .bin .geq (.t 3) (.c (.int .u32 65536))⟩])
 (.cond (.t 4) (.seq (.ops [⟨(some 5), none, .mov (.t 0)⟩, ⟨(some 6), none, .bin .shr (.t 5) (.c (.int .u64 16))⟩, ⟨(some 0), none, .mov (.t 6)⟩])
 (.ops [⟨(some 2), none, .mov (.c (.int .i64 16))⟩])) .skip))
 (.seq (.seq (.ops [⟨(some 7), none, .mov (.t 0)⟩, ⟨(some 8), none, .bin .geq (.t 7) (.c (.int .u32 256))⟩])
 (.cond (.t 8) (.seq (.ops [⟨(some 9), none, .mov (.t 0)⟩, ⟨(some 10), none, .bin .shr (.t 9) (.c (.int .u64 8))⟩, ⟨(some 0), none, .mov (.t 10)⟩])
 (.ops [⟨(some 11), none, .mov (.t 2)⟩, ⟨(some 12), none, .bin .add (.t 11) (.c (.int .i64 8))⟩, ⟨(some 2), none, .mov (.t 12)⟩])) .skip))
 (.seq (.ops [⟨(some 13), none, .mov (.t 2)⟩, ⟨(some 14), none, .mov (.t 0)⟩, ⟨(some 15), none, .conv (.int .u8) (.t 14)⟩, ⟨(some 16), none, .indexS (.c (.str [0, 1, 2, 2, 3, 3, 3, 3, 4, 4, 4, 4, 4, 4, 4, 4, 5, 5, 5, 5, 5, 5, 5, 5, 5, 5, 5, 5, 5, 5, 5, 5, 6, 6, 6, 6, 6, 6, 6, 6, 6, 6, 6, 6, 6, 6, 6, 6, 6, 6, 6, 6, 6, 6, 6, 6, 6, 6, 6, 6, 6, 6, 6, 6, 7, 7, 7, 7, 7, 7, 7, 7, 7, 7, 7, 7, 7, 7, 7, 7, 7, 7, 7, 7, 7, 7, 7, 7, 7, 7, 7, 7, 7, 7, 7, 7, 7, 7, 7, 7, 7, 7, 7, 7, 7, 7, 7, 7, 7, 7, 7, 7, 7, 7, 7, 7, 7, 7, 7, 7, 7, 7, 7, 7, 7, 7, 7, 7, 8, 8, 8, 8, 8, 8, 8, 8, 8, 8, 8, 8, 8, 8, 8, 8, 8, 8, 8, 8, 8, 8, 8, 8, 8, 8, 8, 8, 8, 8, 8, 8, 8, 8, 8, 8, 8, 8, 8, 8, 8, 8, 8, 8, 8, 8, 8, 8, 8, 8, 8, 8, 8, 8, 8, 8, 8, 8, 8, 8, 8, 8, 8, 8, 8, 8, 8, 8, 8, 8, 8, 8, 8, 8, 8, 8, 8, 8, 8, 8, 8, 8, 8, 8, 8, 8, 8, 8, 8, 8, 8, 8, 8, 8, 8, 8, 8, 8, 8, 8, 8, 8, 8, 8, 8, 8, 8, 8, 8, 8, 8, 8, 8, 8, 8, 8, 8, 8, 8, 8, 8, 8, 8, 8, 8, 8, 8, 8])) (.t 15)⟩, ⟨(some 17), none, .conv (.int .i64) (.t 16)⟩, ⟨(some 18), none, .bin .add (.t 13) (.t 17)⟩, ⟨(some 2), none, .mov (.t 18)⟩])
 .ret))))⟩
/-- math/bits.Len64 -/
def v89 : VFun := ⟨1, [(.tmp 2)], (.seq (.ops [⟨(some 2), none, .mov (.c (.int .i64 0))⟩])
 (.seq (.seq (.ops [⟨(some 3), none, .mov (.t 0)⟩, ⟨(some 4), none, .bin .geq (.t 3) (.c (.int .u64 4294967296))⟩])
 (.cond (.t 4) (.seq (.ops [⟨(some 5), none, .mov (.t 0)⟩, ⟨(some 6), none, .bin .shr (.t 5) (.c (.int .u64 32))⟩, ⟨(some 0), none, .mov (.t 6)⟩])
 (.ops [⟨(some 2), none, .mov (.c (.int .i64 32))⟩])) .skip))
 (.seq (.seq (.ops [⟨(some 7), none, .mov (.t 0)⟩, ⟨(some 8), none, .bin .geq (.t 7) (.c (.int .u64 65536))⟩])
 (.cond (.t 8) (.seq (.ops [⟨(some 9), none, .mov (.t 0)⟩, ⟨(some 10), none, .bin .shr (.t 9) (.c (.int .u64 16))⟩, ⟨(some 0), none, .mov (.t 10)⟩])
 (.ops [⟨(some 11), none, .mov (.t 2)⟩, ⟨(some 12), none, .bin .add (.t 11) (.c (.int .i64 16))⟩, ⟨(some 2), none, .mov (.t 12)⟩])) .skip))
 (.seq (.seq (.ops [⟨(some 13), none, .mov (.t 0)⟩, ⟨(some 14), none, .bin .geq (.t 13) (.c (.int .u64 256))⟩])
 (.cond (.t 14) (.seq (.ops [⟨(some 15), none, .mov (.t 0)⟩, ⟨(some 16), none, .bin .shr (.t 15) (.c (.int .u64 8))⟩, ⟨(some 0), none, .mov (.t 16)⟩])
 (.ops [⟨(some 17), none, .mov (.t 2)⟩, ⟨(some 18), none, .bin .add (.t 17) (.c (.int .i64 8))⟩, ⟨(some 2), none, .mov (.t 18)⟩])) .skip))
 (.seq (.ops [⟨(some 19), none, .mov (.t 2)⟩, ⟨(some 20), none, .mov (.t 0)⟩, ⟨(some 21), none, .conv (.int .u8) (.t 20)⟩, ⟨(some 22), none, .indexS (.c (.str [0, 1, 2, 2, 3, 3, 3, 3, 4, 4, 4, 4, 4, 4, 4, 4, 5, 5, 5, 5, 5, 5, 5, 5, 5, 5, 5, 5, 5, 5, 5, 5, 6, 6, 6, 6, 6, 6, 6, 6, 6, 6, 6, 6, 6, 6, 6, 6, 6, 6, 6, 6, 6, 6, 6, 6, 6, 6, 6, 6, 6, 6, 6, 6, 7, 7, 7, 7, 7, 7, 7, 7, 7, 7, 7, 7, 7, 7, 7, 7, 7, 7, 7, 7, 7, 7, 7, 7, 7, 7, 7, 7, 7, 7, 7, 7, 7, 7, 7, 7, 7, 7, 7, 7, 7, 7, 7, 7, 7, 7, 7, 7, 7, 7, 7, 7, 7, 7, 7, 7, 7, 7, 7, 7, 7, 7, 7, 7, 8, 8, 8, 8, 8, 8, 8, 8, 8, 8, 8, 8, 8, 8, 8, 8, 8, 8, 8, 8, 8, 8, 8, 8, 8, 8, 8, 8, 8, 8, 8, 8, 8, 8, 8, 8, 8, 8, 8, 8, 8, 8, 8, 8, 8, 8, 8, 8, 8, 8, 8, 8, 8, 8, 8, 8, 8, 8, 8, 8, 8, 8, 8, 8, 8, 8, 8, 8, 8, 8, 8, 8, 8, 8, 8, 8, 8, 8, 8, 8, 8, 8, 8, 8, 8, 8, 8, 8, 8, 8, 8, 8, 8, 8, 8, 8, 8, 8, 8, 8, 8, 8, 8, 8, 8, 8, 8, 8, 8, 8, 8, 8, 8, 8, 8, 8, 8, 8, 8, 8, 8, 8, 8, 8, 8, 8, 8, 8])) (.t 21)⟩, ⟨(some 23), none, .conv (.int .i64) (.t 22)⟩, ⟨(some 24), none, .bin .add (.t 19) (.t 23)⟩, ⟨(some 2), none, .mov (.t 24)⟩])
 .ret)))))⟩
/-- cmp.isNaN[uint64] -/
def v90 : VFun := ⟨1, [(.tmp 2)], (.seq (.ops [⟨(some 2), none, .mov (.c (.bool false))⟩])
 (.seq (.ops [⟨(some 3), none, .mov (.t 0)⟩, ⟨(some 4), none, .mov (.t 0)⟩, ⟨(some 5), none, .bin .neq (.t 3) (.t 4)⟩, ⟨(some 2), none, .mov (.t 5)⟩])
 .ret))⟩
def b91_0 : VCode := (.block 1 (.seq (.ops [⟨(some 13), none, .mov (.t 10)⟩, ⟨(some 14), none, .bin .mul (.c (.int .i64 2)) (.t 13)⟩, ⟨(some 15), none, .bin .add (.t 14) (.c (.int .i64 1))⟩, ⟨(some 11), none, .mov (.t 15)⟩])
 (.seq (.seq (.ops [⟨(some 16), none, .mov (.t 11)⟩, ⟨(some 17), none, .mov (.t 2)⟩, ⟨(some 18), none, .bin .geq (.t 16) (.t 17)⟩])
 (.cond (.t 18) (.exit 0) .skip))
 (.seq (.seq (.drawn [⟨(some 19), none, .mov (.t 11)⟩, ⟨(some 20), none, .bin .add (.t 19) (.c (.int .i64 1))⟩, ⟨(some 21), none, .mov (.t 2)⟩, ⟨(some 22), none, .bin .lss (.t 20) (.t 21)⟩, ⟨(some 23), none, .mov (.t 22)⟩, ⟨(some 24), (some (23, true)), .mov (.t 4)⟩, ⟨(some 25), (some (23, true)), .mov (.t 0)⟩, ⟨(some 26), (some (23, true)), .mov (.t 3)⟩, ⟨(some 27), (some (23, true)), .mov (.t 11)⟩, ⟨(some 28), (some (23, true)), .bin .add (.t 26) (.t 27)⟩, ⟨(some 29), (some (23, true)), .iaddr 6 none (.t 25) (.t 28)⟩, ⟨(some 30), (some (23, true)), .load true 6 (.t 29)⟩, ⟨(some 31), (some (23, true)), .mov (.t 0)⟩, ⟨(some 32), (some (23, true)), .mov (.t 3)⟩, ⟨(some 33), (some (23, true)), .mov (.t 11)⟩, ⟨(some 34), (some (23, true)), .bin .add (.t 32) (.t 33)⟩, ⟨(some 35), (some (23, true)), .bin .add (.t 34) (.c (.int .i64 1))⟩, ⟨(some 36), (some (23, true)), .iaddr 6 none (.t 31) (.t 35)⟩, ⟨(some 37), (some (23, true)), .load true 6 (.t 36)⟩, ⟨(some 38), (some (23, true)), .callv (.t 24) [(.t 30), (.t 37)]⟩, ⟨(some 39), (some (23, true)), .bin .lss (.t 38) (.c (.int .i64 0))⟩, ⟨(some 40), none, .pick (.t 23) (.t 39) (.c (.bool false))⟩] [])
 (.cond (.t 40) (.ops [⟨(some 41), none, .mov (.t 11)⟩, ⟨(some 42), none, .bin .add (.t 41) (.c (.int .i64 1))⟩, ⟨(some 11), none, .mov (.t 42)⟩]) .skip))
 (.seq (.seq (.drawn [⟨(some 43), none, .mov (.t 4)⟩, ⟨(some 44), none, .mov (.t 0)⟩, ⟨(some 45), none, .mov (.t 3)⟩, ⟨(some 46), none, .mov (.t 10)⟩, ⟨(some 47), none, .bin .add (.t 45) (.t 46)⟩, ⟨(some 48), none, .iaddr 6 none (.t 44) (.t 47)⟩, ⟨(some 49), none, .load true 6 (.t 48)⟩, ⟨(some 50), none, .mov (.t 0)⟩, ⟨(some 51), none, .mov (.t 3)⟩, ⟨(some 52), none, .mov (.t 11)⟩, ⟨(some 53), none, .bin .add (.t 51) (.t 52)⟩, ⟨(some 54), none, .iaddr 6 none (.t 50) (.t 53)⟩, ⟨(some 55), none, .load true 6 (.t 54)⟩, ⟨(some 56), none, .callv (.t 43) [(.t 49), (.t 55)]⟩, ⟨(some 57), none, .bin .lss (.t 56) (.c (.int .i64 0))⟩, ⟨(some 58), none, .un .not (.t 57)⟩] [])
 (.cond (.t 58) .ret .skip))
 (.seq (.drawn [⟨(some 59), none, .mov (.t 0)⟩, ⟨(some 60), none, .mov (.t 3)⟩, ⟨(some 61), none, .mov (.t 10)⟩, ⟨(some 62), none, .bin .add (.t 60) (.t 61)⟩, ⟨(some 63), none, .mov (.t 0)⟩, ⟨(some 64), none, .mov (.t 3)⟩, ⟨(some 65), none, .mov (.t 11)⟩, ⟨(some 66), none, .bin .add (.t 64) (.t 65)⟩, ⟨(some 67), none, .mov (.t 0)⟩, ⟨(some 68), none, .mov (.t 3)⟩, ⟨(some 69), none, .mov (.t 11)⟩, ⟨(some 70), none, .bin .add (.t 68) (.t 69)⟩, ⟨(some 71), none, .iaddr 6 none (.t 67) (.t 70)⟩, ⟨(some 72), none, .load true 6 (.t 71)⟩, ⟨(some 73), none, .mov (.t 0)⟩, ⟨(some 74), none, .mov (.t 3)⟩, ⟨(some 75), none, .mov (.t 10)⟩, ⟨(some 76), none, .bin .add (.t 74) (.t 75)⟩, ⟨(some 77), none, .iaddr 6 none (.t 73) (.t 76)⟩, ⟨(some 78), none, .load true 6 (.t 77)⟩, ⟨(some 79), none, .iaddr 6 none (.t 59) (.t 62)⟩, ⟨none, none, .store 6 (.t 79) (.t 72)⟩, ⟨(some 80), none, .iaddr 6 none (.t 63) (.t 66)⟩, ⟨none, none, .store 6 (.t 80) (.t 78)⟩] [])
 (.ops [⟨(some 81), none, .mov (.t 11)⟩, ⟨(some 10), none, .mov (.t 81)⟩])))))))
/-- slices.siftDownCmpFunc[furlong/index.far] -/
def v91 : VFun := ⟨5, [], (.seq (.ops [⟨(some 12), none, .mov (.t 1)⟩, ⟨(some 10), none, .mov (.t 12)⟩])
 (.block 0 (.loop b91_0)))⟩
/-- slices.nextPowerOfTwo -/
def v92 : VFun := ⟨1, [(.tmp 2)], (.seq (.ops [⟨(some 2), none, .mov (.c (.int .u64 0))⟩])
 (.seq (.ops [⟨(some 3), none, .mov (.t 0)⟩, ⟨(some 4), none, .conv (.int .u64) (.t 3)⟩, ⟨(some 5), none, .call 76 [(.t 4)]⟩, ⟨(some 6), none, .bin .shl (.c (.int .u64 1)) (.t 5)⟩, ⟨(some 2), none, .mov (.t 6)⟩])
 .ret))⟩
/-- (*slices.xorshift).Next -/
def v93 : VFun := ⟨1, [(.tmp 2)], (.seq (.ops [⟨(some 2), none, .mov (.c (.int .u64 0))⟩])
 (.seq (.drawn [⟨(some 3), none, .mov (.t 0)⟩, ⟨(some 4), none, .nilck (.t 3)⟩, ⟨(some 5), none, .load false 1 (.t 4)⟩, ⟨(some 6), none, .mov (.t 0)⟩, ⟨(some 7), none, .nilck (.t 6)⟩, ⟨(some 8), none, .load false 1 (.t 7)⟩, ⟨(some 9), none, .bin .shl (.t 8) (.c (.int .u64 13))⟩, ⟨(some 10), none, .bin .xor (.t 5) (.t 9)⟩, ⟨(some 11), none, .nilck (.t 3)⟩, ⟨none, none, .store 1 (.t 11) (.t 10)⟩] [])
 (.seq (.drawn [⟨(some 12), none, .mov (.t 0)⟩, ⟨(some 13), none, .nilck (.t 12)⟩, ⟨(some 14), none, .load false 1 (.t 13)⟩, ⟨(some 15), none, .mov (.t 0)⟩, ⟨(some 16), none, .nilck (.t 15)⟩, ⟨(some 17), none, .load false 1 (.t 16)⟩, ⟨(some 18), none, .bin .shr (.t 17) (.c (.int .u64 7))⟩, ⟨(some 19), none, .bin .xor (.t 14) (.t 18)⟩, ⟨(some 20), none, .nilck (.t 12)⟩, ⟨none, none, .store 1 (.t 20) (.t 19)⟩] [])
 (.seq (.drawn [⟨(some 21), none, .mov (.t 0)⟩, ⟨(some 22), none, .nilck (.t 21)⟩, ⟨(some 23), none, .load false 1 (.t 22)⟩, ⟨(some 24), none, .mov (.t 0)⟩, ⟨(some 25), none, .nilck (.t 24)⟩, ⟨(some 26), none, .load false 1 (.t 25)⟩, ⟨(some 27), none, .bin .shl (.t 26) (.c (.int .u64 17))⟩, ⟨(some 28), none, .bin .xor (.t 23) (.t 27)⟩, ⟨(some 29), none, .nilck (.t 21)⟩, ⟨none, none, .store 1 (.t 29) (.t 28)⟩] [])
 (.seq (.ops [⟨(some 30), none, .mov (.t 0)⟩, ⟨(some 31), none, .nilck (.t 30)⟩, ⟨(some 32), none, .load false 1 (.t 31)⟩, ⟨(some 2), none, .mov (.t 32)⟩])
 .ret)))))⟩
/-- slices.medianAdjacentCmpFunc[furlong/index.far] -/
def v94 : VFun := ⟨4, [(.tmp 8)], (.seq (.ops [⟨(some 8), none, .mov (.c (.int .i64 0))⟩])
 (.seq (.ops [⟨(some 9), none, .mov (.t 0)⟩, ⟨(some 10), none, .mov (.t 1)⟩, ⟨(some 11), none, .bin .sub (.t 10) (.c (.int .i64 1))⟩, ⟨(some 12), none, .mov (.t 1)⟩, ⟨(some 13), none, .mov (.t 1)⟩, ⟨(some 14), none, .bin .add (.t 13) (.c (.int .i64 1))⟩, ⟨(some 15), none, .mov (.t 2)⟩, ⟨(some 16), none, .mov (.t 3)⟩, ⟨(some 17), none, .call 95 [(.t 9), (.t 11), (.t 12), (.t 14), (.t 15), (.t 16)]⟩, ⟨(some 8), none, .mov (.t 17)⟩])
 .ret))⟩
/-- slices.medianCmpFunc[furlong/index.far] -/
def v95 : VFun := ⟨6, [(.tmp 12)], (.seq (.ops [⟨(some 12), none, .mov (.c (.int .i64 0))⟩])
 (.seq (.ops [⟨(some 14), none, .mov (.t 0)⟩, ⟨(some 15), none, .mov (.t 1)⟩, ⟨(some 16), none, .mov (.t 2)⟩, ⟨(some 17), none, .mov (.t 4)⟩, ⟨(some 18), none, .mov (.t 5)⟩, ⟨(some 19), none, .call 96 [(.t 14), (.t 15), (.t 16), (.t 17), (.t 18)]⟩, ⟨(some 13), none, .mov (.t 19)⟩, ⟨(some 20), none, .extract (.t 13) 0⟩, ⟨(some 21), none, .extract (.t 13) 1⟩, ⟨(some 1), none, .mov (.t 20)⟩, ⟨(some 2), none, .mov (.t 21)⟩])
 (.seq (.ops [⟨(some 23), none, .mov (.t 0)⟩, ⟨(some 24), none, .mov (.t 2)⟩, ⟨(some 25), none, .mov (.t 3)⟩, ⟨(some 26), none, .mov (.t 4)⟩, ⟨(some 27), none, .mov (.t 5)⟩, ⟨(some 28), none, .call 96 [(.t 23), (.t 24), (.t 25), (.t 26), (.t 27)]⟩, ⟨(some 22), none, .mov (.t 28)⟩, ⟨(some 29), none, .extract (.t 22) 0⟩, ⟨(some 30), none, .extract (.t 22) 1⟩, ⟨(some 2), none, .mov (.t 29)⟩, ⟨(some 3), none, .mov (.t 30)⟩])
 (.seq (.ops [⟨(some 32), none, .mov (.t 0)⟩, ⟨(some 33), none, .mov (.t 1)⟩, ⟨(some 34), none, .mov (.t 2)⟩, ⟨(some 35), none, .mov (.t 4)⟩, ⟨(some 36), none, .mov (.t 5)⟩, ⟨(some 37), none, .call 96 [(.t 32), (.t 33), (.t 34), (.t 35), (.t 36)]⟩, ⟨(some 31), none, .mov (.t 37)⟩, ⟨(some 38), none, .extract (.t 31) 0⟩, ⟨(some 39), none, .extract (.t 31) 1⟩, ⟨(some 1), none, .mov (.t 38)⟩, ⟨(some 2), none, .mov (.t 39)⟩])
 (.seq (.ops [⟨(some 40), none, .mov (.t 2)⟩, ⟨(some 12), none, .mov (.t 40)⟩])
 .ret)))))⟩
/-- slices.order2CmpFunc[furlong/index.far] -/
def v96 : VFun := ⟨5, [(.tmp 10), (.tmp 11)], (.seq (.ops [⟨(some 10), none, .mov (.c (.int .i64 0))⟩, ⟨(some 11), none, .mov (.c (.int .i64 0))⟩])
 (.seq (.seq (.drawn [⟨(some 12), none, .mov (.t 4)⟩, ⟨(some 13), none, .mov (.t 0)⟩, ⟨(some 14), none, .mov (.t 2)⟩, ⟨(some 15), none, .iaddr 6 none (.t 13) (.t 14)⟩, ⟨(some 16), none, .load true 6 (.t 15)⟩, ⟨(some 17), none, .mov (.t 0)⟩, ⟨(some 18), none, .mov (.t 1)⟩, ⟨(some 19), none, .iaddr 6 none (.t 17) (.t 18)⟩, ⟨(some 20), none, .load true 6 (.t 19)⟩, ⟨(some 21), none, .callv (.t 12) [(.t 16), (.t 20)]⟩, ⟨(some 22), none, .bin .lss (.t 21) (.c (.int .i64 0))⟩] [])
 (.cond (.t 22) (.seq (.ops [⟨(some 23), none, .mov (.t 3)⟩, ⟨(some 24), none, .nilck (.t 23)⟩, ⟨(some 25), none, .load false 1 (.t 24)⟩, ⟨(some 26), none, .bin .add (.t 25) (.c (.int .i64 1))⟩, ⟨(some 27), none, .nilck (.t 23)⟩, ⟨none, none, .store 1 (.t 27) (.t 26)⟩])
 (.seq (.ops [⟨(some 28), none, .mov (.t 2)⟩, ⟨(some 29), none, .mov (.t 1)⟩, ⟨(some 10), none, .mov (.t 28)⟩, ⟨(some 11), none, .mov (.t 29)⟩])
 .ret)) .skip))
 (.seq (.ops [⟨(some 30), none, .mov (.t 1)⟩, ⟨(some 31), none, .mov (.t 2)⟩, ⟨(some 10), none, .mov (.t 30)⟩, ⟨(some 11), none, .mov (.t 31)⟩])
 .ret)))⟩
def tab : Nat → Option VFun := tableOf [(5, v5), (6, v6), (7, v7), (8, v8), (10, v10), (12, v12), (13, v13), (14, v14), (15, v15), (16, v16), (17, v17), (18, v18), (19, v19), (20, v20), (21, v21), (23, v23), (24, v24), (25, v25), (26, v26), (27, v27), (28, v28), (29, v29), (30, v30), (31, v31), (32, v32), (35, v35), (36, v36), (37, v37), (38, v38), (39, v39), (40, v40), (41, v41), (42, v42), (43, v43), (44, v44), (45, v45), (46, v46), (47, v47), (48, v48), (49, v49), (50, v50), (51, v51), (52, v52), (53, v53), (54, v54), (56, v56), (57, v57), (58, v58), (59, v59), (60, v60), (61, v61), (62, v62), (63, v63), (64, v64), (65, v65), (66, v66), (67, v67), (68, v68), (69, v69), (71, v71), (72, v72), (73, v73), (74, v74), (75, v75), (76, v76), (77, v77), (78, v78), (79, v79), (80, v80), (81, v81), (82, v82), (83, v83), (84, v84), (85, v85), (86, v86), (87, v87), (88, v88), (89, v89), (90, v90), (91, v91), (92, v92), (93, v93), (94, v94), (95, v95), (96, v96)]
end Go.Proofs.Ytpfpngmfooagiaa.VM
set_option linter.unusedSimpArgs false
set_option linter.unusedVariables false
set_option linter.defProp false
set_option maxHeartbeats 1000000
namespace Go.Proofs.Ytpfpngmfooagiaa.VM
attribute [local irreducible] Af Nx EvO Ev Un Gd Cd EvR EvQ EvC Nc Gc Lp EvM NxM AfM GdM EvMR EvMQ EvMD EvMC Nm Gm
section
variable {P : Program}
def coordOk (x : Int) : Prop := 0 ≤ x ∧ x ≤ 4294967295
instance (x : Int) : Decidable (coordOk x) := by unfold coordOk; infer_instance
def ptOk (p : Pt) : Prop := coordOk p.x ∧ coordOk p.y
instance (p : Pt) : Decidable (ptOk p) := by unfold ptOk; infer_instance
theorem coord_pu (g : Pg P tab) (a : Int) : Pu P 36 [.int .i64 a] (fun v => v = .bool (decide (coordOk a))) := by
  refine g.pu (vf := v36) rfl rfl ?_
  simp +contextual (maxSteps := 2000000) (disch := omega) only [v36, coordOk, RX, VOp.fresh, bxC, bsC, un, most, callsOf, seval, Int.reducePow, ↓reduceIte, Nat.reduceEqDiff, reduceCtorEq]
theorem pointMay_pu (g : Pg P tab) (p : Pt) : Pu P 26 [.agg [.int .i64 p.x, .int .i64 p.y]] (fun v => v = .bool (decide (ptOk p))) := by
  refine g.pu (vf := v26) rfl rfl ?_
  simp +contextual (maxSteps := 2000000) (disch := omega) only [v26, RX, VOp.fresh, bxC, bsC, un, most, callsOf, seval, Int.reducePow, ↓reduceIte, Nat.reduceEqDiff, reduceCtorEq]
  refine (coord_pu g _).go rfl ?_
  rintro v rfl
  simp +contextual (maxSteps := 2000000) (disch := omega) only [RX, VOp.fresh, bxC, bsC, un, most, callsOf, seval, Int.reducePow, ↓reduceIte, Nat.reduceEqDiff, reduceCtorEq]
  refine ⟨fun h1 => ?_, fun h1 => ?_⟩
  · refine (coord_pu g _).go rfl ?_
    rintro v rfl
    simp +contextual (maxSteps := 2000000) (disch := omega) only [h1, ptOk, RX, VOp.fresh, bxC, bsC, un, most, callsOf, seval, Int.reducePow, ↓reduceIte, Nat.reduceEqDiff, reduceCtorEq]
  · simp +contextual (maxSteps := 2000000) (disch := omega) only [h1, ptOk, RX, VOp.fresh, bxC, bsC, un, most, callsOf, seval, Int.reducePow, ↓reduceIte, Nat.reduceEqDiff, reduceCtorEq]
def mpZero (m : Mp) : Prop := m.epoch = 0 ∧ m.starts = [] ∧ m.owners = []
theorem len0 {α : Type} {l : List α} : ((l.length : Int) = 0) = (l = []) := by
  rw [eq_iff_iff]; cases l <;> simp <;> omega
theorem noMap_pu (g : Pg P tab) {m : Mp} {v u : AV} (hv : IsL 8 RInt v m.starts) (hu : IsL 8 RInt u m.owners) (r : List AV) : Pu P 51 [.rp (.int .i64 m.epoch :: v :: u :: r)] (IsB (mpZero m)) := by
  refine g.pu (vf := v51) rfl rfl ?_
  simp +contextual (maxSteps := 2000000) (disch := omega) only [v51, hv.len, hu.len, mpZero, len0, RX, VOp.fresh, bxC, bsC, un, most, callsOf, seval, Int.reducePow, ↓reduceIte, Nat.reduceEqDiff, reduceCtorEq]
def ftZero (f : Feat) : Prop := f.id = 0 ∧ f.shape = 0 ∧ f.rings = []
theorem noFeature_pu (g : Pg P tab) {f : Feat} {v : AV} (hv : IsL 24 RRing v f.rings) (r : List AV) : Pu P 52 [.rp (.int .i64 f.id :: .int .i64 f.shape :: v :: r)] (IsB (ftZero f)) := by
  refine g.pu (vf := v52) rfl rfl ?_
  simp +contextual (maxSteps := 2000000) (disch := omega) only [v52, hv.len, ftZero, len0, RX, VOp.fresh, bxC, bsC, un, most, callsOf, seval, Int.reducePow, ↓reduceIte, Nat.reduceEqDiff, reduceCtorEq]
def mpAt (nodes : Int) (m : Mp) (i : Nat) : Prop := m.starts.getD i 0 < 4294967296 ∧ (i = 0 ∨ m.starts.getD (i - 1) 0 < m.starts.getD i 0) ∧ 0 ≤ m.owners.getD i 0 ∧ m.owners.getD i 0 < nodes
def mpOk (nodes : Int) (m : Mp) : Prop := 1 ≤ nodes ∧ nodes ≤ 8 ∧ 1 ≤ m.epoch ∧ m.epoch ≤ 65535 ∧ 1 ≤ m.starts.length ∧ m.starts.length ≤ 32 ∧ m.owners.length = m.starts.length ∧ m.starts.getD 0 0 = 0 ∧ ∀ i, i < m.starts.length → mpAt nodes m i
theorem getInt {v : AV} {l : List Int} (h : IsL 8 RInt v l) (i : Nat) (hi : i < l.length) : ∃ r, AV.tolds r = true ∧ ∀ (hh : Heap) (kk : IntKind), iaV hh 1 none v (.int kk (i : Int)) = .val (.rp (.int .i64 (l.getD i 0) :: r)) hh := by
  obtain ⟨ci, r, ⟨e, _⟩, ht, hia⟩ := h.get zInt tInt i hi
  have : l.getD i 0 = l[i] := by simp [List.getD_eq_getElem?_getD, List.getElem?_eq_getElem hi]
  refine ⟨r, ?_, fun hh kk => ?_⟩
  · rw [e] at ht; exact ht
  · rw [hia, e, this]; rfl
theorem mapMay_loop (g : Pg P tab) {nodes : Int} {m : Mp} {v u : AV} (hv : IsL 8 RInt v m.starts) (hu : IsL 8 RInt u m.owners) (hl : m.owners.length = m.starts.length) (hh : Heap) {e : TypeId} {ver : Nat} (hg : hh.get 0 = some (.cells [.int .i64 m.epoch, v, u] e ver)) (n : Nat) :
    ∀ (i : Nat) (s : T AV) (k : List Fr) (Q : Ex → T AV → Heap → Prop), i + n = m.starts.length → sg s 1 = .int .i64 nodes → sg s 2 = .ptr 0 0 → sg s 52 = v → sg s 53 = .int .i64 m.starts.length → sg s 54 = .int .i64 i →
      ((∀ j, i ≤ j → j < m.starts.length → mpAt nodes m j) → ∀ s', Un P k Q (.exit 0) s' hh) → ((¬ ∀ j, i ≤ j → j < m.starts.length → mpAt nodes m j) → ∀ s', sg s' 4 = .bool false → Un P k Q .ret s' hh) → Lp P b53_0 s hh (Un P k Q) := by
  have hb := hv.bound (by decide)
  induction n with
  | zero =>
    intro i s k Q hi h1 h2 h52 h53 h54 hK hR
    refine g.lpe b53_0.eq_1 ?_
    have c1 : ¬ ((i : Int) < (m.starts.length : Int)) := by omega
    simp only [h54, h53, c1, RX, VOp.fresh, bxC, bsC, un, most, callsOf, seval, Int.reducePow, ↓reduceIte, Nat.reduceEqDiff, reduceCtorEq]
    exact hK (fun j h1 h2 => by omega) _
  | succ n ih =>
    intro i s k Q hi h1 h2 h52 h53 h54 hK hR
    refine g.lpe b53_0.eq_1 ?_
    have c1 : (i : Int) < (m.starts.length : Int) := by omega
    obtain ⟨r1, _, g1⟩ := getInt hv i (by omega)
    obtain ⟨r2, _, g2⟩ := getInt hu i (by omega)
    have w1 : IntKind.i64.wrap ((i : Int) + 1) = ((i + 1 : Nat) : Int) := by rw [w64 (by omega) (by omega)]; push_cast; rfl
    have next : mpAt nodes m i → ∀ s' : T AV, sg s' 1 = .int .i64 nodes → sg s' 2 = .ptr 0 0 → sg s' 52 = v → sg s' 53 = .int .i64 m.starts.length → sg s' 54 = .int .i64 ((i + 1 : Nat) : Int) → Lp P b53_0 s' hh (Un P k Q) := by
      intro hok s' a1 a2 a3 a4 a5
      refine ih (i + 1) s' k Q (by omega) a1 a2 a3 a4 a5 (fun hall => hK fun j h1 h2 => ?_) (fun hn => hR fun hall => hn fun j h1 h2 => hall j (by omega) h2)
      rcases Nat.lt_or_ge i j with h | h
      · exact hall j h h2
      · have : j = i := by omega
        subst this; exact hok
    have stop : ¬ mpAt nodes m i → ∀ s' : T AV, sg s' 4 = .bool false → Un P k Q .ret s' hh := fun hn => hR fun hall => hn (hall i (Nat.le_refl _) (by omega))
    by_cases hi0 : i = 0
    · have c2 : ¬ ((0 : Int) < (i : Int)) := by omega
      simp +contextual (maxSteps := 2000000) only [h1, h2, h52, h53, h54, c1, g1, g2, hg, w1, c2, RX, VOp.fresh, bxC, bsC, un, most, callsOf, seval, Int.reducePow, ↓reduceIte, Nat.reduceEqDiff, reduceCtorEq]
      repeat' (first | apply And.intro | intro _)
      all_goals first
        | (refine next ⟨by omega, by omega, by omega, by omega⟩ _ ?_ ?_ ?_ ?_ ?_ <;> simp only [h1, h2, h52, h53, sg_set, Nat.reduceEqDiff, ↓reduceIte]; done)
        | (refine stop (fun hok => ?_) _ (by simp only [sg_set, Nat.reduceEqDiff, ↓reduceIte]); obtain ⟨a1, a2, a3, a4⟩ := hok; omega)
    · have c2 : (0 : Int) < (i : Int) := by omega
      obtain ⟨r3, _, g3⟩ := getInt hv (i - 1) (by omega)
      have w2 : IntKind.i64.wrap ((i : Int) - 1) = ((i - 1 : Nat) : Int) := by rw [w64 (by omega) (by omega)]; omega
      simp +contextual (maxSteps := 2000000) only [h1, h2, h52, h53, h54, c1, g1, g2, g3, hg, w1, w2, c2, RX, VOp.fresh, bxC, bsC, un, most, callsOf, seval, Int.reducePow, ↓reduceIte, Nat.reduceEqDiff, reduceCtorEq]
      repeat' (first | apply And.intro | intro _)
      all_goals first
        | (refine next ⟨by omega, by omega, by omega, by omega⟩ _ ?_ ?_ ?_ ?_ ?_ <;> simp only [h1, h2, h52, h53, sg_set, Nat.reduceEqDiff, ↓reduceIte]; done)
        | (refine stop (fun hok => ?_) _ (by simp only [sg_set, Nat.reduceEqDiff, ↓reduceIte]); obtain ⟨a1, a2, a3, a4⟩ := hok; omega)
theorem mapMay_pu (g : Pg P tab) {nodes : Int} {m : Mp} {v u : AV} (hv : IsL 8 RInt v m.starts) (hu : IsL 8 RInt u m.owners) : Pu P 53 [.agg [.int .i64 m.epoch, v, u], .int .i64 nodes] (IsB (mpOk nodes m)) := by
  refine g.pu (vf := v53) rfl rfl ?_
  have hb := hv.bound (by decide)
  by_cases h0 : 0 < m.starts.length
  · obtain ⟨r1, _, g1⟩ := getInt hv 0 h0
    simp only [Int.natCast_zero, Int.ofNat_zero, Int.ofNat_eq_natCast] at g1
    simp +contextual (maxSteps := 2000000) only [v53, hv.len, hu.len, g1, RX, VOp.fresh, bxC, bsC, un, most, callsOf, seval, Int.reducePow, ↓reduceIte, Nat.reduceEqDiff, reduceCtorEq]
    repeat' (first | apply And.intro | intro _)
    all_goals first
      | (rename_i hok; unfold mpOk at hok; omega)
      | skip
    refine mapMay_loop (nodes := nodes) g hv hu (by omega) _ (e := 34) (ver := 0) ?_ m.starts.length 0 _ _ _ (by omega) ?_ ?_ ?_ ?_ ?_ ?_ ?_
    · rw [Heap.get_mk, if_pos rfl]
    · simp only [sg_set, Nat.reduceEqDiff, ↓reduceIte]
    · simp only [sg_set, Nat.reduceEqDiff, ↓reduceIte]
    · simp only [sg_set, Nat.reduceEqDiff, ↓reduceIte]
    · simp only [sg_set, Nat.reduceEqDiff, ↓reduceIte]
    · simp only [sg_set, Nat.reduceEqDiff, ↓reduceIte]
      rfl
    · intro hall s'
      simp +contextual (maxSteps := 2000000) only [RX, VOp.fresh, bxC, bsC, un, most, callsOf, seval, Int.reducePow, ↓reduceIte, Nat.reduceEqDiff, reduceCtorEq]
      unfold mpOk
      exact ⟨by omega, by omega, by omega, by omega, by omega, by omega, by omega, by omega, fun i hi => hall i (by omega) hi⟩
    · intro hn s' h4
      simp +contextual (maxSteps := 2000000) only [h4, RX, VOp.fresh, bxC, bsC, un, most, callsOf, seval, Int.reducePow, ↓reduceIte, Nat.reduceEqDiff, reduceCtorEq]
      intro hok
      exact hn fun j _ hj => hok.2.2.2.2.2.2.2.2 j hj
  · have e0 : m.starts.length = 0 := by omega
    have c1 : ((m.starts.length : Int) < 1) := by omega
    simp +contextual (maxSteps := 2000000) only [v53, hv.len, hu.len, c1, RX, VOp.fresh, bxC, bsC, un, most, callsOf, seval, Int.reducePow, ↓reduceIte, Nat.reduceEqDiff, reduceCtorEq]
    repeat' (first | apply And.intro | intro _)
    all_goals (rename_i hok; unfold mpOk at hok; omega)
def nxt (n i : Nat) : Nat := if i + 1 = n then 0 else i + 1
def ringAt (closed : Bool) (r : List Pt) (i : Nat) : Prop := ptOk (r.getD i ⟨0, 0⟩) ∧ ((0 < nxt r.length i ∨ closed = true) → r.getD i ⟨0, 0⟩ ≠ r.getD (nxt r.length i) ⟨0, 0⟩)
def ringOk (least : Int) (closed : Bool) (r : List Pt) : Prop := least ≤ r.length ∧ r.length ≤ 16 ∧ ∀ i, i < r.length → ringAt closed r i
theorem getPt {v : AV} {l : List Pt} (h : IsL 16 RPt v l) (i : Nat) (hi : i < l.length) : ∃ r, AV.tolds r = true ∧ ∀ (hh : Heap) (kk : IntKind), iaV hh 2 none v (.int kk (i : Int)) = .val (.rp (.int .i64 (l.getD i ⟨0, 0⟩).x :: .int .i64 (l.getD i ⟨0, 0⟩).y :: r)) hh := by
  obtain ⟨ci, r, ⟨e, _⟩, ht, hia⟩ := h.get zPt tPt i hi
  have : l.getD i ⟨0, 0⟩ = l[i] := by simp [List.getD_eq_getElem?_getD, List.getElem?_eq_getElem hi]
  refine ⟨r, ?_, fun hh kk => ?_⟩
  · rw [e] at ht; exact ht
  · rw [hia, e, this]; rfl
theorem flat2 {a b c d : Int} : eqv (.flat [.int, .int]) (.agg [.int .i64 a, .int .i64 b]) (.agg [.int .i64 c, .int .i64 d]) = some (decide (a = c ∧ b = d)) := by
  simp only [eqv, List.length_cons, List.length_nil, and_self, if_true, sameCells, sameK]
  by_cases h : a = c <;> by_cases h' : b = d <;> simp [h, h', sameCells, sameK]
theorem pt_eq {p q : Pt} : (p.x = q.x ∧ p.y = q.y) = (p = q) := by
  rw [eq_iff_iff]; constructor
  · intro h; cases p; cases q; simp_all
  · rintro rfl; exact ⟨rfl, rfl⟩
theorem ring_loop (g : Pg P tab) {least : Int} {closed : Bool} {r : List Pt} {v : AV} (hv : IsL 16 RPt v r) (hr : r.length ≤ 16) (n : Nat) :
    ∀ (i : Nat) (s : T AV) (hh : Heap) (k : List Fr) (Q : Ex → T AV → Heap → Prop), i + n = r.length → sg s 0 = v → sg s 2 = .bool closed → sg s 19 = v → sg s 20 = .int .i64 r.length → sg s 21 = .int .i64 i →
      ((∀ j, i ≤ j → j < r.length → ringAt closed r j) → ∀ s' h', Un P k Q (.exit 0) s' h') → ((¬ ∀ j, i ≤ j → j < r.length → ringAt closed r j) → ∀ s' h', sg s' 6 = .bool false → Un P k Q .ret s' h') → Lp P b48_0 s hh (Un P k Q) := by
  induction n with
  | zero =>
    intro i s hh k Q hi h0 h2 h19 h20 h21 hK hR
    refine g.lpe b48_0.eq_1 ?_
    have c1 : ¬ ((i : Int) < (r.length : Int)) := by omega
    simp only [h21, h20, c1, RX, VOp.fresh, bxC, bsC, un, most, callsOf, seval, Int.reducePow, ↓reduceIte, Nat.reduceEqDiff, reduceCtorEq]
    exact hK (fun j h1 h2 => by omega) _ _
  | succ n ih =>
    intro i s hh k Q hi h0 h2 h19 h20 h21 hK hR
    refine g.lpe b48_0.eq_1 ?_
    have c1 : (i : Int) < (r.length : Int) := by omega
    obtain ⟨r1, _, g1⟩ := getPt hv i (by omega)
    have w1 : IntKind.i64.wrap ((i : Int) + 1) = ((i + 1 : Nat) : Int) := by rw [w64 (by omega) (by omega)]; push_cast; rfl
    have next : ringAt closed r i → ∀ (s' : T AV) (h' : Heap), sg s' 0 = v → sg s' 2 = .bool closed → sg s' 19 = v → sg s' 20 = .int .i64 r.length → sg s' 21 = .int .i64 ((i + 1 : Nat) : Int) → Lp P b48_0 s' h' (Un P k Q) := by
      intro hok s' h' a1 a2 a3 a4 a5
      refine ih (i + 1) s' h' k Q (by omega) a1 a2 a3 a4 a5 (fun hall => hK fun j h1 h2 => ?_) (fun hn => hR fun hall => hn fun j h1 h2 => hall j (by omega) h2)
      rcases Nat.lt_or_ge i j with h | h
      · exact hall j h h2
      · have : j = i := by omega
        subst this; exact hok
    have stop : ¬ ringAt closed r i → ∀ (s' : T AV) (h' : Heap), sg s' 6 = .bool false → Un P k Q .ret s' h' := fun hn => hR fun hall => hn (hall i (Nat.le_refl _) (by omega))
    have hpt := pointMay_pu g (r.getD i ⟨0, 0⟩)
    have hn : nxt r.length i = if i + 1 = r.length then 0 else i + 1 := rfl
    by_cases hl : i + 1 = r.length
    · have c2 : ((i + 1 : Nat) : Int) = (r.length : Int) := by omega
      rw [if_pos hl] at hn
      obtain ⟨r2, _, g2⟩ := getPt hv 0 (by omega)
      simp only [Int.natCast_zero, Int.ofNat_zero, Int.ofNat_eq_natCast] at g2
      simp +contextual (maxSteps := 2000000) only [RW, Bool.and_self, h0, h2, h19, h20, h21, c1, g1, hv.len, w1, c2, RX, VOp.fresh, bxC, bsC, un, most, callsOf, seval, Int.reducePow, ↓reduceIte, Nat.reduceEqDiff, reduceCtorEq]
      refine hpt.go rfl ?_
      rintro x rfl
      cases closed
      all_goals simp +contextual (maxSteps := 2000000) only [RW, Bool.and_self, h0, h2, h19, h20, h21, g2, w1, flat2, pt_eq, RX, VOp.fresh, bxC, bsC, un, most, callsOf, seval, Int.reducePow, ↓reduceIte, Nat.reduceEqDiff, reduceCtorEq]
      all_goals repeat' (first | apply And.intro | intro _)
      all_goals first
        | (refine next ⟨by assumption, ?_⟩ _ _ ?_ ?_ ?_ ?_ ?_ <;> first | (simp only [h0, h2, h19, h20, sg_set, Nat.reduceEqDiff, ↓reduceIte]; done) | (rw [hn]; simp_all; done))
        | (refine stop ?_ _ _ ?_ <;> first | (simp only [sg_set, Nat.reduceEqDiff, ↓reduceIte]; done) | (rintro ⟨a1, a2⟩; rw [hn] at a2; simp_all; done))
        | trace_state
    · have c2 : ¬ ((i + 1 : Nat) : Int) = (r.length : Int) := by omega
      rw [if_neg hl] at hn
      obtain ⟨r2, _, g2⟩ := getPt hv (i + 1) (by omega)
      have c3 : (0 : Int) < ((i + 1 : Nat) : Int) := by omega
      simp +contextual (maxSteps := 2000000) only [RW, Bool.and_self, h0, h2, h19, h20, h21, c1, g1, hv.len, w1, c2, RX, VOp.fresh, bxC, bsC, un, most, callsOf, seval, Int.reducePow, ↓reduceIte, Nat.reduceEqDiff, reduceCtorEq]
      refine hpt.go rfl ?_
      rintro x rfl
      cases closed
      all_goals simp +contextual (maxSteps := 2000000) only [RW, Bool.and_self, h0, h2, h19, h20, h21, g2, w1, flat2, pt_eq, c3, RX, VOp.fresh, bxC, bsC, un, most, callsOf, seval, Int.reducePow, ↓reduceIte, Nat.reduceEqDiff, reduceCtorEq]
      all_goals repeat' (first | apply And.intro | intro _)
      all_goals first
        | (refine next ⟨by assumption, ?_⟩ _ _ ?_ ?_ ?_ ?_ ?_ <;> first | (simp only [h0, h2, h19, h20, sg_set, Nat.reduceEqDiff, ↓reduceIte]; done) | (rw [hn]; simp_all; done))
        | (refine stop ?_ _ _ ?_ <;> first | (simp only [sg_set, Nat.reduceEqDiff, ↓reduceIte]; done) | (rintro ⟨a1, a2⟩; rw [hn] at a2; simp_all; done))
        | trace_state
theorem ring_pu (g : Pg P tab) {least : Int} {closed : Bool} {r : List Pt} {v : AV} (hv : IsL 16 RPt v r) : Pu P 48 [v, .int .i64 least, .bool closed] (IsB (ringOk least closed r)) := by
  refine g.pu (vf := v48) rfl rfl ?_
  simp +contextual (maxSteps := 2000000) only [v48, hv.len, RX, VOp.fresh, bxC, bsC, un, most, callsOf, seval, Int.reducePow, ↓reduceIte, Nat.reduceEqDiff, reduceCtorEq]
  repeat' (first | apply And.intro | intro _)
  all_goals first
    | (rename_i hok; unfold ringOk at hok; omega)
    | skip
  refine ring_loop g hv (least := least) (closed := closed) (by omega) r.length 0 _ _ _ _ (by omega) ?_ ?_ ?_ ?_ ?_ ?_ ?_
  · simp only [sg_set, Nat.reduceEqDiff, ↓reduceIte]
  · simp only [sg_set, Nat.reduceEqDiff, ↓reduceIte]
  · simp only [sg_set, Nat.reduceEqDiff, ↓reduceIte]
  · simp only [sg_set, Nat.reduceEqDiff, ↓reduceIte]
  · simp only [sg_set, Nat.reduceEqDiff, ↓reduceIte]
    rfl
  · intro hall s' h'
    simp +contextual (maxSteps := 2000000) only [RX, VOp.fresh, bxC, bsC, un, most, callsOf, seval, Int.reducePow, ↓reduceIte, Nat.reduceEqDiff, reduceCtorEq]
    exact ⟨by omega, by omega, fun i hi => hall i (by omega) hi⟩
  · intro hn s' h' h4
    simp +contextual (maxSteps := 2000000) only [h4, RX, VOp.fresh, bxC, bsC, un, most, callsOf, seval, Int.reducePow, ↓reduceIte, Nat.reduceEqDiff, reduceCtorEq]
    intro hok
    exact hn fun j _ hj => hok.2.2 j hj
theorem getRing {v : AV} {l : List (List Pt)} (h : IsL 24 RRing v l) (i : Nat) (hi : i < l.length) : ∃ rv r, IsL 16 RPt rv (l.getD i []) ∧ AV.tolds r = true ∧ ∀ (hh : Heap) (kk : IntKind), iaV hh 1 none v (.int kk (i : Int)) = .val (.rp (rv :: r)) hh := by
  obtain ⟨ci, r, ⟨rv, e, hr⟩, ht, hia⟩ := h.get zRing tRing i hi
  have : l.getD i [] = l[i] := by simp [List.getD_eq_getElem?_getD, List.getElem?_eq_getElem hi]
  refine ⟨rv, r, by rw [this]; exact hr, ?_, fun hh kk => ?_⟩
  · rw [e] at ht
    simp only [AV.tolds, List.cons_append, List.nil_append, Bool.and_eq_true] at ht
    exact ht.2
  · rw [hia, e]; rfl
theorem tolds1 {b : Nat} {α : Type} {R : α → List AV → Prop} {v : AV} {l : List α} (h : IsL b R v l) (ht : ∀ a c, R a c → AV.tolds c = true) : AV.tolds [v] = true := by
  simp [AV.tolds, h.told ht]
theorem mayRing_pu (g : Pg P tab) {r : List Pt} {v : AV} (hv : IsL 16 RPt v r) : Pu P 50 [v] (IsB (¬ ringOk 3 true r)) := by
  refine g.pu (vf := v50) rfl rfl ?_
  simp +contextual (maxSteps := 2000000) only [v50, RX, VOp.fresh, bxC, bsC, un, most, callsOf, seval, Int.reducePow, ↓reduceIte, Nat.reduceEqDiff, reduceCtorEq]
  refine (ring_pu g hv).go (by simp [AV.tolds, AV.told, hv.told tPt]) ?_
  rintro x ⟨b, rfl, hb⟩
  cases b <;> simp +contextual (maxSteps := 2000000) only [RX, VOp.fresh, bxC, bsC, un, most, callsOf, seval, Int.reducePow, ↓reduceIte, Nat.reduceEqDiff, reduceCtorEq] <;> simpa using hb
theorem indexFunc_loop (g : Pg P tab) {l : List (List Pt)} {v : AV} (hv : IsL 24 RRing v l) (n : Nat) :
    ∀ (i : Nat) (s : T AV) (hh : Heap) (k : List Fr) (Q : Ex → T AV → Heap → Prop), i + n = l.length → sg s 0 = v → sg s 1 = .fn 50 [] → sg s 7 = .int .i64 l.length → sg s 8 = .int .i64 i →
      ((∀ j, i ≤ j → j < l.length → ringOk 3 true (l.getD j [])) → ∀ s', Un P k Q (.exit 0) s' hh) → (∀ j, i ≤ j → j < l.length → ¬ ringOk 3 true (l.getD j []) → ∀ s', sg s' 4 = .int .i64 j → Un P k Q .ret s' hh) → Lp P b69_0 s hh (Un P k Q) := by
  have hb := hv.bound (by decide)
  induction n with
  | zero =>
    intro i s hh k Q hi h0 h1 h7 h8 hK hR
    refine g.lpe b69_0.eq_1 ?_
    have c1 : ¬ ((i : Int) < (l.length : Int)) := by omega
    simp only [h7, h8, c1, RX, VOp.fresh, bxC, bsC, un, most, callsOf, seval, Int.reducePow, ↓reduceIte, Nat.reduceEqDiff, reduceCtorEq]
    exact hK (fun j h1 h2 => by omega) _
  | succ n ih =>
    intro i s hh k Q hi h0 h1 h7 h8 hK hR
    refine g.lpe b69_0.eq_1 ?_
    have c1 : (i : Int) < (l.length : Int) := by omega
    obtain ⟨rv, r1, hrv, _, g1⟩ := getRing hv i (by omega)
    have w1 : IntKind.i64.wrap ((i : Int) + 1) = ((i + 1 : Nat) : Int) := by rw [w64 (by omega) (by omega)]; push_cast; rfl
    simp only [h0, h1, h7, h8, c1, g1, RX, VOp.fresh, bxC, bsC, un, most, callsOf, seval, Int.reducePow, ↓reduceIte, Nat.reduceEqDiff, reduceCtorEq]
    refine (mayRing_pu g hrv).go (tolds1 hrv tPt) ?_
    rintro x ⟨b, rfl, hbb⟩
    cases b
    · simp only [h8, w1, RX, VOp.fresh, bxC, bsC, un, most, callsOf, seval, Int.reducePow, ↓reduceIte, Nat.reduceEqDiff, reduceCtorEq]
      have hok : ringOk 3 true (l.getD i []) := by
        apply Classical.byContradiction
        intro hn
        exact absurd (hbb.2 hn) (by simp)
      refine ih (i + 1) _ hh k Q (by omega) ?_ ?_ ?_ ?_ (fun hall => hK fun j h1 h2 => ?_) (fun j h1 h2 => hR j (by omega) h2)
      · simp only [h0, sg_set, Nat.reduceEqDiff, ↓reduceIte]
      · simp only [h1, sg_set, Nat.reduceEqDiff, ↓reduceIte]
      · simp only [h7, sg_set, Nat.reduceEqDiff, ↓reduceIte]
      · simp only [sg_set, Nat.reduceEqDiff, ↓reduceIte]
      · rcases Nat.lt_or_ge i j with h | h
        · exact hall j h h2
        · have : j = i := by omega
          subst this; exact hok
    · simp only [h8, RX, VOp.fresh, bxC, bsC, un, most, callsOf, seval, Int.reducePow, ↓reduceIte, Nat.reduceEqDiff, reduceCtorEq]
      exact hR i (Nat.le_refl _) (by omega) (hbb.1 rfl) _ (by simp only [sg_set, Nat.reduceEqDiff, ↓reduceIte])
theorem indexFunc_pu (g : Pg P tab) {l : List (List Pt)} {v : AV} (hv : IsL 24 RRing v l) : Pu P 69 [v, .fn 50 []] (fun x => ∃ n : Int, x = .int .i64 n ∧ (0 ≤ n ↔ ¬ ∀ i, i < l.length → ringOk 3 true (l.getD i []))) := by
  refine g.pu (vf := v69) rfl rfl ?_
  simp only [v69, hv.len, RX, VOp.fresh, bxC, bsC, un, most, callsOf, seval, Int.reducePow, ↓reduceIte, Nat.reduceEqDiff, reduceCtorEq]
  refine indexFunc_loop g hv l.length 0 _ _ _ _ (by omega) ?_ ?_ ?_ ?_ ?_ ?_
  · simp only [sg_set, Nat.reduceEqDiff, ↓reduceIte]
  · simp only [sg_set, Nat.reduceEqDiff, ↓reduceIte]
  · simp only [sg_set, Nat.reduceEqDiff, ↓reduceIte]
  · simp only [sg_set, Nat.reduceEqDiff, ↓reduceIte]
    rfl
  · intro hall s'
    simp only [RX, VOp.fresh, bxC, bsC, un, most, callsOf, seval, Int.reducePow, ↓reduceIte, Nat.reduceEqDiff, reduceCtorEq]
    exact ⟨-1, rfl, by simp; exact fun i hi => hall i (by omega) hi⟩
  · intro j _ hj hn s' h4
    simp only [h4, RX, VOp.fresh, bxC, bsC, un, most, callsOf, seval, Int.reducePow, ↓reduceIte, Nat.reduceEqDiff, reduceCtorEq]
    exact ⟨j, rfl, ⟨fun _ h => hn (h j hj), fun _ => by omega⟩⟩
theorem containsFunc_pu (g : Pg P tab) {l : List (List Pt)} {v : AV} (hv : IsL 24 RRing v l) : Pu P 49 [v, .fn 50 []] (IsB (¬ ∀ i, i < l.length → ringOk 3 true (l.getD i []))) := by
  refine g.pu (vf := v49) rfl rfl ?_
  simp only [v49, RX, VOp.fresh, bxC, bsC, un, most, callsOf, seval, Int.reducePow, ↓reduceIte, Nat.reduceEqDiff, reduceCtorEq]
  refine (indexFunc_pu g hv).go (by simp [AV.tolds, AV.told, hv.told tRing]) ?_
  rintro x ⟨n, rfl, hn⟩
  simp only [RX, VOp.fresh, bxC, bsC, un, most, callsOf, seval, Int.reducePow, ↓reduceIte, Nat.reduceEqDiff, reduceCtorEq]
  exact hn
def featOk (f : Feat) : Prop := 1 ≤ f.id ∧ f.id ≤ 65535 ∧ 1 ≤ f.rings.length ∧ f.rings.length ≤ 4 ∧
  ((f.shape = 0 ∧ f.rings.length = 1 ∧ (f.rings.getD 0 []).length = 1 ∧ ptOk ((f.rings.getD 0 []).getD 0 ⟨0, 0⟩)) ∨ (f.shape = 1 ∧ f.rings.length = 1 ∧ ringOk 2 false (f.rings.getD 0 [])) ∨ (f.shape = 2 ∧ ∀ i, i < f.rings.length → ringOk 3 true (f.rings.getD i [])))
theorem shapeMay_pu (g : Pg P tab) {f : Feat} {v : AV} (hv : IsL 24 RRing v f.rings) : Pu P 28 [.agg [.int .i64 f.id, .int .i64 f.shape, v]] (IsB (featOk f)) := by
  refine g.pu (vf := v28) rfl rfl ?_
  have hb := hv.bound (by decide)
  by_cases h0 : 0 < f.rings.length
  · obtain ⟨rv, r1, hrv, t1, g1⟩ := getRing hv 0 h0
    simp only [Int.natCast_zero, Int.ofNat_zero, Int.ofNat_eq_natCast] at g1
    by_cases h1 : 0 < (f.rings.getD 0 []).length
    · obtain ⟨r2, t2, g2⟩ := getPt hrv 0 h1
      simp only [Int.natCast_zero, Int.ofNat_zero, Int.ofNat_eq_natCast] at g2
      simp +contextual (maxSteps := 2000000) only [v28, hv.len, hrv.len, g1, g2, RX, VOp.fresh, bxC, bsC, un, most, callsOf, seval, Int.reducePow, ↓reduceIte, Nat.reduceEqDiff, reduceCtorEq]
      repeat' (first | apply And.intro | intro _)
      all_goals first
        | (rename_i hok; obtain ⟨a1, a2, a3, a4, ⟨b1, b2, b3, b4⟩ | ⟨b1, b2, b3⟩ | ⟨b1, b2⟩⟩ := hok <;> omega)
        | (refine (pointMay_pu g _).go rfl ?_
           rintro x rfl
           simp +contextual (maxSteps := 2000000) only [RX, VOp.fresh, bxC, bsC, un, most, callsOf, seval, Int.reducePow, ↓reduceIte, Nat.reduceEqDiff, reduceCtorEq]
           exact ⟨fun h => ⟨by omega, by omega, by omega, by omega, .inl ⟨by omega, by omega, by omega, h⟩⟩, fun hok => by obtain ⟨a1, a2, a3, a4, ⟨b1, b2, b3, b4⟩ | ⟨b1, b2, b3⟩ | ⟨b1, b2⟩⟩ := hok <;> first | assumption | omega⟩)
        | (refine (ring_pu g hrv).go (by simp [AV.tolds, AV.told, hrv.told tPt]) ?_
           rintro x ⟨b, rfl, hbb⟩
           simp +contextual (maxSteps := 2000000) only [RX, VOp.fresh, bxC, bsC, un, most, callsOf, seval, Int.reducePow, ↓reduceIte, Nat.reduceEqDiff, reduceCtorEq]
           rw [hbb]
           exact ⟨fun h => ⟨by omega, by omega, by omega, by omega, .inr (.inl ⟨by omega, by omega, h⟩)⟩, fun hok => by obtain ⟨a1, a2, a3, a4, ⟨b1, b2, b3, b4⟩ | ⟨b1, b2, b3⟩ | ⟨b1, b2⟩⟩ := hok <;> first | assumption | omega⟩)
        | (refine (containsFunc_pu g hv).go (by simp [AV.tolds, AV.told, hv.told tRing]) ?_
           rintro x ⟨b, rfl, hbb⟩
           cases b <;> simp +contextual (maxSteps := 2000000) only [RX, VOp.fresh, bxC, bsC, un, most, callsOf, seval, Int.reducePow, ↓reduceIte, Nat.reduceEqDiff, reduceCtorEq]
           · exact ⟨by omega, by omega, by omega, by omega, .inr (.inr ⟨by omega, Classical.byContradiction fun hn => absurd (hbb.2 hn) (by simp)⟩)⟩
           · intro hok; obtain ⟨a1, a2, a3, a4, ⟨b1, b2, b3, b4⟩ | ⟨b1, b2, b3⟩ | ⟨b1, b2⟩⟩ := hok <;> first | exact hbb.1 rfl b2 | omega)
        | trace_state
    · have e1 : (f.rings.getD 0 []).length = 0 := by omega
      simp +contextual (maxSteps := 2000000) only [v28, hv.len, hrv.len, g1, e1, RX, VOp.fresh, bxC, bsC, un, most, callsOf, seval, Int.reducePow, ↓reduceIte, Nat.reduceEqDiff, reduceCtorEq]
      repeat' (first | apply And.intro | intro _)
      all_goals first
        | (rename_i hok; obtain ⟨a1, a2, a3, a4, ⟨b1, b2, b3, b4⟩ | ⟨b1, b2, b3⟩ | ⟨b1, b2⟩⟩ := hok <;> omega)
        | (refine (ring_pu g hrv).go (by simp [AV.tolds, AV.told, hrv.told tPt]) ?_
           rintro x ⟨b, rfl, hbb⟩
           simp +contextual (maxSteps := 2000000) only [RX, VOp.fresh, bxC, bsC, un, most, callsOf, seval, Int.reducePow, ↓reduceIte, Nat.reduceEqDiff, reduceCtorEq]
           rw [hbb]
           exact ⟨fun h => ⟨by omega, by omega, by omega, by omega, .inr (.inl ⟨by omega, by omega, h⟩)⟩, fun hok => by obtain ⟨a1, a2, a3, a4, ⟨b1, b2, b3, b4⟩ | ⟨b1, b2, b3⟩ | ⟨b1, b2⟩⟩ := hok <;> first | assumption | omega⟩)
        | (refine (containsFunc_pu g hv).go (by simp [AV.tolds, AV.told, hv.told tRing]) ?_
           rintro x ⟨b, rfl, hbb⟩
           cases b <;> simp +contextual (maxSteps := 2000000) only [RX, VOp.fresh, bxC, bsC, un, most, callsOf, seval, Int.reducePow, ↓reduceIte, Nat.reduceEqDiff, reduceCtorEq]
           · exact ⟨by omega, by omega, by omega, by omega, .inr (.inr ⟨by omega, Classical.byContradiction fun hn => absurd (hbb.2 hn) (by simp)⟩)⟩
           · intro hok; obtain ⟨a1, a2, a3, a4, ⟨b1, b2, b3, b4⟩ | ⟨b1, b2, b3⟩ | ⟨b1, b2⟩⟩ := hok <;> first | exact hbb.1 rfl b2 | omega)
        | trace_state
  · have e0 : f.rings.length = 0 := by omega
    have c1 : (f.rings.length : Int) < 1 := by omega
    simp +contextual (maxSteps := 2000000) only [v28, hv.len, c1, RX, VOp.fresh, bxC, bsC, un, most, callsOf, seval, Int.reducePow, ↓reduceIte, Nat.reduceEqDiff, reduceCtorEq]
    repeat' (first | apply And.intro | intro _)
    all_goals (rename_i hok; obtain ⟨a1, a2, a3, a4, _⟩ := hok; omega)
end
end Go.Proofs.Ytpfpngmfooagiaa.VM
namespace Go.Proofs.Ytpfpngmfooagiaa.VM
attribute [local irreducible] Af Nx EvO Ev Un Gd Cd EvR EvQ EvC Nc Gc Lp EvM NxM AfM GdM EvMR EvMQ EvMD EvMC Nm Gm
def opOk (nodes : Int) (o : Op) : Prop := (o.kind = 0 ∧ featOk o.f ∧ o.id = 0 ∧ mpZero o.m) ∨ (o.kind = 1 ∧ 1 ≤ o.id ∧ o.id ≤ 65535 ∧ ftZero o.f ∧ mpZero o.m) ∨ (o.kind = 2 ∧ mpOk nodes o.m ∧ o.id = 0 ∧ ftZero o.f)
def opId (o : Op) : Int := if o.kind = 0 then o.f.id else o.id
def op0 : Op := ⟨0, ⟨0, 0, []⟩, 0, ⟨0, [], []⟩⟩
section
variable {P : Program}
theorem opMay_pu (g : Pg P tab) {nodes : Int} {o : Op} {c r : List AV} (hc : ROp o c) (hr : AV.tolds r = true) : Pu P 29 [.rp (c ++ r), .int .i64 nodes] (IsB (opOk nodes o)) := by
  refine g.pu (vf := v29) rfl rfl ?_
  obtain ⟨v, a, u, rfl, _, _, _, hv, _, _, ha, hu⟩ := hc
  have tv := hv.told tRing
  have ta := ha.told tInt
  have tu := hu.told tInt
  simp +contextual (maxSteps := 2000000) only [v29, RX, VOp.fresh, bxC, bsC, un, most, callsOf, seval, Int.reducePow, ↓reduceIte, Nat.reduceEqDiff, reduceCtorEq]
  repeat' (first | apply And.intro | intro _)
  · -- a put
    refine (shapeMay_pu g hv).go (by simp [AV.tolds, AV.told, tv]) ?_
    rintro x ⟨b, rfl, hb⟩
    cases b
    · simp +contextual (maxSteps := 2000000) only [RX, VOp.fresh, bxC, bsC, un, most, callsOf, seval, Int.reducePow, ↓reduceIte, Nat.reduceEqDiff, reduceCtorEq]
      rintro (⟨h1, h2, h3, h4⟩ | ⟨h1, _⟩ | ⟨h1, _⟩)
      · exact absurd (hb.2 h2) (by simp)
      · omega
      · omega
    · simp +contextual (maxSteps := 2000000) only [RX, VOp.fresh, bxC, bsC, un, most, callsOf, seval, Int.reducePow, ↓reduceIte, Nat.reduceEqDiff, reduceCtorEq]
      repeat' (first | apply And.intro | intro _)
      · refine (noMap_pu g ha hu _).go (by simp [AV.tolds, AV.told, ta, tu, hr]) ?_
        rintro x ⟨b, rfl, hb2⟩
        simp +contextual (maxSteps := 2000000) only [RX, VOp.fresh, bxC, bsC, un, most, callsOf, seval, Int.reducePow, ↓reduceIte, Nat.reduceEqDiff, reduceCtorEq]
        rw [hb2]
        exact ⟨fun h => .inl ⟨by assumption, hb.1 rfl, by assumption, h⟩, fun h => by rcases h with ⟨_, _, _, h4⟩ | ⟨h1, _⟩ | ⟨h1, _⟩ <;> first | exact h4 | omega⟩
      · rename_i hok
        rcases hok with ⟨_, _, h3, _⟩ | ⟨h1, _⟩ | ⟨h1, _⟩ <;> first | contradiction | omega
  · -- a delete
    refine (noFeature_pu g hv _).go (by simp [AV.tolds, AV.told, tv, ta, tu, hr]) ?_
    rintro x ⟨b, rfl, hb⟩
    cases b
    · simp +contextual (maxSteps := 2000000) only [RX, VOp.fresh, bxC, bsC, un, most, callsOf, seval, Int.reducePow, ↓reduceIte, Nat.reduceEqDiff, reduceCtorEq]
      rintro (⟨h1, _⟩ | ⟨h1, h2, h3, h4, h5⟩ | ⟨h1, _⟩)
      · omega
      · exact absurd (hb.2 h4) (by simp)
      · omega
    · simp +contextual (maxSteps := 2000000) only [RX, VOp.fresh, bxC, bsC, un, most, callsOf, seval, Int.reducePow, ↓reduceIte, Nat.reduceEqDiff, reduceCtorEq]
      refine (noMap_pu g ha hu _).go (by simp [AV.tolds, AV.told, ta, tu, hr]) ?_
      rintro x ⟨b, rfl, hb2⟩
      simp +contextual (maxSteps := 2000000) only [RX, VOp.fresh, bxC, bsC, un, most, callsOf, seval, Int.reducePow, ↓reduceIte, Nat.reduceEqDiff, reduceCtorEq]
      rw [hb2]
      exact ⟨fun h => .inr (.inl ⟨by assumption, by omega, by omega, hb.1 rfl, h⟩), fun h => by rcases h with ⟨h1, _⟩ | ⟨_, _, _, _, h4⟩ | ⟨h1, _⟩ <;> first | exact h4 | omega⟩
  · rename_i hok
    rcases hok with ⟨h1, _⟩ | ⟨h1, _⟩ | ⟨h1, _⟩ <;> omega
  · rename_i hok
    rcases hok with ⟨h1, _⟩ | ⟨h1, _⟩ | ⟨h1, _⟩ <;> omega
  · -- a map
    refine (mapMay_pu g ha hu).go (by simp [AV.tolds, AV.told, ta, tu]) ?_
    rintro x ⟨b, rfl, hb⟩
    cases b
    · simp +contextual (maxSteps := 2000000) only [RX, VOp.fresh, bxC, bsC, un, most, callsOf, seval, Int.reducePow, ↓reduceIte, Nat.reduceEqDiff, reduceCtorEq]
      rintro (⟨h1, _⟩ | ⟨h1, _⟩ | ⟨h1, h2, h3, h4⟩)
      · omega
      · omega
      · exact absurd (hb.2 h2) (by simp)
    · simp +contextual (maxSteps := 2000000) only [RX, VOp.fresh, bxC, bsC, un, most, callsOf, seval, Int.reducePow, ↓reduceIte, Nat.reduceEqDiff, reduceCtorEq]
      repeat' (first | apply And.intro | intro _)
      · refine (noFeature_pu g hv _).go (by simp [AV.tolds, AV.told, tv, ta, tu, hr]) ?_
        rintro x ⟨b, rfl, hb2⟩
        simp +contextual (maxSteps := 2000000) only [RX, VOp.fresh, bxC, bsC, un, most, callsOf, seval, Int.reducePow, ↓reduceIte, Nat.reduceEqDiff, reduceCtorEq]
        rw [hb2]
        exact ⟨fun h => .inr (.inr ⟨by assumption, hb.1 rfl, by assumption, h⟩), fun h => by rcases h with ⟨h1, _⟩ | ⟨h1, _⟩ | ⟨_, _, _, h4⟩ <;> first | exact h4 | omega⟩
      · rename_i hok
        rcases hok with ⟨h1, _⟩ | ⟨h1, _⟩ | ⟨_, _, h3, _⟩ <;> first | contradiction | omega
  · rename_i hok
    rcases hok with ⟨h1, _⟩ | ⟨h1, _⟩ | ⟨h1, _⟩ <;> contradiction
theorem opId_pu (g : Pg P tab) {o : Op} {c r : List AV} (hc : ROp o c) : Pu P 20 [.rp (c ++ r)] (fun x => x = .int .i64 (opId o)) := by
  refine g.pu (vf := v20) rfl rfl ?_
  obtain ⟨v, a, u, rfl, _⟩ := hc
  simp +contextual (maxSteps := 2000000) only [v20, opId, RX, VOp.fresh, bxC, bsC, un, most, callsOf, seval, Int.reducePow, ↓reduceIte, Nat.reduceEqDiff, reduceCtorEq]
theorem getOp {v : AV} {l : List Op} (h : IsL 112 ROp v l) (i : Nat) (hi : i < l.length) : ∃ c r, ROp (l.getD i op0) c ∧ AV.tolds c = true ∧ AV.tolds r = true ∧ ∀ (hh : Heap) (kk : IntKind), iaV hh 8 none v (.int kk (i : Int)) = .val (.rp (c ++ r)) hh := by
  obtain ⟨ci, r, hr, ht, hia⟩ := h.get zOp tOp i hi
  have : l.getD i op0 = l[i] := by simp [List.getD_eq_getElem?_getD, List.getElem?_eq_getElem hi]
  rw [Cat.told.tolds_append, Bool.and_eq_true] at ht
  exact ⟨ci, r, by rw [this]; exact hr, ht.1, ht.2, hia⟩
def opsAt (nodes : Int) (l : List Op) (i : Nat) : Prop := opOk nodes (l.getD i op0) ∧ ((l.getD i op0).kind = 2 → i = 0) ∧ (0 < opId (l.getD i op0) → ∀ j, j < i → opId (l.getD j op0) ≠ opId (l.getD i op0))
def opsOk (nodes : Int) (l : List Op) : Prop := 1 ≤ l.length ∧ l.length ≤ 32 ∧ ∀ i, i < l.length → opsAt nodes l i
/-- the ids that were seen -/
def idsTo (l : List Op) : Nat → List Int
  | 0 => []
  | i + 1 => if 0 < opId (l.getD i op0) then idsTo l i ++ [opId (l.getD i op0)] else idsTo l i
theorem idsTo_mem (l : List Op) (x : Int) : ∀ i, x ∈ idsTo l i ↔ 0 < x ∧ ∃ j, j < i ∧ opId (l.getD j op0) = x
  | 0 => by simp [idsTo]
  | i + 1 => by
    unfold idsTo
    have ih := idsTo_mem l x i
    split
    · rename_i h
      rw [List.mem_append, ih, List.mem_singleton]
      constructor
      · rintro (⟨a, j, b, c⟩ | rfl)
        · exact ⟨a, j, by omega, c⟩
        · exact ⟨h, i, by omega, rfl⟩
      · rintro ⟨a, j, b, c⟩
        rcases Nat.lt_or_ge j i with h' | h'
        · exact .inl ⟨a, j, h', c⟩
        · have : j = i := by omega
          subst this; exact .inr c.symm
    · rename_i h
      rw [ih]
      constructor
      · rintro ⟨a, j, b, c⟩; exact ⟨a, j, by omega, c⟩
      · rintro ⟨a, j, b, c⟩
        refine ⟨a, j, ?_, c⟩
        rcases Nat.lt_or_ge j i with h' | h'
        · exact h'
        · have : j = i := by omega
          subst this; omega
def seenE (ids : List Int) : List (AV × AV) := ids.map fun x => (.int .i64 x, .bool true)
theorem findE_seen (x : Int) : ∀ ids : List Int, findE .int (.int .i64 x) (seenE ids) = some (if x ∈ ids then some (.bool true) else none)
  | [] => rfl
  | y :: ids => by
    show (match sameK .int (.int .i64 x) (.int .i64 y) with | some true => some (some (AV.bool true)) | some false => findE .int (.int .i64 x) (seenE ids) | none => none) = _
    have : sameK .int (.int .i64 x) (.int .i64 y) = some (decide (x = y)) := by simp [sameK]
    rw [this]
    by_cases e : x = y
    · simp [e]
    · simp [e, findE_seen x ids]
theorem updE_seen {x : Int} : ∀ {ids : List Int}, x ∉ ids → updE .int (.int .i64 x) (.bool true) (seenE ids) = seenE (ids ++ [x])
  | [], _ => rfl
  | y :: ids, h => by
    have hne : x ≠ y := fun e => h (by rw [e]; exact .head _)
    have : sameK .int (.int .i64 x) (.int .i64 y) = some (decide (x = y)) := by simp [sameK]
    show (match sameK .int (.int .i64 x) (.int .i64 y) with | some true => (AV.int .i64 x, AV.bool true) :: seenE ids | _ => (AV.int .i64 y, AV.bool true) :: updE .int (.int .i64 x) (.bool true) (seenE ids)) = _
    rw [this, decide_eq_false hne]
    simp only [updE_seen (fun hm => h (.tail _ hm))]
    rfl
theorem lkB_seen {hh : Heap} {x : Int} {ids : List Int} {ver : Nat} : lkB .int (.bool false) false hh (.int .i64 x) (some (.map (seenE ids) ver)) = .val (.bool (decide (x ∈ ids))) hh := by
  simp only [lkB, findE_seen]
  by_cases h : x ∈ ids <;> simp [h]
theorem muB_seen {hh : Heap} {b : Nat} {x : Int} {ids : List Int} {ver : Nat} (h : x ∉ ids) : muB .int hh b (.int .i64 x) (.bool true) (some (.map (seenE ids) ver)) = .val .undef (hh.put b (.map (seenE (ids ++ [x])) (ver + 1))) := by
  simp only [muB, findE_seen, updE_seen h]
theorem opsMay_loop (g : Pg P tab) {nodes : Int} {l : List Op} {v : AV} (hv : IsL 112 ROp v l) (hl : l.length ≤ 32) (b : Nat) (n : Nat) :
    ∀ (i : Nat) (s : T AV) (hh : Heap) (ver : Nat) (k : List Fr) (Q : Ex → T AV → Heap → Prop), i + n = l.length → sg s 0 = v → sg s 1 = .int .i64 nodes → sg s 5 = .map b → sg s 19 = .int .i64 l.length → sg s 20 = .int .i64 i →
      hh.get b = some (.map (seenE (idsTo l i)) ver) →
      ((∀ j, i ≤ j → j < l.length → opsAt nodes l j) → ∀ s' h', Un P k Q (.exit 0) s' h') → ((¬ ∀ j, i ≤ j → j < l.length → opsAt nodes l j) → ∀ s' h', sg s' 4 = .bool false → Un P k Q .ret s' h') → Lp P b17_0 s hh (Un P k Q) := by
  induction n with
  | zero =>
    intro i s hh ver k Q hi h0 h1 h5 h19 h20 hg hK hR
    refine g.lpe b17_0.eq_1 ?_
    have c1 : ¬ ((i : Int) < (l.length : Int)) := by omega
    simp only [h19, h20, c1, RX, VOp.fresh, bxC, bsC, un, most, callsOf, seval, Int.reducePow, ↓reduceIte, Nat.reduceEqDiff, reduceCtorEq]
    exact hK (fun j h1 h2 => by omega) _ _
  | succ n ih =>
    intro i s hh ver k Q hi h0 h1 h5 h19 h20 hg hK hR
    refine g.lpe b17_0.eq_1 ?_
    have c1 : (i : Int) < (l.length : Int) := by omega
    obtain ⟨c, r, hc, tc, tr, g1⟩ := getOp hv i (by omega)
    have w1 : IntKind.i64.wrap ((i : Int) + 1) = ((i + 1 : Nat) : Int) := by rw [w64 (by omega) (by omega)]; push_cast; rfl
    have next : opsAt nodes l i → ∀ (s' : T AV) (h' : Heap) (ver' : Nat), sg s' 0 = v → sg s' 1 = .int .i64 nodes → sg s' 5 = .map b → sg s' 19 = .int .i64 l.length → sg s' 20 = .int .i64 ((i + 1 : Nat) : Int) →
        h'.get b = some (.map (seenE (idsTo l (i + 1))) ver') → Lp P b17_0 s' h' (Un P k Q) := by
      intro hok s' h' ver' a1 a2 a3 a4 a5 a6
      refine ih (i + 1) s' h' ver' k Q (by omega) a1 a2 a3 a4 a5 a6 (fun hall => hK fun j h1 h2 => ?_) (fun hn => hR fun hall => hn fun j h1 h2 => hall j (by omega) h2)
      rcases Nat.lt_or_ge i j with h | h
      · exact hall j h h2
      · have : j = i := by omega
        subst this; exact hok
    have stop : ¬ opsAt nodes l i → ∀ (s' : T AV) (h' : Heap), sg s' 4 = .bool false → Un P k Q .ret s' h' := fun hn => hR fun hall => hn (hall i (Nat.le_refl _) (by omega))
    simp only [h0, h1, h5, h19, h20, c1, g1, RX, VOp.fresh, bxC, bsC, un, most, callsOf, seval, Int.reducePow, ↓reduceIte, Nat.reduceEqDiff, reduceCtorEq]
    refine (opMay_pu g hc tr).go (by simp [AV.tolds, AV.told, Cat.told.tolds_append, tc, tr]) ?_
    rintro x ⟨ob, rfl, hob⟩
    have hid := opId_pu g (r := r) hc
    have hkind : ∃ c', c = .int .i64 (l.getD i op0).kind :: c' := by
      obtain ⟨v', a, u, rfl, _⟩ := hc
      exact ⟨_, rfl⟩
    obtain ⟨c', rfl⟩ := hkind
    cases ob
    · simp only [RX, VOp.fresh, bxC, bsC, un, most, callsOf, seval, Int.reducePow, ↓reduceIte, Nat.reduceEqDiff, reduceCtorEq]
      exact stop (fun hok => absurd (hob.2 hok.1) (by simp)) _ _ (by simp only [sg_set, Nat.reduceEqDiff, ↓reduceIte])
    · have hok := hob.1 rfl
      generalize hx : opId (l.getD i op0) = x0 at *
      have hids : idsTo l (i + 1) = if 0 < x0 then idsTo l i ++ [x0] else idsTo l i := by rw [idsTo, hx]
      by_cases hk : (l.getD i op0).kind = 2
      · rw [hk] at hid tc
        by_cases hi0 : (0 : Int) < (i : Int)
        · simp only [h0, h1, h5, h19, h20, hk, hi0, RX, VOp.fresh, bxC, bsC, un, most, callsOf, seval, Int.reducePow, ↓reduceIte, Nat.reduceEqDiff, reduceCtorEq]
          exact stop (fun hok => absurd (hok.2.1 hk) (by omega)) _ _ (by simp only [sg_set, Nat.reduceEqDiff, ↓reduceIte])
        · simp only [h0, h1, h5, h19, h20, hk, hi0, RX, VOp.fresh, bxC, bsC, un, most, callsOf, seval, Int.reducePow, ↓reduceIte, Nat.reduceEqDiff, reduceCtorEq]
          refine hid.go (by simp [AV.tolds, AV.told, Cat.told.tolds_append, tc, tr]; simpa [AV.tolds, AV.told] using tc) ?_
          rintro x rfl
          by_cases hp : 0 < x0
          · by_cases hm : x0 ∈ idsTo l i
            · simp only [h0, h1, h5, h19, h20, hp, hm, hg, lkB_seen, RX, VOp.fresh, bxC, bsC, un, most, callsOf, seval, Int.reducePow, ↓reduceIte, Nat.reduceEqDiff, reduceCtorEq]
              refine stop (fun hok => ?_) _ _ (by simp only [sg_set, Nat.reduceEqDiff, ↓reduceIte])
              obtain ⟨_, j, h1, h2⟩ := (idsTo_mem l _ i).1 hm
              exact hok.2.2 (by rw [hx]; exact hp) j h1 (by rw [hx]; exact h2)
            · simp only [h0, h1, h5, h19, h20, hp, hm, hg, lkB_seen, muB_seen hm, w1, RX, VOp.fresh, bxC, bsC, un, most, callsOf, seval, Int.reducePow, ↓reduceIte, Nat.reduceEqDiff, reduceCtorEq]
              refine next ⟨hok, fun _ => by omega, fun _ j h1 h2 => hm ((idsTo_mem l _ i).2 ⟨hp, j, h1, by rw [h2, hx]⟩)⟩ _ _ (ver + 1) ?_ ?_ ?_ ?_ ?_ ?_
              · simp only [h0, sg_set, Nat.reduceEqDiff, ↓reduceIte]
              · simp only [h1, sg_set, Nat.reduceEqDiff, ↓reduceIte]
              · simp only [h5, sg_set, Nat.reduceEqDiff, ↓reduceIte]
              · simp only [h19, sg_set, Nat.reduceEqDiff, ↓reduceIte]
              · simp only [sg_set, Nat.reduceEqDiff, ↓reduceIte]
              · rw [Heap.get_put, if_pos rfl, hids, if_pos hp]
          · simp only [h0, h1, h5, h19, h20, hp, w1, RX, VOp.fresh, bxC, bsC, un, most, callsOf, seval, Int.reducePow, ↓reduceIte, Nat.reduceEqDiff, reduceCtorEq]
            refine next ⟨hok, fun _ => by omega, fun h => absurd (by rw [hx] at h; exact h) hp⟩ _ _ ver ?_ ?_ ?_ ?_ ?_ ?_
            · simp only [h0, sg_set, Nat.reduceEqDiff, ↓reduceIte]
            · simp only [h1, sg_set, Nat.reduceEqDiff, ↓reduceIte]
            · simp only [h5, sg_set, Nat.reduceEqDiff, ↓reduceIte]
            · simp only [h19, sg_set, Nat.reduceEqDiff, ↓reduceIte]
            · simp only [sg_set, Nat.reduceEqDiff, ↓reduceIte]
            · rw [hg, hids, if_neg hp]
      · simp only [h0, h1, h5, h19, h20, hk, RX, VOp.fresh, bxC, bsC, un, most, callsOf, seval, Int.reducePow, ↓reduceIte, Nat.reduceEqDiff, reduceCtorEq]
        refine hid.go (by simp [AV.tolds, AV.told, Cat.told.tolds_append, tc, tr]; simpa [AV.tolds, AV.told] using tc) ?_
        rintro x rfl
        by_cases hp : 0 < x0
        · by_cases hm : x0 ∈ idsTo l i
          · simp only [h0, h1, h5, h19, h20, hp, hm, hg, lkB_seen, RX, VOp.fresh, bxC, bsC, un, most, callsOf, seval, Int.reducePow, ↓reduceIte, Nat.reduceEqDiff, reduceCtorEq]
            refine stop (fun hok => ?_) _ _ (by simp only [sg_set, Nat.reduceEqDiff, ↓reduceIte])
            obtain ⟨_, j, h1, h2⟩ := (idsTo_mem l _ i).1 hm
            exact hok.2.2 (by rw [hx]; exact hp) j h1 (by rw [hx]; exact h2)
          · simp only [h0, h1, h5, h19, h20, hp, hm, hg, lkB_seen, muB_seen hm, w1, RX, VOp.fresh, bxC, bsC, un, most, callsOf, seval, Int.reducePow, ↓reduceIte, Nat.reduceEqDiff, reduceCtorEq]
            refine next ⟨hok, fun h => absurd h hk, fun _ j h1 h2 => hm ((idsTo_mem l _ i).2 ⟨hp, j, h1, by rw [h2, hx]⟩)⟩ _ _ (ver + 1) ?_ ?_ ?_ ?_ ?_ ?_
            · simp only [h0, sg_set, Nat.reduceEqDiff, ↓reduceIte]
            · simp only [h1, sg_set, Nat.reduceEqDiff, ↓reduceIte]
            · simp only [h5, sg_set, Nat.reduceEqDiff, ↓reduceIte]
            · simp only [h19, sg_set, Nat.reduceEqDiff, ↓reduceIte]
            · simp only [sg_set, Nat.reduceEqDiff, ↓reduceIte]
            · rw [Heap.get_put, if_pos rfl, hids, if_pos hp]
        · simp only [h0, h1, h5, h19, h20, hp, w1, RX, VOp.fresh, bxC, bsC, un, most, callsOf, seval, Int.reducePow, ↓reduceIte, Nat.reduceEqDiff, reduceCtorEq]
          refine next ⟨hok, fun h => absurd h hk, fun h => absurd (by rw [hx] at h; exact h) hp⟩ _ _ ver ?_ ?_ ?_ ?_ ?_ ?_
          · simp only [h0, sg_set, Nat.reduceEqDiff, ↓reduceIte]
          · simp only [h1, sg_set, Nat.reduceEqDiff, ↓reduceIte]
          · simp only [h5, sg_set, Nat.reduceEqDiff, ↓reduceIte]
          · simp only [h19, sg_set, Nat.reduceEqDiff, ↓reduceIte]
          · simp only [sg_set, Nat.reduceEqDiff, ↓reduceIte]
          · rw [hg, hids, if_neg hp]
theorem opsMay_pu (g : Pg P tab) {nodes : Int} {l : List Op} {v : AV} (hv : IsL 112 ROp v l) : Pu P 17 [v, .int .i64 nodes] (IsB (opsOk nodes l)) := by
  refine g.pu (vf := v17) rfl rfl ?_
  have hb := hv.bound (by decide)
  simp +contextual (maxSteps := 2000000) only [v17, hv.len, RX, VOp.fresh, bxC, bsC, un, most, callsOf, seval, Int.reducePow, ↓reduceIte, Nat.reduceEqDiff, reduceCtorEq]
  repeat' (first | apply And.intro | intro _)
  all_goals first
    | (rename_i hok; unfold opsOk at hok; omega)
    | skip
  refine opsMay_loop (nodes := nodes) g hv (by omega) 0 l.length 0 _ _ 0 _ _ (by omega) ?_ ?_ ?_ ?_ ?_ ?_ ?_ ?_
  · simp only [sg_set, Nat.reduceEqDiff, ↓reduceIte]
  · simp only [sg_set, Nat.reduceEqDiff, ↓reduceIte]
  · simp only [sg_set, Nat.reduceEqDiff, ↓reduceIte]
  · simp only [sg_set, Nat.reduceEqDiff, ↓reduceIte]
  · simp only [sg_set, Nat.reduceEqDiff, ↓reduceIte]
    rfl
  · rw [Heap.get_mk, if_pos rfl]; rfl
  · intro hall s' h'
    simp +contextual (maxSteps := 2000000) only [RX, VOp.fresh, bxC, bsC, un, most, callsOf, seval, Int.reducePow, ↓reduceIte, Nat.reduceEqDiff, reduceCtorEq]
    exact ⟨by omega, by omega, fun i hi => hall i (by omega) hi⟩
  · intro hn s' h' h4
    simp +contextual (maxSteps := 2000000) only [h4, RX, VOp.fresh, bxC, bsC, un, most, callsOf, seval, Int.reducePow, ↓reduceIte, Nat.reduceEqDiff, reduceCtorEq]
    intro hok
    exact hn fun j _ hj => hok.2.2 j hj
end
end Go.Proofs.Ytpfpngmfooagiaa.VM
namespace Go.Proofs.Ytpfpngmfooagiaa.VM
attribute [local irreducible] Af Nx EvO Ev Un Gd Cd EvR EvQ EvC Nc Gc Lp EvM NxM AfM GdM EvMR EvMQ EvMD EvMC Nm Gm
section
variable {P : Program}
theorem num_pu (g : Pg P tab) (n : Int) : Pu P 8 [.int .i64 n] (fun v => v = .int .i64 n) := by
  refine g.pu (vf := v8) rfl rfl ?_
  simp +contextual (maxSteps := 2000000) (disch := omega) only [v8, RX, VOp.fresh, bxC, bsC, un, most, callsOf, seval, Int.reducePow, ↓reduceIte, Nat.reduceEqDiff, reduceCtorEq]
theorem i64c {n : Int} (a : -1000000 ≤ n) (b : n ≤ 1000000) : I64 n := ⟨by omega, by omega⟩
theorem i0 : I64 0 := i64c (by decide) (by decide)
theorem i1 : I64 1 := i64c (by decide) (by decide)
end
end Go.Proofs.Ytpfpngmfooagiaa.VM
namespace Go.Proofs.Ytpfpngmfooagiaa.VM
attribute [local irreducible] Af Nx EvO Ev Un Gd Cd EvR EvQ EvC Nc Gc Lp EvM NxM AfM GdM EvMR EvMQ EvMD EvMC Nm Gm
theorem getD_ring {l : List (List Pt)} {i : Nat} (hi : i < l.length) : l.getD i [] = l[i] := by simp [List.getD_eq_getElem?_getD, List.getElem?_eq_getElem hi]
end Go.Proofs.Ytpfpngmfooagiaa.VM
namespace Go.Proofs.Ytpfpngmfooagiaa.VM
attribute [local irreducible] Af Nx EvO Ev Un Gd Cd EvR EvQ EvC Nc Gc Lp EvM NxM AfM GdM EvMR EvMQ EvMD EvMC Nm Gm
theorem reach_eq : reachBytes = 140737488351232 := rfl
end Go.Proofs.Ytpfpngmfooagiaa.VM
namespace Go.Proofs.Ytpfpngmfooagiaa.VM
attribute [local irreducible] Af Nx EvO Ev Un Gd Cd EvR EvQ EvC Nc Gc Lp EvM NxM AfM GdM EvMR EvMQ EvMD EvMC Nm Gm
end Go.Proofs.Ytpfpngmfooagiaa.VM
namespace Go.Proofs.Ytpfpngmfooagiaa.VM
attribute [local irreducible] Af Nx EvO Ev Un Gd Cd EvR EvQ EvC Nc Gc Lp EvM NxM AfM GdM EvMR EvMQ EvMD EvMC Nm Gm
end Go.Proofs.Ytpfpngmfooagiaa.VM
set_option linter.unusedSimpArgs false
set_option linter.unusedVariables false
set_option linter.defProp false
set_option maxHeartbeats 1000000
namespace Go.Proofs.Ytpfpngmfooagiaa.VM
attribute [local irreducible] Af Nx EvO Ev Un Gd Cd EvR EvQ EvC Nc Gc Lp EvM NxM AfM GdM EvMR EvMQ EvMD EvMC Nm Gm
def Plain {α : Type} (R : α → List AV → Prop) (sz : Nat) : Prop := ∀ a c, R a c → c.length = sz ∧ c.all AV.one = true ∧ AV.tolds c = true ∧ AV.bares c = true
section
variable {P : Program}
theorem Cat.take {α : Type} {R : α → List AV → Prop} {l : List α} {c d : List AV} {i : Nat} (hi : i < l.length) (h : Cat R (l.take i) c) (h' : R l[i] d) : Cat R (l.take (i + 1)) (c ++ d) := by
  rw [List.take_succ_eq_append_getElem hi]
  have := h.append (Cat.cons h' .nil)
  rwa [List.append_nil] at this
end
end Go.Proofs.Ytpfpngmfooagiaa.VM
namespace Go.Proofs.Ytpfpngmfooagiaa.VM
attribute [local irreducible] Af Nx EvO Ev Un Gd Cd EvR EvQ EvC Nc Gc Lp EvM NxM AfM GdM EvMR EvMQ EvMD EvMC Nm Gm
end Go.Proofs.Ytpfpngmfooagiaa.VM
namespace Go.Proofs.Ytpfpngmfooagiaa.VM
attribute [local irreducible] Af Nx EvO Ev Un Gd Cd EvR EvQ EvC Nc Gc Lp EvM NxM AfM GdM EvMR EvMQ EvMD EvMC Nm Gm
end Go.Proofs.Ytpfpngmfooagiaa.VM
namespace Go.Proofs.Ytpfpngmfooagiaa.VM
attribute [local irreducible] Af Nx EvO Ev Un Gd Cd EvR EvQ EvC Nc Gc Lp EvM NxM AfM GdM EvMR EvMQ EvMD EvMC Nm Gm
end Go.Proofs.Ytpfpngmfooagiaa.VM
namespace Go.Proofs.Ytpfpngmfooagiaa.VM
attribute [local irreducible] Af Nx EvO Ev Un Gd Cd EvR EvQ EvC Nc Gc Lp EvM NxM AfM GdM EvMR EvMQ EvMD EvMC Nm Gm
end Go.Proofs.Ytpfpngmfooagiaa.VM
namespace Go.Proofs.Ytpfpngmfooagiaa.VM
attribute [local irreducible] Af Nx EvO Ev Un Gd Cd EvR EvQ EvC Nc Gc Lp EvM NxM AfM GdM EvMR EvMQ EvMD EvMC Nm Gm
structure Bx where
  x0 : Int
  y0 : Int
  x1 : Int
  y1 : Int
def boxOk (b : Bx) : Prop := coordOk b.x0 ∧ coordOk b.y0 ∧ coordOk b.x1 ∧ coordOk b.y1 ∧ b.x0 ≤ b.x1 ∧ b.y0 ≤ b.y1
instance (b : Bx) : Decidable (boxOk b) := by unfold boxOk; infer_instance
def nodeOk (x : Int) : Prop := 0 ≤ x ∧ x < 8
instance (x : Int) : Decidable (nodeOk x) := by unfold nodeOk; infer_instance
def feat0 : Feat := ⟨0, 0, []⟩
section
variable {P : Program}
theorem isL_one {b : Nat} {α : Type} {R : α → List AV → Prop} {v : AV} {l : List α} (h : IsL b R v l) : v.one = true := by
  rcases h.2 with ⟨rfl, _⟩ | ⟨c, rfl, _⟩ <;> rfl
theorem zFeat (a : Feat) (c : List AV) (h : RFeat a c) : c.length = 3 := by obtain ⟨v, rfl, _⟩ := h; rfl
theorem getFeat {v : AV} {l : List Feat} (h : IsL 32 RFeat v l) (i : Nat) (hi : i < l.length) : ∃ rv r, IsL 24 RRing rv (l.getD i feat0).rings ∧ I64 (l.getD i feat0).id ∧ I64 (l.getD i feat0).shape ∧ AV.tolds r = true ∧
    ∀ (hh : Heap) (kk : IntKind), iaV hh 3 none v (.int kk (i : Int)) = .val (.rp (.int .i64 (l.getD i feat0).id :: .int .i64 (l.getD i feat0).shape :: rv :: r)) hh := by
  obtain ⟨ci, r, ⟨rv, e, i1, i2, hr⟩, ht, hia⟩ := h.get zFeat tFeat i hi
  have : l.getD i feat0 = l[i] := by simp [List.getD_eq_getElem?_getD, List.getElem?_eq_getElem hi]
  refine ⟨rv, r, by rw [this]; exact hr, by rw [this]; exact i1, by rw [this]; exact i2, ?_, fun hh kk => ?_⟩
  · rw [e] at ht
    simp only [AV.tolds, List.cons_append, List.nil_append, Bool.and_eq_true] at ht
    exact ht.2.2.2
  · rw [hia, e, this]; rfl
end
def zeroBox (b : Bx) : Prop := b.x0 = 0 ∧ b.y0 = 0 ∧ b.x1 = 0 ∧ b.y1 = 0
instance (b : Bx) : Decidable (zeroBox b) := by unfold zeroBox; infer_instance
end Go.Proofs.Ytpfpngmfooagiaa.VM
namespace Go.Proofs.Ytpfpngmfooagiaa.VM
attribute [local irreducible] Af Nx EvO Ev Un Gd Cd EvR EvQ EvC Nc Gc Lp EvM NxM AfM GdM EvMR EvMQ EvMD EvMC Nm Gm
end Go.Proofs.Ytpfpngmfooagiaa.VM
namespace Go.Proofs.Ytpfpngmfooagiaa.VM
attribute [local irreducible] Af Nx EvO Ev Un Gd Cd EvR EvQ EvC Nc Gc Lp EvM NxM AfM GdM EvMR EvMQ EvMD EvMC Nm Gm
end Go.Proofs.Ytpfpngmfooagiaa.VM
namespace Go.Proofs.Ytpfpngmfooagiaa.VM
attribute [local irreducible] Af Nx EvO Ev Un Gd Cd EvR EvQ EvC Nc Gc Lp EvM NxM AfM GdM EvMR EvMQ EvMD EvMC Nm Gm
end Go.Proofs.Ytpfpngmfooagiaa.VM
namespace Go.Proofs.Ytpfpngmfooagiaa.VM
attribute [local irreducible] Af Nx EvO Ev Un Gd Cd EvR EvQ EvC Nc Gc Lp EvM NxM AfM GdM EvMR EvMQ EvMD EvMC Nm Gm
def bxOk (a b c d : Int) : Prop := 0 ≤ a ∧ a ≤ 4294967295 ∧ 0 ≤ b ∧ b ≤ 4294967295 ∧ 0 ≤ c ∧ c ≤ 4294967295 ∧ 0 ≤ d ∧ d ≤ 4294967295 ∧ a ≤ c ∧ b ≤ d
instance (a b c d : Int) : Decidable (bxOk a b c d) := by unfold bxOk; infer_instance
section
variable {P : Program}
theorem coord6_pu (g : Pg P tab) (a : Int) : Pu P 36 [.int .i64 a] (fun v => v = .bool (decide (0 ≤ a ∧ a ≤ 4294967295))) := by
  refine g.pu (vf := v36) rfl rfl ?_
  simp +contextual (maxSteps := 2000000) (disch := omega) only [v36, RX, VOp.fresh, bxC, bsC, un, most, callsOf, seval, Int.reducePow, ↓reduceIte, Nat.reduceEqDiff, reduceCtorEq]
theorem boxMay_pu (g : Pg P tab) (a b c d : Int) : Pu P 24 [.agg [.int .i64 a, .int .i64 b, .int .i64 c, .int .i64 d]] (fun v => v = .bool (decide (bxOk a b c d))) := by
  refine g.pu (vf := v24) rfl rfl ?_
  simp only [v24, RX, VOp.fresh, bxC, bsC, un, most, callsOf, seval, Int.reducePow, ↓reduceIte, Nat.reduceEqDiff, reduceCtorEq]
  refine (coord6_pu g _).go rfl ?_
  rintro v rfl
  by_cases h1 : 0 ≤ a ∧ a ≤ 4294967295
  · simp only [h1, RX, VOp.fresh, bxC, bsC, un, most, callsOf, seval, Int.reducePow, ↓reduceIte, Nat.reduceEqDiff, reduceCtorEq]
    refine (coord6_pu g _).go rfl ?_
    rintro v rfl
    by_cases h2 : 0 ≤ b ∧ b ≤ 4294967295
    · simp only [h2, RX, VOp.fresh, bxC, bsC, un, most, callsOf, seval, Int.reducePow, ↓reduceIte, Nat.reduceEqDiff, reduceCtorEq]
      refine (coord6_pu g _).go rfl ?_
      rintro v rfl
      by_cases h3 : 0 ≤ c ∧ c ≤ 4294967295
      · simp only [h3, RX, VOp.fresh, bxC, bsC, un, most, callsOf, seval, Int.reducePow, ↓reduceIte, Nat.reduceEqDiff, reduceCtorEq]
        refine (coord6_pu g _).go rfl ?_
        rintro v rfl
        by_cases h4 : 0 ≤ d ∧ d ≤ 4294967295
        · simp +contextual (maxSteps := 2000000) only [h4, bxOk, h1, h2, h3, RX, VOp.fresh, bxC, bsC, un, most, callsOf, seval, Int.reducePow, ↓reduceIte, Nat.reduceEqDiff, reduceCtorEq]
        · have f : ¬ bxOk a b c d := fun z => by unfold bxOk at z; omega
          simp only [h4, f, RX, VOp.fresh, bxC, bsC, un, most, callsOf, seval, Int.reducePow, ↓reduceIte, Nat.reduceEqDiff, reduceCtorEq]
      · have f : ¬ bxOk a b c d := fun z => by unfold bxOk at z; omega
        simp only [h3, f, RX, VOp.fresh, bxC, bsC, un, most, callsOf, seval, Int.reducePow, ↓reduceIte, Nat.reduceEqDiff, reduceCtorEq]
    · have f : ¬ bxOk a b c d := fun z => by unfold bxOk at z; omega
      simp only [h2, f, RX, VOp.fresh, bxC, bsC, un, most, callsOf, seval, Int.reducePow, ↓reduceIte, Nat.reduceEqDiff, reduceCtorEq]
  · have f : ¬ bxOk a b c d := fun z => by unfold bxOk at z; omega
    simp only [h1, f, RX, VOp.fresh, bxC, bsC, un, most, callsOf, seval, Int.reducePow, ↓reduceIte, Nat.reduceEqDiff, reduceCtorEq]
end
end Go.Proofs.Ytpfpngmfooagiaa.VM
namespace Go.Proofs.Ytpfpngmfooagiaa.VM
attribute [local irreducible] Af Nx EvO Ev Un Gd Cd EvR EvQ EvC Nc Gc Lp EvM NxM AfM GdM EvMR EvMQ EvMD EvMC Nm Gm
section
variable {P : Program}
def aPt (p : Pt) : AV := .agg [.int .i64 p.x, .int .i64 p.y]
/-- what lay there lies there still -/
theorem pt_loop (g : Pg P tab) {ring : List Pt} {rv : AV} (hv : IsL 16 RPt rv ring) {yb : Nat} {J : List Pt → Heap → Prop} {Jx : Heap → Prop} (hJ : ∀ {pre h h'}, J pre h → Ext h h' → J pre h') (pre : List Pt)
    (hY : ∀ i h, i < ring.length → J (pre ++ ring.take i) h → Cl P (yf yb) [aPt (ring.getD i ⟨0, 0⟩)] h fun w h' => (w = .bool true ∧ J (pre ++ ring.take (i + 1)) h') ∨ (w = .bool false ∧ Jx h')) {v10 : AV} {i12 : Int} {n11 : Int} (n : Nat) :
    ∀ (j : Nat) (s : T AV) (h : Heap) (k : List Fr) (Q : Ex → T AV → Heap → Prop), j + n = ring.length → sg s 0 = .yld yb → sg s 16 = rv → sg s 17 = .int .i64 ring.length → sg s 18 = .int .i64 j → sg s 10 = v10 → sg s 11 = .int .i64 n11 → sg s 12 = .int .i64 i12 →
    J (pre ++ ring.take j) h →
    (∀ s' h', sg s' 0 = .yld yb → sg s' 10 = v10 → sg s' 11 = .int .i64 n11 → sg s' 12 = .int .i64 i12 → J (pre ++ ring) h' → Un P k Q (.exit 2) s' h') → (∀ s' h', Jx h' → Un P k Q .ret s' h') → Lp P b56_0 s h (Un P k Q) := by
  have hbd := hv.bound (by decide)
  induction n with
  | zero =>
    intro j s h k Q hn t0 t16 t17 t18 t10 t11 t12 hj hK hR
    refine g.lpe b56_0.eq_1 ?_
    have c1 : ¬ ((j : Int) < (ring.length : Int)) := by omega
    simp only [t17, t18, c1, RX, VOp.fresh, bxC, bsC, un, most, callsOf, seval, Int.reducePow, ↓reduceIte, Nat.reduceEqDiff, reduceCtorEq]
    rw [List.take_of_length_le (by omega)] at hj
    refine hK _ _ ?_ ?_ ?_ ?_ hj
    · simp only [t0, sg_set, Nat.reduceEqDiff, ↓reduceIte]
    · simp only [t10, sg_set, Nat.reduceEqDiff, ↓reduceIte]
    · simp only [t11, sg_set, Nat.reduceEqDiff, ↓reduceIte]
    · simp only [t12, sg_set, Nat.reduceEqDiff, ↓reduceIte]
  | succ n ih =>
    intro j s h k Q hn t0 t16 t17 t18 t10 t11 t12 hj hK hR
    refine g.lpe b56_0.eq_1 ?_
    have c1 : (j : Int) < (ring.length : Int) := by omega
    have w1 : IntKind.i64.wrap ((j : Int) + 1) = ((j + 1 : Nat) : Int) := by rw [w64 (by omega) (by omega)]; push_cast; rfl
    obtain ⟨r1, _, g1⟩ := getPt hv j (by omega)
    simp only [t0, t16, t17, t18, c1, g1, RW, RX, VOp.fresh, bxC, bsC, un, most, callsOf, seval, Int.reducePow, ↓reduceIte, Nat.reduceEqDiff, reduceCtorEq]
    have x1 : Ext h ((h.mk' h.next (.cells [.int .i64 0, .int .i64 0] 47 0)).put h.next (.cells [.int .i64 (ring.getD j ⟨0, 0⟩).x, .int .i64 (ring.getD j ⟨0, 0⟩).y] 47 1)) := ⟨by rw [put_next, mk_next]; omega, fun b hb => by rw [Heap.get_put, if_neg (by omega), Heap.get_mk, if_neg (by omega)]⟩
    refine (hY j _ (by omega) (hJ hj x1)).mono ?_
    rintro w h2 (⟨rfl, hj2⟩ | ⟨rfl, hx⟩)
    · simp only [t18, w1, RX, VOp.fresh, bxC, bsC, un, most, callsOf, seval, Int.reducePow, ↓reduceIte, Nat.reduceEqDiff, reduceCtorEq]
      refine ih (j + 1) _ _ k Q (by omega) ?_ ?_ ?_ ?_ ?_ ?_ ?_ hj2 hK hR
      · simp only [t0, sg_set, Nat.reduceEqDiff, ↓reduceIte]
      · simp only [t16, sg_set, Nat.reduceEqDiff, ↓reduceIte]
      · simp only [t17, sg_set, Nat.reduceEqDiff, ↓reduceIte]
      · simp only [sg_set, Nat.reduceEqDiff, ↓reduceIte]
      · simp only [t10, sg_set, Nat.reduceEqDiff, ↓reduceIte]
      · simp only [t11, sg_set, Nat.reduceEqDiff, ↓reduceIte]
      · simp only [t12, sg_set, Nat.reduceEqDiff, ↓reduceIte]
    · simp only [RX, VOp.fresh, bxC, bsC, un, most, callsOf, seval, Int.reducePow, ↓reduceIte, Nat.reduceEqDiff, reduceCtorEq]
      exact hR _ _ hx
theorem pts_loop (g : Pg P tab) {rs : List (List Pt)} {v : AV} (hv : IsL 24 RRing v rs) {yb : Nat} {J : List Pt → Heap → Prop} {Jx : Heap → Prop} (hJ : ∀ {pre h h'}, J pre h → Ext h h' → J pre h')
    (hY : ∀ pre p h, pre ++ [p] <+: rs.flatten → J pre h → Cl P (yf yb) [aPt p] h fun w h' => (w = .bool true ∧ J (pre ++ [p]) h') ∨ (w = .bool false ∧ Jx h')) (n : Nat) :
    ∀ (i : Nat) (s : T AV) (h : Heap) (k : List Fr) (Q : Ex → T AV → Heap → Prop), i + n = rs.length → sg s 0 = .yld yb → sg s 10 = v → sg s 11 = .int .i64 rs.length → sg s 12 = .int .i64 i →
    J (rs.take i).flatten h → (∀ s' h', J rs.flatten h' → Un P k Q (.exit 0) s' h') → (∀ s' h', Jx h' → Un P k Q .ret s' h') → Lp P b56_1 s h (Un P k Q) := by
  have hbd := hv.bound (by decide)
  induction n with
  | zero =>
    intro i s h k Q hn t0 t10 t11 t12 hj hK hR
    refine g.lpe b56_1.eq_1 ?_
    have c1 : ¬ ((i : Int) < (rs.length : Int)) := by omega
    simp only [t11, t12, c1, RX, VOp.fresh, bxC, bsC, un, most, callsOf, seval, Int.reducePow, ↓reduceIte, Nat.reduceEqDiff, reduceCtorEq]
    rw [List.take_of_length_le (by omega)] at hj
    exact hK _ _ hj
  | succ n ih =>
    intro i s h k Q hn t0 t10 t11 t12 hj hK hR
    refine g.lpe b56_1.eq_1 ?_
    have c1 : (i : Int) < (rs.length : Int) := by omega
    have w1 : IntKind.i64.wrap ((i : Int) + 1) = ((i + 1 : Nat) : Int) := by rw [w64 (by omega) (by omega)]; push_cast; rfl
    obtain ⟨rv, r1, hrv, _, g1⟩ := getRing hv i (by omega)
    have hi : i < rs.length := by omega
    have e1 : rs.getD i [] = rs[i] := getD_ring hi
    have ef : (rs.take (i + 1)).flatten = (rs.take i).flatten ++ rs.getD i [] := by
      rw [List.take_succ_eq_append_getElem hi, List.flatten_append, e1]; simp
    have eg : rs.flatten = (rs.take (i + 1)).flatten ++ (rs.drop (i + 1)).flatten := by
      rw [← List.flatten_append, List.take_append_drop]
    simp only [t0, t10, t11, t12, c1, g1, hrv.len, RX, VOp.fresh, bxC, bsC, un, most, callsOf, seval, Int.reducePow, ↓reduceIte, Nat.reduceEqDiff, reduceCtorEq]
    refine pt_loop g hrv (yb := yb) (J := J) (Jx := Jx) hJ (rs.take i).flatten (v10 := v) (i12 := i) (n11 := rs.length) (fun j h hjl hj => ?_) (rs.getD i []).length 0 _ _ _ _ (by omega) ?_ ?_ ?_ ?_ ?_ ?_ ?_ (by simpa using hj) (fun s' h' u0 u10 u11 u12 hj' => ?_) (fun s' h' hx => ?_)
    · have et : (rs.getD i []).take (j + 1) = (rs.getD i []).take j ++ [(rs.getD i []).getD j ⟨0, 0⟩] := by
        rw [List.take_succ_eq_append_getElem hjl, getP hjl]
      rw [et, ← List.append_assoc]
      refine hY _ _ h ?_ hj
      rw [List.append_assoc, ← et, eg, ef]
      exact ⟨(rs.getD i []).drop (j + 1) ++ (rs.drop (i + 1)).flatten, by rw [List.append_assoc, ← List.append_assoc ((rs.getD i []).take (j + 1)), List.take_append_drop, List.append_assoc]⟩
    · simp only [t0, sg_set, Nat.reduceEqDiff, ↓reduceIte]
    · simp only [sg_set, Nat.reduceEqDiff, ↓reduceIte]
    · simp only [sg_set, Nat.reduceEqDiff, ↓reduceIte]
    · simp only [sg_set, Nat.reduceEqDiff, ↓reduceIte]
      rfl
    · simp only [t10, sg_set, Nat.reduceEqDiff, ↓reduceIte]
    · simp only [t11, sg_set, Nat.reduceEqDiff, ↓reduceIte]
    · simp only [t12, sg_set, Nat.reduceEqDiff, ↓reduceIte]
    · simp only [u12, w1, RX, VOp.fresh, bxC, bsC, un, most, callsOf, seval, Int.reducePow, ↓reduceIte, Nat.reduceEqDiff, reduceCtorEq]
      refine ih (i + 1) _ _ k Q (by omega) ?_ ?_ ?_ ?_ (by rw [ef]; exact hj') hK hR
      · simp only [u0, sg_set, Nat.reduceEqDiff, ↓reduceIte]
      · simp only [u10, sg_set, Nat.reduceEqDiff, ↓reduceIte]
      · simp only [u11, sg_set, Nat.reduceEqDiff, ↓reduceIte]
      · simp only [sg_set, Nat.reduceEqDiff, ↓reduceIte]
    · simp only [RX, VOp.fresh, bxC, bsC, un, most, callsOf, seval, Int.reducePow, ↓reduceIte, Nat.reduceEqDiff, reduceCtorEq]
      exact hR _ _ hx
/-- the iterator over all points -/
theorem pts_cl (g : Pg P tab) {rs : List (List Pt)} {v a0 a1 : AV} (hv : IsL 24 RRing v rs) {yb bb fb e1 e2 n1 n2 : Nat} {J : List Pt → Heap → Prop} {Jx : Heap → Prop} (hJ : ∀ {pre h h'}, J pre h → Ext h h' → J pre h')
    (hY : ∀ pre p h, pre ++ [p] <+: rs.flatten → J pre h → Cl P (yf yb) [aPt p] h fun w h' => (w = .bool true ∧ J (pre ++ [p]) h') ∨ (w = .bool false ∧ Jx h'))
    {h : Heap} (g1 : h.get bb = some (.cells [.ptr fb 0] e1 n1)) (g2 : h.get fb = some (.cells [a0, a1, v] e2 n2)) (hj : J [] h) :
    Cl P 56 [.yld yb, .ptr bb 0] h fun _ h' => J rs.flatten h' ∨ Jx h' := by
  refine g.cl (vf := v56) rfl rfl ?_
  simp only [v56, g1, g2, hv.len, RX, VOp.fresh, bxC, bsC, un, most, callsOf, seval, Int.reducePow, ↓reduceIte, Nat.reduceEqDiff, reduceCtorEq]
  refine pts_loop g hv (J := J) (Jx := Jx) hJ hY rs.length 0 _ _ _ _ (by omega) ?_ ?_ ?_ ?_ (by simpa using hj) (fun s' h' hj' => ?_) (fun s' h' hx => ?_)
  · simp only [sg_set, Nat.reduceEqDiff, ↓reduceIte]
  · simp only [sg_set, Nat.reduceEqDiff, ↓reduceIte]
  · simp only [sg_set, Nat.reduceEqDiff, ↓reduceIte]
  · simp only [sg_set, Nat.reduceEqDiff, ↓reduceIte]
    rfl
  · simp only [v56, RX, VOp.fresh, bxC, bsC, un, most, callsOf, seval, Int.reducePow, ↓reduceIte, Nat.reduceEqDiff, reduceCtorEq]
    exact .inl hj'
  · simp only [v56, RX, VOp.fresh, bxC, bsC, un, most, callsOf, seval, Int.reducePow, ↓reduceIte, Nat.reduceEqDiff, reduceCtorEq]
    exact .inr hx
theorem pts_mk (g : Pg P tab) {fb : Nat} {h : Heap} : Cl P 37 [.ptr fb 0] h fun w h' => w = .fn 56 [.ptr h.next 0] ∧ h' = h.mk' h.next (.cells [.ptr fb 0] 79 0) := by
  refine g.cl (vf := v37) rfl rfl ?_
  simp only [v37, RX, VOp.fresh, bxC, bsC, un, most, callsOf, seval, Int.reducePow, ↓reduceIte, Nat.reduceEqDiff, reduceCtorEq]
end
end Go.Proofs.Ytpfpngmfooagiaa.VM
namespace Go.Proofs.Ytpfpngmfooagiaa.VM
attribute [local irreducible] Af Nx EvO Ev Un Gd Cd EvR EvQ EvC Nc Gc Lp EvM NxM AfM GdM EvMR EvMQ EvMD EvMC Nm Gm
def aBx (b : Bx) : AV := .agg [.int .i64 b.x0, .int .i64 b.y0, .int .i64 b.x1, .int .i64 b.y1]
def imn (x y : Int) : Int := if y < x then y else x
def imx (x y : Int) : Int := if y > x then y else x
def bxPt (p : Pt) : Bx := ⟨p.x, p.y, p.x, p.y⟩
def bxJ (a b : Bx) : Bx := ⟨imn a.x0 b.x0, imn a.y0 b.y0, imx a.x1 b.x1, imx a.y1 b.y1⟩
def bxAll (l : List Pt) (b : Bx) : Bx := l.foldl (fun b p => bxJ b (bxPt p)) b
def fPts (f : Feat) : List Pt := f.rings.flatten
def fBox (f : Feat) : Bx := bxAll (fPts f) (bxPt ((f.rings.getD 0 []).getD 0 ⟨0, 0⟩))
def bOk (b : Bx) : Prop := bxOk b.x0 b.y0 b.x1 b.y1
instance (b : Bx) : Decidable (bOk b) := by unfold bOk; infer_instance
theorem imn_le (x y : Int) : imn x y ≤ x ∧ imn x y ≤ y ∧ (imn x y = x ∨ imn x y = y) := by unfold imn; split <;> omega
theorem imx_le (x y : Int) : x ≤ imx x y ∧ y ≤ imx x y ∧ (imx x y = x ∨ imx x y = y) := by unfold imx; split <;> omega
theorem bxJ_ok {a b : Bx} (h : bOk a) (k : bOk b) : bOk (bxJ a b) := by
  unfold bOk bxOk at *
  have h1 := imn_le a.x0 b.x0
  have h2 := imn_le a.y0 b.y0
  have h3 := imx_le a.x1 b.x1
  have h4 := imx_le a.y1 b.y1
  simp only [bxJ]
  omega
theorem bxPt_ok {p : Pt} (h : ptOk p) : bOk (bxPt p) := by
  unfold bOk bxOk bxPt
  unfold ptOk coordOk at h
  simp only
  omega
theorem featOk.first {f : Feat} (h : featOk f) : 0 < f.rings.length ∧ 0 < (f.rings.getD 0 []).length := by
  obtain ⟨_, _, h1, _, h2⟩ := h
  refine ⟨by omega, ?_⟩
  rcases h2 with ⟨_, _, h3, _⟩ | ⟨_, _, h3⟩ | ⟨_, h3⟩
  · omega
  · have := h3.1; omega
  · have := (h3 0 (by omega)).1; omega
theorem featOk.pts {f : Feat} (h : featOk f) : ∀ p ∈ fPts f, ptOk p := by
  intro p hp
  obtain ⟨_, _, h1, _, h2⟩ := h
  obtain ⟨r, hr, hp⟩ := List.mem_flatten.1 hp
  obtain ⟨i, hi, rfl⟩ := List.getElem_of_mem hr
  obtain ⟨j, hj, rfl⟩ := List.getElem_of_mem hp
  have e : f.rings.getD i [] = f.rings[i] := getD_ring hi
  rcases h2 with ⟨_, h3, h4, h5⟩ | ⟨_, h3, h4⟩ | ⟨_, h3⟩
  · obtain rfl : i = 0 := by omega
    rw [e] at h4 h5
    obtain rfl : j = 0 := by omega
    rwa [getP hj] at h5
  · obtain rfl : i = 0 := by omega
    rw [e] at h4
    have := (h4.2.2 j hj).1
    rwa [getP hj] at this
  · have h4 := h3 i hi
    rw [e] at h4
    have := (h4.2.2 j hj).1
    rwa [getP hj] at this
theorem fmin {k : IntKind} {x y : Int} : foldO min2 (.int k x) [.int k y] = some (.int k (imn x y)) := rfl
theorem fmax {k : IntKind} {x y : Int} : foldO max2 (.int k x) [.int k y] = some (.int k (imx x y)) := rfl
section
variable {P : Program}
theorem between_pu (g : Pg P tab) (p q : Pt) : Pu P 67 [aPt p, aPt q] (fun v => v = aBx ⟨imn p.x q.x, imn p.y q.y, imx p.x q.x, imx p.y q.y⟩) := by
  refine g.pu (vf := v67) rfl rfl ?_
  simp only [v67, aPt, aBx, fmin, fmax, RW, RX, VOp.fresh, bxC, bsC, un, most, callsOf, seval, Int.reducePow, ↓reduceIte, Nat.reduceEqDiff, reduceCtorEq]
  exact ⟨_, .agg (scals_fz rfl), rfl⟩
theorem join_pu (g : Pg P tab) (a b : Bx) : Pu P 68 [aBx a, aBx b] (fun v => v = if bOk a ∧ bOk b then .tup [aBx (bxJ a b), .int .i64 0] else .tup [aBx ⟨0, 0, 0, 0⟩, .int .i64 300]) := by
  refine g.pu (vf := v68) rfl rfl ?_
  simp only [v68, aBx, RW, RX, VOp.fresh, bxC, bsC, un, most, callsOf, seval, Int.reducePow, ↓reduceIte, Nat.reduceEqDiff, reduceCtorEq]
  refine (boxMay_pu g a.x0 a.y0 a.x1 a.y1).go rfl ?_
  rintro _ rfl
  by_cases ha : bOk a
  · have ha' : decide (bxOk a.x0 a.y0 a.x1 a.y1) = true := decide_eq_true ha
    rw [ha']
    simp only [RX, VOp.fresh, bxC, bsC, un, most, callsOf, seval, Int.reducePow, ↓reduceIte, Nat.reduceEqDiff, reduceCtorEq]
    refine (boxMay_pu g b.x0 b.y0 b.x1 b.y1).go rfl ?_
    rintro _ rfl
    by_cases hb : bOk b
    · have hb' : decide (bxOk b.x0 b.y0 b.x1 b.y1) = true := decide_eq_true hb
      rw [hb']
      simp only [fmin, fmax, bxJ, ha, hb, RW, RX, VOp.fresh, bxC, bsC, un, most, callsOf, seval, Int.reducePow, ↓reduceIte, Nat.reduceEqDiff, reduceCtorEq]
      exact ⟨_, .tup (.cons (.agg (scals_fz rfl)) (.cons (.int _ _) .nil)), rfl⟩
    · have hb' : decide (bxOk b.x0 b.y0 b.x1 b.y1) = false := decide_eq_false hb
      rw [hb']
      simp only [ha, hb, RW, RX, VOp.fresh, bxC, bsC, un, most, callsOf, seval, Int.reducePow, ↓reduceIte, Nat.reduceEqDiff, reduceCtorEq]
      exact ⟨_, .tup (.cons (.agg (scals_fz rfl)) (.cons (.int _ _) .nil)), rfl⟩
  · have ha' : decide (bxOk a.x0 a.y0 a.x1 a.y1) = false := decide_eq_false ha
    rw [ha']
    simp only [ha, RW, RX, VOp.fresh, bxC, bsC, un, most, callsOf, seval, Int.reducePow, ↓reduceIte, Nat.reduceEqDiff, reduceCtorEq]
    exact ⟨_, .tup (.cons (.agg (scals_fz rfl)) (.cons (.int _ _) .nil)), rfl⟩
theorem bxAll_ok : ∀ {l : List Pt} {b : Bx}, (∀ p ∈ l, ptOk p) → bOk b → bOk (bxAll l b)
  | [], _, _, h => h
  | p :: l, b, hl, h => bxAll_ok (l := l) (fun q hq => hl q (.tail _ hq)) (bxJ_ok h (bxPt_ok (hl p (.head _))))
theorem bxAll_snoc (l : List Pt) (p : Pt) (b : Bx) : bxAll (l ++ [p]) b = bxJ (bxAll l b) (bxPt p) := by simp [bxAll]
/-- where the rounds stand -/
structure BoxJ (r : LoopB) (N ob tb : Nat) (b0 : Bx) (pre : List Pt) (h : Heap) : Prop where
  lt : N < h.next ∧ ob < N ∧ tb < N ∧ ob ≠ tb
  lp : h.get N = some (.loop r)
  out : ∃ ver, h.get ob = some (.cells [.int .i64 0, .int .i64 0, .int .i64 0, .int .i64 0] 45 ver)
  box : ∃ ver, h.get tb = some (.cells [.int .i64 (bxAll pre b0).x0, .int .i64 (bxAll pre b0).y0, .int .i64 (bxAll pre b0).x1, .int .i64 (bxAll pre b0).y1] 45 ver)
theorem BoxJ.ext {r : LoopB} {N ob tb : Nat} {b0 : Bx} {pre : List Pt} {h h' : Heap} (j : BoxJ r N ob tb b0 pre h) (x : Ext h h') : BoxJ r N ob tb b0 pre h' := by
  obtain ⟨h1, h2, h3, h4⟩ := j.lt
  refine ⟨⟨Nat.lt_of_lt_of_le h1 x.1, h2, h3, h4⟩, by rw [x.2 _ h1]; exact j.lp, ?_, ?_⟩
  · obtain ⟨v, e⟩ := j.out
    exact ⟨v, by rw [x.2 _ (by omega)]; exact e⟩
  · obtain ⟨v, e⟩ := j.box
    exact ⟨v, by rw [x.2 _ (by omega)]; exact e⟩
theorem box_round (g : Pg P tab) {s : T AV} {N ob tb : Nat} (t4 : sg s 4 = .ptr tb 0) {b0 : Bx} (hb0 : bOk b0) {pre : List Pt} {p : Pt} (hpre : ∀ q ∈ pre, ptOk q) (hp : ptOk p) {r : LoopB} (hr : r = ⟨P, s, [24], b47_0, b47_1, 0, none⟩) {h : Heap} (j : BoxJ r N ob tb b0 pre h) :
    Cl P (yf N) [aPt p] h fun w h' => (w = .bool true ∧ BoxJ r N ob tb b0 (pre ++ [p]) h') ∨ (w = .bool false ∧ False) := by
  obtain ⟨l1, l2, l3, l4⟩ := j.lt
  refine yield_cl g.hm j.lp (by rw [hr]) (by rw [hr]) (by rw [hr]) (by rw [hr]; rfl) (by rw [hr]; rfl) (by rw [hr]; rfl) ?_
  rw [show r.asg = b47_0 by rw [hr], show r.body = b47_1 by rw [hr], show setps r.ps [aPt p] r.s = s.set 24 (aPt p) by rw [hr]; rfl]
  simp only [b47_0, aPt, RW, RX, VOp.fresh, bxC, bsC, un, most, callsOf, seval, Int.reducePow, ↓reduceIte, Nat.reduceEqDiff, reduceCtorEq]
  have e1 : ¬ N = h.next := by omega
  have e2 : ¬ tb = h.next := by omega
  have e3 : ¬ tb = N := by omega
  have e4 : ¬ h.next = N := by omega
  obtain ⟨vo, go⟩ := j.out
  obtain ⟨vb, gb⟩ := j.box
  refine ⟨by simp only [e1, if_false]; exact j.lp, ?_⟩
  obtain ⟨h1, eh1⟩ : ∃ h1, h1 = (((h.mk' h.next (.cells [.int .i64 0, .int .i64 0] 47 0)).put h.next (.cells [.int .i64 p.x, .int .i64 p.y] 47 1)).put N (.loop r.busy)) := ⟨_, rfl⟩
  have k1 : h1.get h.next = some (.cells [.int .i64 p.x, .int .i64 p.y] 47 1) := by rw [eh1, Heap.get_put, if_neg e4, Heap.get_put, if_pos rfl]
  have k2 : h1.get tb = h.get tb := by rw [eh1, Heap.get_put, if_neg e3, Heap.get_put, if_neg e2, Heap.get_mk, if_neg e2]
  have k3 : h1.get N = some (.loop r.busy) := by rw [eh1, Heap.get_put, if_pos rfl]
  rw [← eh1]
  have ie : ∀ x : Int, imn x x = x ∧ imx x x = x := fun x => by unfold imn imx; constructor <;> split <;> rfl
  have hB := bxAll_ok hpre hb0
  generalize hBe : bxAll pre b0 = B at gb hB
  have o89 : OK P 67 [.agg [.int .i64 p.x, .int .i64 p.y], .agg [.int .i64 p.x, .int .i64 p.y]] h1 (.agg [.int .i64 p.x, .int .i64 p.y, .int .i64 p.x, .int .i64 p.y]) h1 := by
    have := (between_pu g p p).exact (h := h1) rfl
    rwa [(ie p.x).1, (ie p.x).2, (ie p.y).1, (ie p.y).2] at this
  have o91 : OK P 68 [.agg [.int .i64 B.x0, .int .i64 B.y0, .int .i64 B.x1, .int .i64 B.y1], .agg [.int .i64 p.x, .int .i64 p.y, .int .i64 p.x, .int .i64 p.y]] h1 (.tup [.agg [.int .i64 (bxJ B (bxPt p)).x0, .int .i64 (bxJ B (bxPt p)).y0, .int .i64 (bxJ B (bxPt p)).x1, .int .i64 (bxJ B (bxPt p)).y1], .int .i64 0]) h1 := by
    have := (join_pu g B (bxPt p)).exact (h := h1) rfl
    rwa [if_pos ⟨hB, bxPt_ok hp⟩] at this
  obtain ⟨c, c1, c2⟩ : ∃ c : Nat → List AV → Heap → AV × Heap, (∀ a h, c 67 a h = (.agg [.int .i64 p.x, .int .i64 p.y, .int .i64 p.x, .int .i64 p.y], h)) ∧ (∀ a h, c 68 a h = (.tup [.agg [.int .i64 (bxJ B (bxPt p)).x0, .int .i64 (bxJ B (bxPt p)).y0, .int .i64 (bxJ B (bxPt p)).x1, .int .i64 (bxJ B (bxPt p)).y1], .int .i64 0], h)) :=
    ⟨fun f _ h => if f = 67 then (.agg [.int .i64 p.x, .int .i64 p.y, .int .i64 p.x, .int .i64 p.y], h) else (.tup [.agg [.int .i64 (bxJ B (bxPt p)).x0, .int .i64 (bxJ B (bxPt p)).y0, .int .i64 (bxJ B (bxPt p)).x1, .int .i64 (bxJ B (bxPt p)).y1], .int .i64 0], h), fun _ _ => rfl, fun _ _ => rfl⟩
  simp only [b47_1, RW, RX, VOp.fresh, bxC, bsC, un, most, callsOf, seval, Int.reducePow, ↓reduceIte, Nat.reduceEqDiff, reduceCtorEq]
  refine EvD.sameN 5 c rfl ?_
  simp only [t4, k1, k2, gb, c1, c2, o89, o91, RW, RX, VOp.fresh, bxC, bsC, un, most, callsOf, seval, Int.reducePow, ↓reduceIte, Nat.reduceEqDiff, reduceCtorEq]
  have hn1 : h1.next = h.next + 1 := by rw [eh1, put_next, put_next, mk_next]; omega
  have ko : h1.get ob = h.get ob := by rw [eh1, Heap.get_put, if_neg (by omega), Heap.get_put, if_neg (by omega), Heap.get_mk, if_neg (by omega)]
  refine ⟨by rw [if_neg (fun e => e3 e.symm)]; exact k3, .inl ⟨rfl, ⟨?_, ?_, ⟨vo, ?_⟩, ⟨vb + 1, ?_⟩⟩⟩⟩
  · rw [put_next, put_next, hn1]; omega
  · rw [Heap.get_put, if_pos rfl]
  · rw [Heap.get_put, if_neg (by omega), Heap.get_put, if_neg l4, ko]; exact go
  · rw [Heap.get_put, if_neg e3, Heap.get_put, if_pos rfl, bxAll_snoc, hBe]
theorem box_go (g : Pg P tab) {f : Feat} {v a0 a1 : AV} (hv : IsL 24 RRing v f.rings) (ho : featOk f) {s : T AV} {N M fb ob tb e1 n1 e2 n2 n3 n4 : Nat} (t4 : sg s 4 = .ptr tb 0) {h : Heap} (hN : h.next = N) (gM : h.get M = some (.cells [.ptr fb 0] e1 n1)) (gf : h.get fb = some (.cells [a0, a1, v] e2 n2))
    (l0 : M < N ∧ fb < N ∧ ob < N ∧ tb < N ∧ ob ≠ tb) (go1 : h.get ob = some (.cells [.int .i64 0, .int .i64 0, .int .i64 0, .int .i64 0] 45 n3)) {b0 : Bx} (hb0 : bOk b0) (gb : h.get tb = some (.cells [.int .i64 b0.x0, .int .i64 b0.y0, .int .i64 b0.x1, .int .i64 b0.y1] 45 n4)) {Q : Ex → T AV → Heap → Prop}
    (hQ : ∀ h' v1 v2, h'.get ob = some (.cells [.int .i64 0, .int .i64 0, .int .i64 0, .int .i64 0] 45 v1) → h'.get tb = some (.cells [.int .i64 (bxAll (fPts f) b0).x0, .int .i64 (bxAll (fPts f) b0).y0, .int .i64 (bxAll (fPts f) b0).x1, .int .i64 (bxAll (fPts f) b0).y1] 45 v2) → Q .normal s h') :
    56 < YB ∧ Cl P 56 [.yld N, .ptr M 0] (h.mk' N (.loop ⟨P, s, [24], b47_0, b47_1, 0, none⟩)) fun _ h2 => LoopEnd N s h2 Q := by
  obtain ⟨q1, q2, q3, q4, q5⟩ := l0
  refine ⟨by decide, ?_⟩
  obtain ⟨r, hr⟩ : ∃ r : LoopB, r = ⟨P, s, [24], b47_0, b47_1, 0, none⟩ := ⟨_, rfl⟩
  rw [← hr]
  refine (pts_cl g hv (bb := M) (fb := fb) (e1 := e1) (n1 := n1) (e2 := e2) (n2 := n2) (a0 := a0) (a1 := a1) (J := BoxJ r N ob tb b0) (Jx := fun _ => False) (fun j x => j.ext x) (fun pre p h hpre j => ?_) ?_ ?_ ?_).mono fun _ h2 hj => ?_
  · have hm : ∀ q ∈ pre ++ [p], ptOk q := fun q hq => ho.pts q (hpre.subset hq)
    exact box_round g t4 hb0 (fun q hq => hm q (List.mem_append_left _ hq)) (hm p (by simp)) hr j
  · rw [Heap.get_mk, if_neg (by omega)]; exact gM
  · rw [Heap.get_mk, if_neg (by omega)]; exact gf
  · refine ⟨⟨by rw [← hN, mk_next]; omega, q3, q4, q5⟩, by rw [Heap.get_mk, if_pos rfl], ⟨n3, ?_⟩, ⟨n4, ?_⟩⟩
    · rw [Heap.get_mk, if_neg (by omega)]; exact go1
    · rw [Heap.get_mk, if_neg (by omega)]; exact gb
  · rcases hj with j | hf
    · unfold LoopEnd
      rw [j.lp]
      obtain ⟨v1, g1⟩ := j.out
      obtain ⟨v2, g2⟩ := j.box
      have hfin : Q .normal s (h2.put N .dead) := hQ _ v1 v2 (by rw [Heap.get_put, if_neg (by omega)]; exact g1) (by rw [Heap.get_put, if_neg (by omega)]; exact g2)
      rw [hr]
      exact ⟨rfl, hfin⟩
    · exact hf.elim
/-- the rounds: each point joined -/
theorem box_pu (g : Pg P tab) {f : Feat} {v : AV} (hv : IsL 24 RRing v f.rings) : Pu P 47 [.agg [.int .i64 f.id, .int .i64 f.shape, v]] (fun w => (¬ featOk f ∧ w = .tup [aBx ⟨0, 0, 0, 0⟩, .int .i64 400]) ∨ (featOk f ∧ w = .tup [aBx (fBox f), .int .i64 0])) := by
  refine g.pu (vf := v47) rfl rfl ?_
  simp only [v47, RW, RX, VOp.fresh, bxC, bsC, un, most, callsOf, seval, Int.reducePow, ↓reduceIte, Nat.reduceEqDiff, reduceCtorEq]
  refine (shapeMay_pu g hv).go (by simp [AV.tolds, AV.told, hv.told tRing]) ?_
  rintro _ ⟨b, rfl, hb⟩
  cases b with
  | false =>
    have ho : ¬ featOk f := fun h => by have := hb.2 h; cases this
    simp only [RW, RX, VOp.fresh, bxC, bsC, un, most, callsOf, seval, Int.reducePow, ↓reduceIte, Nat.reduceEqDiff, reduceCtorEq]
    exact ⟨_, .tup (.cons (.agg (scals_fz rfl)) (.cons (.int _ _) .nil)), .inl ⟨ho, rfl⟩⟩
  | true =>
    have ho : featOk f := hb.1 rfl
    obtain ⟨h0, h1⟩ := ho.first
    obtain ⟨rv, r1, hrv, t1, g1⟩ := getRing hv 0 h0
    obtain ⟨r2, t2, g2⟩ := getPt hrv 0 h1
    simp only [Int.natCast_zero, Int.ofNat_zero, Int.ofNat_eq_natCast] at g1 g2
    simp only [g1, g2, RW, RX, VOp.fresh, bxC, bsC, un, most, callsOf, seval, Int.reducePow, ↓reduceIte, Nat.reduceEqDiff, reduceCtorEq]
    obtain ⟨p0, hp0⟩ : ∃ p0, (f.rings.getD 0 []).getD 0 ⟨0, 0⟩ = p0 := ⟨_, rfl⟩
    rw [hp0]
    refine (between_pu g p0 p0).go rfl ?_
    rintro _ rfl
    have ie : ∀ x : Int, imn x x = x ∧ imx x x = x := fun x => by unfold imn imx; constructor <;> split <;> rfl
    simp only [(ie p0.x).1, (ie p0.x).2, (ie p0.y).1, (ie p0.y).2, aBx]
    simp only [RW, RX, VOp.fresh, bxC, bsC, un, most, callsOf, seval, Int.reducePow, ↓reduceIte, Nat.reduceEqDiff, reduceCtorEq]
    refine (pts_mk g).mono ?_
    rintro _ _ ⟨rfl, rfl⟩
    simp only [RW, RX, VOp.fresh, bxC, bsC, un, most, callsOf, seval, Int.reducePow, ↓reduceIte, Nat.reduceEqDiff, reduceCtorEq]
    refine box_go g (f := f) (a0 := .int .i64 f.id) (a1 := .int .i64 f.shape) (ob := 1) (tb := 15) (fb := 0) (b0 := bxPt p0) hv ho ?_ ?_ (e1 := 79) (n1 := 0) ?_ (e2 := 31) (n2 := 0) ?_ (by decide) (n3 := 0) ?_ (bxPt_ok (ho.pts p0 ?_)) (n4 := 1) ?_ fun h' v1 v2 k1 k2 => ?_
    · simp only [sg_set, Nat.reduceEqDiff, ↓reduceIte]
    · rfl
    · rfl
    · rfl
    · rfl
    · rw [← hp0]
      exact List.mem_flatten.2 ⟨f.rings.getD 0 [], by rw [getD_ring h0]; exact List.getElem_mem h0, by rw [getP h1]; exact List.getElem_mem h1⟩
    · rfl
    · simp only [k1, k2, RW, RX, VOp.fresh, bxC, bsC, un, most, callsOf, seval, Int.reducePow, ↓reduceIte, Nat.reduceEqDiff, reduceCtorEq]
      exact ⟨_, .tup (.cons (.agg (scals_fz rfl)) (.cons (.int _ _) .nil)), .inr ⟨ho, by unfold fBox; rw [hp0]⟩⟩
end
end Go.Proofs.Ytpfpngmfooagiaa.VM
namespace Go.Proofs.Ytpfpngmfooagiaa.VM
attribute [local irreducible] Af Nx EvO Ev Un Gd Cd EvR EvQ EvC Nc Gc Lp EvM NxM AfM GdM EvMR EvMQ EvMD EvMC Nm Gm
def upAt (l : List Feat) (i : Nat) : Prop := featOk (l.getD i feat0) ∧ (0 < i → (l.getD (i - 1) feat0).id < (l.getD i feat0).id)
def featsUp (l : List Feat) : Prop := ∀ i, i < l.length → upAt l i
section
variable {P : Program}
theorem rising_loop (g : Pg P tab) {l : List Feat} {w : AV} (hw : IsL 32 RFeat w l) (n : Nat) :
    ∀ (i : Nat) (s : T AV) (hh : Heap) (k : List Fr) (Q : Ex → T AV → Heap → Prop), i + n = l.length → (∀ j, j < i → upAt l j) → sg s 0 = w → sg s 5 = w → sg s 6 = .int .i64 l.length → sg s 7 = .int .i64 i →
    (∀ s' h', featsUp l → Un P k Q (.exit 0) s' h') → (∀ s' h', ¬ featsUp l → sg s' 2 = .bool false → Un P k Q .ret s' h') → Lp P b16_0 s hh (Un P k Q) := by
  have hbd := hw.bound (by decide)
  induction n with
  | zero =>
    intro i s hh k Q hi hu h0 h5 h6 h7 hK _
    refine g.lpe b16_0.eq_1 ?_
    have c1 : ¬ ((i : Int) < (l.length : Int)) := by omega
    simp only [h0, h5, h6, h7, c1, RX, VOp.fresh, bxC, bsC, un, most, callsOf, seval, Int.reducePow, ↓reduceIte, Nat.reduceEqDiff, reduceCtorEq]
    exact hK _ _ fun j hj => hu j (by omega)
  | succ n ih =>
    intro i s hh k Q hi hu h0 h5 h6 h7 hK hN
    refine g.lpe b16_0.eq_1 ?_
    have c1 : (i : Int) < (l.length : Int) := by omega
    obtain ⟨x1, r1, i4, i2, i3, _, g1⟩ := getFeat hw i (by omega)
    have w1 : IntKind.i64.wrap ((i : Int) + 1) = ((i + 1 : Nat) : Int) := by rw [w64 (by omega) (by omega)]; push_cast; rfl
    have o1 := isL_one i4
    simp only [h5, h6, h7, c1, g1, o1, HN, RW, RX, VOp.fresh, bxC, bsC, un, most, callsOf, seval, Int.reducePow, ↓reduceIte, Nat.reduceEqDiff, reduceCtorEq]
    refine (shapeMay_pu g (f := l.getD i feat0) i4).go (by simp [AV.tolds, AV.told, i4.told tRing]) ?_
    rintro _ ⟨b, rfl, hb⟩
    cases b with
    | false =>
      simp only [HN, RW, RX, VOp.fresh, bxC, bsC, un, most, callsOf, seval, Int.reducePow, ↓reduceIte, Nat.reduceEqDiff, reduceCtorEq]
      refine hN _ _ (fun u => ?_) ?_
      · have := hb.2 (u i (by omega)).1; cases this
      · simp only [sg_set, Nat.reduceEqDiff, ↓reduceIte]
    | true =>
      by_cases hi0 : 0 < i
      · have c2 : (0 : Int) < (i : Int) := by omega
        obtain ⟨y1, r2, _, _, _, _, g2⟩ := getFeat hw (i - 1) (by omega)
        have w2 : IntKind.i64.wrap ((i : Int) - 1) = ((i - 1 : Nat) : Int) := by rw [w64 (by omega) (by omega)]; omega
        by_cases c3 : (l.getD i feat0).id ≤ (l.getD (i - 1) feat0).id
        · simp only [h0, h7, c2, w2, g2, c3, HN, RW, RX, VOp.fresh, bxC, bsC, un, most, callsOf, seval, Int.reducePow, ↓reduceIte, Nat.reduceEqDiff, reduceCtorEq]
          refine hN _ _ (fun u => ?_) ?_
          · have := (u i (by omega)).2 hi0; omega
          · simp only [sg_set, Nat.reduceEqDiff, ↓reduceIte]
        · simp only [h0, h7, c2, w2, g2, c3, w1, HN, RW, RX, VOp.fresh, bxC, bsC, un, most, callsOf, seval, Int.reducePow, ↓reduceIte, Nat.reduceEqDiff, reduceCtorEq]
          refine ih (i + 1) _ _ k Q (by omega) (fun j hj => ?_) ?_ ?_ ?_ ?_ hK hN
          · by_cases e : j = i
            · rw [e]; exact ⟨hb.1 rfl, fun _ => by omega⟩
            · exact hu j (by omega)
          · simp only [h0, sg_set, Nat.reduceEqDiff, ↓reduceIte]
          · simp only [h5, sg_set, Nat.reduceEqDiff, ↓reduceIte]
          · simp only [h6, sg_set, Nat.reduceEqDiff, ↓reduceIte]
          · simp only [sg_set, Nat.reduceEqDiff, ↓reduceIte]
      · obtain rfl : i = 0 := by omega
        simp only [h0, h7, w1, HN, RW, RX, VOp.fresh, bxC, bsC, un, most, callsOf, seval, Int.reducePow, ↓reduceIte, Nat.reduceEqDiff, reduceCtorEq]
        refine ih 1 _ _ k Q (by omega) (fun j hj => ?_) ?_ ?_ ?_ ?_ hK hN
        · obtain rfl : j = 0 := by omega
          exact ⟨hb.1 rfl, fun c => absurd c (by omega)⟩
        · simp only [h0, sg_set, Nat.reduceEqDiff, ↓reduceIte]
        · simp only [h5, sg_set, Nat.reduceEqDiff, ↓reduceIte]
        · simp only [h6, sg_set, Nat.reduceEqDiff, ↓reduceIte]
        · simp only [sg_set, Nat.reduceEqDiff, ↓reduceIte]
          rfl
theorem rising_pu (g : Pg P tab) {l : List Feat} {w : AV} (hw : IsL 32 RFeat w l) : Pu P 16 [w] (IsB (featsUp l)) := by
  refine g.pu (vf := v16) rfl rfl ?_
  simp only [v16, hw.len, RX, VOp.fresh, bxC, bsC, un, most, callsOf, seval, Int.reducePow, ↓reduceIte, Nat.reduceEqDiff, reduceCtorEq]
  refine rising_loop g hw l.length 0 _ _ _ _ (by omega) (fun j hj => absurd hj (by omega)) ?_ ?_ ?_ ?_ (fun s' h' u => ?_) fun s' h' u t2 => ?_
  · simp only [sg_set, Nat.reduceEqDiff, ↓reduceIte]
  · simp only [sg_set, Nat.reduceEqDiff, ↓reduceIte]
  · simp only [sg_set, Nat.reduceEqDiff, ↓reduceIte]
  · simp only [sg_set, Nat.reduceEqDiff, ↓reduceIte]
    rfl
  · simp only [RX, VOp.fresh, bxC, bsC, un, most, callsOf, seval, Int.reducePow, ↓reduceIte, Nat.reduceEqDiff, reduceCtorEq]
    exact u
  · simp only [t2, RX, VOp.fresh, bxC, bsC, un, most, callsOf, seval, Int.reducePow, ↓reduceIte, Nat.reduceEqDiff, reduceCtorEq]
    exact u
end
end Go.Proofs.Ytpfpngmfooagiaa.VM
