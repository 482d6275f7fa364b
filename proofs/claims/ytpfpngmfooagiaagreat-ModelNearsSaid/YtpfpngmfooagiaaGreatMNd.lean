/- Part of a proof: what stands for the program, and its walk. No condition. -/
import Derived.Below
import Derived.ChangeArms
import Derived.ChangeMaps5
import Derived.Deep.DeepAppendWide
import Derived.Laws.Cells
import Derived.Laws.IdiomCopy
import Derived.MapKept
import Derived.OrdersIn
import Derived.RangeFuncLeaves
import Derived.RangeFuncRecord
import Derived.Shelf.GgSortFunc.RowK
import Derived.Shelf.SlSortCmp.NoneTotal
import Derived.Shelf.SlSortCmp.WholeK
import Derived.Shelf.SortM.Plain
import Derived.Shelf.SortM.SortNone
import Derived.Shelf.Spec.SlicesInsertGrow
import Derived.SizedLaws
import Derived.WalkKit
import Derived.WalkLawsBesides
import GoSem.Claim
import Derived.Test.YtpfpngmfooagiaaGreatMNc
set_option linter.unusedSimpArgs false
set_option linter.unusedVariables false
set_option linter.defProp false
set_option maxHeartbeats 1000000
namespace Go.Proofs.YtpfpngmfooagiaaGreat.VM
def b4_0 : VCode := (.seq (.seq (.ops [⟨(some 62), none, .mov (.t 12)⟩, ⟨(some 63), none, .mov (.t 8)⟩, ⟨(some 64), none, .bi (.len 1) [(.t 63)]⟩, ⟨(some 65), none, .bin .lss (.t 62) (.t 64)⟩])
 (.cond (.t 65) .skip (.exit 0)))
 (.seq (.block 1 (.seq (.drawn [⟨(some 68), none, .mov (.t 0)⟩, ⟨(some 69), none, .mov (.t 8)⟩, ⟨(some 70), none, .mov (.t 12)⟩, ⟨(some 71), none, .iaddr 3 none (.t 69) (.t 70)⟩, ⟨(some 72), none, .faddr 0 (.t 71)⟩, ⟨(some 73), none, .load false 1 (.t 72)⟩, ⟨(some 74), none, .call 24 [(.t 68), (.t 73)]⟩, ⟨(some 75), none, .bin .lss (.t 74) (.c (.int .i64 0))⟩, ⟨(some 76), none, .mov (.t 75)⟩, ⟨(some 77), (some (76, false)), .mov (.t 12)⟩, ⟨(some 78), (some (76, false)), .bin .gtr (.t 77) (.c (.int .i64 0))⟩, ⟨(some 79), (some (76, false)), .mov (.t 78)⟩, ⟨(some 80), (some (79, true)), .load true 2 (.t 4)⟩, ⟨(some 81), (some (79, true)), .mov (.t 8)⟩, ⟨(some 82), (some (79, true)), .mov (.t 12)⟩, ⟨(some 83), (some (79, true)), .bin .sub (.t 82) (.c (.int .i64 1))⟩, ⟨(some 84), (some (79, true)), .iaddr 3 none (.t 81) (.t 83)⟩, ⟨(some 85), (some (79, true)), .load true 3 (.t 84)⟩, ⟨(some 86), (some (79, true)), .mov (.t 8)⟩, ⟨(some 87), (some (79, true)), .mov (.t 12)⟩, ⟨(some 88), (some (79, true)), .iaddr 3 none (.t 86) (.t 87)⟩, ⟨(some 89), (some (79, true)), .load true 3 (.t 88)⟩, ⟨(some 90), (some (79, true)), .call 25 [(.t 80), (.t 85), (.t 89)]⟩, ⟨(some 91), (some (79, true)), .un .not (.t 90)⟩, ⟨(some 92), (some (76, false)), .pick (.t 79) (.t 91) (.c (.bool false))⟩, ⟨(some 93), none, .pick (.t 76) (.c (.bool true)) (.t 92)⟩] [])
 (.cond (.t 93) (.seq (.ops [⟨(some 6), none, .mov (.c (.bool false))⟩])
 .ret) .skip)))
 (.ops [⟨(some 66), none, .mov (.t 12)⟩, ⟨(some 67), none, .bin .add (.t 66) (.c (.int .i64 1))⟩, ⟨(some 12), none, .mov (.t 67)⟩])))
def b4_1 : VCode := (.seq (.seq (.ops [⟨(some 94), none, .mov (.t 13)⟩, ⟨(some 95), none, .mov (.t 0)⟩, ⟨(some 96), none, .bi (.len 1) [(.t 95)]⟩, ⟨(some 97), none, .bin .lss (.t 94) (.t 96)⟩])
 (.cond (.t 97) .skip (.exit 2)))
 (.seq (.block 3 (.seq (.drawn [⟨(some 100), none, .mov (.t 8)⟩, ⟨(some 101), none, .bi (.len 1) [(.t 100)]⟩, ⟨(some 102), none, .bin .gtr (.t 101) (.c (.int .i64 0))⟩, ⟨(some 103), none, .mov (.t 102)⟩, ⟨(some 104), (some (103, true)), .mov (.t 8)⟩, ⟨(some 105), (some (103, true)), .mov (.t 0)⟩, ⟨(some 106), (some (103, true)), .mov (.t 13)⟩, ⟨(some 107), (some (103, true)), .iaddr 3 none (.t 105) (.t 106)⟩, ⟨(some 108), (some (103, true)), .faddr 0 (.t 107)⟩, ⟨(some 109), (some (103, true)), .load false 1 (.t 108)⟩, ⟨(some 110), (some (103, true)), .call 24 [(.t 104), (.t 109)]⟩, ⟨(some 111), (some (103, true)), .bin .lss (.t 110) (.c (.int .i64 0))⟩, ⟨(some 112), none, .pick (.t 103) (.t 111) (.c (.bool false))⟩, ⟨(some 113), none, .mov (.t 112)⟩, ⟨(some 114), (some (113, true)), .load true 2 (.t 4)⟩, ⟨(some 115), (some (113, true)), .mov (.t 0)⟩, ⟨(some 116), (some (113, true)), .mov (.t 13)⟩, ⟨(some 117), (some (113, true)), .iaddr 3 none (.t 115) (.t 116)⟩, ⟨(some 118), (some (113, true)), .load true 3 (.t 117)⟩, ⟨(some 119), (some (113, true)), .mov (.t 8)⟩, ⟨(some 120), (some (113, true)), .mov (.t 8)⟩, ⟨(some 121), (some (113, true)), .bi (.len 1) [(.t 120)]⟩, ⟨(some 122), (some (113, true)), .bin .sub (.t 121) (.c (.int .i64 1))⟩, ⟨(some 123), (some (113, true)), .iaddr 3 none (.t 119) (.t 122)⟩, ⟨(some 124), (some (113, true)), .load true 3 (.t 123)⟩, ⟨(some 125), (some (113, true)), .call 25 [(.t 114), (.t 118), (.t 124)]⟩, ⟨(some 126), none, .pick (.t 113) (.t 125) (.c (.bool false))⟩] [])
 (.cond (.t 126) (.seq (.ops [⟨(some 6), none, .mov (.c (.bool false))⟩])
 .ret) .skip)))
 (.ops [⟨(some 98), none, .mov (.t 13)⟩, ⟨(some 99), none, .bin .add (.t 98) (.c (.int .i64 1))⟩, ⟨(some 13), none, .mov (.t 99)⟩])))
/-- furlong/furlonglaw24.ModelNears -/
def v4 : VFun := ⟨3, [(.tmp 6)], (.seq (.ops [⟨(some 4), none, .box 27 (.t 1)⟩, ⟨(some 6), none, .mov (.c (.bool false))⟩])
 (.seq (.seq (.ops [⟨(some 14), none, .call 22 []⟩, ⟨(some 15), none, .un .not (.t 14)⟩])
 (.cond (.t 15) (.seq (.ops [⟨(some 6), none, .mov (.c (.bool false))⟩])
 .ret) .skip))
 (.seq (.ops [⟨(some 16), none, .mov (.t 2)⟩, ⟨(some 17), none, .bin .and (.t 16) (.c (.int .i64 15))⟩, ⟨(some 7), none, .mov (.t 17)⟩])
 (.seq (.ops [⟨(some 19), none, .mov (.t 0)⟩, ⟨(some 20), none, .load true 2 (.t 4)⟩, ⟨(some 21), none, .mov (.t 7)⟩, ⟨(some 22), none, .call 16 [(.t 19), (.t 20), (.t 21)]⟩, ⟨(some 18), none, .mov (.t 22)⟩, ⟨(some 23), none, .extract (.t 18) 0⟩, ⟨(some 24), none, .extract (.t 18) 1⟩, ⟨(some 8), none, .mov (.t 23)⟩, ⟨(some 9), none, .mov (.t 24)⟩])
 (.seq (.ops [⟨(some 26), none, .mov (.t 0)⟩, ⟨(some 27), none, .build [(.int .i64 0), (.int .i64 0), (.int .i64 0), (.int .i64 0)] [(2, 1, (.c (.int .i64 4294967295))), (3, 1, (.c (.int .i64 4294967295)))]⟩, ⟨(some 28), none, .call 14 [(.t 26), (.t 27)]⟩, ⟨(some 25), none, .mov (.t 28)⟩, ⟨(some 29), none, .extract (.t 25) 0⟩, ⟨(some 30), none, .extract (.t 25) 1⟩, ⟨(some 10), none, .mov (.t 29)⟩, ⟨(some 11), none, .mov (.t 30)⟩])
 (.seq (.seq (.ops [⟨(some 31), none, .mov (.t 11)⟩, ⟨(some 32), none, .call 19 [(.t 31)]⟩, ⟨(some 33), none, .bin .neq (.t 32) (.c (.int .i64 0))⟩])
 (.cond (.t 33) (.seq (.ops [⟨(some 34), none, .mov (.t 9)⟩, ⟨(some 35), none, .call 19 [(.t 34)]⟩, ⟨(some 36), none, .bin .eql (.t 35) (.c (.int .i64 2400))⟩, ⟨(some 37), none, .mov (.t 36)⟩, ⟨(some 38), (some (37, true)), .mov (.t 8)⟩, ⟨(some 39), (some (37, true)), .bi (.len 1) [(.t 38)]⟩, ⟨(some 40), (some (37, true)), .mov (.t 10)⟩, ⟨(some 41), (some (37, true)), .bi (.len 1) [(.t 40)]⟩, ⟨(some 42), (some (37, true)), .bin .add (.t 39) (.t 41)⟩, ⟨(some 43), (some (37, true)), .bin .eql (.t 42) (.c (.int .i64 0))⟩, ⟨(some 44), none, .pick (.t 37) (.t 43) (.c (.bool false))⟩, ⟨(some 6), none, .mov (.t 44)⟩])
 .ret) .skip))
 (.seq (.seq (.ops [⟨(some 45), none, .mov (.t 10)⟩, ⟨(some 46), none, .mov (.t 0)⟩, ⟨(some 47), none, .call 18 [(.t 45), (.t 46)]⟩, ⟨(some 48), none, .un .not (.t 47)⟩])
 (.cond (.t 48) (.seq (.ops [⟨(some 6), none, .mov (.c (.bool false))⟩])
 .ret) .skip))
 (.seq (.seq (.ops [⟨(some 49), none, .mov (.t 9)⟩, ⟨(some 50), none, .call 19 [(.t 49)]⟩, ⟨(some 51), none, .bin .neq (.t 50) (.c (.int .i64 0))⟩])
 (.cond (.t 51) (.seq (.ops [⟨(some 52), none, .load true 2 (.t 4)⟩, ⟨(some 53), none, .call 23 [(.t 52)]⟩, ⟨(some 54), none, .un .not (.t 53)⟩, ⟨(some 6), none, .mov (.t 54)⟩])
 .ret) .skip))
 (.seq (.seq (.ops [⟨(some 55), none, .mov (.t 8)⟩, ⟨(some 56), none, .bi (.len 1) [(.t 55)]⟩, ⟨(some 57), none, .mov (.t 7)⟩, ⟨(some 58), none, .mov (.t 0)⟩, ⟨(some 59), none, .bi (.len 1) [(.t 58)]⟩, ⟨(some 60), none, .bi .min [(.t 57), (.t 59)]⟩, ⟨(some 61), none, .bin .neq (.t 56) (.t 60)⟩])
 (.cond (.t 61) (.seq (.ops [⟨(some 6), none, .mov (.c (.bool false))⟩])
 .ret) .skip))
 (.seq (.seq (.ops [⟨(some 12), none, .mov (.c (.int .i64 0))⟩])
 (.block 0 (.loop b4_0)))
 (.seq (.seq (.ops [⟨(some 13), none, .mov (.c (.int .i64 0))⟩])
 (.block 2 (.loop b4_1)))
 (.seq (.ops [⟨(some 6), none, .mov (.c (.bool true))⟩])
 .ret))))))))))))⟩
def b12_0 : VCode := (.seq (.ops [⟨(some 24), none, .bin .lss (.t 23) (.t 22)⟩])
 (.seq (.cond (.t 24) .skip (.exit 0))
 (.seq (.block 1 (.seq (.ops [⟨(some 25), none, .mov (.t 23)⟩, ⟨(some 7), none, .mov (.t 25)⟩])
 (.seq (.ops [⟨(some 26), none, .mov (.t 1)⟩, ⟨(some 27), none, .mov (.t 7)⟩, ⟨(some 28), none, .iaddr 8 none (.t 26) (.t 27)⟩, ⟨(some 8), none, .mov (.t 28)⟩])
 (.seq (.ops [⟨(some 30), none, .mov (.t 6)⟩, ⟨(some 31), none, .mov (.t 8)⟩, ⟨(some 32), none, .call 44 [(.t 31)]⟩, ⟨(some 33), none, .call 43 [(.t 30), (.t 32)]⟩, ⟨(some 29), none, .mov (.t 33)⟩, ⟨(some 34), none, .extract (.t 29) 0⟩, ⟨(some 35), none, .extract (.t 29) 1⟩, ⟨(some 9), none, .mov (.t 34)⟩, ⟨(some 10), none, .mov (.t 35)⟩])
 (.seq (.seq (.ops [⟨(some 36), none, .mov (.t 10)⟩])
 (.cond (.t 36) (.ops [⟨(some 37), none, .mov (.t 6)⟩, ⟨(some 38), none, .mov (.t 9)⟩, ⟨(some 39), none, .mov (.t 9)⟩, ⟨(some 40), none, .bin .add (.t 39) (.c (.int .i64 1))⟩, ⟨(some 41), none, .call 45 [(.t 37), (.t 38), (.t 40)]⟩, ⟨(some 6), none, .mov (.t 41)⟩]) .skip))
 (.seq (.ops [⟨(some 42), none, .mov (.t 8)⟩, ⟨(some 43), none, .nilck (.t 42)⟩, ⟨(some 44), none, .faddr 0 (.t 43)⟩, ⟨(some 45), none, .load false 1 (.t 44)⟩, ⟨(some 46), none, .bin .eql (.t 45) (.c (.int .i64 0))⟩])
 (.cond (.t 46) (.ops [⟨(some 47), none, .mov (.t 6)⟩, ⟨(some 48), none, .mov (.t 9)⟩, ⟨(some 49), none, .mov (.t 8)⟩, ⟨(some 50), none, .nilck (.t 49)⟩, ⟨(some 51), none, .faddr 1 (.t 50)⟩, ⟨(some 52), none, .load true 3 (.t 51)⟩, ⟨(some 53), none, .call 47 [(.t 52)]⟩, ⟨(some 54), none, .bslice [(.int .i64 0), (.int .i64 0), .nils] 49 1 [(0, 3, (.t 53))]⟩, ⟨(some 55), none, .call 46 [(.t 47), (.t 48), (.t 54)]⟩, ⟨(some 6), none, .mov (.t 55)⟩]) .skip)))))))
 (.ops [⟨(some 56), none, .bin .add (.t 23) (.c (.int .i64 1))⟩, ⟨(some 23), none, .mov (.t 56)⟩]))))
/-- furlong/model.Apply -/
def v12 : VFun := ⟨2, [(.tmp 4), (.tmp 5)], (.seq (.ops [⟨(some 4), none, .mov (.c .nils)⟩, ⟨(some 5), none, .mov (.c (.int .i64 0))⟩])
 (.seq (.seq (.ops [⟨(some 11), none, .mov (.t 0)⟩, ⟨(some 12), none, .call 40 [(.t 11)]⟩, ⟨(some 13), none, .un .not (.t 12)⟩, ⟨(some 14), none, .mov (.t 13)⟩, ⟨(some 15), (some (14, false)), .mov (.t 1)⟩, ⟨(some 16), (some (14, false)), .call 41 [(.t 15), (.c (.int .i64 8))]⟩, ⟨(some 17), (some (14, false)), .un .not (.t 16)⟩, ⟨(some 18), none, .pick (.t 14) (.c (.bool true)) (.t 17)⟩])
 (.cond (.t 18) (.seq (.ops [⟨(some 4), none, .mov (.c .nils)⟩, ⟨(some 5), none, .mov (.c (.int .i64 2400))⟩])
 .ret) .skip))
 (.seq (.ops [⟨(some 19), none, .mov (.t 0)⟩, ⟨(some 20), none, .call 42 [(.t 19)]⟩, ⟨(some 6), none, .mov (.t 20)⟩])
 (.seq (.seq (.ops [⟨(some 21), none, .mov (.t 1)⟩, ⟨(some 22), none, .bi (.len 1) [(.t 21)]⟩, ⟨(some 23), none, .mov (.c (.int .i64 0))⟩])
 (.block 0 (.loop b12_0)))
 (.seq (.ops [⟨(some 57), none, .mov (.t 6)⟩, ⟨(some 4), none, .mov (.t 57)⟩, ⟨(some 5), none, .mov (.c (.int .i64 0))⟩])
 .ret)))))⟩
def b14_0 : VCode := (.seq (.ops [⟨(some 22), none, .bin .lss (.t 21) (.t 20)⟩])
 (.seq (.cond (.t 22) .skip (.exit 0))
 (.seq (.block 1 (.seq (.ops [⟨(some 23), none, .iaddr 3 none (.t 19) (.t 21)⟩, ⟨(some 24), none, .load true 3 (.t 23)⟩, ⟨(some 8), none, .alloc [(.int .i64 0), (.int .i64 0), .nils] 49⟩, ⟨none, none, .store 3 (.t 8) (.t 24)⟩])
 (.seq (.ops [⟨(some 26), none, .load true 3 (.t 8)⟩, ⟨(some 27), none, .load true 4 (.t 3)⟩, ⟨(some 28), none, .call 53 [(.t 26), (.t 27)]⟩, ⟨(some 25), none, .mov (.t 28)⟩, ⟨(some 29), none, .extract (.t 25) 0⟩, ⟨(some 30), none, .extract (.t 25) 1⟩, ⟨(some 9), none, .mov (.t 29)⟩, ⟨(some 10), none, .mov (.t 30)⟩])
 (.seq (.ops [⟨(some 31), none, .mov (.t 9)⟩])
 (.cond (.t 31) (.ops [⟨(some 32), none, .mov (.t 6)⟩, ⟨(some 33), none, .load true 3 (.t 8)⟩, ⟨(some 34), none, .call 47 [(.t 33)]⟩, ⟨(some 35), none, .bslice [(.int .i64 0), (.int .i64 0), .nils] 49 1 [(0, 3, (.t 34))]⟩, ⟨(some 36), none, .bi (.append 3 40 49) [(.t 32), (.t 35)]⟩, ⟨(some 6), none, .mov (.t 36)⟩]) .skip)))))
 (.ops [⟨(some 37), none, .bin .add (.t 21) (.c (.int .i64 1))⟩, ⟨(some 21), none, .mov (.t 37)⟩]))))
/-- furlong/model.Window -/
def v14 : VFun := ⟨2, [(.tmp 4), (.tmp 5)], (.seq (.ops [⟨(some 3), none, .box 25 (.t 1)⟩, ⟨(some 4), none, .mov (.c .nils)⟩, ⟨(some 5), none, .mov (.c (.int .i64 0))⟩])
 (.seq (.seq (.ops [⟨(some 11), none, .mov (.t 0)⟩, ⟨(some 12), none, .call 40 [(.t 11)]⟩, ⟨(some 13), none, .un .not (.t 12)⟩, ⟨(some 14), none, .mov (.t 13)⟩, ⟨(some 15), (some (14, false)), .load true 4 (.t 3)⟩, ⟨(some 16), (some (14, false)), .call 52 [(.t 15)]⟩, ⟨(some 17), (some (14, false)), .un .not (.t 16)⟩, ⟨(some 18), none, .pick (.t 14) (.c (.bool true)) (.t 17)⟩])
 (.cond (.t 18) (.seq (.ops [⟨(some 4), none, .mov (.c .nils)⟩, ⟨(some 5), none, .mov (.c (.int .i64 2400))⟩])
 .ret) .skip))
 (.seq (.ops [⟨(some 6), none, .mov (.c .nils)⟩])
 (.seq (.seq (.ops [⟨(some 19), none, .mov (.t 0)⟩, ⟨(some 20), none, .bi (.len 1) [(.t 19)]⟩, ⟨(some 21), none, .mov (.c (.int .i64 0))⟩])
 (.block 0 (.loop b14_0)))
 (.seq (.ops [⟨(some 38), none, .mov (.t 6)⟩, ⟨(some 4), none, .mov (.t 38)⟩, ⟨(some 5), none, .mov (.c (.int .i64 0))⟩])
 .ret)))))⟩
/-- furlong/model.Near -/
def v16 : VFun := ⟨3, [(.tmp 6), (.tmp 7)], (.seq (.ops [⟨(some 4), none, .box 27 (.t 1)⟩, ⟨(some 6), none, .mov (.c .nils)⟩, ⟨(some 7), none, .mov (.c (.int .i64 0))⟩])
 (.seq (.seq (.ops [⟨(some 8), none, .mov (.t 0)⟩, ⟨(some 9), none, .call 40 [(.t 8)]⟩, ⟨(some 10), none, .un .not (.t 9)⟩, ⟨(some 11), none, .mov (.t 10)⟩, ⟨(some 12), (some (11, false)), .load true 2 (.t 4)⟩, ⟨(some 13), (some (11, false)), .call 55 [(.t 12)]⟩, ⟨(some 14), (some (11, false)), .un .not (.t 13)⟩, ⟨(some 15), none, .pick (.t 11) (.c (.bool true)) (.t 14)⟩, ⟨(some 16), none, .mov (.t 15)⟩, ⟨(some 17), (some (16, false)), .mov (.t 2)⟩, ⟨(some 18), (some (16, false)), .bin .lss (.t 17) (.c (.int .i64 0))⟩, ⟨(some 19), none, .pick (.t 16) (.c (.bool true)) (.t 18)⟩])
 (.cond (.t 19) (.seq (.ops [⟨(some 6), none, .mov (.c .nils)⟩, ⟨(some 7), none, .mov (.c (.int .i64 2400))⟩])
 .ret) .skip))
 (.seq (.drawn [⟨(some 20), none, .mov (.t 0)⟩, ⟨(some 21), none, .call 42 [(.t 20)]⟩, ⟨(some 22), none, .load true 2 (.t 4)⟩, ⟨(some 23), none, .mov (.t 2)⟩, ⟨(some 24), none, .call 56 [(.t 21), (.t 22), (.t 23)]⟩, ⟨(some 6), none, .mov (.t 24)⟩, ⟨(some 7), none, .mov (.c (.int .i64 0))⟩] [(2, [0])])
 .ret)))⟩
def b18_0 : VCode := (.seq (.seq (.ops [⟨(some 11), none, .mov (.t 5)⟩, ⟨(some 12), none, .mov (.t 0)⟩, ⟨(some 13), none, .bi (.len 1) [(.t 12)]⟩, ⟨(some 14), none, .bin .lss (.t 11) (.t 13)⟩])
 (.cond (.t 14) .skip (.exit 0)))
 (.seq (.block 1 (.seq (.drawn [⟨(some 17), none, .mov (.t 0)⟩, ⟨(some 18), none, .mov (.t 5)⟩, ⟨(some 19), none, .iaddr 3 none (.t 17) (.t 18)⟩, ⟨(some 20), none, .load true 3 (.t 19)⟩, ⟨(some 21), none, .mov (.t 1)⟩, ⟨(some 22), none, .mov (.t 5)⟩, ⟨(some 23), none, .iaddr 3 none (.t 21) (.t 22)⟩, ⟨(some 24), none, .load true 3 (.t 23)⟩, ⟨(some 25), none, .call 36 [(.t 20), (.t 24)]⟩, ⟨(some 26), none, .un .not (.t 25)⟩] [])
 (.cond (.t 26) (.seq (.ops [⟨(some 4), none, .mov (.c (.bool false))⟩])
 .ret) .skip)))
 (.ops [⟨(some 15), none, .mov (.t 5)⟩, ⟨(some 16), none, .bin .add (.t 15) (.c (.int .i64 1))⟩, ⟨(some 5), none, .mov (.t 16)⟩])))
/-- furlong/furlonglaw0.SameFeatures -/
def v18 : VFun := ⟨2, [(.tmp 4)], (.seq (.ops [⟨(some 4), none, .mov (.c (.bool false))⟩])
 (.seq (.seq (.ops [⟨(some 6), none, .mov (.t 0)⟩, ⟨(some 7), none, .bi (.len 1) [(.t 6)]⟩, ⟨(some 8), none, .mov (.t 1)⟩, ⟨(some 9), none, .bi (.len 1) [(.t 8)]⟩, ⟨(some 10), none, .bin .neq (.t 7) (.t 9)⟩])
 (.cond (.t 10) (.seq (.ops [⟨(some 4), none, .mov (.c (.bool false))⟩])
 .ret) .skip))
 (.seq (.seq (.ops [⟨(some 5), none, .mov (.c (.int .i64 0))⟩])
 (.block 0 (.loop b18_0)))
 (.seq (.ops [⟨(some 4), none, .mov (.c (.bool true))⟩])
 .ret))))⟩
/-- furlong/furlonglaw0.Num -/
def v19 : VFun := ⟨1, [(.tmp 2)], (.seq (.ops [⟨(some 2), none, .mov (.c (.int .i64 0))⟩])
 (.seq (.ops [⟨(some 3), none, .mov (.t 0)⟩, ⟨(some 2), none, .mov (.t 3)⟩])
 .ret))⟩
/-- furlong/furlonglaw24.awake -/
def v22 : VFun := ⟨0, [(.tmp 0)], (.seq (.ops [⟨(some 0), none, .mov (.c (.bool false))⟩])
 (.seq (.ops [⟨(some 14), none, .call 59 [(.c (.int .i64 2)), (.c (.int .i64 9)), (.c (.int .i64 0))]⟩, ⟨(some 15), none, .call 59 [(.c (.int .i64 5)), (.c (.int .i64 1)), (.c (.int .i64 0))]⟩, ⟨(some 16), none, .bslice [(.int .i64 0), (.int .i64 0), .nils] 49 2 [(0, 3, (.t 14)), (3, 3, (.t 15))]⟩, ⟨(some 17), none, .call 59 [(.c (.int .i64 3)), (.c (.int .i64 4)), (.c (.int .i64 0))]⟩, ⟨(some 18), none, .build [(.int .i64 0), (.int .i64 0), (.int .i64 0), .nils, (.int .i64 0), (.int .i64 0), .nils, .nils] [(0, 1, (.c (.int .i64 0))), (1, 3, (.t 17))]⟩, ⟨(some 19), none, .build [(.int .i64 0), (.int .i64 0), (.int .i64 0), .nils, (.int .i64 0), (.int .i64 0), .nils, .nils] [(0, 1, (.c (.int .i64 1))), (4, 1, (.c (.int .i64 2)))]⟩, ⟨(some 20), none, .bslice [(.int .i64 0), (.int .i64 0), (.int .i64 0), .nils, (.int .i64 0), (.int .i64 0), .nils, .nils] 94 2 [(0, 8, (.t 18)), (8, 8, (.t 19))]⟩, ⟨(some 21), none, .call 12 [(.t 16), (.t 20)]⟩, ⟨(some 13), none, .mov (.t 21)⟩, ⟨(some 22), none, .extract (.t 13) 0⟩, ⟨(some 23), none, .extract (.t 13) 1⟩, ⟨(some 1), none, .mov (.t 22)⟩, ⟨(some 2), none, .mov (.t 23)⟩])
 (.seq (.ops [⟨(some 25), none, .mov (.t 1)⟩, ⟨(some 26), none, .build [(.int .i64 0), (.int .i64 0), (.int .i64 0), (.int .i64 0)] [(2, 1, (.c (.int .i64 3)))]⟩, ⟨(some 27), none, .call 14 [(.t 25), (.t 26)]⟩, ⟨(some 24), none, .mov (.t 27)⟩, ⟨(some 28), none, .extract (.t 24) 0⟩, ⟨(some 29), none, .extract (.t 24) 1⟩, ⟨(some 3), none, .mov (.t 28)⟩, ⟨(some 4), none, .mov (.t 29)⟩])
 (.seq (.ops [⟨(some 31), none, .mov (.t 1)⟩, ⟨(some 32), none, .build [(.int .i64 0), (.int .i64 0)] [(0, 1, (.c (.int .i64 4)))]⟩, ⟨(some 33), none, .call 16 [(.t 31), (.t 32), (.c (.int .i64 1))]⟩, ⟨(some 30), none, .mov (.t 33)⟩, ⟨(some 34), none, .extract (.t 30) 0⟩, ⟨(some 35), none, .extract (.t 30) 1⟩, ⟨(some 5), none, .mov (.t 34)⟩, ⟨(some 6), none, .mov (.t 35)⟩])
 (.seq (.ops [⟨(some 37), none, .build [(.int .i64 0), (.int .i64 0), .nils] []⟩, ⟨(some 38), none, .bslice [(.int .i64 0), (.int .i64 0), .nils] 49 1 [(0, 3, (.t 37))]⟩, ⟨(some 39), none, .call 12 [(.t 38), (.c .nils)]⟩, ⟨(some 36), none, .mov (.t 39)⟩, ⟨(some 40), none, .extract (.t 36) 0⟩, ⟨(some 41), none, .extract (.t 36) 1⟩, ⟨(some 7), none, .mov (.t 40)⟩, ⟨(some 8), none, .mov (.t 41)⟩])
 (.seq (.ops [⟨(some 43), none, .build [(.int .i64 0), (.int .i64 0)] []⟩, ⟨(some 44), none, .call 16 [(.c .nils), (.t 43), (.c (.int .i64 (-1)))]⟩, ⟨(some 42), none, .mov (.t 44)⟩, ⟨(some 45), none, .extract (.t 42) 0⟩, ⟨(some 46), none, .extract (.t 42) 1⟩, ⟨(some 9), none, .mov (.t 45)⟩, ⟨(some 10), none, .mov (.t 46)⟩])
 (.seq (.ops [⟨(some 48), none, .build [(.int .i64 0), (.int .i64 0), (.int .i64 0), (.int .i64 0)] [(0, 1, (.c (.int .i64 1)))]⟩, ⟨(some 49), none, .call 14 [(.c .nils), (.t 48)]⟩, ⟨(some 47), none, .mov (.t 49)⟩, ⟨(some 50), none, .extract (.t 47) 0⟩, ⟨(some 51), none, .extract (.t 47) 1⟩, ⟨(some 11), none, .mov (.t 50)⟩, ⟨(some 12), none, .mov (.t 51)⟩])
 (.seq (.ops [⟨(some 52), none, .mov (.t 1)⟩, ⟨(some 53), none, .call 59 [(.c (.int .i64 3)), (.c (.int .i64 4)), (.c (.int .i64 0))]⟩, ⟨(some 54), none, .call 59 [(.c (.int .i64 5)), (.c (.int .i64 1)), (.c (.int .i64 0))]⟩, ⟨(some 55), none, .bslice [(.int .i64 0), (.int .i64 0), .nils] 49 2 [(0, 3, (.t 53)), (3, 3, (.t 54))]⟩, ⟨(some 56), none, .call 18 [(.t 52), (.t 55)]⟩, ⟨(some 57), none, .mov (.t 56)⟩, ⟨(some 58), (some (57, true)), .mov (.t 2)⟩, ⟨(some 59), (some (57, true)), .call 19 [(.t 58)]⟩, ⟨(some 60), (some (57, true)), .bin .eql (.t 59) (.c (.int .i64 0))⟩, ⟨(some 61), none, .pick (.t 57) (.t 60) (.c (.bool false))⟩, ⟨(some 62), none, .mov (.t 61)⟩, ⟨(some 63), (some (62, true)), .mov (.t 3)⟩, ⟨(some 64), (some (62, true)), .call 59 [(.c (.int .i64 5)), (.c (.int .i64 1)), (.c (.int .i64 0))]⟩, ⟨(some 65), (some (62, true)), .bslice [(.int .i64 0), (.int .i64 0), .nils] 49 1 [(0, 3, (.t 64))]⟩, ⟨(some 66), (some (62, true)), .call 18 [(.t 63), (.t 65)]⟩, ⟨(some 67), none, .pick (.t 62) (.t 66) (.c (.bool false))⟩, ⟨(some 68), none, .mov (.t 67)⟩, ⟨(some 69), (some (68, true)), .mov (.t 4)⟩, ⟨(some 70), (some (68, true)), .call 19 [(.t 69)]⟩, ⟨(some 71), (some (68, true)), .bin .eql (.t 70) (.c (.int .i64 0))⟩, ⟨(some 72), none, .pick (.t 68) (.t 71) (.c (.bool false))⟩, ⟨(some 73), none, .mov (.t 72)⟩, ⟨(some 74), (some (73, true)), .mov (.t 5)⟩, ⟨(some 75), (some (73, true)), .call 59 [(.c (.int .i64 3)), (.c (.int .i64 4)), (.c (.int .i64 0))]⟩, ⟨(some 76), (some (73, true)), .bslice [(.int .i64 0), (.int .i64 0), .nils] 49 1 [(0, 3, (.t 75))]⟩, ⟨(some 77), (some (73, true)), .call 18 [(.t 74), (.t 76)]⟩, ⟨(some 78), none, .pick (.t 73) (.t 77) (.c (.bool false))⟩, ⟨(some 79), none, .mov (.t 78)⟩, ⟨(some 80), (some (79, true)), .mov (.t 6)⟩, ⟨(some 81), (some (79, true)), .call 19 [(.t 80)]⟩, ⟨(some 82), (some (79, true)), .bin .eql (.t 81) (.c (.int .i64 0))⟩, ⟨(some 83), none, .pick (.t 79) (.t 82) (.c (.bool false))⟩, ⟨(some 84), none, .mov (.t 83)⟩, ⟨(some 85), (some (84, true)), .mov (.t 8)⟩, ⟨(some 86), (some (84, true)), .call 19 [(.t 85)]⟩, ⟨(some 87), (some (84, true)), .bin .eql (.t 86) (.c (.int .i64 2400))⟩, ⟨(some 88), none, .pick (.t 84) (.t 87) (.c (.bool false))⟩, ⟨(some 89), none, .mov (.t 88)⟩, ⟨(some 90), (some (89, true)), .mov (.t 10)⟩, ⟨(some 91), (some (89, true)), .call 19 [(.t 90)]⟩, ⟨(some 92), (some (89, true)), .bin .eql (.t 91) (.c (.int .i64 2400))⟩, ⟨(some 93), none, .pick (.t 89) (.t 92) (.c (.bool false))⟩, ⟨(some 94), none, .mov (.t 93)⟩, ⟨(some 95), (some (94, true)), .mov (.t 12)⟩, ⟨(some 96), (some (94, true)), .call 19 [(.t 95)]⟩, ⟨(some 97), (some (94, true)), .bin .eql (.t 96) (.c (.int .i64 2400))⟩, ⟨(some 98), none, .pick (.t 94) (.t 97) (.c (.bool false))⟩, ⟨(some 0), none, .mov (.t 98)⟩])
 .ret))))))))⟩
/-- furlong/furlongref1.PointMay -/
def v23 : VFun := ⟨1, [(.tmp 2)], (.seq (.ops [⟨(some 1), none, .box 27 (.t 0)⟩, ⟨(some 2), none, .mov (.c (.bool false))⟩])
 (.seq (.ops [⟨(some 3), none, .faddr 0 (.t 1)⟩, ⟨(some 4), none, .load false 1 (.t 3)⟩, ⟨(some 5), none, .bin .geq (.t 4) (.c (.int .i64 0))⟩, ⟨(some 6), none, .mov (.t 5)⟩, ⟨(some 7), (some (6, true)), .faddr 0 (.t 1)⟩, ⟨(some 8), (some (6, true)), .load false 1 (.t 7)⟩, ⟨(some 9), (some (6, true)), .bin .leq (.t 8) (.c (.int .i64 4294967295))⟩, ⟨(some 10), none, .pick (.t 6) (.t 9) (.c (.bool false))⟩, ⟨(some 11), none, .mov (.t 10)⟩, ⟨(some 12), (some (11, true)), .faddr 1 (.t 1)⟩, ⟨(some 13), (some (11, true)), .load false 1 (.t 12)⟩, ⟨(some 14), (some (11, true)), .bin .geq (.t 13) (.c (.int .i64 0))⟩, ⟨(some 15), none, .pick (.t 11) (.t 14) (.c (.bool false))⟩, ⟨(some 16), none, .mov (.t 15)⟩, ⟨(some 17), (some (16, true)), .faddr 1 (.t 1)⟩, ⟨(some 18), (some (16, true)), .load false 1 (.t 17)⟩, ⟨(some 19), (some (16, true)), .bin .leq (.t 18) (.c (.int .i64 4294967295))⟩, ⟨(some 20), none, .pick (.t 16) (.t 19) (.c (.bool false))⟩, ⟨(some 2), none, .mov (.t 20)⟩])
 .ret))⟩
def b24_0 : VCode := (.seq (.seq (.ops [⟨(some 6), none, .mov (.t 5)⟩, ⟨(some 7), none, .mov (.t 0)⟩, ⟨(some 8), none, .bi (.len 1) [(.t 7)]⟩, ⟨(some 9), none, .bin .lss (.t 6) (.t 8)⟩])
 (.cond (.t 9) .skip (.exit 0)))
 (.seq (.block 1 (.seq (.ops [⟨(some 12), none, .mov (.t 0)⟩, ⟨(some 13), none, .mov (.t 5)⟩, ⟨(some 14), none, .iaddr 3 none (.t 12) (.t 13)⟩, ⟨(some 15), none, .faddr 0 (.t 14)⟩, ⟨(some 16), none, .load false 1 (.t 15)⟩, ⟨(some 17), none, .mov (.t 1)⟩, ⟨(some 18), none, .bin .eql (.t 16) (.t 17)⟩])
 (.cond (.t 18) (.seq (.ops [⟨(some 19), none, .mov (.t 5)⟩, ⟨(some 4), none, .mov (.t 19)⟩])
 .ret) .skip)))
 (.ops [⟨(some 10), none, .mov (.t 5)⟩, ⟨(some 11), none, .bin .add (.t 10) (.c (.int .i64 1))⟩, ⟨(some 5), none, .mov (.t 11)⟩])))
/-- furlong/furlonglaw24.place -/
def v24 : VFun := ⟨2, [(.tmp 4)], (.seq (.ops [⟨(some 4), none, .mov (.c (.int .i64 0))⟩])
 (.seq (.seq (.ops [⟨(some 5), none, .mov (.c (.int .i64 0))⟩])
 (.block 0 (.loop b24_0)))
 (.seq (.ops [⟨(some 4), none, .mov (.c (.int .i64 (-1)))⟩])
 .ret)))⟩
/-- furlong/furlonglaw24.ahead -/
def v25 : VFun := ⟨3, [(.tmp 6)], (.seq (.ops [⟨(some 3), none, .box 27 (.t 0)⟩, ⟨(some 4), none, .box 49 (.t 1)⟩, ⟨(some 5), none, .box 49 (.t 2)⟩, ⟨(some 6), none, .mov (.c (.bool false))⟩])
 (.seq (.ops [⟨(some 17), none, .load true 3 (.t 4)⟩, ⟨(some 18), none, .call 60 [(.t 17)]⟩, ⟨(some 16), none, .mov (.t 18)⟩, ⟨(some 19), none, .extract (.t 16) 0⟩, ⟨(some 20), none, .extract (.t 16) 1⟩, ⟨(some 7), none, .alloc [(.int .i64 0), (.int .i64 0), (.int .i64 0), (.int .i64 0)] 25⟩, ⟨none, none, .store 4 (.t 7) (.t 19)⟩, ⟨(some 8), none, .mov (.t 20)⟩])
 (.seq (.ops [⟨(some 22), none, .load true 3 (.t 5)⟩, ⟨(some 23), none, .call 60 [(.t 22)]⟩, ⟨(some 21), none, .mov (.t 23)⟩, ⟨(some 24), none, .extract (.t 21) 0⟩, ⟨(some 25), none, .extract (.t 21) 1⟩, ⟨(some 9), none, .alloc [(.int .i64 0), (.int .i64 0), (.int .i64 0), (.int .i64 0)] 25⟩, ⟨none, none, .store 4 (.t 9) (.t 24)⟩, ⟨(some 10), none, .mov (.t 25)⟩])
 (.seq (.ops [⟨(some 27), none, .load true 2 (.t 3)⟩, ⟨(some 28), none, .load true 4 (.t 7)⟩, ⟨(some 29), none, .call 61 [(.t 27), (.t 28)]⟩, ⟨(some 26), none, .mov (.t 29)⟩, ⟨(some 30), none, .extract (.t 26) 0⟩, ⟨(some 31), none, .extract (.t 26) 1⟩, ⟨(some 11), none, .alloc [(.int .u64 0), (.int .u64 0)] 116⟩, ⟨none, none, .store 2 (.t 11) (.t 30)⟩, ⟨(some 12), none, .mov (.t 31)⟩])
 (.seq (.ops [⟨(some 33), none, .load true 2 (.t 3)⟩, ⟨(some 34), none, .load true 4 (.t 9)⟩, ⟨(some 35), none, .call 61 [(.t 33), (.t 34)]⟩, ⟨(some 32), none, .mov (.t 35)⟩, ⟨(some 36), none, .extract (.t 32) 0⟩, ⟨(some 37), none, .extract (.t 32) 1⟩, ⟨(some 13), none, .alloc [(.int .u64 0), (.int .u64 0)] 116⟩, ⟨none, none, .store 2 (.t 13) (.t 36)⟩, ⟨(some 14), none, .mov (.t 37)⟩])
 (.seq (.ops [⟨(some 38), none, .load true 2 (.t 11)⟩, ⟨(some 39), none, .load true 2 (.t 13)⟩, ⟨(some 40), none, .call 62 [(.t 38), (.t 39)]⟩, ⟨(some 15), none, .mov (.t 40)⟩])
 (.seq (.ops [⟨(some 41), none, .mov (.t 15)⟩, ⟨(some 42), none, .bin .lss (.t 41) (.c (.int .i64 0))⟩, ⟨(some 43), none, .mov (.t 42)⟩, ⟨(some 44), (some (43, false)), .mov (.t 15)⟩, ⟨(some 45), (some (43, false)), .bin .eql (.t 44) (.c (.int .i64 0))⟩, ⟨(some 46), (some (43, false)), .mov (.t 45)⟩, ⟨(some 47), (some (46, true)), .faddr 0 (.t 4)⟩, ⟨(some 48), (some (46, true)), .load false 1 (.t 47)⟩, ⟨(some 49), (some (46, true)), .faddr 0 (.t 5)⟩, ⟨(some 50), (some (46, true)), .load false 1 (.t 49)⟩, ⟨(some 51), (some (46, true)), .bin .lss (.t 48) (.t 50)⟩, ⟨(some 52), (some (43, false)), .pick (.t 46) (.t 51) (.c (.bool false))⟩, ⟨(some 53), none, .pick (.t 43) (.c (.bool true)) (.t 52)⟩, ⟨(some 6), none, .mov (.t 53)⟩])
 .ret)))))))⟩
def b36_0 : VCode := (.seq (.seq (.ops [⟨(some 48), none, .mov (.t 6)⟩, ⟨(some 49), none, .faddr 2 (.t 2)⟩, ⟨(some 50), none, .load false 1 (.t 49)⟩, ⟨(some 51), none, .mov (.t 5)⟩, ⟨(some 52), none, .iaddr 1 none (.t 50) (.t 51)⟩, ⟨(some 53), none, .load false 1 (.t 52)⟩, ⟨(some 54), none, .bi (.len 1) [(.t 53)]⟩, ⟨(some 55), none, .bin .lss (.t 48) (.t 54)⟩])
 (.cond (.t 55) .skip (.exit 2)))
 (.seq (.block 3 (.seq (.drawn [⟨(some 58), none, .faddr 2 (.t 2)⟩, ⟨(some 59), none, .load false 1 (.t 58)⟩, ⟨(some 60), none, .mov (.t 5)⟩, ⟨(some 61), none, .iaddr 1 none (.t 59) (.t 60)⟩, ⟨(some 62), none, .load false 1 (.t 61)⟩, ⟨(some 63), none, .mov (.t 6)⟩, ⟨(some 64), none, .iaddr 2 none (.t 62) (.t 63)⟩, ⟨(some 65), none, .load true 2 (.t 64)⟩, ⟨(some 66), none, .faddr 2 (.t 3)⟩, ⟨(some 67), none, .load false 1 (.t 66)⟩, ⟨(some 68), none, .mov (.t 5)⟩, ⟨(some 69), none, .iaddr 1 none (.t 67) (.t 68)⟩, ⟨(some 70), none, .load false 1 (.t 69)⟩, ⟨(some 71), none, .mov (.t 6)⟩, ⟨(some 72), none, .iaddr 2 none (.t 70) (.t 71)⟩, ⟨(some 73), none, .load true 2 (.t 72)⟩, ⟨(some 74), none, .eqs (.flat [.int, .int]) true (.t 65) (.t 73)⟩] [])
 (.cond (.t 74) (.seq (.ops [⟨(some 4), none, .mov (.c (.bool false))⟩])
 .ret) .skip)))
 (.ops [⟨(some 56), none, .mov (.t 6)⟩, ⟨(some 57), none, .bin .add (.t 56) (.c (.int .i64 1))⟩, ⟨(some 6), none, .mov (.t 57)⟩])))
def b36_1 : VCode := (.seq (.seq (.ops [⟨(some 28), none, .mov (.t 5)⟩, ⟨(some 29), none, .faddr 2 (.t 2)⟩, ⟨(some 30), none, .load false 1 (.t 29)⟩, ⟨(some 31), none, .bi (.len 1) [(.t 30)]⟩, ⟨(some 32), none, .bin .lss (.t 28) (.t 31)⟩])
 (.cond (.t 32) .skip (.exit 0)))
 (.seq (.block 1 (.seq (.seq (.drawn [⟨(some 35), none, .faddr 2 (.t 2)⟩, ⟨(some 36), none, .load false 1 (.t 35)⟩, ⟨(some 37), none, .mov (.t 5)⟩, ⟨(some 38), none, .iaddr 1 none (.t 36) (.t 37)⟩, ⟨(some 39), none, .load false 1 (.t 38)⟩, ⟨(some 40), none, .bi (.len 1) [(.t 39)]⟩, ⟨(some 41), none, .faddr 2 (.t 3)⟩, ⟨(some 42), none, .load false 1 (.t 41)⟩, ⟨(some 43), none, .mov (.t 5)⟩, ⟨(some 44), none, .iaddr 1 none (.t 42) (.t 43)⟩, ⟨(some 45), none, .load false 1 (.t 44)⟩, ⟨(some 46), none, .bi (.len 1) [(.t 45)]⟩, ⟨(some 47), none, .bin .neq (.t 40) (.t 46)⟩] [])
 (.cond (.t 47) (.seq (.ops [⟨(some 4), none, .mov (.c (.bool false))⟩])
 .ret) .skip))
 (.seq (.ops [⟨(some 6), none, .mov (.c (.int .i64 0))⟩])
 (.block 2 (.loop b36_0)))))
 (.ops [⟨(some 33), none, .mov (.t 5)⟩, ⟨(some 34), none, .bin .add (.t 33) (.c (.int .i64 1))⟩, ⟨(some 5), none, .mov (.t 34)⟩])))
/-- furlong/furlonglaw0.SameFeature -/
def v36 : VFun := ⟨2, [(.tmp 4)], (.seq (.ops [⟨(some 2), none, .box 49 (.t 0)⟩, ⟨(some 3), none, .box 49 (.t 1)⟩, ⟨(some 4), none, .mov (.c (.bool false))⟩])
 (.seq (.seq (.ops [⟨(some 7), none, .faddr 0 (.t 2)⟩, ⟨(some 8), none, .load false 1 (.t 7)⟩, ⟨(some 9), none, .faddr 0 (.t 3)⟩, ⟨(some 10), none, .load false 1 (.t 9)⟩, ⟨(some 11), none, .bin .neq (.t 8) (.t 10)⟩, ⟨(some 12), none, .mov (.t 11)⟩, ⟨(some 13), (some (12, false)), .faddr 1 (.t 2)⟩, ⟨(some 14), (some (12, false)), .load false 1 (.t 13)⟩, ⟨(some 15), (some (12, false)), .faddr 1 (.t 3)⟩, ⟨(some 16), (some (12, false)), .load false 1 (.t 15)⟩, ⟨(some 17), (some (12, false)), .bin .neq (.t 14) (.t 16)⟩, ⟨(some 18), none, .pick (.t 12) (.c (.bool true)) (.t 17)⟩, ⟨(some 19), none, .mov (.t 18)⟩, ⟨(some 20), (some (19, false)), .faddr 2 (.t 2)⟩, ⟨(some 21), (some (19, false)), .load false 1 (.t 20)⟩, ⟨(some 22), (some (19, false)), .bi (.len 1) [(.t 21)]⟩, ⟨(some 23), (some (19, false)), .faddr 2 (.t 3)⟩, ⟨(some 24), (some (19, false)), .load false 1 (.t 23)⟩, ⟨(some 25), (some (19, false)), .bi (.len 1) [(.t 24)]⟩, ⟨(some 26), (some (19, false)), .bin .neq (.t 22) (.t 25)⟩, ⟨(some 27), none, .pick (.t 19) (.c (.bool true)) (.t 26)⟩])
 (.cond (.t 27) (.seq (.ops [⟨(some 4), none, .mov (.c (.bool false))⟩])
 .ret) .skip))
 (.seq (.seq (.ops [⟨(some 5), none, .mov (.c (.int .i64 0))⟩])
 (.block 0 (.loop b36_1)))
 (.seq (.ops [⟨(some 4), none, .mov (.c (.bool true))⟩])
 .ret))))⟩
/-- furlong/furlongref1.BoxMay -/
def v37 : VFun := ⟨1, [(.tmp 2)], (.seq (.ops [⟨(some 1), none, .box 25 (.t 0)⟩, ⟨(some 2), none, .mov (.c (.bool false))⟩])
 (.seq (.ops [⟨(some 3), none, .faddr 0 (.t 1)⟩, ⟨(some 4), none, .load false 1 (.t 3)⟩, ⟨(some 5), none, .faddr 1 (.t 1)⟩, ⟨(some 6), none, .load false 1 (.t 5)⟩, ⟨(some 7), none, .build [(.int .i64 0), (.int .i64 0)] [(0, 1, (.t 4)), (1, 1, (.t 6))]⟩, ⟨(some 8), none, .call 23 [(.t 7)]⟩, ⟨(some 9), none, .mov (.t 8)⟩, ⟨(some 10), (some (9, true)), .faddr 2 (.t 1)⟩, ⟨(some 11), (some (9, true)), .load false 1 (.t 10)⟩, ⟨(some 12), (some (9, true)), .faddr 3 (.t 1)⟩, ⟨(some 13), (some (9, true)), .load false 1 (.t 12)⟩, ⟨(some 14), (some (9, true)), .build [(.int .i64 0), (.int .i64 0)] [(0, 1, (.t 11)), (1, 1, (.t 13))]⟩, ⟨(some 15), (some (9, true)), .call 23 [(.t 14)]⟩, ⟨(some 16), none, .pick (.t 9) (.t 15) (.c (.bool false))⟩, ⟨(some 17), none, .mov (.t 16)⟩, ⟨(some 18), (some (17, true)), .faddr 0 (.t 1)⟩, ⟨(some 19), (some (17, true)), .load false 1 (.t 18)⟩, ⟨(some 20), (some (17, true)), .faddr 2 (.t 1)⟩, ⟨(some 21), (some (17, true)), .load false 1 (.t 20)⟩, ⟨(some 22), (some (17, true)), .bin .leq (.t 19) (.t 21)⟩, ⟨(some 23), none, .pick (.t 17) (.t 22) (.c (.bool false))⟩, ⟨(some 24), none, .mov (.t 23)⟩, ⟨(some 25), (some (24, true)), .faddr 1 (.t 1)⟩, ⟨(some 26), (some (24, true)), .load false 1 (.t 25)⟩, ⟨(some 27), (some (24, true)), .faddr 3 (.t 1)⟩, ⟨(some 28), (some (24, true)), .load false 1 (.t 27)⟩, ⟨(some 29), (some (24, true)), .bin .leq (.t 26) (.t 28)⟩, ⟨(some 30), none, .pick (.t 24) (.t 29) (.c (.bool false))⟩, ⟨(some 2), none, .mov (.t 30)⟩])
 .ret))⟩
def b40_0 : VCode := (.seq (.ops [⟨(some 8), none, .bin .lss (.t 7) (.t 6)⟩])
 (.seq (.cond (.t 8) .skip (.exit 0))
 (.seq (.block 1 (.seq (.ops [⟨(some 9), none, .mov (.t 7)⟩, ⟨(some 10), none, .iaddr 3 none (.t 5) (.t 7)⟩, ⟨(some 11), none, .load true 3 (.t 10)⟩, ⟨(some 4), none, .alloc [(.int .i64 0), (.int .i64 0), .nils] 49⟩, ⟨(some 3), none, .mov (.t 9)⟩, ⟨none, none, .store 3 (.t 4) (.t 11)⟩])
 (.seq (.drawn [⟨(some 12), none, .load true 3 (.t 4)⟩, ⟨(some 13), none, .call 72 [(.t 12)]⟩, ⟨(some 14), none, .un .not (.t 13)⟩, ⟨(some 15), none, .mov (.t 14)⟩, ⟨(some 16), (some (15, false)), .mov (.t 3)⟩, ⟨(some 17), (some (15, false)), .bin .gtr (.t 16) (.c (.int .i64 0))⟩, ⟨(some 18), (some (15, false)), .mov (.t 17)⟩, ⟨(some 19), (some (18, true)), .mov (.t 0)⟩, ⟨(some 20), (some (18, true)), .mov (.t 3)⟩, ⟨(some 21), (some (18, true)), .bin .sub (.t 20) (.c (.int .i64 1))⟩, ⟨(some 22), (some (18, true)), .iaddr 3 none (.t 19) (.t 21)⟩, ⟨(some 23), (some (18, true)), .faddr 0 (.t 22)⟩, ⟨(some 24), (some (18, true)), .load false 1 (.t 23)⟩, ⟨(some 25), (some (18, true)), .faddr 0 (.t 4)⟩, ⟨(some 26), (some (18, true)), .load false 1 (.t 25)⟩, ⟨(some 27), (some (18, true)), .bin .geq (.t 24) (.t 26)⟩, ⟨(some 28), (some (15, false)), .pick (.t 18) (.t 27) (.c (.bool false))⟩, ⟨(some 29), none, .pick (.t 15) (.c (.bool true)) (.t 28)⟩] [])
 (.cond (.t 29) (.seq (.ops [⟨(some 2), none, .mov (.c (.bool false))⟩])
 .ret) .skip))))
 (.ops [⟨(some 30), none, .bin .add (.t 7) (.c (.int .i64 1))⟩, ⟨(some 7), none, .mov (.t 30)⟩]))))
/-- furlong/shape.Rising -/
def v40 : VFun := ⟨1, [(.tmp 2)], (.seq (.ops [⟨(some 2), none, .mov (.c (.bool false))⟩])
 (.seq (.seq (.ops [⟨(some 5), none, .mov (.t 0)⟩, ⟨(some 6), none, .bi (.len 1) [(.t 5)]⟩, ⟨(some 7), none, .mov (.c (.int .i64 0))⟩])
 (.block 0 (.loop b40_0)))
 (.seq (.ops [⟨(some 2), none, .mov (.c (.bool true))⟩])
 .ret)))⟩
def b41_0 : VCode := (.seq (.ops [⟨(some 21), none, .bin .lss (.t 20) (.t 19)⟩])
 (.seq (.cond (.t 21) .skip (.exit 0))
 (.seq (.block 1 (.seq (.ops [⟨(some 22), none, .mov (.t 20)⟩, ⟨(some 6), none, .mov (.t 22)⟩])
 (.seq (.ops [⟨(some 23), none, .mov (.t 0)⟩, ⟨(some 24), none, .mov (.t 6)⟩, ⟨(some 25), none, .iaddr 8 none (.t 23) (.t 24)⟩, ⟨(some 7), none, .mov (.t 25)⟩])
 (.seq (.seq (.ops [⟨(some 26), none, .mov (.t 7)⟩, ⟨(some 27), none, .mov (.t 1)⟩, ⟨(some 28), none, .call 73 [(.t 26), (.t 27)]⟩, ⟨(some 29), none, .un .not (.t 28)⟩, ⟨(some 30), none, .mov (.t 29)⟩, ⟨(some 31), (some (30, false)), .mov (.t 7)⟩, ⟨(some 32), (some (30, false)), .nilck (.t 31)⟩, ⟨(some 33), (some (30, false)), .faddr 0 (.t 32)⟩, ⟨(some 34), (some (30, false)), .load false 1 (.t 33)⟩, ⟨(some 35), (some (30, false)), .bin .eql (.t 34) (.c (.int .i64 2))⟩, ⟨(some 36), (some (30, false)), .mov (.t 35)⟩, ⟨(some 37), (some (36, true)), .mov (.t 6)⟩, ⟨(some 38), (some (36, true)), .bin .gtr (.t 37) (.c (.int .i64 0))⟩, ⟨(some 39), (some (30, false)), .pick (.t 36) (.t 38) (.c (.bool false))⟩, ⟨(some 40), none, .pick (.t 30) (.c (.bool true)) (.t 39)⟩])
 (.cond (.t 40) (.seq (.ops [⟨(some 4), none, .mov (.c (.bool false))⟩])
 .ret) .skip))
 (.seq (.ops [⟨(some 41), none, .mov (.t 7)⟩, ⟨(some 42), none, .call 44 [(.t 41)]⟩, ⟨(some 8), none, .mov (.t 42)⟩])
 (.seq (.ops [⟨(some 43), none, .mov (.t 8)⟩, ⟨(some 44), none, .bin .gtr (.t 43) (.c (.int .i64 0))⟩])
 (.cond (.t 44) (.seq (.seq (.ops [⟨(some 45), none, .mov (.t 5)⟩, ⟨(some 46), none, .mov (.t 8)⟩, ⟨(some 47), none, .lookup .int (.bool false) false (.t 45) (.t 46)⟩])
 (.cond (.t 47) (.seq (.ops [⟨(some 4), none, .mov (.c (.bool false))⟩])
 .ret) .skip))
 (.ops [⟨(some 48), none, .mov (.t 5)⟩, ⟨(some 49), none, .mov (.t 8)⟩, ⟨none, none, .mupd .int (.t 48) (.t 49) (.c (.bool true))⟩])) .skip)))))))
 (.ops [⟨(some 50), none, .bin .add (.t 20) (.c (.int .i64 1))⟩, ⟨(some 20), none, .mov (.t 50)⟩]))))
/-- furlong/rec.OpsMay -/
def v41 : VFun := ⟨2, [(.tmp 4)], (.seq (.ops [⟨(some 4), none, .mov (.c (.bool false))⟩])
 (.seq (.seq (.ops [⟨(some 9), none, .mov (.t 0)⟩, ⟨(some 10), none, .bi (.len 1) [(.t 9)]⟩, ⟨(some 11), none, .bin .lss (.t 10) (.c (.int .i64 1))⟩, ⟨(some 12), none, .mov (.t 11)⟩, ⟨(some 13), (some (12, false)), .mov (.t 0)⟩, ⟨(some 14), (some (12, false)), .bi (.len 1) [(.t 13)]⟩, ⟨(some 15), (some (12, false)), .bin .gtr (.t 14) (.c (.int .i64 32))⟩, ⟨(some 16), none, .pick (.t 12) (.c (.bool true)) (.t 15)⟩])
 (.cond (.t 16) (.seq (.ops [⟨(some 4), none, .mov (.c (.bool false))⟩])
 .ret) .skip))
 (.seq (.ops [⟨(some 17), none, .mkmap⟩, ⟨(some 5), none, .mov (.t 17)⟩])
 (.seq (.seq (.ops [⟨(some 18), none, .mov (.t 0)⟩, ⟨(some 19), none, .bi (.len 1) [(.t 18)]⟩, ⟨(some 20), none, .mov (.c (.int .i64 0))⟩])
 (.block 0 (.loop b41_0)))
 (.seq (.ops [⟨(some 4), none, .mov (.c (.bool true))⟩])
 .ret)))))⟩
def b42_0 : VCode := (.seq (.ops [⟨(some 9), none, .bin .lss (.t 8) (.t 7)⟩])
 (.seq (.cond (.t 9) .skip (.exit 0))
 (.seq (.block 1 (.seq (.ops [⟨(some 10), none, .iaddr 3 none (.t 6) (.t 8)⟩, ⟨(some 11), none, .load true 3 (.t 10)⟩, ⟨(some 5), none, .alloc [(.int .i64 0), (.int .i64 0), .nils] 49⟩, ⟨none, none, .store 3 (.t 5) (.t 11)⟩])
 (.ops [⟨(some 12), none, .mov (.t 3)⟩, ⟨(some 13), none, .load true 3 (.t 5)⟩, ⟨(some 14), none, .call 47 [(.t 13)]⟩, ⟨(some 15), none, .bslice [(.int .i64 0), (.int .i64 0), .nils] 49 1 [(0, 3, (.t 14))]⟩, ⟨(some 16), none, .bi (.append 3 40 49) [(.t 12), (.t 15)]⟩, ⟨(some 3), none, .mov (.t 16)⟩])))
 (.ops [⟨(some 17), none, .bin .add (.t 8) (.c (.int .i64 1))⟩, ⟨(some 8), none, .mov (.t 17)⟩]))))
/-- furlong/shape.CopyAll -/
def v42 : VFun := ⟨1, [(.tmp 2)], (.seq (.ops [⟨(some 2), none, .mov (.c .nils)⟩])
 (.seq (.ops [⟨(some 3), none, .mov (.c .nils)⟩])
 (.seq (.seq (.ops [⟨(some 6), none, .mov (.t 0)⟩, ⟨(some 7), none, .bi (.len 1) [(.t 6)]⟩, ⟨(some 8), none, .mov (.c (.int .i64 0))⟩])
 (.block 0 (.loop b42_0)))
 (.seq (.ops [⟨(some 18), none, .mov (.t 3)⟩, ⟨(some 2), none, .mov (.t 18)⟩])
 .ret))))⟩
/-- furlong/model.place -/
def v43 : VFun := ⟨2, [(.tmp 4), (.tmp 5)], (.seq (.ops [⟨(some 4), none, .mov (.c (.int .i64 0))⟩, ⟨(some 5), none, .mov (.c (.bool false))⟩])
 (.seq (.ops [⟨(some 6), none, .mov (.t 0)⟩, ⟨(some 7), none, .mov (.t 1)⟩, ⟨(some 8), none, .call 74 [(.t 6), (.t 7), (.c (.fn 75 []))]⟩, ⟨(some 9), none, .extract (.t 8) 0⟩, ⟨(some 10), none, .extract (.t 8) 1⟩, ⟨(some 4), none, .mov (.t 9)⟩, ⟨(some 5), none, .mov (.t 10)⟩])
 .ret))⟩
/-- furlong/rec.Id -/
def v44 : VFun := ⟨1, [(.tmp 2)], (.seq (.ops [⟨(some 2), none, .mov (.c (.int .i64 0))⟩])
 (.seq (.seq (.ops [⟨(some 3), none, .mov (.t 0)⟩, ⟨(some 4), none, .nilck (.t 3)⟩, ⟨(some 5), none, .faddr 0 (.t 4)⟩, ⟨(some 6), none, .load false 1 (.t 5)⟩, ⟨(some 7), none, .bin .eql (.t 6) (.c (.int .i64 0))⟩])
 (.cond (.t 7) (.seq (.ops [⟨(some 8), none, .mov (.t 0)⟩, ⟨(some 9), none, .nilck (.t 8)⟩, ⟨(some 10), none, .faddr 1 (.t 9)⟩, ⟨(some 11), none, .faddr 0 (.t 10)⟩, ⟨(some 12), none, .load false 1 (.t 11)⟩, ⟨(some 2), none, .mov (.t 12)⟩])
 .ret) .skip))
 (.seq (.ops [⟨(some 13), none, .mov (.t 0)⟩, ⟨(some 14), none, .nilck (.t 13)⟩, ⟨(some 15), none, .faddr 4 (.t 14)⟩, ⟨(some 16), none, .load false 1 (.t 15)⟩, ⟨(some 2), none, .mov (.t 16)⟩])
 .ret)))⟩
/-- slices.Delete[[]furlong/api.Feature,furlong/api.Feature] -/
def v45 : VFun := ⟨3, [(.tmp 6)], (.seq (.ops [⟨(some 6), none, .mov (.c .nils)⟩])
 (.seq (.ops [⟨(some 8), none, .mov (.t 0)⟩, ⟨(some 9), none, .mov (.t 1)⟩, ⟨(some 10), none, .mov (.t 2)⟩, ⟨(some 11), none, .mov (.t 0)⟩, ⟨(some 12), none, .bi (.len 1) [(.t 11)]⟩, ⟨(some 13), none, .slice 3 (.t 8) (some (.t 9)) (some (.t 10)) (some (.t 12))⟩])
 (.seq (.seq (.ops [⟨(some 14), none, .mov (.t 1)⟩, ⟨(some 15), none, .mov (.t 2)⟩, ⟨(some 16), none, .bin .eql (.t 14) (.t 15)⟩])
 (.cond (.t 16) (.seq (.ops [⟨(some 17), none, .mov (.t 0)⟩, ⟨(some 6), none, .mov (.t 17)⟩])
 .ret) .skip))
 (.seq (.ops [⟨(some 18), none, .mov (.t 0)⟩, ⟨(some 19), none, .bi (.len 1) [(.t 18)]⟩, ⟨(some 7), none, .mov (.t 19)⟩])
 (.seq (.drawn [⟨(some 20), none, .mov (.t 0)⟩, ⟨(some 21), none, .mov (.t 1)⟩, ⟨(some 22), none, .slice 3 (.t 20) none (some (.t 21)) none⟩, ⟨(some 23), none, .mov (.t 0)⟩, ⟨(some 24), none, .mov (.t 2)⟩, ⟨(some 25), none, .slice 3 (.t 23) (some (.t 24)) none none⟩, ⟨(some 26), none, .bi (.append 3 40 49) [(.t 22), (.t 25)]⟩, ⟨(some 0), none, .mov (.t 26)⟩] [])
 (.seq (.ops [⟨(some 27), none, .mov (.t 0)⟩, ⟨(some 28), none, .mov (.t 0)⟩, ⟨(some 29), none, .bi (.len 1) [(.t 28)]⟩, ⟨(some 30), none, .mov (.t 7)⟩, ⟨(some 31), none, .slice 3 (.t 27) (some (.t 29)) (some (.t 30)) none⟩, ⟨none, none, .bi (.clearS [(.int .i64 0), (.int .i64 0), .nils]) [(.t 31)]⟩])
 (.seq (.ops [⟨(some 32), none, .mov (.t 0)⟩, ⟨(some 6), none, .mov (.t 32)⟩])
 .ret)))))))⟩
def b47_0 : VCode := (.seq (.ops [⟨(some 14), none, .bin .lss (.t 13) (.t 12)⟩])
 (.seq (.cond (.t 14) .skip (.exit 0))
 (.seq (.block 1 (.seq (.ops [⟨(some 15), none, .mov (.t 13)⟩, ⟨(some 16), none, .iaddr 1 none (.t 11) (.t 13)⟩, ⟨(some 17), none, .load false 1 (.t 16)⟩, ⟨(some 4), none, .mov (.t 15)⟩, ⟨(some 5), none, .mov (.t 17)⟩])
 (.ops [⟨(some 18), none, .mov (.t 3)⟩, ⟨(some 19), none, .mov (.t 4)⟩, ⟨(some 20), none, .mov (.t 5)⟩, ⟨(some 21), none, .call 79 [(.t 20)]⟩, ⟨(some 22), none, .iaddr 1 none (.t 18) (.t 19)⟩, ⟨none, none, .store 1 (.t 22) (.t 21)⟩])))
 (.ops [⟨(some 23), none, .bin .add (.t 13) (.c (.int .i64 1))⟩, ⟨(some 13), none, .mov (.t 23)⟩]))))
/-- furlong/shape.Copy -/
def v47 : VFun := ⟨1, [(.cell 2 true 3)], (.seq (.ops [⟨(some 1), none, .box 49 (.t 0)⟩, ⟨(some 2), none, .alloc [(.int .i64 0), (.int .i64 0), .nils] 49⟩])
 (.seq (.ops [⟨(some 6), none, .faddr 2 (.t 1)⟩, ⟨(some 7), none, .load false 1 (.t 6)⟩, ⟨(some 8), none, .bi (.len 1) [(.t 7)]⟩, ⟨(some 9), none, .mkslice [.nils] 87 24 (.t 8) (.t 8)⟩, ⟨(some 3), none, .mov (.t 9)⟩])
 (.seq (.seq (.ops [⟨(some 10), none, .faddr 2 (.t 1)⟩, ⟨(some 11), none, .load false 1 (.t 10)⟩, ⟨(some 12), none, .bi (.len 1) [(.t 11)]⟩, ⟨(some 13), none, .mov (.c (.int .i64 0))⟩])
 (.block 0 (.loop b47_0)))
 (.seq (.ops [⟨(some 24), none, .mov (.t 3)⟩, ⟨(some 25), none, .faddr 2 (.t 1)⟩, ⟨none, none, .store 1 (.t 25) (.t 24)⟩])
 (.seq (.ops [⟨(some 26), none, .load true 3 (.t 1)⟩, ⟨none, none, .store 3 (.t 2) (.t 26)⟩])
 .ret)))))⟩
/-- furlong/geom.BoxMay -/
def v52 : VFun := ⟨1, [(.tmp 2)], (.seq (.ops [⟨(some 1), none, .box 25 (.t 0)⟩, ⟨(some 2), none, .mov (.c (.bool false))⟩])
 (.seq (.ops [⟨(some 3), none, .faddr 0 (.t 1)⟩, ⟨(some 4), none, .load false 1 (.t 3)⟩, ⟨(some 5), none, .call 83 [(.t 4)]⟩, ⟨(some 6), none, .mov (.t 5)⟩, ⟨(some 7), (some (6, true)), .faddr 1 (.t 1)⟩, ⟨(some 8), (some (6, true)), .load false 1 (.t 7)⟩, ⟨(some 9), (some (6, true)), .call 83 [(.t 8)]⟩, ⟨(some 10), none, .pick (.t 6) (.t 9) (.c (.bool false))⟩, ⟨(some 11), none, .mov (.t 10)⟩, ⟨(some 12), (some (11, true)), .faddr 2 (.t 1)⟩, ⟨(some 13), (some (11, true)), .load false 1 (.t 12)⟩, ⟨(some 14), (some (11, true)), .call 83 [(.t 13)]⟩, ⟨(some 15), none, .pick (.t 11) (.t 14) (.c (.bool false))⟩, ⟨(some 16), none, .mov (.t 15)⟩, ⟨(some 17), (some (16, true)), .faddr 3 (.t 1)⟩, ⟨(some 18), (some (16, true)), .load false 1 (.t 17)⟩, ⟨(some 19), (some (16, true)), .call 83 [(.t 18)]⟩, ⟨(some 20), none, .pick (.t 16) (.t 19) (.c (.bool false))⟩, ⟨(some 21), none, .mov (.t 20)⟩, ⟨(some 22), (some (21, true)), .faddr 0 (.t 1)⟩, ⟨(some 23), (some (21, true)), .load false 1 (.t 22)⟩, ⟨(some 24), (some (21, true)), .faddr 2 (.t 1)⟩, ⟨(some 25), (some (21, true)), .load false 1 (.t 24)⟩, ⟨(some 26), (some (21, true)), .bin .leq (.t 23) (.t 25)⟩, ⟨(some 27), none, .pick (.t 21) (.t 26) (.c (.bool false))⟩, ⟨(some 28), none, .mov (.t 27)⟩, ⟨(some 29), (some (28, true)), .faddr 1 (.t 1)⟩, ⟨(some 30), (some (28, true)), .load false 1 (.t 29)⟩, ⟨(some 31), (some (28, true)), .faddr 3 (.t 1)⟩, ⟨(some 32), (some (28, true)), .load false 1 (.t 31)⟩, ⟨(some 33), (some (28, true)), .bin .leq (.t 30) (.t 32)⟩, ⟨(some 34), none, .pick (.t 28) (.t 33) (.c (.bool false))⟩, ⟨(some 2), none, .mov (.t 34)⟩])
 .ret))⟩
def b53_0 : VCode := (.ops [⟨(some 6), none, .alloc [(.int .i64 0), (.int .i64 0)] 27⟩, ⟨none, none, .store 2 (.t 6) (.t 20)⟩])
def b53_1 : VCode := (.block 1 (.seq (.ops [⟨(some 21), none, .load true 2 (.t 6)⟩, ⟨(some 22), none, .load true 4 (.t 3)⟩, ⟨(some 23), none, .call 85 [(.t 21), (.t 22)]⟩])
 (.cond (.t 23) (.seq (.ops [⟨none, none, .store 1 (.t 4) (.c (.bool true))⟩, ⟨none, none, .store 1 (.t 5) (.c (.int .i64 0))⟩])
 .ret) .skip)))
def b53_2 : VCode := (.seq (.ops [⟨(some 8), none, .alloc [(.int .i64 0), (.int .i64 0)] 27⟩, ⟨none, none, .store 2 (.t 8) (.t 27)⟩])
 (.ops [⟨(some 9), none, .alloc [(.int .i64 0), (.int .i64 0)] 27⟩, ⟨none, none, .store 2 (.t 9) (.t 28)⟩]))
def b53_3 : VCode := (.block 3 (.seq (.ops [⟨(some 29), none, .load true 2 (.t 8)⟩, ⟨(some 30), none, .load true 2 (.t 9)⟩, ⟨(some 31), none, .load true 8 (.t 7)⟩, ⟨(some 32), none, .call 88 [(.t 29), (.t 30), (.t 31)]⟩])
 (.cond (.t 32) (.seq (.ops [⟨none, none, .store 1 (.t 4) (.c (.bool true))⟩, ⟨none, none, .store 1 (.t 5) (.c (.int .i64 0))⟩])
 .ret) .skip)))
/-- furlong/shape.Meets -/
def v53 : VFun := ⟨2, [(.cell 4 false 1), (.cell 5 false 1)], (.seq (.ops [⟨(some 2), none, .box 49 (.t 0)⟩, ⟨(some 3), none, .box 25 (.t 1)⟩, ⟨(some 4), none, .alloc [(.bool false)] 4⟩, ⟨(some 5), none, .alloc [(.int .i64 0)] 30⟩])
 (.seq (.seq (.ops [⟨(some 11), none, .load true 3 (.t 2)⟩, ⟨(some 12), none, .call 72 [(.t 11)]⟩, ⟨(some 13), none, .un .not (.t 12)⟩, ⟨(some 14), none, .mov (.t 13)⟩, ⟨(some 15), (some (14, false)), .load true 4 (.t 3)⟩, ⟨(some 16), (some (14, false)), .call 52 [(.t 15)]⟩, ⟨(some 17), (some (14, false)), .un .not (.t 16)⟩, ⟨(some 18), none, .pick (.t 14) (.c (.bool true)) (.t 17)⟩])
 (.cond (.t 18) (.seq (.ops [⟨none, none, .store 1 (.t 4) (.c (.bool false))⟩, ⟨none, none, .store 1 (.t 5) (.c (.int .i64 400))⟩])
 .ret) .skip))
 (.seq (.seq (.ops [⟨(some 19), none, .call 84 [(.t 2)]⟩])
 (.block 0 (.rangeFn (.t 19) [20] b53_0 b53_1)))
 (.seq (.ops [⟨(some 24), none, .load true 4 (.t 3)⟩, ⟨(some 25), none, .call 86 [(.t 24)]⟩, ⟨(some 7), none, .alloc [(.int .i64 0), (.int .i64 0), (.int .i64 0), (.int .i64 0), (.int .i64 0), (.int .i64 0), (.int .i64 0), (.int .i64 0)] 152⟩, ⟨none, none, .store 8 (.t 7) (.t 25)⟩])
 (.seq (.seq (.ops [⟨(some 26), none, .call 87 [(.t 2)]⟩])
 (.block 2 (.rangeFn (.t 26) [27, 28] b53_2 b53_3)))
 (.seq (.ops [⟨(some 33), none, .mkfn 89 [(.t 2)]⟩, ⟨(some 10), none, .mov (.t 33)⟩])
 (.seq (.ops [⟨(some 34), none, .faddr 1 (.t 2)⟩, ⟨(some 35), none, .load false 1 (.t 34)⟩, ⟨(some 36), none, .bin .eql (.t 35) (.c (.int .i64 2))⟩, ⟨(some 37), none, .mov (.t 36)⟩, ⟨(some 38), (some (37, true)), .sliceA 2 4 (.t 7) none none none⟩, ⟨(some 39), (some (37, true)), .mov (.t 10)⟩, ⟨(some 40), (some (37, true)), .call 91 [(.t 38), (.t 39)]⟩, ⟨(some 41), none, .pick (.t 37) (.t 40) (.c (.bool false))⟩, ⟨none, none, .store 1 (.t 4) (.t 41)⟩, ⟨none, none, .store 1 (.t 5) (.c (.int .i64 0))⟩])
 .ret)))))))⟩
/-- furlong/geom.PointMay -/
def v55 : VFun := ⟨1, [(.tmp 2)], (.seq (.ops [⟨(some 1), none, .box 27 (.t 0)⟩, ⟨(some 2), none, .mov (.c (.bool false))⟩])
 (.seq (.ops [⟨(some 3), none, .faddr 0 (.t 1)⟩, ⟨(some 4), none, .load false 1 (.t 3)⟩, ⟨(some 5), none, .call 83 [(.t 4)]⟩, ⟨(some 6), none, .mov (.t 5)⟩, ⟨(some 7), (some (6, true)), .faddr 1 (.t 1)⟩, ⟨(some 8), (some (6, true)), .load false 1 (.t 7)⟩, ⟨(some 9), (some (6, true)), .call 83 [(.t 8)]⟩, ⟨(some 10), none, .pick (.t 6) (.t 9) (.c (.bool false))⟩, ⟨(some 2), none, .mov (.t 10)⟩])
 .ret))⟩
/-- furlong/query.Nearest -/
def v56 : VFun := ⟨3, [(.tmp 6)], (.seq (.ops [⟨(some 4), none, .box 27 (.t 1)⟩, ⟨(some 6), none, .mov (.c .nils)⟩])
 (.seq (.ops [⟨(some 7), none, .mov (.t 0)⟩, ⟨(some 8), none, .load true 2 (.t 4)⟩, ⟨(some 9), none, .mov (.t 2)⟩, ⟨(some 10), none, .call 93 [(.t 7), (.t 8), (.t 9), (.c (.fn 94 []))]⟩, ⟨(some 6), none, .mov (.t 10)⟩])
 .ret))⟩
/-- furlong/furlonglaw24.point -/
def v59 : VFun := ⟨3, [(.cell 6 true 3)], (.seq (.ops [⟨(some 6), none, .alloc [(.int .i64 0), (.int .i64 0), .nils] 49⟩])
 (.seq (.ops [⟨(some 7), none, .mov (.t 0)⟩, ⟨(some 8), none, .mov (.t 1)⟩, ⟨(some 9), none, .mov (.t 2)⟩, ⟨(some 10), none, .build [(.int .i64 0), (.int .i64 0)] [(0, 1, (.t 8)), (1, 1, (.t 9))]⟩, ⟨(some 11), none, .bslice [(.int .i64 0), (.int .i64 0)] 27 1 [(0, 2, (.t 10))]⟩, ⟨(some 12), none, .bslice [.nils] 87 1 [(0, 1, (.t 11))]⟩, ⟨(some 13), none, .build [(.int .i64 0), (.int .i64 0), .nils] [(0, 1, (.t 7)), (2, 1, (.t 12))]⟩, ⟨none, none, .store 3 (.t 6) (.t 13)⟩])
 .ret))⟩
def b60_0 : VCode := (.seq (.seq (.ops [⟨(some 31), none, .mov (.t 6)⟩, ⟨(some 32), none, .faddr 2 (.t 1)⟩, ⟨(some 33), none, .load false 1 (.t 32)⟩, ⟨(some 34), none, .mov (.t 5)⟩, ⟨(some 35), none, .iaddr 1 none (.t 33) (.t 34)⟩, ⟨(some 36), none, .load false 1 (.t 35)⟩, ⟨(some 37), none, .bi (.len 1) [(.t 36)]⟩, ⟨(some 38), none, .bin .lss (.t 31) (.t 37)⟩])
 (.cond (.t 38) .skip (.exit 2)))
 (.seq (.block 3 (.drawn [⟨(some 42), none, .load true 4 (.t 4)⟩, ⟨(some 43), none, .faddr 2 (.t 1)⟩, ⟨(some 44), none, .load false 1 (.t 43)⟩, ⟨(some 45), none, .mov (.t 5)⟩, ⟨(some 46), none, .iaddr 1 none (.t 44) (.t 45)⟩, ⟨(some 47), none, .load false 1 (.t 46)⟩, ⟨(some 48), none, .mov (.t 6)⟩, ⟨(some 49), none, .iaddr 2 none (.t 47) (.t 48)⟩, ⟨(some 50), none, .load true 2 (.t 49)⟩, ⟨(some 51), none, .faddr 2 (.t 1)⟩, ⟨(some 52), none, .load false 1 (.t 51)⟩, ⟨(some 53), none, .mov (.t 5)⟩, ⟨(some 54), none, .iaddr 1 none (.t 52) (.t 53)⟩, ⟨(some 55), none, .load false 1 (.t 54)⟩, ⟨(some 56), none, .mov (.t 6)⟩, ⟨(some 57), none, .iaddr 2 none (.t 55) (.t 56)⟩, ⟨(some 58), none, .load true 2 (.t 57)⟩, ⟨(some 59), none, .call 98 [(.t 50), (.t 58)]⟩, ⟨(some 60), none, .call 99 [(.t 42), (.t 59)]⟩, ⟨(some 41), none, .mov (.t 60)⟩, ⟨(some 61), none, .extract (.t 41) 0⟩, ⟨(some 62), none, .extract (.t 41) 1⟩, ⟨none, none, .store 4 (.t 4) (.t 61)⟩] [(0, [18])]))
 (.ops [⟨(some 39), none, .mov (.t 6)⟩, ⟨(some 40), none, .bin .add (.t 39) (.c (.int .i64 1))⟩, ⟨(some 6), none, .mov (.t 40)⟩])))
def b60_1 : VCode := (.seq (.seq (.ops [⟨(some 24), none, .mov (.t 5)⟩, ⟨(some 25), none, .faddr 2 (.t 1)⟩, ⟨(some 26), none, .load false 1 (.t 25)⟩, ⟨(some 27), none, .bi (.len 1) [(.t 26)]⟩, ⟨(some 28), none, .bin .lss (.t 24) (.t 27)⟩])
 (.cond (.t 28) .skip (.exit 0)))
 (.seq (.block 1 (.seq (.ops [⟨(some 6), none, .mov (.c (.int .i64 0))⟩])
 (.block 2 (.loop b60_0))))
 (.ops [⟨(some 29), none, .mov (.t 5)⟩, ⟨(some 30), none, .bin .add (.t 29) (.c (.int .i64 1))⟩, ⟨(some 5), none, .mov (.t 30)⟩])))
/-- furlong/furlongref1.Box -/
def v60 : VFun := ⟨1, [(.cell 2 true 4), (.tmp 3)], (.seq (.ops [⟨(some 1), none, .box 49 (.t 0)⟩, ⟨(some 2), none, .alloc [(.int .i64 0), (.int .i64 0), (.int .i64 0), (.int .i64 0)] 25⟩, ⟨(some 3), none, .mov (.c (.int .i64 0))⟩])
 (.seq (.seq (.ops [⟨(some 7), none, .load true 3 (.t 1)⟩, ⟨(some 8), none, .call 80 [(.t 7)]⟩, ⟨(some 9), none, .un .not (.t 8)⟩])
 (.cond (.t 9) (.seq (.ops [⟨(some 10), none, .build [(.int .i64 0), (.int .i64 0), (.int .i64 0), (.int .i64 0)] []⟩, ⟨none, none, .store 4 (.t 2) (.t 10)⟩, ⟨(some 3), none, .mov (.c (.int .i64 400))⟩])
 .ret) .skip))
 (.seq (.mixed [⟨(some 11), none, .faddr 2 (.t 1)⟩, ⟨(some 12), none, .load false 1 (.t 11)⟩, ⟨(some 13), none, .iaddr 1 none (.t 12) (.c (.int .i64 0))⟩, ⟨(some 14), none, .load false 1 (.t 13)⟩, ⟨(some 15), none, .iaddr 2 none (.t 14) (.c (.int .i64 0))⟩, ⟨(some 16), none, .load true 2 (.t 15)⟩, ⟨(some 17), none, .faddr 2 (.t 1)⟩, ⟨(some 18), none, .load false 1 (.t 17)⟩, ⟨(some 19), none, .iaddr 1 none (.t 18) (.c (.int .i64 0))⟩, ⟨(some 20), none, .load false 1 (.t 19)⟩, ⟨(some 21), none, .iaddr 2 none (.t 20) (.c (.int .i64 0))⟩, ⟨(some 22), none, .load true 2 (.t 21)⟩, ⟨(some 23), none, .call 98 [(.t 16), (.t 22)]⟩, ⟨(some 4), none, .alloc [(.int .i64 0), (.int .i64 0), (.int .i64 0), (.int .i64 0)] 25⟩, ⟨none, none, .store 4 (.t 4) (.t 23)⟩] [])
 (.seq (.seq (.ops [⟨(some 5), none, .mov (.c (.int .i64 0))⟩])
 (.block 0 (.loop b60_1)))
 (.seq (.ops [⟨(some 63), none, .load true 4 (.t 4)⟩, ⟨none, none, .store 4 (.t 2) (.t 63)⟩, ⟨(some 3), none, .mov (.c (.int .i64 0))⟩])
 .ret)))))⟩
/-- furlong/furlongref1.Far -/
def v61 : VFun := ⟨2, [(.cell 4 true 2), (.tmp 5)], (.seq (.ops [⟨(some 2), none, .box 27 (.t 0)⟩, ⟨(some 3), none, .box 25 (.t 1)⟩, ⟨(some 4), none, .alloc [(.int .u64 0), (.int .u64 0)] 116⟩, ⟨(some 5), none, .mov (.c (.int .i64 0))⟩])
 (.seq (.seq (.ops [⟨(some 10), none, .load true 2 (.t 2)⟩, ⟨(some 11), none, .call 23 [(.t 10)]⟩, ⟨(some 12), none, .un .not (.t 11)⟩, ⟨(some 13), none, .mov (.t 12)⟩, ⟨(some 14), (some (13, false)), .load true 4 (.t 3)⟩, ⟨(some 15), (some (13, false)), .call 37 [(.t 14)]⟩, ⟨(some 16), (some (13, false)), .un .not (.t 15)⟩, ⟨(some 17), none, .pick (.t 13) (.c (.bool true)) (.t 16)⟩])
 (.cond (.t 17) (.seq (.ops [⟨(some 18), none, .build [(.int .u64 0), (.int .u64 0)] []⟩, ⟨none, none, .store 2 (.t 4) (.t 18)⟩, ⟨(some 5), none, .mov (.c (.int .i64 300))⟩])
 .ret) .skip))
 (.seq (.ops [⟨(some 19), none, .faddr 0 (.t 3)⟩, ⟨(some 20), none, .load false 1 (.t 19)⟩, ⟨(some 21), none, .faddr 0 (.t 2)⟩, ⟨(some 22), none, .load false 1 (.t 21)⟩, ⟨(some 23), none, .bin .sub (.t 20) (.t 22)⟩, ⟨(some 24), none, .faddr 0 (.t 2)⟩, ⟨(some 25), none, .load false 1 (.t 24)⟩, ⟨(some 26), none, .faddr 2 (.t 3)⟩, ⟨(some 27), none, .load false 1 (.t 26)⟩, ⟨(some 28), none, .bin .sub (.t 25) (.t 27)⟩, ⟨(some 29), none, .bi .max [(.t 23), (.c (.int .i64 0)), (.t 28)]⟩, ⟨(some 30), none, .conv (.int .u64) (.t 29)⟩, ⟨(some 6), none, .mov (.t 30)⟩])
 (.seq (.ops [⟨(some 31), none, .faddr 1 (.t 3)⟩, ⟨(some 32), none, .load false 1 (.t 31)⟩, ⟨(some 33), none, .faddr 1 (.t 2)⟩, ⟨(some 34), none, .load false 1 (.t 33)⟩, ⟨(some 35), none, .bin .sub (.t 32) (.t 34)⟩, ⟨(some 36), none, .faddr 1 (.t 2)⟩, ⟨(some 37), none, .load false 1 (.t 36)⟩, ⟨(some 38), none, .faddr 3 (.t 3)⟩, ⟨(some 39), none, .load false 1 (.t 38)⟩, ⟨(some 40), none, .bin .sub (.t 37) (.t 39)⟩, ⟨(some 41), none, .bi .max [(.t 35), (.c (.int .i64 0)), (.t 40)]⟩, ⟨(some 42), none, .conv (.int .u64) (.t 41)⟩, ⟨(some 7), none, .mov (.t 42)⟩])
 (.seq (.ops [⟨(some 44), none, .mov (.t 6)⟩, ⟨(some 45), none, .mov (.t 6)⟩, ⟨(some 46), none, .call 101 [(.t 44), (.t 45)]⟩, ⟨(some 47), none, .mov (.t 7)⟩, ⟨(some 48), none, .mov (.t 7)⟩, ⟨(some 49), none, .call 101 [(.t 47), (.t 48)]⟩, ⟨(some 50), none, .call 100 [(.t 46), (.t 49)]⟩, ⟨(some 43), none, .mov (.t 50)⟩, ⟨(some 51), none, .extract (.t 43) 0⟩, ⟨(some 52), none, .extract (.t 43) 1⟩, ⟨(some 8), none, .alloc [(.int .u64 0), (.int .u64 0)] 116⟩, ⟨none, none, .store 2 (.t 8) (.t 51)⟩, ⟨(some 9), none, .mov (.t 52)⟩])
 (.seq (.ops [⟨(some 53), none, .load true 2 (.t 8)⟩, ⟨none, none, .store 2 (.t 4) (.t 53)⟩, ⟨(some 5), none, .mov (.c (.int .i64 0))⟩])
 .ret))))))⟩
/-- furlong/furlongref1.Cmp -/
def v62 : VFun := ⟨2, [(.tmp 4)], (.seq (.ops [⟨(some 2), none, .box 116 (.t 0)⟩, ⟨(some 3), none, .box 116 (.t 1)⟩, ⟨(some 4), none, .mov (.c (.int .i64 0))⟩])
 (.seq (.block 0 (.seq (.ops [⟨(some 6), none, .load true 2 (.t 2)⟩, ⟨(some 7), none, .load true 2 (.t 3)⟩, ⟨(some 8), none, .eqs (.flat [.int, .int]) false (.t 6) (.t 7)⟩, ⟨(some 5), none, .mov (.t 8)⟩])
 (.cond (.t 5) (.seq (.ops [⟨(some 4), none, .mov (.c (.int .i64 0))⟩])
 .ret) (.seq (.ops [⟨(some 10), none, .faddr 0 (.t 2)⟩, ⟨(some 11), none, .load false 1 (.t 10)⟩, ⟨(some 12), none, .faddr 0 (.t 3)⟩, ⟨(some 13), none, .load false 1 (.t 12)⟩, ⟨(some 14), none, .bin .lss (.t 11) (.t 13)⟩, ⟨(some 15), none, .mov (.t 14)⟩, ⟨(some 16), (some (15, false)), .faddr 0 (.t 2)⟩, ⟨(some 17), (some (15, false)), .load false 1 (.t 16)⟩, ⟨(some 18), (some (15, false)), .faddr 0 (.t 3)⟩, ⟨(some 19), (some (15, false)), .load false 1 (.t 18)⟩, ⟨(some 20), (some (15, false)), .bin .eql (.t 17) (.t 19)⟩, ⟨(some 21), (some (15, false)), .mov (.t 20)⟩, ⟨(some 22), (some (21, true)), .faddr 1 (.t 2)⟩, ⟨(some 23), (some (21, true)), .load false 1 (.t 22)⟩, ⟨(some 24), (some (21, true)), .faddr 1 (.t 3)⟩, ⟨(some 25), (some (21, true)), .load false 1 (.t 24)⟩, ⟨(some 26), (some (21, true)), .bin .lss (.t 23) (.t 25)⟩, ⟨(some 27), (some (15, false)), .pick (.t 21) (.t 26) (.c (.bool false))⟩, ⟨(some 28), none, .pick (.t 15) (.c (.bool true)) (.t 27)⟩, ⟨(some 9), none, .mov (.t 28)⟩])
 (.cond (.t 9) (.seq (.ops [⟨(some 4), none, .mov (.c (.int .i64 (-1)))⟩])
 .ret) .skip)))))
 (.seq (.ops [⟨(some 4), none, .mov (.c (.int .i64 1))⟩])
 .ret)))⟩
/-- furlong/shape.May -/
def v72 : VFun := ⟨1, [(.tmp 2)], (.seq (.ops [⟨(some 1), none, .box 49 (.t 0)⟩, ⟨(some 2), none, .mov (.c (.bool false))⟩])
 (.seq (.seq (.ops [⟨(some 3), none, .faddr 0 (.t 1)⟩, ⟨(some 4), none, .load false 1 (.t 3)⟩, ⟨(some 5), none, .bin .lss (.t 4) (.c (.int .i64 1))⟩, ⟨(some 6), none, .mov (.t 5)⟩, ⟨(some 7), (some (6, false)), .faddr 0 (.t 1)⟩, ⟨(some 8), (some (6, false)), .load false 1 (.t 7)⟩, ⟨(some 9), (some (6, false)), .bin .gtr (.t 8) (.c (.int .i64 65535))⟩, ⟨(some 10), none, .pick (.t 6) (.c (.bool true)) (.t 9)⟩, ⟨(some 11), none, .mov (.t 10)⟩, ⟨(some 12), (some (11, false)), .faddr 2 (.t 1)⟩, ⟨(some 13), (some (11, false)), .load false 1 (.t 12)⟩, ⟨(some 14), (some (11, false)), .bi (.len 1) [(.t 13)]⟩, ⟨(some 15), (some (11, false)), .bin .lss (.t 14) (.c (.int .i64 1))⟩, ⟨(some 16), none, .pick (.t 11) (.c (.bool true)) (.t 15)⟩, ⟨(some 17), none, .mov (.t 16)⟩, ⟨(some 18), (some (17, false)), .faddr 2 (.t 1)⟩, ⟨(some 19), (some (17, false)), .load false 1 (.t 18)⟩, ⟨(some 20), (some (17, false)), .bi (.len 1) [(.t 19)]⟩, ⟨(some 21), (some (17, false)), .bin .gtr (.t 20) (.c (.int .i64 4))⟩, ⟨(some 22), none, .pick (.t 17) (.c (.bool true)) (.t 21)⟩])
 (.cond (.t 22) (.seq (.ops [⟨(some 2), none, .mov (.c (.bool false))⟩])
 .ret) .skip))
 (.seq (.seq (.ops [⟨(some 23), none, .faddr 1 (.t 1)⟩, ⟨(some 24), none, .load false 1 (.t 23)⟩])
 (.block 0 (.seq (.ops [⟨(some 26), none, .bin .eql (.t 24) (.c (.int .i64 0))⟩, ⟨(some 25), none, .mov (.t 26)⟩])
 (.cond (.t 25) (.seq (.ops [⟨(some 27), none, .faddr 2 (.t 1)⟩, ⟨(some 28), none, .load false 1 (.t 27)⟩, ⟨(some 29), none, .bi (.len 1) [(.t 28)]⟩, ⟨(some 30), none, .bin .eql (.t 29) (.c (.int .i64 1))⟩, ⟨(some 31), none, .mov (.t 30)⟩, ⟨(some 32), (some (31, true)), .faddr 2 (.t 1)⟩, ⟨(some 33), (some (31, true)), .load false 1 (.t 32)⟩, ⟨(some 34), (some (31, true)), .iaddr 1 none (.t 33) (.c (.int .i64 0))⟩, ⟨(some 35), (some (31, true)), .load false 1 (.t 34)⟩, ⟨(some 36), (some (31, true)), .bi (.len 1) [(.t 35)]⟩, ⟨(some 37), (some (31, true)), .bin .eql (.t 36) (.c (.int .i64 1))⟩, ⟨(some 38), none, .pick (.t 31) (.t 37) (.c (.bool false))⟩, ⟨(some 39), none, .mov (.t 38)⟩, ⟨(some 40), (some (39, true)), .faddr 2 (.t 1)⟩, ⟨(some 41), (some (39, true)), .load false 1 (.t 40)⟩, ⟨(some 42), (some (39, true)), .iaddr 1 none (.t 41) (.c (.int .i64 0))⟩, ⟨(some 43), (some (39, true)), .load false 1 (.t 42)⟩, ⟨(some 44), (some (39, true)), .iaddr 2 none (.t 43) (.c (.int .i64 0))⟩, ⟨(some 45), (some (39, true)), .load true 2 (.t 44)⟩, ⟨(some 46), (some (39, true)), .call 55 [(.t 45)]⟩, ⟨(some 47), none, .pick (.t 39) (.t 46) (.c (.bool false))⟩, ⟨(some 2), none, .mov (.t 47)⟩])
 .ret) (.seq (.ops [⟨(some 49), none, .bin .eql (.t 24) (.c (.int .i64 1))⟩, ⟨(some 48), none, .mov (.t 49)⟩])
 (.cond (.t 48) (.seq (.ops [⟨(some 50), none, .faddr 2 (.t 1)⟩, ⟨(some 51), none, .load false 1 (.t 50)⟩, ⟨(some 52), none, .bi (.len 1) [(.t 51)]⟩, ⟨(some 53), none, .bin .eql (.t 52) (.c (.int .i64 1))⟩, ⟨(some 54), none, .mov (.t 53)⟩, ⟨(some 55), (some (54, true)), .faddr 2 (.t 1)⟩, ⟨(some 56), (some (54, true)), .load false 1 (.t 55)⟩, ⟨(some 57), (some (54, true)), .iaddr 1 none (.t 56) (.c (.int .i64 0))⟩, ⟨(some 58), (some (54, true)), .load false 1 (.t 57)⟩, ⟨(some 59), (some (54, true)), .call 119 [(.t 58), (.c (.int .i64 2)), (.c (.bool false))]⟩, ⟨(some 60), none, .pick (.t 54) (.t 59) (.c (.bool false))⟩, ⟨(some 2), none, .mov (.t 60)⟩])
 .ret) (.seq (.ops [⟨(some 62), none, .bin .eql (.t 24) (.c (.int .i64 2))⟩, ⟨(some 61), none, .mov (.t 62)⟩])
 (.cond (.t 61) (.seq (.ops [⟨(some 63), none, .faddr 2 (.t 1)⟩, ⟨(some 64), none, .load false 1 (.t 63)⟩, ⟨(some 65), none, .call 120 [(.t 64), (.c (.fn 121 []))]⟩, ⟨(some 66), none, .un .not (.t 65)⟩, ⟨(some 2), none, .mov (.t 66)⟩])
 .ret) .skip))))))))
 (.seq (.ops [⟨(some 2), none, .mov (.c (.bool false))⟩])
 .ret))))⟩
/-- furlong/rec.opMay -/
def v73 : VFun := ⟨2, [(.tmp 4)], (.seq (.ops [⟨(some 4), none, .mov (.c (.bool false))⟩])
 (.seq (.seq (.ops [⟨(some 5), none, .mov (.t 0)⟩, ⟨(some 6), none, .nilck (.t 5)⟩, ⟨(some 7), none, .faddr 0 (.t 6)⟩, ⟨(some 8), none, .load false 1 (.t 7)⟩])
 (.block 0 (.seq (.ops [⟨(some 10), none, .bin .eql (.t 8) (.c (.int .i64 0))⟩, ⟨(some 9), none, .mov (.t 10)⟩])
 (.cond (.t 9) (.seq (.ops [⟨(some 11), none, .mov (.t 0)⟩, ⟨(some 12), none, .nilck (.t 11)⟩, ⟨(some 13), none, .faddr 1 (.t 12)⟩, ⟨(some 14), none, .load true 3 (.t 13)⟩, ⟨(some 15), none, .call 72 [(.t 14)]⟩, ⟨(some 16), none, .mov (.t 15)⟩, ⟨(some 17), (some (16, true)), .mov (.t 0)⟩, ⟨(some 18), (some (16, true)), .nilck (.t 17)⟩, ⟨(some 19), (some (16, true)), .faddr 4 (.t 18)⟩, ⟨(some 20), (some (16, true)), .load false 1 (.t 19)⟩, ⟨(some 21), (some (16, true)), .bin .eql (.t 20) (.c (.int .i64 0))⟩, ⟨(some 22), none, .pick (.t 16) (.t 21) (.c (.bool false))⟩, ⟨(some 23), none, .mov (.t 22)⟩, ⟨(some 24), (some (23, true)), .mov (.t 0)⟩, ⟨(some 25), (some (23, true)), .nilck (.t 24)⟩, ⟨(some 26), (some (23, true)), .faddr 5 (.t 25)⟩, ⟨(some 27), (some (23, true)), .call 122 [(.t 26)]⟩, ⟨(some 28), none, .pick (.t 23) (.t 27) (.c (.bool false))⟩, ⟨(some 4), none, .mov (.t 28)⟩])
 .ret) (.seq (.ops [⟨(some 30), none, .bin .eql (.t 8) (.c (.int .i64 1))⟩, ⟨(some 29), none, .mov (.t 30)⟩])
 (.cond (.t 29) (.seq (.ops [⟨(some 31), none, .mov (.t 0)⟩, ⟨(some 32), none, .nilck (.t 31)⟩, ⟨(some 33), none, .faddr 4 (.t 32)⟩, ⟨(some 34), none, .load false 1 (.t 33)⟩, ⟨(some 35), none, .bin .geq (.t 34) (.c (.int .i64 1))⟩, ⟨(some 36), none, .mov (.t 35)⟩, ⟨(some 37), (some (36, true)), .mov (.t 0)⟩, ⟨(some 38), (some (36, true)), .nilck (.t 37)⟩, ⟨(some 39), (some (36, true)), .faddr 4 (.t 38)⟩, ⟨(some 40), (some (36, true)), .load false 1 (.t 39)⟩, ⟨(some 41), (some (36, true)), .bin .leq (.t 40) (.c (.int .i64 65535))⟩, ⟨(some 42), none, .pick (.t 36) (.t 41) (.c (.bool false))⟩, ⟨(some 43), none, .mov (.t 42)⟩, ⟨(some 44), (some (43, true)), .mov (.t 0)⟩, ⟨(some 45), (some (43, true)), .nilck (.t 44)⟩, ⟨(some 46), (some (43, true)), .faddr 1 (.t 45)⟩, ⟨(some 47), (some (43, true)), .call 123 [(.t 46)]⟩, ⟨(some 48), none, .pick (.t 43) (.t 47) (.c (.bool false))⟩, ⟨(some 49), none, .mov (.t 48)⟩, ⟨(some 50), (some (49, true)), .mov (.t 0)⟩, ⟨(some 51), (some (49, true)), .nilck (.t 50)⟩, ⟨(some 52), (some (49, true)), .faddr 5 (.t 51)⟩, ⟨(some 53), (some (49, true)), .call 122 [(.t 52)]⟩, ⟨(some 54), none, .pick (.t 49) (.t 53) (.c (.bool false))⟩, ⟨(some 4), none, .mov (.t 54)⟩])
 .ret) (.seq (.ops [⟨(some 56), none, .bin .eql (.t 8) (.c (.int .i64 2))⟩, ⟨(some 55), none, .mov (.t 56)⟩])
 (.cond (.t 55) (.seq (.ops [⟨(some 57), none, .mov (.t 0)⟩, ⟨(some 58), none, .nilck (.t 57)⟩, ⟨(some 59), none, .faddr 5 (.t 58)⟩, ⟨(some 60), none, .load true 3 (.t 59)⟩, ⟨(some 61), none, .mov (.t 1)⟩, ⟨(some 62), none, .call 124 [(.t 60), (.t 61)]⟩, ⟨(some 63), none, .mov (.t 62)⟩, ⟨(some 64), (some (63, true)), .mov (.t 0)⟩, ⟨(some 65), (some (63, true)), .nilck (.t 64)⟩, ⟨(some 66), (some (63, true)), .faddr 4 (.t 65)⟩, ⟨(some 67), (some (63, true)), .load false 1 (.t 66)⟩, ⟨(some 68), (some (63, true)), .bin .eql (.t 67) (.c (.int .i64 0))⟩, ⟨(some 69), none, .pick (.t 63) (.t 68) (.c (.bool false))⟩, ⟨(some 70), none, .mov (.t 69)⟩, ⟨(some 71), (some (70, true)), .mov (.t 0)⟩, ⟨(some 72), (some (70, true)), .nilck (.t 71)⟩, ⟨(some 73), (some (70, true)), .faddr 1 (.t 72)⟩, ⟨(some 74), (some (70, true)), .call 123 [(.t 73)]⟩, ⟨(some 75), none, .pick (.t 70) (.t 74) (.c (.bool false))⟩, ⟨(some 4), none, .mov (.t 75)⟩])
 .ret) .skip))))))))
 (.seq (.ops [⟨(some 4), none, .mov (.c (.bool false))⟩])
 .ret)))⟩
def b74_0 : VCode := (.seq (.seq (.ops [⟨(some 15), none, .mov (.t 9)⟩, ⟨(some 16), none, .mov (.t 10)⟩, ⟨(some 17), none, .bin .lss (.t 15) (.t 16)⟩])
 (.cond (.t 17) .skip (.exit 0)))
 (.block 1 (.seq (.ops [⟨(some 18), none, .mov (.t 9)⟩, ⟨(some 19), none, .mov (.t 10)⟩, ⟨(some 20), none, .bin .add (.t 18) (.t 19)⟩, ⟨(some 21), none, .conv (.int .u64) (.t 20)⟩, ⟨(some 22), none, .bin .shr (.t 21) (.c (.int .u64 1))⟩, ⟨(some 23), none, .conv (.int .i64) (.t 22)⟩, ⟨(some 11), none, .mov (.t 23)⟩])
 (.seq (.ops [⟨(some 24), none, .mov (.t 2)⟩, ⟨(some 25), none, .mov (.t 0)⟩, ⟨(some 26), none, .mov (.t 11)⟩, ⟨(some 27), none, .iaddr 3 none (.t 25) (.t 26)⟩, ⟨(some 28), none, .load true 3 (.t 27)⟩, ⟨(some 29), none, .mov (.t 1)⟩, ⟨(some 30), none, .callv (.t 24) [(.t 28), (.t 29)]⟩, ⟨(some 31), none, .bin .lss (.t 30) (.c (.int .i64 0))⟩])
 (.cond (.t 31) (.ops [⟨(some 32), none, .mov (.t 11)⟩, ⟨(some 33), none, .bin .add (.t 32) (.c (.int .i64 1))⟩, ⟨(some 9), none, .mov (.t 33)⟩]) (.ops [⟨(some 34), none, .mov (.t 11)⟩, ⟨(some 10), none, .mov (.t 34)⟩]))))))
/-- slices.BinarySearchFunc[[]furlong/api.Feature,furlong/api.Feature,int] -/
def v74 : VFun := ⟨3, [(.tmp 6), (.tmp 7)], (.seq (.ops [⟨(some 6), none, .mov (.c (.int .i64 0))⟩, ⟨(some 7), none, .mov (.c (.bool false))⟩])
 (.seq (.ops [⟨(some 12), none, .mov (.t 0)⟩, ⟨(some 13), none, .bi (.len 1) [(.t 12)]⟩, ⟨(some 8), none, .mov (.t 13)⟩])
 (.seq (.ops [⟨(some 14), none, .mov (.t 8)⟩, ⟨(some 9), none, .mov (.c (.int .i64 0))⟩, ⟨(some 10), none, .mov (.t 14)⟩])
 (.seq (.block 0 (.loop b74_0))
 (.seq (.ops [⟨(some 35), none, .mov (.t 9)⟩, ⟨(some 36), none, .mov (.t 9)⟩, ⟨(some 37), none, .mov (.t 8)⟩, ⟨(some 38), none, .bin .lss (.t 36) (.t 37)⟩, ⟨(some 39), none, .mov (.t 38)⟩, ⟨(some 40), (some (39, true)), .mov (.t 2)⟩, ⟨(some 41), (some (39, true)), .mov (.t 0)⟩, ⟨(some 42), (some (39, true)), .mov (.t 9)⟩, ⟨(some 43), (some (39, true)), .iaddr 3 none (.t 41) (.t 42)⟩, ⟨(some 44), (some (39, true)), .load true 3 (.t 43)⟩, ⟨(some 45), (some (39, true)), .mov (.t 1)⟩, ⟨(some 46), (some (39, true)), .callv (.t 40) [(.t 44), (.t 45)]⟩, ⟨(some 47), (some (39, true)), .bin .eql (.t 46) (.c (.int .i64 0))⟩, ⟨(some 48), none, .pick (.t 39) (.t 47) (.c (.bool false))⟩, ⟨(some 6), none, .mov (.t 35)⟩, ⟨(some 7), none, .mov (.t 48)⟩])
 .ret)))))⟩
/-- furlong/model.place$1 -/
def v75 : VFun := ⟨2, [(.tmp 4)], (.seq (.ops [⟨(some 2), none, .box 49 (.t 0)⟩, ⟨(some 4), none, .mov (.c (.int .i64 0))⟩])
 (.seq (.ops [⟨(some 5), none, .faddr 0 (.t 2)⟩, ⟨(some 6), none, .load false 1 (.t 5)⟩, ⟨(some 7), none, .mov (.t 1)⟩, ⟨(some 8), none, .call 76 [(.t 6), (.t 7)]⟩, ⟨(some 4), none, .mov (.t 8)⟩])
 .ret))⟩
/-- cmp.Compare[int] -/
def v76 : VFun := ⟨2, [(.tmp 4)], (.seq (.ops [⟨(some 4), none, .mov (.c (.int .i64 0))⟩])
 (.seq (.ops [⟨(some 7), none, .mov (.t 0)⟩, ⟨(some 8), none, .call 125 [(.t 7)]⟩, ⟨(some 5), none, .mov (.t 8)⟩])
 (.seq (.ops [⟨(some 9), none, .mov (.t 1)⟩, ⟨(some 10), none, .call 125 [(.t 9)]⟩, ⟨(some 6), none, .mov (.t 10)⟩])
 (.seq (.seq (.ops [⟨(some 11), none, .mov (.t 5)⟩])
 (.cond (.t 11) (.seq (.seq (.ops [⟨(some 12), none, .mov (.t 6)⟩])
 (.cond (.t 12) (.seq (.ops [⟨(some 4), none, .mov (.c (.int .i64 0))⟩])
 .ret) .skip))
 (.seq (.ops [⟨(some 4), none, .mov (.c (.int .i64 (-1)))⟩])
 .ret)) .skip))
 (.seq (.seq (.ops [⟨(some 13), none, .mov (.t 6)⟩])
 (.cond (.t 13) (.seq (.ops [⟨(some 4), none, .mov (.c (.int .i64 1))⟩])
 .ret) .skip))
 (.seq (.seq (.ops [⟨(some 14), none, .mov (.t 0)⟩, ⟨(some 15), none, .mov (.t 1)⟩, ⟨(some 16), none, .bin .lss (.t 14) (.t 15)⟩])
 (.cond (.t 16) (.seq (.ops [⟨(some 4), none, .mov (.c (.int .i64 (-1)))⟩])
 .ret) .skip))
 (.seq (.seq (.ops [⟨(some 17), none, .mov (.t 0)⟩, ⟨(some 18), none, .mov (.t 1)⟩, ⟨(some 19), none, .bin .gtr (.t 17) (.t 18)⟩])
 (.cond (.t 19) (.seq (.ops [⟨(some 4), none, .mov (.c (.int .i64 1))⟩])
 .ret) .skip))
 (.seq (.ops [⟨(some 4), none, .mov (.c (.int .i64 0))⟩])
 .ret))))))))⟩
/-- slices.Clone[[]furlong/api.Point,furlong/api.Point] -/
def v79 : VFun := ⟨1, [(.tmp 2)], (.seq (.ops [⟨(some 2), none, .mov (.c .nils)⟩])
 (.seq (.seq (.ops [⟨(some 3), none, .mov (.t 0)⟩, ⟨(some 4), none, .eqs .sl false (.t 3) (.c .nils)⟩])
 (.cond (.t 4) (.seq (.ops [⟨(some 2), none, .mov (.c .nils)⟩])
 .ret) .skip))
 (.seq (.ops [⟨(some 5), none, .bslice [(.int .i64 0), (.int .i64 0)] 27 0 []⟩, ⟨(some 6), none, .mov (.t 0)⟩, ⟨(some 7), none, .bi (.append 2 16 27) [(.t 5), (.t 6)]⟩, ⟨(some 2), none, .mov (.t 7)⟩])
 .ret)))⟩
def b80_0 : VCode := (.seq (.seq (.ops [⟨(some 35), none, .mov (.t 3)⟩, ⟨(some 36), none, .faddr 2 (.t 1)⟩, ⟨(some 37), none, .load false 1 (.t 36)⟩, ⟨(some 38), none, .bi (.len 1) [(.t 37)]⟩, ⟨(some 39), none, .bin .lss (.t 35) (.t 38)⟩])
 (.cond (.t 39) .skip (.exit 0)))
 (.seq (.block 1 (.seq (.drawn [⟨(some 42), none, .faddr 1 (.t 1)⟩, ⟨(some 43), none, .load false 1 (.t 42)⟩, ⟨(some 44), none, .faddr 2 (.t 1)⟩, ⟨(some 45), none, .load false 1 (.t 44)⟩, ⟨(some 46), none, .mov (.t 3)⟩, ⟨(some 47), none, .iaddr 1 none (.t 45) (.t 46)⟩, ⟨(some 48), none, .load false 1 (.t 47)⟩, ⟨(some 49), none, .call 127 [(.t 43), (.t 48)]⟩, ⟨(some 50), none, .un .not (.t 49)⟩] [])
 (.cond (.t 50) (.seq (.ops [⟨(some 2), none, .mov (.c (.bool false))⟩])
 .ret) .skip)))
 (.ops [⟨(some 40), none, .mov (.t 3)⟩, ⟨(some 41), none, .bin .add (.t 40) (.c (.int .i64 1))⟩, ⟨(some 3), none, .mov (.t 41)⟩])))
/-- furlong/furlongref1.ShapeMay -/
def v80 : VFun := ⟨1, [(.tmp 2)], (.seq (.ops [⟨(some 1), none, .box 49 (.t 0)⟩, ⟨(some 2), none, .mov (.c (.bool false))⟩])
 (.seq (.seq (.ops [⟨(some 4), none, .faddr 0 (.t 1)⟩, ⟨(some 5), none, .load false 1 (.t 4)⟩, ⟨(some 6), none, .bin .lss (.t 5) (.c (.int .i64 1))⟩, ⟨(some 7), none, .mov (.t 6)⟩, ⟨(some 8), (some (7, false)), .faddr 0 (.t 1)⟩, ⟨(some 9), (some (7, false)), .load false 1 (.t 8)⟩, ⟨(some 10), (some (7, false)), .bin .gtr (.t 9) (.c (.int .i64 65535))⟩, ⟨(some 11), none, .pick (.t 7) (.c (.bool true)) (.t 10)⟩, ⟨(some 12), none, .mov (.t 11)⟩, ⟨(some 13), (some (12, false)), .faddr 2 (.t 1)⟩, ⟨(some 14), (some (12, false)), .load false 1 (.t 13)⟩, ⟨(some 15), (some (12, false)), .bi (.len 1) [(.t 14)]⟩, ⟨(some 16), (some (12, false)), .bin .lss (.t 15) (.c (.int .i64 1))⟩, ⟨(some 17), none, .pick (.t 12) (.c (.bool true)) (.t 16)⟩, ⟨(some 18), none, .mov (.t 17)⟩, ⟨(some 19), (some (18, false)), .faddr 2 (.t 1)⟩, ⟨(some 20), (some (18, false)), .load false 1 (.t 19)⟩, ⟨(some 21), (some (18, false)), .bi (.len 1) [(.t 20)]⟩, ⟨(some 22), (some (18, false)), .bin .gtr (.t 21) (.c (.int .i64 4))⟩, ⟨(some 23), none, .pick (.t 18) (.c (.bool true)) (.t 22)⟩, ⟨(some 24), none, .mov (.t 23)⟩, ⟨(some 25), (some (24, false)), .faddr 1 (.t 1)⟩, ⟨(some 26), (some (24, false)), .load false 1 (.t 25)⟩, ⟨(some 27), (some (24, false)), .bin .neq (.t 26) (.c (.int .i64 2))⟩, ⟨(some 28), (some (24, false)), .mov (.t 27)⟩, ⟨(some 29), (some (28, true)), .faddr 2 (.t 1)⟩, ⟨(some 30), (some (28, true)), .load false 1 (.t 29)⟩, ⟨(some 31), (some (28, true)), .bi (.len 1) [(.t 30)]⟩, ⟨(some 32), (some (28, true)), .bin .neq (.t 31) (.c (.int .i64 1))⟩, ⟨(some 33), (some (24, false)), .pick (.t 28) (.t 32) (.c (.bool false))⟩, ⟨(some 34), none, .pick (.t 24) (.c (.bool true)) (.t 33)⟩])
 (.cond (.t 34) (.seq (.ops [⟨(some 2), none, .mov (.c (.bool false))⟩])
 .ret) .skip))
 (.seq (.seq (.ops [⟨(some 3), none, .mov (.c (.int .i64 0))⟩])
 (.block 0 (.loop b80_0)))
 (.seq (.ops [⟨(some 2), none, .mov (.c (.bool true))⟩])
 .ret))))⟩
/-- furlong/geom.coord -/
def v83 : VFun := ⟨1, [(.tmp 2)], (.seq (.ops [⟨(some 2), none, .mov (.c (.bool false))⟩])
 (.seq (.ops [⟨(some 3), none, .mov (.t 0)⟩, ⟨(some 4), none, .bin .geq (.t 3) (.c (.int .i64 0))⟩, ⟨(some 5), none, .mov (.t 4)⟩, ⟨(some 6), (some (5, true)), .mov (.t 0)⟩, ⟨(some 7), (some (5, true)), .bin .leq (.t 6) (.c (.int .i64 4294967295))⟩, ⟨(some 8), none, .pick (.t 5) (.t 7) (.c (.bool false))⟩, ⟨(some 2), none, .mov (.t 8)⟩])
 .ret))⟩
/-- furlong/shape.points -/
def v84 : VFun := ⟨1, [(.tmp 2)], (.seq (.ops [⟨(some 1), none, .box 150 (.t 0)⟩, ⟨(some 2), none, .mov (.c .nilf)⟩])
 (.seq (.ops [⟨(some 3), none, .mkfn 131 [(.t 1)]⟩, ⟨(some 2), none, .mov (.t 3)⟩])
 .ret))⟩
/-- furlong/geom.Within -/
def v85 : VFun := ⟨2, [(.tmp 4)], (.seq (.ops [⟨(some 2), none, .box 27 (.t 0)⟩, ⟨(some 3), none, .box 25 (.t 1)⟩, ⟨(some 4), none, .mov (.c (.bool false))⟩])
 (.seq (.ops [⟨(some 5), none, .load true 2 (.t 2)⟩, ⟨(some 6), none, .call 55 [(.t 5)]⟩, ⟨(some 7), none, .mov (.t 6)⟩, ⟨(some 8), (some (7, true)), .load true 4 (.t 3)⟩, ⟨(some 9), (some (7, true)), .call 52 [(.t 8)]⟩, ⟨(some 10), none, .pick (.t 7) (.t 9) (.c (.bool false))⟩, ⟨(some 11), none, .mov (.t 10)⟩, ⟨(some 12), (some (11, true)), .faddr 0 (.t 2)⟩, ⟨(some 13), (some (11, true)), .load false 1 (.t 12)⟩, ⟨(some 14), (some (11, true)), .faddr 0 (.t 3)⟩, ⟨(some 15), (some (11, true)), .load false 1 (.t 14)⟩, ⟨(some 16), (some (11, true)), .bin .geq (.t 13) (.t 15)⟩, ⟨(some 17), none, .pick (.t 11) (.t 16) (.c (.bool false))⟩, ⟨(some 18), none, .mov (.t 17)⟩, ⟨(some 19), (some (18, true)), .faddr 0 (.t 2)⟩, ⟨(some 20), (some (18, true)), .load false 1 (.t 19)⟩, ⟨(some 21), (some (18, true)), .faddr 2 (.t 3)⟩, ⟨(some 22), (some (18, true)), .load false 1 (.t 21)⟩, ⟨(some 23), (some (18, true)), .bin .leq (.t 20) (.t 22)⟩, ⟨(some 24), none, .pick (.t 18) (.t 23) (.c (.bool false))⟩, ⟨(some 25), none, .mov (.t 24)⟩, ⟨(some 26), (some (25, true)), .faddr 1 (.t 2)⟩, ⟨(some 27), (some (25, true)), .load false 1 (.t 26)⟩, ⟨(some 28), (some (25, true)), .faddr 1 (.t 3)⟩, ⟨(some 29), (some (25, true)), .load false 1 (.t 28)⟩, ⟨(some 30), (some (25, true)), .bin .geq (.t 27) (.t 29)⟩, ⟨(some 31), none, .pick (.t 25) (.t 30) (.c (.bool false))⟩, ⟨(some 32), none, .mov (.t 31)⟩, ⟨(some 33), (some (32, true)), .faddr 1 (.t 2)⟩, ⟨(some 34), (some (32, true)), .load false 1 (.t 33)⟩, ⟨(some 35), (some (32, true)), .faddr 3 (.t 3)⟩, ⟨(some 36), (some (32, true)), .load false 1 (.t 35)⟩, ⟨(some 37), (some (32, true)), .bin .leq (.t 34) (.t 36)⟩, ⟨(some 38), none, .pick (.t 32) (.t 37) (.c (.bool false))⟩, ⟨(some 4), none, .mov (.t 38)⟩])
 .ret))⟩
/-- furlong/shape.corners -/
def v86 : VFun := ⟨1, [(.cell 2 true 8)], (.seq (.ops [⟨(some 1), none, .box 25 (.t 0)⟩, ⟨(some 2), none, .alloc [(.int .i64 0), (.int .i64 0), (.int .i64 0), (.int .i64 0), (.int .i64 0), (.int .i64 0), (.int .i64 0), (.int .i64 0)] 152⟩])
 (.seq (.ops [⟨(some 3), none, .faddr 0 (.t 1)⟩, ⟨(some 4), none, .load false 1 (.t 3)⟩, ⟨(some 5), none, .faddr 1 (.t 1)⟩, ⟨(some 6), none, .load false 1 (.t 5)⟩, ⟨(some 7), none, .build [(.int .i64 0), (.int .i64 0)] [(0, 1, (.t 4)), (1, 1, (.t 6))]⟩, ⟨(some 8), none, .faddr 2 (.t 1)⟩, ⟨(some 9), none, .load false 1 (.t 8)⟩, ⟨(some 10), none, .faddr 1 (.t 1)⟩, ⟨(some 11), none, .load false 1 (.t 10)⟩, ⟨(some 12), none, .build [(.int .i64 0), (.int .i64 0)] [(0, 1, (.t 9)), (1, 1, (.t 11))]⟩, ⟨(some 13), none, .faddr 2 (.t 1)⟩, ⟨(some 14), none, .load false 1 (.t 13)⟩, ⟨(some 15), none, .faddr 3 (.t 1)⟩, ⟨(some 16), none, .load false 1 (.t 15)⟩, ⟨(some 17), none, .build [(.int .i64 0), (.int .i64 0)] [(0, 1, (.t 14)), (1, 1, (.t 16))]⟩, ⟨(some 18), none, .faddr 0 (.t 1)⟩, ⟨(some 19), none, .load false 1 (.t 18)⟩, ⟨(some 20), none, .faddr 3 (.t 1)⟩, ⟨(some 21), none, .load false 1 (.t 20)⟩, ⟨(some 22), none, .build [(.int .i64 0), (.int .i64 0)] [(0, 1, (.t 19)), (1, 1, (.t 21))]⟩, ⟨(some 23), none, .build [(.int .i64 0), (.int .i64 0), (.int .i64 0), (.int .i64 0), (.int .i64 0), (.int .i64 0), (.int .i64 0), (.int .i64 0)] [(0, 2, (.t 7)), (2, 2, (.t 12)), (4, 2, (.t 17)), (6, 2, (.t 22))]⟩, ⟨none, none, .store 8 (.t 2) (.t 23)⟩])
 .ret))⟩
/-- furlong/shape.stretches -/
def v87 : VFun := ⟨1, [(.tmp 2)], (.seq (.ops [⟨(some 1), none, .box 150 (.t 0)⟩, ⟨(some 2), none, .mov (.c .nilf)⟩])
 (.seq (.ops [⟨(some 3), none, .mkfn 132 [(.t 1)]⟩, ⟨(some 2), none, .mov (.t 3)⟩])
 .ret))⟩
def b88_0 : VCode := (.seq (.ops [⟨(some 13), none, .bin .lss (.t 12) (.c (.int .i64 4))⟩])
 (.seq (.cond (.t 13) .skip (.exit 0))
 (.seq (.block 1 (.seq (.ops [⟨(some 14), none, .mov (.t 12)⟩, ⟨(some 15), none, .index true 2 4 (.t 11) (.t 12)⟩, ⟨(some 8), none, .alloc [(.int .i64 0), (.int .i64 0)] 27⟩, ⟨(some 7), none, .mov (.t 14)⟩, ⟨none, none, .store 2 (.t 8) (.t 15)⟩])
 (.seq (.drawn [⟨(some 17), none, .load true 2 (.t 3)⟩, ⟨(some 18), none, .load true 2 (.t 4)⟩, ⟨(some 19), none, .load true 2 (.t 8)⟩, ⟨(some 20), none, .mov (.t 7)⟩, ⟨(some 21), none, .bin .add (.t 20) (.c (.int .i64 1))⟩, ⟨(some 22), none, .bin .rem (.t 21) (.c (.int .i64 4))⟩, ⟨(some 23), none, .iaddr 2 (some 4) (.t 5) (.t 22)⟩, ⟨(some 24), none, .load true 2 (.t 23)⟩, ⟨(some 25), none, .call 133 [(.t 17), (.t 18), (.t 19), (.t 24)]⟩, ⟨(some 16), none, .mov (.t 25)⟩, ⟨(some 26), none, .extract (.t 16) 0⟩, ⟨(some 27), none, .extract (.t 16) 1⟩, ⟨(some 9), none, .mov (.t 26)⟩, ⟨(some 10), none, .mov (.t 27)⟩] [])
 (.seq (.ops [⟨(some 28), none, .mov (.t 9)⟩])
 (.cond (.t 28) (.seq (.ops [⟨(some 6), none, .mov (.c (.bool true))⟩])
 .ret) .skip)))))
 (.ops [⟨(some 29), none, .bin .add (.t 12) (.c (.int .i64 1))⟩, ⟨(some 12), none, .mov (.t 29)⟩]))))
/-- furlong/shape.sides -/
def v88 : VFun := ⟨3, [(.tmp 6)], (.seq (.ops [⟨(some 3), none, .box 27 (.t 0)⟩, ⟨(some 4), none, .box 27 (.t 1)⟩, ⟨(some 5), none, .box 152 (.t 2)⟩, ⟨(some 6), none, .mov (.c (.bool false))⟩])
 (.seq (.seq (.ops [⟨(some 11), none, .load true 8 (.t 5)⟩, ⟨(some 12), none, .mov (.c (.int .i64 0))⟩])
 (.block 0 (.loop b88_0)))
 (.seq (.ops [⟨(some 6), none, .mov (.c (.bool false))⟩])
 .ret)))⟩
/-- furlong/shape.Meets$1 -/
def v89 : VFun := ⟨2, [(.tmp 3)], (.seq (.ops [⟨(some 2), none, .box 27 (.t 0)⟩, ⟨(some 3), none, .mov (.c (.bool false))⟩])
 (.seq (.ops [⟨(some 4), none, .load true 2 (.t 2)⟩, ⟨(some 5), none, .call 90 [(.t 1), (.t 4)]⟩, ⟨(some 3), none, .mov (.t 5)⟩])
 .ret))⟩
def b90_0 : VCode := (.seq (.ops [⟨(some 6), none, .alloc [(.int .i64 0), (.int .i64 0)] 27⟩, ⟨none, none, .store 2 (.t 6) (.t 25)⟩])
 (.ops [⟨(some 7), none, .alloc [(.int .i64 0), (.int .i64 0)] 27⟩, ⟨none, none, .store 2 (.t 7) (.t 26)⟩]))
def b90_1 : VCode := (.block 1 (.seq (.seq (.ops [⟨(some 27), none, .load true 2 (.t 3)⟩, ⟨(some 28), none, .load true 2 (.t 6)⟩, ⟨(some 29), none, .load true 2 (.t 7)⟩, ⟨(some 30), none, .call 134 [(.t 27), (.t 28), (.t 29)]⟩])
 (.cond (.t 30) (.seq (.ops [⟨none, none, .store 1 (.t 4) (.c (.bool true))⟩])
 .ret) .skip))
 (.seq (.ops [⟨(some 31), none, .load true 2 (.t 3)⟩, ⟨(some 32), none, .load true 2 (.t 6)⟩, ⟨(some 33), none, .load true 2 (.t 7)⟩, ⟨(some 34), none, .call 135 [(.t 31), (.t 32), (.t 33)]⟩])
 (.cond (.t 34) (.ops [⟨(some 35), none, .load false 1 (.t 5)⟩, ⟨(some 36), none, .un .not (.t 35)⟩, ⟨none, none, .store 1 (.t 5) (.t 36)⟩]) .skip))))
/-- furlong/shape.has -/
def v90 : VFun := ⟨2, [(.cell 4 false 1)], (.seq (.ops [⟨(some 3), none, .box 27 (.t 1)⟩, ⟨(some 4), none, .alloc [(.bool false)] 4⟩])
 (.seq (.seq (.ops [⟨(some 8), none, .mov (.t 0)⟩, ⟨(some 9), none, .nilck (.t 8)⟩, ⟨(some 10), none, .faddr 1 (.t 9)⟩, ⟨(some 11), none, .load false 1 (.t 10)⟩, ⟨(some 12), none, .bin .eql (.t 11) (.c (.int .i64 0))⟩])
 (.cond (.t 12) (.seq (.drawn [⟨(some 13), none, .mov (.t 0)⟩, ⟨(some 14), none, .nilck (.t 13)⟩, ⟨(some 15), none, .faddr 2 (.t 14)⟩, ⟨(some 16), none, .load false 1 (.t 15)⟩, ⟨(some 17), none, .iaddr 1 none (.t 16) (.c (.int .i64 0))⟩, ⟨(some 18), none, .load false 1 (.t 17)⟩, ⟨(some 19), none, .iaddr 2 none (.t 18) (.c (.int .i64 0))⟩, ⟨(some 20), none, .load true 2 (.t 19)⟩, ⟨(some 21), none, .load true 2 (.t 3)⟩, ⟨(some 22), none, .eqs (.flat [.int, .int]) false (.t 20) (.t 21)⟩, ⟨none, none, .store 1 (.t 4) (.t 22)⟩] [])
 .ret) .skip))
 (.seq (.ops [⟨(some 5), none, .alloc [(.bool false)] 4⟩, ⟨none, none, .store 1 (.t 5) (.c (.bool false))⟩])
 (.seq (.seq (.ops [⟨(some 23), none, .mov (.t 0)⟩, ⟨(some 24), none, .call 87 [(.t 23)]⟩])
 (.block 0 (.rangeFn (.t 24) [25, 26] b90_0 b90_1)))
 (.seq (.ops [⟨(some 37), none, .load false 1 (.t 5)⟩, ⟨(some 38), none, .mov (.t 37)⟩, ⟨(some 39), (some (38, true)), .mov (.t 0)⟩, ⟨(some 40), (some (38, true)), .nilck (.t 39)⟩, ⟨(some 41), (some (38, true)), .faddr 1 (.t 40)⟩, ⟨(some 42), (some (38, true)), .load false 1 (.t 41)⟩, ⟨(some 43), (some (38, true)), .bin .eql (.t 42) (.c (.int .i64 2))⟩, ⟨(some 44), none, .pick (.t 38) (.t 43) (.c (.bool false))⟩, ⟨none, none, .store 1 (.t 4) (.t 44)⟩])
 .ret)))))⟩
/-- slices.ContainsFunc[[]furlong/api.Point,furlong/api.Point] -/
def v91 : VFun := ⟨2, [(.tmp 4)], (.seq (.ops [⟨(some 4), none, .mov (.c (.bool false))⟩])
 (.seq (.ops [⟨(some 5), none, .mov (.t 0)⟩, ⟨(some 6), none, .mov (.t 1)⟩, ⟨(some 7), none, .call 136 [(.t 5), (.t 6)]⟩, ⟨(some 8), none, .bin .geq (.t 7) (.c (.int .i64 0))⟩, ⟨(some 4), none, .mov (.t 8)⟩])
 .ret))⟩
def b93_0 : VCode := (.seq (.ops [⟨(some 21), none, .bin .lss (.t 20) (.t 19)⟩])
 (.seq (.cond (.t 21) .skip (.exit 0))
 (.seq (.block 1 (.seq (.ops [⟨(some 22), none, .iaddr 3 none (.t 18) (.t 20)⟩, ⟨(some 23), none, .load true 3 (.t 22)⟩, ⟨(some 11), none, .alloc [(.int .i64 0), (.int .i64 0), .nils] 49⟩, ⟨none, none, .store 3 (.t 11) (.t 23)⟩])
 (.seq (.ops [⟨(some 24), none, .mov (.t 3)⟩, ⟨(some 25), none, .load true 3 (.t 11)⟩, ⟨(some 26), none, .callv (.t 24) [(.t 25)]⟩, ⟨(some 12), none, .alloc [(.int .i64 0), (.int .i64 0), (.int .i64 0), (.int .i64 0), (.int .i64 0)] 164⟩, ⟨none, none, .store 5 (.t 12) (.t 26)⟩])
 (.seq (.ops [⟨(some 28), none, .load true 2 (.t 5)⟩, ⟨(some 29), none, .faddr 1 (.t 12)⟩, ⟨(some 30), none, .load true 4 (.t 29)⟩, ⟨(some 31), none, .call 142 [(.t 28), (.t 30)]⟩, ⟨(some 27), none, .mov (.t 31)⟩, ⟨(some 32), none, .extract (.t 27) 0⟩, ⟨(some 33), none, .extract (.t 27) 1⟩, ⟨(some 13), none, .alloc [(.int .u64 0), (.int .u64 0)] 116⟩, ⟨none, none, .store 2 (.t 13) (.t 32)⟩, ⟨(some 14), none, .mov (.t 33)⟩])
 (.ops [⟨(some 34), none, .mov (.t 9)⟩, ⟨(some 35), none, .load true 3 (.t 11)⟩, ⟨(some 36), none, .load true 2 (.t 13)⟩, ⟨(some 37), none, .faddr 0 (.t 12)⟩, ⟨(some 38), none, .load false 1 (.t 37)⟩, ⟨(some 39), none, .build [(.int .i64 0), (.int .i64 0), .nils, (.int .u64 0), (.int .u64 0), (.int .i64 0)] [(0, 3, (.t 35)), (3, 2, (.t 36)), (5, 1, (.t 38))]⟩, ⟨(some 40), none, .bslice [(.int .i64 0), (.int .i64 0), .nils, (.int .u64 0), (.int .u64 0), (.int .i64 0)] 223 1 [(0, 6, (.t 39))]⟩, ⟨(some 41), none, .bi (.append 6 64 223) [(.t 34), (.t 40)]⟩, ⟨(some 9), none, .mov (.t 41)⟩])))))
 (.ops [⟨(some 42), none, .bin .add (.t 20) (.c (.int .i64 1))⟩, ⟨(some 20), none, .mov (.t 42)⟩]))))
def b93_1 : VCode := (.seq (.ops [⟨(some 53), none, .bin .lss (.t 52) (.t 51)⟩])
 (.seq (.cond (.t 53) .skip (.exit 2))
 (.seq (.block 3 (.seq (.ops [⟨(some 54), none, .iaddr 6 none (.t 50) (.t 52)⟩, ⟨(some 55), none, .load true 6 (.t 54)⟩, ⟨(some 17), none, .alloc [(.int .i64 0), (.int .i64 0), .nils, (.int .u64 0), (.int .u64 0), (.int .i64 0)] 223⟩, ⟨none, none, .store 6 (.t 17) (.t 55)⟩])
 (.ops [⟨(some 56), none, .mov (.t 15)⟩, ⟨(some 57), none, .faddr 0 (.t 17)⟩, ⟨(some 58), none, .load true 3 (.t 57)⟩, ⟨(some 59), none, .bslice [(.int .i64 0), (.int .i64 0), .nils] 49 1 [(0, 3, (.t 58))]⟩, ⟨(some 60), none, .bi (.append 3 40 49) [(.t 56), (.t 59)]⟩, ⟨(some 15), none, .mov (.t 60)⟩])))
 (.ops [⟨(some 61), none, .bin .add (.t 52) (.c (.int .i64 1))⟩, ⟨(some 52), none, .mov (.t 61)⟩]))))
/-- furlong/index.Nearest[furlong/api.Feature] -/
def v93 : VFun := ⟨4, [(.tmp 8)], (.seq (.ops [⟨(some 5), none, .box 27 (.t 1)⟩, ⟨(some 8), none, .mov (.c .nils)⟩])
 (.seq (.ops [⟨(some 9), none, .mov (.c .nils)⟩])
 (.seq (.seq (.ops [⟨(some 18), none, .mov (.t 0)⟩, ⟨(some 19), none, .bi (.len 1) [(.t 18)]⟩, ⟨(some 20), none, .mov (.c (.int .i64 0))⟩])
 (.block 0 (.loop b93_0)))
 (.seq (.ops [⟨(some 43), none, .mov (.t 9)⟩, ⟨(some 44), none, .call 143 [(.t 43), (.c (.fn 144 []))]⟩])
 (.seq (.ops [⟨(some 15), none, .mov (.c .nils)⟩])
 (.seq (.seq (.ops [⟨(some 45), none, .mov (.t 9)⟩, ⟨(some 46), none, .mov (.t 2)⟩, ⟨(some 47), none, .mov (.t 9)⟩, ⟨(some 48), none, .bi (.len 1) [(.t 47)]⟩, ⟨(some 49), none, .bi .min [(.t 46), (.t 48)]⟩, ⟨(some 50), none, .slice 6 (.t 45) none (some (.t 49)) none⟩, ⟨(some 51), none, .bi (.len 1) [(.t 50)]⟩, ⟨(some 52), none, .mov (.c (.int .i64 0))⟩])
 (.block 2 (.loop b93_1)))
 (.seq (.ops [⟨(some 62), none, .mov (.t 15)⟩, ⟨(some 8), none, .mov (.t 62)⟩])
 .ret)))))))⟩
/-- furlong/query.Nearest$1 -/
def v94 : VFun := ⟨1, [(.cell 2 true 5)], (.seq (.ops [⟨(some 1), none, .box 49 (.t 0)⟩, ⟨(some 2), none, .alloc [(.int .i64 0), (.int .i64 0), (.int .i64 0), (.int .i64 0), (.int .i64 0)] 164⟩])
 (.seq (.ops [⟨(some 6), none, .load true 3 (.t 1)⟩, ⟨(some 7), none, .call 95 [(.t 6)]⟩, ⟨(some 5), none, .mov (.t 7)⟩, ⟨(some 8), none, .extract (.t 5) 0⟩, ⟨(some 9), none, .extract (.t 5) 1⟩, ⟨(some 3), none, .alloc [(.int .i64 0), (.int .i64 0), (.int .i64 0), (.int .i64 0)] 25⟩, ⟨none, none, .store 4 (.t 3) (.t 8)⟩, ⟨(some 4), none, .mov (.t 9)⟩])
 (.seq (.ops [⟨(some 10), none, .faddr 0 (.t 1)⟩, ⟨(some 11), none, .load false 1 (.t 10)⟩, ⟨(some 12), none, .load true 4 (.t 3)⟩, ⟨(some 13), none, .build [(.int .i64 0), (.int .i64 0), (.int .i64 0), (.int .i64 0), (.int .i64 0)] [(0, 1, (.t 11)), (1, 4, (.t 12))]⟩, ⟨none, none, .store 5 (.t 2) (.t 13)⟩])
 .ret)))⟩
def b95_0 : VCode := (.ops [⟨(some 5), none, .alloc [(.int .i64 0), (.int .i64 0)] 27⟩, ⟨none, none, .store 2 (.t 5) (.t 24)⟩])
def b95_1 : VCode := (.block 1 (.drawn [⟨(some 26), none, .load true 4 (.t 4)⟩, ⟨(some 27), none, .load true 2 (.t 5)⟩, ⟨(some 28), none, .load true 2 (.t 5)⟩, ⟨(some 29), none, .call 147 [(.t 27), (.t 28)]⟩, ⟨(some 30), none, .call 148 [(.t 26), (.t 29)]⟩, ⟨(some 25), none, .mov (.t 30)⟩, ⟨(some 31), none, .extract (.t 25) 0⟩, ⟨(some 32), none, .extract (.t 25) 1⟩, ⟨none, none, .store 4 (.t 4) (.t 31)⟩] [(0, [4])]))
/-- furlong/shape.Box -/
def v95 : VFun := ⟨1, [(.cell 2 true 4), (.tmp 3)], (.seq (.ops [⟨(some 1), none, .box 49 (.t 0)⟩, ⟨(some 2), none, .alloc [(.int .i64 0), (.int .i64 0), (.int .i64 0), (.int .i64 0)] 25⟩, ⟨(some 3), none, .mov (.c (.int .i64 0))⟩])
 (.seq (.seq (.ops [⟨(some 6), none, .load true 3 (.t 1)⟩, ⟨(some 7), none, .call 72 [(.t 6)]⟩, ⟨(some 8), none, .un .not (.t 7)⟩])
 (.cond (.t 8) (.seq (.ops [⟨(some 9), none, .build [(.int .i64 0), (.int .i64 0), (.int .i64 0), (.int .i64 0)] []⟩, ⟨none, none, .store 4 (.t 2) (.t 9)⟩, ⟨(some 3), none, .mov (.c (.int .i64 400))⟩])
 .ret) .skip))
 (.seq (.mixed [⟨(some 10), none, .faddr 2 (.t 1)⟩, ⟨(some 11), none, .load false 1 (.t 10)⟩, ⟨(some 12), none, .iaddr 1 none (.t 11) (.c (.int .i64 0))⟩, ⟨(some 13), none, .load false 1 (.t 12)⟩, ⟨(some 14), none, .iaddr 2 none (.t 13) (.c (.int .i64 0))⟩, ⟨(some 15), none, .load true 2 (.t 14)⟩, ⟨(some 16), none, .faddr 2 (.t 1)⟩, ⟨(some 17), none, .load false 1 (.t 16)⟩, ⟨(some 18), none, .iaddr 1 none (.t 17) (.c (.int .i64 0))⟩, ⟨(some 19), none, .load false 1 (.t 18)⟩, ⟨(some 20), none, .iaddr 2 none (.t 19) (.c (.int .i64 0))⟩, ⟨(some 21), none, .load true 2 (.t 20)⟩, ⟨(some 22), none, .call 147 [(.t 15), (.t 21)]⟩, ⟨(some 4), none, .alloc [(.int .i64 0), (.int .i64 0), (.int .i64 0), (.int .i64 0)] 25⟩, ⟨none, none, .store 4 (.t 4) (.t 22)⟩] [])
 (.seq (.seq (.ops [⟨(some 23), none, .call 84 [(.t 1)]⟩])
 (.block 0 (.rangeFn (.t 23) [24] b95_0 b95_1)))
 (.seq (.ops [⟨(some 33), none, .load true 4 (.t 4)⟩, ⟨none, none, .store 4 (.t 2) (.t 33)⟩, ⟨(some 3), none, .mov (.c (.int .i64 0))⟩])
 .ret)))))⟩
/-- furlong/furlongref1.around -/
def v98 : VFun := ⟨2, [(.cell 4 true 4)], (.seq (.ops [⟨(some 2), none, .box 27 (.t 0)⟩, ⟨(some 3), none, .box 27 (.t 1)⟩, ⟨(some 4), none, .alloc [(.int .i64 0), (.int .i64 0), (.int .i64 0), (.int .i64 0)] 25⟩])
 (.seq (.ops [⟨(some 5), none, .faddr 0 (.t 2)⟩, ⟨(some 6), none, .load false 1 (.t 5)⟩, ⟨(some 7), none, .faddr 0 (.t 3)⟩, ⟨(some 8), none, .load false 1 (.t 7)⟩, ⟨(some 9), none, .bi .min [(.t 6), (.t 8)]⟩, ⟨(some 10), none, .faddr 1 (.t 2)⟩, ⟨(some 11), none, .load false 1 (.t 10)⟩, ⟨(some 12), none, .faddr 1 (.t 3)⟩, ⟨(some 13), none, .load false 1 (.t 12)⟩, ⟨(some 14), none, .bi .min [(.t 11), (.t 13)]⟩, ⟨(some 15), none, .faddr 0 (.t 2)⟩, ⟨(some 16), none, .load false 1 (.t 15)⟩, ⟨(some 17), none, .faddr 0 (.t 3)⟩, ⟨(some 18), none, .load false 1 (.t 17)⟩, ⟨(some 19), none, .bi .max [(.t 16), (.t 18)]⟩, ⟨(some 20), none, .faddr 1 (.t 2)⟩, ⟨(some 21), none, .load false 1 (.t 20)⟩, ⟨(some 22), none, .faddr 1 (.t 3)⟩, ⟨(some 23), none, .load false 1 (.t 22)⟩, ⟨(some 24), none, .bi .max [(.t 21), (.t 23)]⟩, ⟨(some 25), none, .build [(.int .i64 0), (.int .i64 0), (.int .i64 0), (.int .i64 0)] [(0, 1, (.t 9)), (1, 1, (.t 14)), (2, 1, (.t 19)), (3, 1, (.t 24))]⟩, ⟨none, none, .store 4 (.t 4) (.t 25)⟩])
 .ret))⟩
/-- furlong/furlongref1.Join -/
def v99 : VFun := ⟨2, [(.cell 4 true 4), (.tmp 5)], (.seq (.ops [⟨(some 2), none, .box 25 (.t 0)⟩, ⟨(some 3), none, .box 25 (.t 1)⟩, ⟨(some 4), none, .alloc [(.int .i64 0), (.int .i64 0), (.int .i64 0), (.int .i64 0)] 25⟩, ⟨(some 5), none, .mov (.c (.int .i64 0))⟩])
 (.seq (.seq (.ops [⟨(some 6), none, .load true 4 (.t 2)⟩, ⟨(some 7), none, .call 37 [(.t 6)]⟩, ⟨(some 8), none, .un .not (.t 7)⟩, ⟨(some 9), none, .mov (.t 8)⟩, ⟨(some 10), (some (9, false)), .load true 4 (.t 3)⟩, ⟨(some 11), (some (9, false)), .call 37 [(.t 10)]⟩, ⟨(some 12), (some (9, false)), .un .not (.t 11)⟩, ⟨(some 13), none, .pick (.t 9) (.c (.bool true)) (.t 12)⟩])
 (.cond (.t 13) (.seq (.ops [⟨(some 14), none, .build [(.int .i64 0), (.int .i64 0), (.int .i64 0), (.int .i64 0)] []⟩, ⟨none, none, .store 4 (.t 4) (.t 14)⟩, ⟨(some 5), none, .mov (.c (.int .i64 300))⟩])
 .ret) .skip))
 (.seq (.ops [⟨(some 15), none, .faddr 0 (.t 2)⟩, ⟨(some 16), none, .load false 1 (.t 15)⟩, ⟨(some 17), none, .faddr 0 (.t 3)⟩, ⟨(some 18), none, .load false 1 (.t 17)⟩, ⟨(some 19), none, .bi .min [(.t 16), (.t 18)]⟩, ⟨(some 20), none, .faddr 1 (.t 2)⟩, ⟨(some 21), none, .load false 1 (.t 20)⟩, ⟨(some 22), none, .faddr 1 (.t 3)⟩, ⟨(some 23), none, .load false 1 (.t 22)⟩, ⟨(some 24), none, .bi .min [(.t 21), (.t 23)]⟩, ⟨(some 25), none, .faddr 2 (.t 2)⟩, ⟨(some 26), none, .load false 1 (.t 25)⟩, ⟨(some 27), none, .faddr 2 (.t 3)⟩, ⟨(some 28), none, .load false 1 (.t 27)⟩, ⟨(some 29), none, .bi .max [(.t 26), (.t 28)]⟩, ⟨(some 30), none, .faddr 3 (.t 2)⟩, ⟨(some 31), none, .load false 1 (.t 30)⟩, ⟨(some 32), none, .faddr 3 (.t 3)⟩, ⟨(some 33), none, .load false 1 (.t 32)⟩, ⟨(some 34), none, .bi .max [(.t 31), (.t 33)]⟩, ⟨(some 35), none, .build [(.int .i64 0), (.int .i64 0), (.int .i64 0), (.int .i64 0)] [(0, 1, (.t 19)), (1, 1, (.t 24)), (2, 1, (.t 29)), (3, 1, (.t 34))]⟩, ⟨none, none, .store 4 (.t 4) (.t 35)⟩, ⟨(some 5), none, .mov (.c (.int .i64 0))⟩])
 .ret)))⟩
/-- furlong/furlongref1.Add -/
def v100 : VFun := ⟨2, [(.cell 4 true 2), (.tmp 5)], (.seq (.ops [⟨(some 2), none, .box 116 (.t 0)⟩, ⟨(some 3), none, .box 116 (.t 1)⟩, ⟨(some 4), none, .alloc [(.int .u64 0), (.int .u64 0)] 116⟩, ⟨(some 5), none, .mov (.c (.bool false))⟩])
 (.seq (.ops [⟨(some 11), none, .faddr 1 (.t 2)⟩, ⟨(some 12), none, .load false 1 (.t 11)⟩, ⟨(some 13), none, .faddr 1 (.t 3)⟩, ⟨(some 14), none, .load false 1 (.t 13)⟩, ⟨(some 15), none, .bin .add (.t 12) (.t 14)⟩, ⟨(some 6), none, .mov (.t 15)⟩])
 (.seq (.ops [⟨(some 7), none, .mov (.c (.int .u64 0))⟩])
 (.seq (.seq (.ops [⟨(some 16), none, .mov (.t 6)⟩, ⟨(some 17), none, .faddr 1 (.t 2)⟩, ⟨(some 18), none, .load false 1 (.t 17)⟩, ⟨(some 19), none, .bin .lss (.t 16) (.t 18)⟩])
 (.cond (.t 19) (.ops [⟨(some 7), none, .mov (.c (.int .u64 1))⟩]) .skip))
 (.seq (.ops [⟨(some 20), none, .faddr 0 (.t 2)⟩, ⟨(some 21), none, .load false 1 (.t 20)⟩, ⟨(some 22), none, .faddr 0 (.t 3)⟩, ⟨(some 23), none, .load false 1 (.t 22)⟩, ⟨(some 24), none, .bin .add (.t 21) (.t 23)⟩, ⟨(some 8), none, .mov (.t 24)⟩])
 (.seq (.ops [⟨(some 25), none, .mov (.t 8)⟩, ⟨(some 26), none, .faddr 0 (.t 2)⟩, ⟨(some 27), none, .load false 1 (.t 26)⟩, ⟨(some 28), none, .bin .lss (.t 25) (.t 27)⟩, ⟨(some 9), none, .mov (.t 28)⟩])
 (.seq (.ops [⟨(some 29), none, .mov (.t 8)⟩, ⟨(some 30), none, .mov (.t 7)⟩, ⟨(some 31), none, .bin .add (.t 29) (.t 30)⟩, ⟨(some 10), none, .mov (.t 31)⟩])
 (.seq (.seq (.ops [⟨(some 32), none, .mov (.t 9)⟩, ⟨(some 33), none, .mov (.t 32)⟩, ⟨(some 34), (some (33, false)), .mov (.t 10)⟩, ⟨(some 35), (some (33, false)), .mov (.t 8)⟩, ⟨(some 36), (some (33, false)), .bin .lss (.t 34) (.t 35)⟩, ⟨(some 37), none, .pick (.t 33) (.c (.bool true)) (.t 36)⟩])
 (.cond (.t 37) (.seq (.ops [⟨(some 38), none, .build [(.int .u64 0), (.int .u64 0)] []⟩, ⟨none, none, .store 2 (.t 4) (.t 38)⟩, ⟨(some 5), none, .mov (.c (.bool false))⟩])
 .ret) .skip))
 (.seq (.ops [⟨(some 39), none, .mov (.t 10)⟩, ⟨(some 40), none, .mov (.t 6)⟩, ⟨(some 41), none, .build [(.int .u64 0), (.int .u64 0)] [(0, 1, (.t 39)), (1, 1, (.t 40))]⟩, ⟨none, none, .store 2 (.t 4) (.t 41)⟩, ⟨(some 5), none, .mov (.c (.bool true))⟩])
 .ret)))))))))⟩
/-- furlong/furlongref1.Mul -/
def v101 : VFun := ⟨2, [(.cell 4 true 2)], (.seq (.ops [⟨(some 4), none, .alloc [(.int .u64 0), (.int .u64 0)] 116⟩])
 (.seq (.ops [⟨(some 13), none, .mov (.t 0)⟩, ⟨(some 14), none, .bin .and (.t 13) (.c (.int .u64 4294967295))⟩, ⟨(some 15), none, .mov (.t 0)⟩, ⟨(some 16), none, .bin .shr (.t 15) (.c (.int .u64 32))⟩, ⟨(some 17), none, .mov (.t 1)⟩, ⟨(some 18), none, .bin .and (.t 17) (.c (.int .u64 4294967295))⟩, ⟨(some 19), none, .mov (.t 1)⟩, ⟨(some 20), none, .bin .shr (.t 19) (.c (.int .u64 32))⟩, ⟨(some 5), none, .mov (.t 14)⟩, ⟨(some 6), none, .mov (.t 16)⟩, ⟨(some 7), none, .mov (.t 18)⟩, ⟨(some 8), none, .mov (.t 20)⟩])
 (.seq (.ops [⟨(some 21), none, .mov (.t 5)⟩, ⟨(some 22), none, .mov (.t 7)⟩, ⟨(some 23), none, .bin .mul (.t 21) (.t 22)⟩, ⟨(some 9), none, .mov (.t 23)⟩])
 (.seq (.ops [⟨(some 24), none, .mov (.t 6)⟩, ⟨(some 25), none, .mov (.t 7)⟩, ⟨(some 26), none, .bin .mul (.t 24) (.t 25)⟩, ⟨(some 27), none, .mov (.t 5)⟩, ⟨(some 28), none, .mov (.t 8)⟩, ⟨(some 29), none, .bin .mul (.t 27) (.t 28)⟩, ⟨(some 10), none, .mov (.t 26)⟩, ⟨(some 11), none, .mov (.t 29)⟩])
 (.seq (.ops [⟨(some 30), none, .mov (.t 9)⟩, ⟨(some 31), none, .bin .shr (.t 30) (.c (.int .u64 32))⟩, ⟨(some 32), none, .mov (.t 10)⟩, ⟨(some 33), none, .bin .and (.t 32) (.c (.int .u64 4294967295))⟩, ⟨(some 34), none, .bin .add (.t 31) (.t 33)⟩, ⟨(some 35), none, .mov (.t 11)⟩, ⟨(some 36), none, .bin .and (.t 35) (.c (.int .u64 4294967295))⟩, ⟨(some 37), none, .bin .add (.t 34) (.t 36)⟩, ⟨(some 12), none, .mov (.t 37)⟩])
 (.seq (.ops [⟨(some 38), none, .mov (.t 6)⟩, ⟨(some 39), none, .mov (.t 8)⟩, ⟨(some 40), none, .bin .mul (.t 38) (.t 39)⟩, ⟨(some 41), none, .mov (.t 10)⟩, ⟨(some 42), none, .bin .shr (.t 41) (.c (.int .u64 32))⟩, ⟨(some 43), none, .bin .add (.t 40) (.t 42)⟩, ⟨(some 44), none, .mov (.t 11)⟩, ⟨(some 45), none, .bin .shr (.t 44) (.c (.int .u64 32))⟩, ⟨(some 46), none, .bin .add (.t 43) (.t 45)⟩, ⟨(some 47), none, .mov (.t 12)⟩, ⟨(some 48), none, .bin .shr (.t 47) (.c (.int .u64 32))⟩, ⟨(some 49), none, .bin .add (.t 46) (.t 48)⟩, ⟨(some 50), none, .mov (.t 12)⟩, ⟨(some 51), none, .bin .shl (.t 50) (.c (.int .u64 32))⟩, ⟨(some 52), none, .mov (.t 9)⟩, ⟨(some 53), none, .bin .and (.t 52) (.c (.int .u64 4294967295))⟩, ⟨(some 54), none, .bin .or (.t 51) (.t 53)⟩, ⟨(some 55), none, .build [(.int .u64 0), (.int .u64 0)] [(0, 1, (.t 49)), (1, 1, (.t 54))]⟩, ⟨none, none, .store 2 (.t 4) (.t 55)⟩])
 .ret))))))⟩
def b119_0 : VCode := (.seq (.ops [⟨(some 22), none, .bin .lss (.t 21) (.t 20)⟩])
 (.seq (.cond (.t 22) .skip (.exit 0))
 (.seq (.block 1 (.seq (.ops [⟨(some 23), none, .mov (.t 21)⟩, ⟨(some 24), none, .iaddr 2 none (.t 19) (.t 21)⟩, ⟨(some 25), none, .load true 2 (.t 24)⟩, ⟨(some 8), none, .alloc [(.int .i64 0), (.int .i64 0)] 27⟩, ⟨(some 7), none, .mov (.t 23)⟩, ⟨none, none, .store 2 (.t 8) (.t 25)⟩])
 (.seq (.ops [⟨(some 26), none, .mov (.t 7)⟩, ⟨(some 27), none, .bin .add (.t 26) (.c (.int .i64 1))⟩, ⟨(some 9), none, .mov (.t 27)⟩])
 (.seq (.seq (.ops [⟨(some 28), none, .mov (.t 9)⟩, ⟨(some 29), none, .mov (.t 0)⟩, ⟨(some 30), none, .bi (.len 1) [(.t 29)]⟩, ⟨(some 31), none, .bin .eql (.t 28) (.t 30)⟩])
 (.cond (.t 31) (.ops [⟨(some 9), none, .mov (.c (.int .i64 0))⟩]) .skip))
 (.seq (.drawn [⟨(some 32), none, .load true 2 (.t 8)⟩, ⟨(some 33), none, .call 55 [(.t 32)]⟩, ⟨(some 34), none, .un .not (.t 33)⟩, ⟨(some 35), none, .mov (.t 34)⟩, ⟨(some 36), (some (35, false)), .mov (.t 9)⟩, ⟨(some 37), (some (35, false)), .bin .gtr (.t 36) (.c (.int .i64 0))⟩, ⟨(some 38), (some (35, false)), .mov (.t 37)⟩, ⟨(some 39), (some (38, false)), .mov (.t 2)⟩, ⟨(some 40), (some (35, false)), .pick (.t 38) (.c (.bool true)) (.t 39)⟩, ⟨(some 41), (some (35, false)), .mov (.t 40)⟩, ⟨(some 42), (some (41, true)), .load true 2 (.t 8)⟩, ⟨(some 43), (some (41, true)), .mov (.t 0)⟩, ⟨(some 44), (some (41, true)), .mov (.t 9)⟩, ⟨(some 45), (some (41, true)), .iaddr 2 none (.t 43) (.t 44)⟩, ⟨(some 46), (some (41, true)), .load true 2 (.t 45)⟩, ⟨(some 47), (some (41, true)), .eqs (.flat [.int, .int]) false (.t 42) (.t 46)⟩, ⟨(some 48), (some (35, false)), .pick (.t 41) (.t 47) (.c (.bool false))⟩, ⟨(some 49), none, .pick (.t 35) (.c (.bool true)) (.t 48)⟩] [])
 (.cond (.t 49) (.seq (.ops [⟨(some 6), none, .mov (.c (.bool false))⟩])
 .ret) .skip))))))
 (.ops [⟨(some 50), none, .bin .add (.t 21) (.c (.int .i64 1))⟩, ⟨(some 21), none, .mov (.t 50)⟩]))))
/-- furlong/shape.ring -/
def v119 : VFun := ⟨3, [(.tmp 6)], (.seq (.ops [⟨(some 6), none, .mov (.c (.bool false))⟩])
 (.seq (.seq (.ops [⟨(some 10), none, .mov (.t 0)⟩, ⟨(some 11), none, .bi (.len 1) [(.t 10)]⟩, ⟨(some 12), none, .mov (.t 1)⟩, ⟨(some 13), none, .bin .lss (.t 11) (.t 12)⟩, ⟨(some 14), none, .mov (.t 13)⟩, ⟨(some 15), (some (14, false)), .mov (.t 0)⟩, ⟨(some 16), (some (14, false)), .bi (.len 1) [(.t 15)]⟩, ⟨(some 17), (some (14, false)), .bin .gtr (.t 16) (.c (.int .i64 16))⟩, ⟨(some 18), none, .pick (.t 14) (.c (.bool true)) (.t 17)⟩])
 (.cond (.t 18) (.seq (.ops [⟨(some 6), none, .mov (.c (.bool false))⟩])
 .ret) .skip))
 (.seq (.seq (.ops [⟨(some 19), none, .mov (.t 0)⟩, ⟨(some 20), none, .bi (.len 1) [(.t 19)]⟩, ⟨(some 21), none, .mov (.c (.int .i64 0))⟩])
 (.block 0 (.loop b119_0)))
 (.seq (.ops [⟨(some 6), none, .mov (.c (.bool true))⟩])
 .ret))))⟩
/-- slices.ContainsFunc[[][]furlong/api.Point,[]furlong/api.Point] -/
def v120 : VFun := ⟨2, [(.tmp 4)], (.seq (.ops [⟨(some 4), none, .mov (.c (.bool false))⟩])
 (.seq (.ops [⟨(some 5), none, .mov (.t 0)⟩, ⟨(some 6), none, .mov (.t 1)⟩, ⟨(some 7), none, .call 167 [(.t 5), (.t 6)]⟩, ⟨(some 8), none, .bin .geq (.t 7) (.c (.int .i64 0))⟩, ⟨(some 4), none, .mov (.t 8)⟩])
 .ret))⟩
/-- furlong/shape.May$1 -/
def v121 : VFun := ⟨1, [(.tmp 2)], (.seq (.ops [⟨(some 2), none, .mov (.c (.bool false))⟩])
 (.seq (.ops [⟨(some 3), none, .mov (.t 0)⟩, ⟨(some 4), none, .call 119 [(.t 3), (.c (.int .i64 3)), (.c (.bool true))]⟩, ⟨(some 5), none, .un .not (.t 4)⟩, ⟨(some 2), none, .mov (.t 5)⟩])
 .ret))⟩
/-- furlong/rec.noMap -/
def v122 : VFun := ⟨1, [(.tmp 2)], (.seq (.ops [⟨(some 2), none, .mov (.c (.bool false))⟩])
 (.seq (.ops [⟨(some 3), none, .mov (.t 0)⟩, ⟨(some 4), none, .nilck (.t 3)⟩, ⟨(some 5), none, .faddr 0 (.t 4)⟩, ⟨(some 6), none, .load false 1 (.t 5)⟩, ⟨(some 7), none, .bin .eql (.t 6) (.c (.int .i64 0))⟩, ⟨(some 8), none, .mov (.t 7)⟩, ⟨(some 9), (some (8, true)), .mov (.t 0)⟩, ⟨(some 10), (some (8, true)), .nilck (.t 9)⟩, ⟨(some 11), (some (8, true)), .faddr 1 (.t 10)⟩, ⟨(some 12), (some (8, true)), .load false 1 (.t 11)⟩, ⟨(some 13), (some (8, true)), .bi (.len 1) [(.t 12)]⟩, ⟨(some 14), (some (8, true)), .bin .eql (.t 13) (.c (.int .i64 0))⟩, ⟨(some 15), none, .pick (.t 8) (.t 14) (.c (.bool false))⟩, ⟨(some 16), none, .mov (.t 15)⟩, ⟨(some 17), (some (16, true)), .mov (.t 0)⟩, ⟨(some 18), (some (16, true)), .nilck (.t 17)⟩, ⟨(some 19), (some (16, true)), .faddr 2 (.t 18)⟩, ⟨(some 20), (some (16, true)), .load false 1 (.t 19)⟩, ⟨(some 21), (some (16, true)), .bi (.len 1) [(.t 20)]⟩, ⟨(some 22), (some (16, true)), .bin .eql (.t 21) (.c (.int .i64 0))⟩, ⟨(some 23), none, .pick (.t 16) (.t 22) (.c (.bool false))⟩, ⟨(some 2), none, .mov (.t 23)⟩])
 .ret))⟩
/-- furlong/rec.noFeature -/
def v123 : VFun := ⟨1, [(.tmp 2)], (.seq (.ops [⟨(some 2), none, .mov (.c (.bool false))⟩])
 (.seq (.ops [⟨(some 3), none, .mov (.t 0)⟩, ⟨(some 4), none, .nilck (.t 3)⟩, ⟨(some 5), none, .faddr 0 (.t 4)⟩, ⟨(some 6), none, .load false 1 (.t 5)⟩, ⟨(some 7), none, .bin .eql (.t 6) (.c (.int .i64 0))⟩, ⟨(some 8), none, .mov (.t 7)⟩, ⟨(some 9), (some (8, true)), .mov (.t 0)⟩, ⟨(some 10), (some (8, true)), .nilck (.t 9)⟩, ⟨(some 11), (some (8, true)), .faddr 1 (.t 10)⟩, ⟨(some 12), (some (8, true)), .load false 1 (.t 11)⟩, ⟨(some 13), (some (8, true)), .bin .eql (.t 12) (.c (.int .i64 0))⟩, ⟨(some 14), none, .pick (.t 8) (.t 13) (.c (.bool false))⟩, ⟨(some 15), none, .mov (.t 14)⟩, ⟨(some 16), (some (15, true)), .mov (.t 0)⟩, ⟨(some 17), (some (15, true)), .nilck (.t 16)⟩, ⟨(some 18), (some (15, true)), .faddr 2 (.t 17)⟩, ⟨(some 19), (some (15, true)), .load false 1 (.t 18)⟩, ⟨(some 20), (some (15, true)), .bi (.len 1) [(.t 19)]⟩, ⟨(some 21), (some (15, true)), .bin .eql (.t 20) (.c (.int .i64 0))⟩, ⟨(some 22), none, .pick (.t 15) (.t 21) (.c (.bool false))⟩, ⟨(some 2), none, .mov (.t 22)⟩])
 .ret))⟩
def b124_0 : VCode := (.seq (.ops [⟨(some 55), none, .bin .lss (.t 54) (.t 53)⟩])
 (.seq (.cond (.t 55) .skip (.exit 0))
 (.seq (.block 1 (.seq (.ops [⟨(some 56), none, .mov (.t 54)⟩, ⟨(some 57), none, .iaddr 1 none (.t 52) (.t 54)⟩, ⟨(some 58), none, .load false 1 (.t 57)⟩, ⟨(some 5), none, .mov (.t 56)⟩, ⟨(some 6), none, .mov (.t 58)⟩])
 (.seq (.ops [⟨(some 59), none, .mov (.t 6)⟩, ⟨(some 60), none, .bin .geq (.t 59) (.c (.int .i64 4294967296))⟩, ⟨(some 61), none, .mov (.t 60)⟩, ⟨(some 62), (some (61, false)), .mov (.t 5)⟩, ⟨(some 63), (some (61, false)), .bin .gtr (.t 62) (.c (.int .i64 0))⟩, ⟨(some 64), (some (61, false)), .mov (.t 63)⟩, ⟨(some 65), (some (64, true)), .mov (.t 6)⟩, ⟨(some 66), (some (64, true)), .faddr 1 (.t 2)⟩, ⟨(some 67), (some (64, true)), .load false 1 (.t 66)⟩, ⟨(some 68), (some (64, true)), .mov (.t 5)⟩, ⟨(some 69), (some (64, true)), .bin .sub (.t 68) (.c (.int .i64 1))⟩, ⟨(some 70), (some (64, true)), .iaddr 1 none (.t 67) (.t 69)⟩, ⟨(some 71), (some (64, true)), .load false 1 (.t 70)⟩, ⟨(some 72), (some (64, true)), .bin .leq (.t 65) (.t 71)⟩, ⟨(some 73), (some (61, false)), .pick (.t 64) (.t 72) (.c (.bool false))⟩, ⟨(some 74), none, .pick (.t 61) (.c (.bool true)) (.t 73)⟩, ⟨(some 75), none, .mov (.t 74)⟩, ⟨(some 76), (some (75, false)), .faddr 2 (.t 2)⟩, ⟨(some 77), (some (75, false)), .load false 1 (.t 76)⟩, ⟨(some 78), (some (75, false)), .mov (.t 5)⟩, ⟨(some 79), (some (75, false)), .iaddr 1 none (.t 77) (.t 78)⟩, ⟨(some 80), (some (75, false)), .load false 1 (.t 79)⟩, ⟨(some 81), (some (75, false)), .bin .lss (.t 80) (.c (.int .i64 0))⟩, ⟨(some 82), none, .pick (.t 75) (.c (.bool true)) (.t 81)⟩, ⟨(some 83), none, .mov (.t 82)⟩, ⟨(some 84), (some (83, false)), .faddr 2 (.t 2)⟩, ⟨(some 85), (some (83, false)), .load false 1 (.t 84)⟩, ⟨(some 86), (some (83, false)), .mov (.t 5)⟩, ⟨(some 87), (some (83, false)), .iaddr 1 none (.t 85) (.t 86)⟩, ⟨(some 88), (some (83, false)), .load false 1 (.t 87)⟩, ⟨(some 89), (some (83, false)), .mov (.t 1)⟩, ⟨(some 90), (some (83, false)), .bin .geq (.t 88) (.t 89)⟩, ⟨(some 91), none, .pick (.t 83) (.c (.bool true)) (.t 90)⟩])
 (.cond (.t 91) (.seq (.ops [⟨(some 4), none, .mov (.c (.bool false))⟩])
 .ret) .skip))))
 (.ops [⟨(some 92), none, .bin .add (.t 54) (.c (.int .i64 1))⟩, ⟨(some 54), none, .mov (.t 92)⟩]))))
/-- furlong/smap.May -/
def v124 : VFun := ⟨2, [(.tmp 4)], (.seq (.ops [⟨(some 2), none, .box 92 (.t 0)⟩, ⟨(some 4), none, .mov (.c (.bool false))⟩])
 (.seq (.seq (.ops [⟨(some 7), none, .mov (.t 1)⟩, ⟨(some 8), none, .bin .lss (.t 7) (.c (.int .i64 1))⟩, ⟨(some 9), none, .mov (.t 8)⟩, ⟨(some 10), (some (9, false)), .mov (.t 1)⟩, ⟨(some 11), (some (9, false)), .bin .gtr (.t 10) (.c (.int .i64 8))⟩, ⟨(some 12), none, .pick (.t 9) (.c (.bool true)) (.t 11)⟩, ⟨(some 13), none, .mov (.t 12)⟩, ⟨(some 14), (some (13, false)), .faddr 0 (.t 2)⟩, ⟨(some 15), (some (13, false)), .load false 1 (.t 14)⟩, ⟨(some 16), (some (13, false)), .bin .lss (.t 15) (.c (.int .i64 1))⟩, ⟨(some 17), none, .pick (.t 13) (.c (.bool true)) (.t 16)⟩, ⟨(some 18), none, .mov (.t 17)⟩, ⟨(some 19), (some (18, false)), .faddr 0 (.t 2)⟩, ⟨(some 20), (some (18, false)), .load false 1 (.t 19)⟩, ⟨(some 21), (some (18, false)), .bin .gtr (.t 20) (.c (.int .i64 65535))⟩, ⟨(some 22), none, .pick (.t 18) (.c (.bool true)) (.t 21)⟩, ⟨(some 23), none, .mov (.t 22)⟩, ⟨(some 24), (some (23, false)), .faddr 1 (.t 2)⟩, ⟨(some 25), (some (23, false)), .load false 1 (.t 24)⟩, ⟨(some 26), (some (23, false)), .bi (.len 1) [(.t 25)]⟩, ⟨(some 27), (some (23, false)), .bin .lss (.t 26) (.c (.int .i64 1))⟩, ⟨(some 28), none, .pick (.t 23) (.c (.bool true)) (.t 27)⟩, ⟨(some 29), none, .mov (.t 28)⟩, ⟨(some 30), (some (29, false)), .faddr 1 (.t 2)⟩, ⟨(some 31), (some (29, false)), .load false 1 (.t 30)⟩, ⟨(some 32), (some (29, false)), .bi (.len 1) [(.t 31)]⟩, ⟨(some 33), (some (29, false)), .bin .gtr (.t 32) (.c (.int .i64 32))⟩, ⟨(some 34), none, .pick (.t 29) (.c (.bool true)) (.t 33)⟩, ⟨(some 35), none, .mov (.t 34)⟩, ⟨(some 36), (some (35, false)), .faddr 2 (.t 2)⟩, ⟨(some 37), (some (35, false)), .load false 1 (.t 36)⟩, ⟨(some 38), (some (35, false)), .bi (.len 1) [(.t 37)]⟩, ⟨(some 39), (some (35, false)), .faddr 1 (.t 2)⟩, ⟨(some 40), (some (35, false)), .load false 1 (.t 39)⟩, ⟨(some 41), (some (35, false)), .bi (.len 1) [(.t 40)]⟩, ⟨(some 42), (some (35, false)), .bin .neq (.t 38) (.t 41)⟩, ⟨(some 43), none, .pick (.t 35) (.c (.bool true)) (.t 42)⟩, ⟨(some 44), none, .mov (.t 43)⟩, ⟨(some 45), (some (44, false)), .faddr 1 (.t 2)⟩, ⟨(some 46), (some (44, false)), .load false 1 (.t 45)⟩, ⟨(some 47), (some (44, false)), .iaddr 1 none (.t 46) (.c (.int .i64 0))⟩, ⟨(some 48), (some (44, false)), .load false 1 (.t 47)⟩, ⟨(some 49), (some (44, false)), .bin .neq (.t 48) (.c (.int .i64 0))⟩, ⟨(some 50), none, .pick (.t 44) (.c (.bool true)) (.t 49)⟩])
 (.cond (.t 50) (.seq (.ops [⟨(some 4), none, .mov (.c (.bool false))⟩])
 .ret) .skip))
 (.seq (.seq (.ops [⟨(some 51), none, .faddr 1 (.t 2)⟩, ⟨(some 52), none, .load false 1 (.t 51)⟩, ⟨(some 53), none, .bi (.len 1) [(.t 52)]⟩, ⟨(some 54), none, .mov (.c (.int .i64 0))⟩])
 (.block 0 (.loop b124_0)))
 (.seq (.ops [⟨(some 4), none, .mov (.c (.bool true))⟩])
 .ret))))⟩
/-- cmp.isNaN[int] -/
def v125 : VFun := ⟨1, [(.tmp 2)], (.seq (.ops [⟨(some 2), none, .mov (.c (.bool false))⟩])
 (.seq (.ops [⟨(some 3), none, .mov (.t 0)⟩, ⟨(some 4), none, .mov (.t 0)⟩, ⟨(some 5), none, .bin .neq (.t 3) (.t 4)⟩, ⟨(some 2), none, .mov (.t 5)⟩])
 .ret))⟩
def b127_0 : VCode := (.seq (.seq (.ops [⟨(some 9), none, .mov (.t 5)⟩, ⟨(some 10), none, .mov (.t 1)⟩, ⟨(some 11), none, .bi (.len 1) [(.t 10)]⟩, ⟨(some 12), none, .bin .lss (.t 9) (.t 11)⟩])
 (.cond (.t 12) .skip (.exit 0)))
 (.seq (.block 1 (.seq (.drawn [⟨(some 15), none, .mov (.t 1)⟩, ⟨(some 16), none, .mov (.t 5)⟩, ⟨(some 17), none, .iaddr 2 none (.t 15) (.t 16)⟩, ⟨(some 18), none, .load true 2 (.t 17)⟩, ⟨(some 19), none, .call 23 [(.t 18)]⟩, ⟨(some 20), none, .un .not (.t 19)⟩, ⟨(some 21), none, .mov (.t 20)⟩, ⟨(some 22), (some (21, false)), .mov (.t 5)⟩, ⟨(some 23), (some (21, false)), .bin .gtr (.t 22) (.c (.int .i64 0))⟩, ⟨(some 24), (some (21, false)), .mov (.t 23)⟩, ⟨(some 25), (some (24, true)), .mov (.t 1)⟩, ⟨(some 26), (some (24, true)), .mov (.t 5)⟩, ⟨(some 27), (some (24, true)), .iaddr 2 none (.t 25) (.t 26)⟩, ⟨(some 28), (some (24, true)), .load true 2 (.t 27)⟩, ⟨(some 29), (some (24, true)), .mov (.t 1)⟩, ⟨(some 30), (some (24, true)), .mov (.t 5)⟩, ⟨(some 31), (some (24, true)), .bin .sub (.t 30) (.c (.int .i64 1))⟩, ⟨(some 32), (some (24, true)), .iaddr 2 none (.t 29) (.t 31)⟩, ⟨(some 33), (some (24, true)), .load true 2 (.t 32)⟩, ⟨(some 34), (some (24, true)), .eqs (.flat [.int, .int]) false (.t 28) (.t 33)⟩, ⟨(some 35), (some (21, false)), .pick (.t 24) (.t 34) (.c (.bool false))⟩, ⟨(some 36), none, .pick (.t 21) (.c (.bool true)) (.t 35)⟩] [])
 (.cond (.t 36) (.seq (.ops [⟨(some 4), none, .mov (.c (.bool false))⟩])
 .ret) .skip)))
 (.ops [⟨(some 13), none, .mov (.t 5)⟩, ⟨(some 14), none, .bin .add (.t 13) (.c (.int .i64 1))⟩, ⟨(some 5), none, .mov (.t 14)⟩])))
/-- furlong/furlongref1.ringMay -/
def v127 : VFun := ⟨2, [(.tmp 4)], (.seq (.ops [⟨(some 4), none, .mov (.c (.bool false))⟩])
 (.seq (.seq (.ops [⟨(some 6), none, .mov (.t 1)⟩, ⟨(some 7), none, .bi (.len 1) [(.t 6)]⟩, ⟨(some 8), none, .bin .gtr (.t 7) (.c (.int .i64 16))⟩])
 (.cond (.t 8) (.seq (.ops [⟨(some 4), none, .mov (.c (.bool false))⟩])
 .ret) .skip))
 (.seq (.seq (.ops [⟨(some 5), none, .mov (.c (.int .i64 0))⟩])
 (.block 0 (.loop b127_0)))
 (.seq (.seq (.ops [⟨(some 37), none, .mov (.t 0)⟩])
 (.block 2 (.seq (.ops [⟨(some 39), none, .bin .eql (.t 37) (.c (.int .i64 0))⟩, ⟨(some 38), none, .mov (.t 39)⟩])
 (.cond (.t 38) (.seq (.ops [⟨(some 40), none, .mov (.t 1)⟩, ⟨(some 41), none, .bi (.len 1) [(.t 40)]⟩, ⟨(some 42), none, .bin .eql (.t 41) (.c (.int .i64 1))⟩, ⟨(some 4), none, .mov (.t 42)⟩])
 .ret) (.seq (.ops [⟨(some 44), none, .bin .eql (.t 37) (.c (.int .i64 1))⟩, ⟨(some 43), none, .mov (.t 44)⟩])
 (.cond (.t 43) (.seq (.ops [⟨(some 45), none, .mov (.t 1)⟩, ⟨(some 46), none, .bi (.len 1) [(.t 45)]⟩, ⟨(some 47), none, .bin .geq (.t 46) (.c (.int .i64 2))⟩, ⟨(some 4), none, .mov (.t 47)⟩])
 .ret) (.seq (.ops [⟨(some 49), none, .bin .eql (.t 37) (.c (.int .i64 2))⟩, ⟨(some 48), none, .mov (.t 49)⟩])
 (.cond (.t 48) (.seq (.drawn [⟨(some 50), none, .mov (.t 1)⟩, ⟨(some 51), none, .bi (.len 1) [(.t 50)]⟩, ⟨(some 52), none, .bin .geq (.t 51) (.c (.int .i64 3))⟩, ⟨(some 53), none, .mov (.t 52)⟩, ⟨(some 54), (some (53, true)), .mov (.t 1)⟩, ⟨(some 55), (some (53, true)), .iaddr 2 none (.t 54) (.c (.int .i64 0))⟩, ⟨(some 56), (some (53, true)), .load true 2 (.t 55)⟩, ⟨(some 57), (some (53, true)), .mov (.t 1)⟩, ⟨(some 58), (some (53, true)), .mov (.t 1)⟩, ⟨(some 59), (some (53, true)), .bi (.len 1) [(.t 58)]⟩, ⟨(some 60), (some (53, true)), .bin .sub (.t 59) (.c (.int .i64 1))⟩, ⟨(some 61), (some (53, true)), .iaddr 2 none (.t 57) (.t 60)⟩, ⟨(some 62), (some (53, true)), .load true 2 (.t 61)⟩, ⟨(some 63), (some (53, true)), .eqs (.flat [.int, .int]) true (.t 56) (.t 62)⟩, ⟨(some 64), none, .pick (.t 53) (.t 63) (.c (.bool false))⟩, ⟨(some 4), none, .mov (.t 64)⟩] [])
 .ret) .skip))))))))
 (.seq (.ops [⟨(some 4), none, .mov (.c (.bool false))⟩])
 .ret)))))⟩
def b131_0 : VCode := (.seq (.ops [⟨(some 19), none, .bin .lss (.t 18) (.t 17)⟩])
 (.seq (.cond (.t 19) .skip (.exit 2))
 (.seq (.block 3 (.seq (.ops [⟨(some 20), none, .iaddr 2 none (.t 16) (.t 18)⟩, ⟨(some 21), none, .load true 2 (.t 20)⟩, ⟨(some 6), none, .alloc [(.int .i64 0), (.int .i64 0)] 27⟩, ⟨none, none, .store 2 (.t 6) (.t 21)⟩])
 (.seq (.ops [⟨(some 22), none, .mov (.t 0)⟩, ⟨(some 23), none, .load true 2 (.t 6)⟩, ⟨(some 24), none, .callv (.t 22) [(.t 23)]⟩, ⟨(some 25), none, .un .not (.t 24)⟩])
 (.cond (.t 25) .ret .skip))))
 (.ops [⟨(some 26), none, .bin .add (.t 18) (.c (.int .i64 1))⟩, ⟨(some 18), none, .mov (.t 26)⟩]))))
def b131_1 : VCode := (.seq (.ops [⟨(some 13), none, .bin .lss (.t 12) (.t 11)⟩])
 (.seq (.cond (.t 13) .skip (.exit 0))
 (.seq (.block 1 (.seq (.ops [⟨(some 14), none, .iaddr 1 none (.t 10) (.t 12)⟩, ⟨(some 15), none, .load false 1 (.t 14)⟩, ⟨(some 4), none, .mov (.t 15)⟩])
 (.seq (.ops [⟨(some 16), none, .mov (.t 4)⟩, ⟨(some 17), none, .bi (.len 1) [(.t 16)]⟩, ⟨(some 18), none, .mov (.c (.int .i64 0))⟩])
 (.block 2 (.loop b131_0)))))
 (.ops [⟨(some 27), none, .bin .add (.t 12) (.c (.int .i64 1))⟩, ⟨(some 12), none, .mov (.t 27)⟩]))))
/-- furlong/shape.points$1 -/
def v131 : VFun := ⟨2, [], (.seq (.ops [⟨(some 7), none, .load false 1 (.t 1)⟩, ⟨(some 8), none, .nilck (.t 7)⟩, ⟨(some 9), none, .faddr 2 (.t 8)⟩, ⟨(some 10), none, .load false 1 (.t 9)⟩, ⟨(some 11), none, .bi (.len 1) [(.t 10)]⟩, ⟨(some 12), none, .mov (.c (.int .i64 0))⟩])
 (.block 0 (.loop b131_1)))⟩
def b132_0 : VCode := (.seq (.seq (.ops [⟨(some 15), none, .mov (.t 5)⟩, ⟨(some 16), none, .mov (.t 4)⟩, ⟨(some 17), none, .bi (.len 1) [(.t 16)]⟩, ⟨(some 18), none, .bin .lss (.t 15) (.t 17)⟩])
 (.cond (.t 18) .skip (.exit 2)))
 (.seq (.block 3 (.seq (.drawn [⟨(some 21), none, .mov (.t 0)⟩, ⟨(some 22), none, .mov (.t 4)⟩, ⟨(some 23), none, .mov (.t 5)⟩, ⟨(some 24), none, .bin .sub (.t 23) (.c (.int .i64 1))⟩, ⟨(some 25), none, .iaddr 2 none (.t 22) (.t 24)⟩, ⟨(some 26), none, .load true 2 (.t 25)⟩, ⟨(some 27), none, .mov (.t 4)⟩, ⟨(some 28), none, .mov (.t 5)⟩, ⟨(some 29), none, .iaddr 2 none (.t 27) (.t 28)⟩, ⟨(some 30), none, .load true 2 (.t 29)⟩, ⟨(some 31), none, .callv (.t 21) [(.t 26), (.t 30)]⟩, ⟨(some 32), none, .un .not (.t 31)⟩] [])
 (.cond (.t 32) .ret .skip)))
 (.ops [⟨(some 19), none, .mov (.t 5)⟩, ⟨(some 20), none, .bin .add (.t 19) (.c (.int .i64 1))⟩, ⟨(some 5), none, .mov (.t 20)⟩])))
def b132_1 : VCode := (.seq (.ops [⟨(some 12), none, .bin .lss (.t 11) (.t 10)⟩])
 (.seq (.cond (.t 12) .skip (.exit 0))
 (.seq (.block 1 (.seq (.ops [⟨(some 13), none, .iaddr 1 none (.t 9) (.t 11)⟩, ⟨(some 14), none, .load false 1 (.t 13)⟩, ⟨(some 4), none, .mov (.t 14)⟩])
 (.seq (.seq (.ops [⟨(some 5), none, .mov (.c (.int .i64 1))⟩])
 (.block 2 (.loop b132_0)))
 (.seq (.drawn [⟨(some 33), none, .load false 1 (.t 1)⟩, ⟨(some 34), none, .nilck (.t 33)⟩, ⟨(some 35), none, .faddr 1 (.t 34)⟩, ⟨(some 36), none, .load false 1 (.t 35)⟩, ⟨(some 37), none, .bin .eql (.t 36) (.c (.int .i64 2))⟩, ⟨(some 38), none, .mov (.t 37)⟩, ⟨(some 39), (some (38, true)), .mov (.t 0)⟩, ⟨(some 40), (some (38, true)), .mov (.t 4)⟩, ⟨(some 41), (some (38, true)), .mov (.t 4)⟩, ⟨(some 42), (some (38, true)), .bi (.len 1) [(.t 41)]⟩, ⟨(some 43), (some (38, true)), .bin .sub (.t 42) (.c (.int .i64 1))⟩, ⟨(some 44), (some (38, true)), .iaddr 2 none (.t 40) (.t 43)⟩, ⟨(some 45), (some (38, true)), .load true 2 (.t 44)⟩, ⟨(some 46), (some (38, true)), .mov (.t 4)⟩, ⟨(some 47), (some (38, true)), .iaddr 2 none (.t 46) (.c (.int .i64 0))⟩, ⟨(some 48), (some (38, true)), .load true 2 (.t 47)⟩, ⟨(some 49), (some (38, true)), .callv (.t 39) [(.t 45), (.t 48)]⟩, ⟨(some 50), (some (38, true)), .un .not (.t 49)⟩, ⟨(some 51), none, .pick (.t 38) (.t 50) (.c (.bool false))⟩] [])
 (.cond (.t 51) .ret .skip)))))
 (.ops [⟨(some 52), none, .bin .add (.t 11) (.c (.int .i64 1))⟩, ⟨(some 11), none, .mov (.t 52)⟩]))))
/-- furlong/shape.stretches$1 -/
def v132 : VFun := ⟨2, [], (.seq (.ops [⟨(some 6), none, .load false 1 (.t 1)⟩, ⟨(some 7), none, .nilck (.t 6)⟩, ⟨(some 8), none, .faddr 2 (.t 7)⟩, ⟨(some 9), none, .load false 1 (.t 8)⟩, ⟨(some 10), none, .bi (.len 1) [(.t 9)]⟩, ⟨(some 11), none, .mov (.c (.int .i64 0))⟩])
 (.block 0 (.loop b132_1)))⟩
/-- furlong/geom.Cross -/
def v133 : VFun := ⟨4, [(.tmp 8), (.tmp 9)], (.seq (.ops [⟨(some 4), none, .box 27 (.t 0)⟩, ⟨(some 5), none, .box 27 (.t 1)⟩, ⟨(some 6), none, .box 27 (.t 2)⟩, ⟨(some 7), none, .box 27 (.t 3)⟩, ⟨(some 8), none, .mov (.c (.bool false))⟩, ⟨(some 9), none, .mov (.c (.int .i64 0))⟩])
 (.seq (.seq (.ops [⟨(some 10), none, .load true 2 (.t 4)⟩, ⟨(some 11), none, .call 55 [(.t 10)]⟩, ⟨(some 12), none, .un .not (.t 11)⟩, ⟨(some 13), none, .mov (.t 12)⟩, ⟨(some 14), (some (13, false)), .load true 2 (.t 5)⟩, ⟨(some 15), (some (13, false)), .call 55 [(.t 14)]⟩, ⟨(some 16), (some (13, false)), .un .not (.t 15)⟩, ⟨(some 17), none, .pick (.t 13) (.c (.bool true)) (.t 16)⟩, ⟨(some 18), none, .mov (.t 17)⟩, ⟨(some 19), (some (18, false)), .load true 2 (.t 6)⟩, ⟨(some 20), (some (18, false)), .call 55 [(.t 19)]⟩, ⟨(some 21), (some (18, false)), .un .not (.t 20)⟩, ⟨(some 22), none, .pick (.t 18) (.c (.bool true)) (.t 21)⟩, ⟨(some 23), none, .mov (.t 22)⟩, ⟨(some 24), (some (23, false)), .load true 2 (.t 7)⟩, ⟨(some 25), (some (23, false)), .call 55 [(.t 24)]⟩, ⟨(some 26), (some (23, false)), .un .not (.t 25)⟩, ⟨(some 27), none, .pick (.t 23) (.c (.bool true)) (.t 26)⟩])
 (.cond (.t 27) (.seq (.ops [⟨(some 8), none, .mov (.c (.bool false))⟩, ⟨(some 9), none, .mov (.c (.int .i64 300))⟩])
 .ret) .skip))
 (.seq (.seq (.ops [⟨(some 28), none, .load true 2 (.t 6)⟩, ⟨(some 29), none, .load true 2 (.t 4)⟩, ⟨(some 30), none, .load true 2 (.t 5)⟩, ⟨(some 31), none, .call 134 [(.t 28), (.t 29), (.t 30)]⟩, ⟨(some 32), none, .mov (.t 31)⟩, ⟨(some 33), (some (32, false)), .load true 2 (.t 7)⟩, ⟨(some 34), (some (32, false)), .load true 2 (.t 4)⟩, ⟨(some 35), (some (32, false)), .load true 2 (.t 5)⟩, ⟨(some 36), (some (32, false)), .call 134 [(.t 33), (.t 34), (.t 35)]⟩, ⟨(some 37), none, .pick (.t 32) (.c (.bool true)) (.t 36)⟩, ⟨(some 38), none, .mov (.t 37)⟩, ⟨(some 39), (some (38, false)), .load true 2 (.t 4)⟩, ⟨(some 40), (some (38, false)), .load true 2 (.t 6)⟩, ⟨(some 41), (some (38, false)), .load true 2 (.t 7)⟩, ⟨(some 42), (some (38, false)), .call 134 [(.t 39), (.t 40), (.t 41)]⟩, ⟨(some 43), none, .pick (.t 38) (.c (.bool true)) (.t 42)⟩, ⟨(some 44), none, .mov (.t 43)⟩, ⟨(some 45), (some (44, false)), .load true 2 (.t 5)⟩, ⟨(some 46), (some (44, false)), .load true 2 (.t 6)⟩, ⟨(some 47), (some (44, false)), .load true 2 (.t 7)⟩, ⟨(some 48), (some (44, false)), .call 134 [(.t 45), (.t 46), (.t 47)]⟩, ⟨(some 49), none, .pick (.t 44) (.c (.bool true)) (.t 48)⟩])
 (.cond (.t 49) (.seq (.ops [⟨(some 8), none, .mov (.c (.bool true))⟩, ⟨(some 9), none, .mov (.c (.int .i64 0))⟩])
 .ret) .skip))
 (.seq (.drawn [⟨(some 50), none, .load true 2 (.t 4)⟩, ⟨(some 51), none, .load true 2 (.t 5)⟩, ⟨(some 52), none, .load true 2 (.t 6)⟩, ⟨(some 53), none, .call 169 [(.t 50), (.t 51), (.t 52)]⟩, ⟨(some 54), none, .load true 2 (.t 4)⟩, ⟨(some 55), none, .load true 2 (.t 5)⟩, ⟨(some 56), none, .load true 2 (.t 7)⟩, ⟨(some 57), none, .call 169 [(.t 54), (.t 55), (.t 56)]⟩, ⟨(some 58), none, .bin .mul (.t 53) (.t 57)⟩, ⟨(some 59), none, .bin .lss (.t 58) (.c (.int .i64 0))⟩, ⟨(some 60), none, .mov (.t 59)⟩, ⟨(some 61), (some (60, true)), .load true 2 (.t 6)⟩, ⟨(some 62), (some (60, true)), .load true 2 (.t 7)⟩, ⟨(some 63), (some (60, true)), .load true 2 (.t 4)⟩, ⟨(some 64), (some (60, true)), .call 169 [(.t 61), (.t 62), (.t 63)]⟩, ⟨(some 65), (some (60, true)), .load true 2 (.t 6)⟩, ⟨(some 66), (some (60, true)), .load true 2 (.t 7)⟩, ⟨(some 67), (some (60, true)), .load true 2 (.t 5)⟩, ⟨(some 68), (some (60, true)), .call 169 [(.t 65), (.t 66), (.t 67)]⟩, ⟨(some 69), (some (60, true)), .bin .mul (.t 64) (.t 68)⟩, ⟨(some 70), (some (60, true)), .bin .lss (.t 69) (.c (.int .i64 0))⟩, ⟨(some 71), none, .pick (.t 60) (.t 70) (.c (.bool false))⟩, ⟨(some 8), none, .mov (.t 71)⟩, ⟨(some 9), none, .mov (.c (.int .i64 0))⟩] [(4, [0]), (5, [0]), (6, [0]), (15, [8]), (16, [8]), (17, [8])])
 .ret))))⟩
/-- furlong/geom.On -/
def v134 : VFun := ⟨3, [(.tmp 6)], (.seq (.ops [⟨(some 3), none, .box 27 (.t 0)⟩, ⟨(some 4), none, .box 27 (.t 1)⟩, ⟨(some 5), none, .box 27 (.t 2)⟩, ⟨(some 6), none, .mov (.c (.bool false))⟩])
 (.seq (.drawn [⟨(some 7), none, .load true 2 (.t 4)⟩, ⟨(some 8), none, .load true 2 (.t 5)⟩, ⟨(some 9), none, .load true 2 (.t 3)⟩, ⟨(some 10), none, .call 169 [(.t 7), (.t 8), (.t 9)]⟩, ⟨(some 11), none, .bin .eql (.t 10) (.c (.int .i64 0))⟩, ⟨(some 12), none, .mov (.t 11)⟩, ⟨(some 13), (some (12, true)), .load true 2 (.t 3)⟩, ⟨(some 14), (some (12, true)), .load true 2 (.t 4)⟩, ⟨(some 15), (some (12, true)), .load true 2 (.t 5)⟩, ⟨(some 16), (some (12, true)), .call 147 [(.t 14), (.t 15)]⟩, ⟨(some 17), (some (12, true)), .call 85 [(.t 13), (.t 16)]⟩, ⟨(some 18), none, .pick (.t 12) (.t 17) (.c (.bool false))⟩, ⟨(some 6), none, .mov (.t 18)⟩] [(6, [10])])
 .ret))⟩
/-- furlong/shape.over -/
def v135 : VFun := ⟨3, [(.tmp 6)], (.seq (.ops [⟨(some 3), none, .box 27 (.t 0)⟩, ⟨(some 4), none, .box 27 (.t 1)⟩, ⟨(some 5), none, .box 27 (.t 2)⟩, ⟨(some 6), none, .mov (.c (.bool false))⟩])
 (.seq (.seq (.ops [⟨(some 9), none, .faddr 1 (.t 4)⟩, ⟨(some 10), none, .load false 1 (.t 9)⟩, ⟨(some 11), none, .faddr 1 (.t 3)⟩, ⟨(some 12), none, .load false 1 (.t 11)⟩, ⟨(some 13), none, .bin .gtr (.t 10) (.t 12)⟩, ⟨(some 14), none, .faddr 1 (.t 5)⟩, ⟨(some 15), none, .load false 1 (.t 14)⟩, ⟨(some 16), none, .faddr 1 (.t 3)⟩, ⟨(some 17), none, .load false 1 (.t 16)⟩, ⟨(some 18), none, .bin .gtr (.t 15) (.t 17)⟩, ⟨(some 19), none, .eqs .bool false (.t 13) (.t 18)⟩])
 (.cond (.t 19) (.seq (.ops [⟨(some 6), none, .mov (.c (.bool false))⟩])
 .ret) .skip))
 (.seq (.seq (.ops [⟨(some 20), none, .faddr 1 (.t 4)⟩, ⟨(some 21), none, .load false 1 (.t 20)⟩, ⟨(some 22), none, .faddr 1 (.t 5)⟩, ⟨(some 23), none, .load false 1 (.t 22)⟩, ⟨(some 24), none, .bin .gtr (.t 21) (.t 23)⟩])
 (.cond (.t 24) (.ops [⟨(some 25), none, .load true 2 (.t 5)⟩, ⟨(some 26), none, .load true 2 (.t 4)⟩, ⟨none, none, .store 2 (.t 4) (.t 25)⟩, ⟨none, none, .store 2 (.t 5) (.t 26)⟩]) .skip))
 (.seq (.ops [⟨(some 28), none, .load true 2 (.t 4)⟩, ⟨(some 29), none, .load true 2 (.t 5)⟩, ⟨(some 30), none, .load true 2 (.t 3)⟩, ⟨(some 31), none, .call 170 [(.t 28), (.t 29), (.t 30)]⟩, ⟨(some 27), none, .mov (.t 31)⟩, ⟨(some 32), none, .extract (.t 27) 0⟩, ⟨(some 33), none, .extract (.t 27) 1⟩, ⟨(some 7), none, .mov (.t 32)⟩, ⟨(some 8), none, .mov (.t 33)⟩])
 (.seq (.ops [⟨(some 34), none, .mov (.t 7)⟩, ⟨(some 35), none, .bin .gtr (.t 34) (.c (.int .i64 0))⟩, ⟨(some 6), none, .mov (.t 35)⟩])
 .ret)))))⟩
def b136_0 : VCode := (.seq (.ops [⟨(some 9), none, .bin .lss (.t 8) (.t 7)⟩])
 (.seq (.cond (.t 9) .skip (.exit 0))
 (.seq (.block 1 (.seq (.ops [⟨(some 10), none, .mov (.t 8)⟩, ⟨(some 5), none, .mov (.t 10)⟩])
 (.seq (.ops [⟨(some 11), none, .mov (.t 1)⟩, ⟨(some 12), none, .mov (.t 0)⟩, ⟨(some 13), none, .mov (.t 5)⟩, ⟨(some 14), none, .iaddr 2 none (.t 12) (.t 13)⟩, ⟨(some 15), none, .load true 2 (.t 14)⟩, ⟨(some 16), none, .callv (.t 11) [(.t 15)]⟩])
 (.cond (.t 16) (.seq (.ops [⟨(some 17), none, .mov (.t 5)⟩, ⟨(some 4), none, .mov (.t 17)⟩])
 .ret) .skip))))
 (.ops [⟨(some 18), none, .bin .add (.t 8) (.c (.int .i64 1))⟩, ⟨(some 8), none, .mov (.t 18)⟩]))))
/-- slices.IndexFunc[[]furlong/api.Point,furlong/api.Point] -/
def v136 : VFun := ⟨2, [(.tmp 4)], (.seq (.ops [⟨(some 4), none, .mov (.c (.int .i64 0))⟩])
 (.seq (.seq (.ops [⟨(some 6), none, .mov (.t 0)⟩, ⟨(some 7), none, .bi (.len 1) [(.t 6)]⟩, ⟨(some 8), none, .mov (.c (.int .i64 0))⟩])
 (.block 0 (.loop b136_0)))
 (.seq (.ops [⟨(some 4), none, .mov (.c (.int .i64 (-1)))⟩])
 .ret)))⟩
/-- furlong/geom.Far -/
def v142 : VFun := ⟨2, [(.cell 4 true 2), (.tmp 5)], (.seq (.ops [⟨(some 2), none, .box 27 (.t 0)⟩, ⟨(some 3), none, .box 25 (.t 1)⟩, ⟨(some 4), none, .alloc [(.int .u64 0), (.int .u64 0)] 116⟩, ⟨(some 5), none, .mov (.c (.int .i64 0))⟩])
 (.seq (.seq (.ops [⟨(some 10), none, .load true 2 (.t 2)⟩, ⟨(some 11), none, .call 55 [(.t 10)]⟩, ⟨(some 12), none, .un .not (.t 11)⟩, ⟨(some 13), none, .mov (.t 12)⟩, ⟨(some 14), (some (13, false)), .load true 4 (.t 3)⟩, ⟨(some 15), (some (13, false)), .call 52 [(.t 14)]⟩, ⟨(some 16), (some (13, false)), .un .not (.t 15)⟩, ⟨(some 17), none, .pick (.t 13) (.c (.bool true)) (.t 16)⟩])
 (.cond (.t 17) (.seq (.ops [⟨(some 18), none, .build [(.int .u64 0), (.int .u64 0)] []⟩, ⟨none, none, .store 2 (.t 4) (.t 18)⟩, ⟨(some 5), none, .mov (.c (.int .i64 300))⟩])
 .ret) .skip))
 (.seq (.ops [⟨(some 19), none, .faddr 0 (.t 3)⟩, ⟨(some 20), none, .load false 1 (.t 19)⟩, ⟨(some 21), none, .faddr 0 (.t 2)⟩, ⟨(some 22), none, .load false 1 (.t 21)⟩, ⟨(some 23), none, .bin .sub (.t 20) (.t 22)⟩, ⟨(some 24), none, .faddr 0 (.t 2)⟩, ⟨(some 25), none, .load false 1 (.t 24)⟩, ⟨(some 26), none, .faddr 2 (.t 3)⟩, ⟨(some 27), none, .load false 1 (.t 26)⟩, ⟨(some 28), none, .bin .sub (.t 25) (.t 27)⟩, ⟨(some 29), none, .bi .max [(.t 23), (.c (.int .i64 0)), (.t 28)]⟩, ⟨(some 30), none, .conv (.int .u64) (.t 29)⟩, ⟨(some 6), none, .mov (.t 30)⟩])
 (.seq (.ops [⟨(some 31), none, .faddr 1 (.t 3)⟩, ⟨(some 32), none, .load false 1 (.t 31)⟩, ⟨(some 33), none, .faddr 1 (.t 2)⟩, ⟨(some 34), none, .load false 1 (.t 33)⟩, ⟨(some 35), none, .bin .sub (.t 32) (.t 34)⟩, ⟨(some 36), none, .faddr 1 (.t 2)⟩, ⟨(some 37), none, .load false 1 (.t 36)⟩, ⟨(some 38), none, .faddr 3 (.t 3)⟩, ⟨(some 39), none, .load false 1 (.t 38)⟩, ⟨(some 40), none, .bin .sub (.t 37) (.t 39)⟩, ⟨(some 41), none, .bi .max [(.t 35), (.c (.int .i64 0)), (.t 40)]⟩, ⟨(some 42), none, .conv (.int .u64) (.t 41)⟩, ⟨(some 7), none, .mov (.t 42)⟩])
 (.seq (.ops [⟨(some 44), none, .mov (.t 6)⟩, ⟨(some 45), none, .mov (.t 6)⟩, ⟨(some 46), none, .call 175 [(.t 44), (.t 45)]⟩, ⟨(some 47), none, .mov (.t 7)⟩, ⟨(some 48), none, .mov (.t 7)⟩, ⟨(some 49), none, .call 175 [(.t 47), (.t 48)]⟩, ⟨(some 50), none, .call 174 [(.t 46), (.t 49)]⟩, ⟨(some 43), none, .mov (.t 50)⟩, ⟨(some 51), none, .extract (.t 43) 0⟩, ⟨(some 52), none, .extract (.t 43) 1⟩, ⟨(some 8), none, .alloc [(.int .u64 0), (.int .u64 0)] 116⟩, ⟨none, none, .store 2 (.t 8) (.t 51)⟩, ⟨(some 9), none, .mov (.t 52)⟩])
 (.seq (.ops [⟨(some 53), none, .load true 2 (.t 8)⟩, ⟨none, none, .store 2 (.t 4) (.t 53)⟩, ⟨(some 5), none, .mov (.c (.int .i64 0))⟩])
 .ret))))))⟩
/-- slices.SortFunc[[]furlong/index.far,furlong/index.far] -/
def v143 : VFun := ⟨2, [], (.seq (.ops [⟨(some 5), none, .mov (.t 0)⟩, ⟨(some 6), none, .bi (.len 1) [(.t 5)]⟩, ⟨(some 4), none, .mov (.t 6)⟩])
 (.ops [⟨(some 7), none, .mov (.t 0)⟩, ⟨(some 8), none, .mov (.t 4)⟩, ⟨(some 9), none, .mov (.t 4)⟩, ⟨(some 10), none, .conv (.int .u64) (.t 9)⟩, ⟨(some 11), none, .call 177 [(.t 10)]⟩, ⟨(some 12), none, .mov (.t 1)⟩, ⟨(some 13), none, .call 176 [(.t 7), (.c (.int .i64 0)), (.t 8), (.t 11), (.t 12)]⟩]))⟩
/-- furlong/index.Nearest[furlong/api.Feature]$1 -/
def v144 : VFun := ⟨2, [(.tmp 4)], (.seq (.ops [⟨(some 2), none, .box 223 (.t 0)⟩, ⟨(some 3), none, .box 223 (.t 1)⟩, ⟨(some 4), none, .mov (.c (.int .i64 0))⟩])
 (.seq (.drawn [⟨(some 5), none, .faddr 3 (.t 2)⟩, ⟨(some 6), none, .load true 2 (.t 5)⟩, ⟨(some 7), none, .faddr 3 (.t 3)⟩, ⟨(some 8), none, .load true 2 (.t 7)⟩, ⟨(some 9), none, .call 146 [(.t 6), (.t 8)]⟩, ⟨(some 10), none, .faddr 5 (.t 2)⟩, ⟨(some 11), none, .load false 1 (.t 10)⟩, ⟨(some 12), none, .faddr 5 (.t 3)⟩, ⟨(some 13), none, .load false 1 (.t 12)⟩, ⟨(some 14), none, .bin .sub (.t 11) (.t 13)⟩, ⟨(some 15), none, .bslice [(.int .i64 0)] 3 2 [(0, 1, (.t 9)), (1, 1, (.t 14))]⟩, ⟨(some 16), none, .call 145 [(.t 15)]⟩, ⟨(some 4), none, .mov (.t 16)⟩] [(6, [0]), (8, [0])])
 .ret))⟩
def b145_0 : VCode := (.seq (.ops [⟨(some 9), none, .bin .lss (.t 8) (.t 7)⟩])
 (.seq (.cond (.t 9) .skip (.exit 0))
 (.seq (.block 1 (.seq (.ops [⟨(some 10), none, .iaddr 1 none (.t 6) (.t 8)⟩, ⟨(some 11), none, .load false 1 (.t 10)⟩, ⟨(some 5), none, .mov (.t 11)⟩])
 (.seq (.ops [⟨(some 12), none, .mov (.t 5)⟩, ⟨(some 13), none, .mov (.t 3)⟩, ⟨(some 14), none, .bin .neq (.t 12) (.t 13)⟩])
 (.cond (.t 14) (.seq (.ops [⟨(some 15), none, .mov (.t 5)⟩, ⟨(some 2), none, .mov (.t 15)⟩])
 .ret) .skip))))
 (.ops [⟨(some 16), none, .bin .add (.t 8) (.c (.int .i64 1))⟩, ⟨(some 8), none, .mov (.t 16)⟩]))))
/-- cmp.Or[int] -/
def v145 : VFun := ⟨1, [(.tmp 2)], (.seq (.ops [⟨(some 2), none, .mov (.c (.int .i64 0))⟩])
 (.seq (.ops [⟨(some 3), none, .mov (.c (.int .i64 0))⟩])
 (.seq (.seq (.ops [⟨(some 6), none, .mov (.t 0)⟩, ⟨(some 7), none, .bi (.len 1) [(.t 6)]⟩, ⟨(some 8), none, .mov (.c (.int .i64 0))⟩])
 (.block 0 (.loop b145_0)))
 (.seq (.ops [⟨(some 17), none, .mov (.t 3)⟩, ⟨(some 2), none, .mov (.t 17)⟩])
 .ret))))⟩
/-- furlong/wide.Cmp -/
def v146 : VFun := ⟨2, [(.tmp 4)], (.seq (.ops [⟨(some 2), none, .box 116 (.t 0)⟩, ⟨(some 3), none, .box 116 (.t 1)⟩, ⟨(some 4), none, .mov (.c (.int .i64 0))⟩])
 (.seq (.drawn [⟨(some 5), none, .faddr 0 (.t 2)⟩, ⟨(some 6), none, .load false 1 (.t 5)⟩, ⟨(some 7), none, .faddr 0 (.t 3)⟩, ⟨(some 8), none, .load false 1 (.t 7)⟩, ⟨(some 9), none, .call 178 [(.t 6), (.t 8)]⟩, ⟨(some 10), none, .faddr 1 (.t 2)⟩, ⟨(some 11), none, .load false 1 (.t 10)⟩, ⟨(some 12), none, .faddr 1 (.t 3)⟩, ⟨(some 13), none, .load false 1 (.t 12)⟩, ⟨(some 14), none, .call 178 [(.t 11), (.t 13)]⟩, ⟨(some 15), none, .bslice [(.int .i64 0)] 3 2 [(0, 1, (.t 9)), (1, 1, (.t 14))]⟩, ⟨(some 16), none, .call 145 [(.t 15)]⟩, ⟨(some 4), none, .mov (.t 16)⟩] [(6, [0]), (8, [0])])
 .ret))⟩
/-- furlong/geom.Between -/
def v147 : VFun := ⟨2, [(.cell 4 true 4)], (.seq (.ops [⟨(some 2), none, .box 27 (.t 0)⟩, ⟨(some 3), none, .box 27 (.t 1)⟩, ⟨(some 4), none, .alloc [(.int .i64 0), (.int .i64 0), (.int .i64 0), (.int .i64 0)] 25⟩])
 (.seq (.ops [⟨(some 5), none, .faddr 0 (.t 2)⟩, ⟨(some 6), none, .load false 1 (.t 5)⟩, ⟨(some 7), none, .faddr 0 (.t 3)⟩, ⟨(some 8), none, .load false 1 (.t 7)⟩, ⟨(some 9), none, .bi .min [(.t 6), (.t 8)]⟩, ⟨(some 10), none, .faddr 1 (.t 2)⟩, ⟨(some 11), none, .load false 1 (.t 10)⟩, ⟨(some 12), none, .faddr 1 (.t 3)⟩, ⟨(some 13), none, .load false 1 (.t 12)⟩, ⟨(some 14), none, .bi .min [(.t 11), (.t 13)]⟩, ⟨(some 15), none, .faddr 0 (.t 2)⟩, ⟨(some 16), none, .load false 1 (.t 15)⟩, ⟨(some 17), none, .faddr 0 (.t 3)⟩, ⟨(some 18), none, .load false 1 (.t 17)⟩, ⟨(some 19), none, .bi .max [(.t 16), (.t 18)]⟩, ⟨(some 20), none, .faddr 1 (.t 2)⟩, ⟨(some 21), none, .load false 1 (.t 20)⟩, ⟨(some 22), none, .faddr 1 (.t 3)⟩, ⟨(some 23), none, .load false 1 (.t 22)⟩, ⟨(some 24), none, .bi .max [(.t 21), (.t 23)]⟩, ⟨(some 25), none, .build [(.int .i64 0), (.int .i64 0), (.int .i64 0), (.int .i64 0)] [(0, 1, (.t 9)), (1, 1, (.t 14)), (2, 1, (.t 19)), (3, 1, (.t 24))]⟩, ⟨none, none, .store 4 (.t 4) (.t 25)⟩])
 .ret))⟩
/-- furlong/geom.Join -/
def v148 : VFun := ⟨2, [(.cell 4 true 4), (.tmp 5)], (.seq (.ops [⟨(some 2), none, .box 25 (.t 0)⟩, ⟨(some 3), none, .box 25 (.t 1)⟩, ⟨(some 4), none, .alloc [(.int .i64 0), (.int .i64 0), (.int .i64 0), (.int .i64 0)] 25⟩, ⟨(some 5), none, .mov (.c (.int .i64 0))⟩])
 (.seq (.seq (.ops [⟨(some 6), none, .load true 4 (.t 2)⟩, ⟨(some 7), none, .call 52 [(.t 6)]⟩, ⟨(some 8), none, .un .not (.t 7)⟩, ⟨(some 9), none, .mov (.t 8)⟩, ⟨(some 10), (some (9, false)), .load true 4 (.t 3)⟩, ⟨(some 11), (some (9, false)), .call 52 [(.t 10)]⟩, ⟨(some 12), (some (9, false)), .un .not (.t 11)⟩, ⟨(some 13), none, .pick (.t 9) (.c (.bool true)) (.t 12)⟩])
 (.cond (.t 13) (.seq (.ops [⟨(some 14), none, .build [(.int .i64 0), (.int .i64 0), (.int .i64 0), (.int .i64 0)] []⟩, ⟨none, none, .store 4 (.t 4) (.t 14)⟩, ⟨(some 5), none, .mov (.c (.int .i64 300))⟩])
 .ret) .skip))
 (.seq (.ops [⟨(some 15), none, .faddr 0 (.t 2)⟩, ⟨(some 16), none, .load false 1 (.t 15)⟩, ⟨(some 17), none, .faddr 0 (.t 3)⟩, ⟨(some 18), none, .load false 1 (.t 17)⟩, ⟨(some 19), none, .bi .min [(.t 16), (.t 18)]⟩, ⟨(some 20), none, .faddr 1 (.t 2)⟩, ⟨(some 21), none, .load false 1 (.t 20)⟩, ⟨(some 22), none, .faddr 1 (.t 3)⟩, ⟨(some 23), none, .load false 1 (.t 22)⟩, ⟨(some 24), none, .bi .min [(.t 21), (.t 23)]⟩, ⟨(some 25), none, .faddr 2 (.t 2)⟩, ⟨(some 26), none, .load false 1 (.t 25)⟩, ⟨(some 27), none, .faddr 2 (.t 3)⟩, ⟨(some 28), none, .load false 1 (.t 27)⟩, ⟨(some 29), none, .bi .max [(.t 26), (.t 28)]⟩, ⟨(some 30), none, .faddr 3 (.t 2)⟩, ⟨(some 31), none, .load false 1 (.t 30)⟩, ⟨(some 32), none, .faddr 3 (.t 3)⟩, ⟨(some 33), none, .load false 1 (.t 32)⟩, ⟨(some 34), none, .bi .max [(.t 31), (.t 33)]⟩, ⟨(some 35), none, .build [(.int .i64 0), (.int .i64 0), (.int .i64 0), (.int .i64 0)] [(0, 1, (.t 19)), (1, 1, (.t 24)), (2, 1, (.t 29)), (3, 1, (.t 34))]⟩, ⟨none, none, .store 4 (.t 4) (.t 35)⟩, ⟨(some 5), none, .mov (.c (.int .i64 0))⟩])
 .ret)))⟩
def b167_0 : VCode := (.seq (.ops [⟨(some 9), none, .bin .lss (.t 8) (.t 7)⟩])
 (.seq (.cond (.t 9) .skip (.exit 0))
 (.seq (.block 1 (.seq (.ops [⟨(some 10), none, .mov (.t 8)⟩, ⟨(some 5), none, .mov (.t 10)⟩])
 (.seq (.ops [⟨(some 11), none, .mov (.t 1)⟩, ⟨(some 12), none, .mov (.t 0)⟩, ⟨(some 13), none, .mov (.t 5)⟩, ⟨(some 14), none, .iaddr 1 none (.t 12) (.t 13)⟩, ⟨(some 15), none, .load false 1 (.t 14)⟩, ⟨(some 16), none, .callv (.t 11) [(.t 15)]⟩])
 (.cond (.t 16) (.seq (.ops [⟨(some 17), none, .mov (.t 5)⟩, ⟨(some 4), none, .mov (.t 17)⟩])
 .ret) .skip))))
 (.ops [⟨(some 18), none, .bin .add (.t 8) (.c (.int .i64 1))⟩, ⟨(some 8), none, .mov (.t 18)⟩]))))
/-- slices.IndexFunc[[][]furlong/api.Point,[]furlong/api.Point] -/
def v167 : VFun := ⟨2, [(.tmp 4)], (.seq (.ops [⟨(some 4), none, .mov (.c (.int .i64 0))⟩])
 (.seq (.seq (.ops [⟨(some 6), none, .mov (.t 0)⟩, ⟨(some 7), none, .bi (.len 1) [(.t 6)]⟩, ⟨(some 8), none, .mov (.c (.int .i64 0))⟩])
 (.block 0 (.loop b167_0)))
 (.seq (.ops [⟨(some 4), none, .mov (.c (.int .i64 (-1)))⟩])
 .ret)))⟩
/-- furlong/geom.turn -/
def v169 : VFun := ⟨3, [(.tmp 6)], (.seq (.ops [⟨(some 3), none, .box 27 (.t 0)⟩, ⟨(some 4), none, .box 27 (.t 1)⟩, ⟨(some 5), none, .box 27 (.t 2)⟩, ⟨(some 6), none, .mov (.c (.int .i64 0))⟩])
 (.seq (.drawn [⟨(some 7), none, .faddr 0 (.t 4)⟩, ⟨(some 8), none, .load false 1 (.t 7)⟩, ⟨(some 9), none, .faddr 0 (.t 3)⟩, ⟨(some 10), none, .load false 1 (.t 9)⟩, ⟨(some 11), none, .bin .sub (.t 8) (.t 10)⟩, ⟨(some 12), none, .faddr 1 (.t 5)⟩, ⟨(some 13), none, .load false 1 (.t 12)⟩, ⟨(some 14), none, .faddr 1 (.t 3)⟩, ⟨(some 15), none, .load false 1 (.t 14)⟩, ⟨(some 16), none, .bin .sub (.t 13) (.t 15)⟩, ⟨(some 17), none, .call 183 [(.t 11), (.t 16)]⟩, ⟨(some 18), none, .faddr 1 (.t 4)⟩, ⟨(some 19), none, .load false 1 (.t 18)⟩, ⟨(some 20), none, .faddr 1 (.t 3)⟩, ⟨(some 21), none, .load false 1 (.t 20)⟩, ⟨(some 22), none, .bin .sub (.t 19) (.t 21)⟩, ⟨(some 23), none, .faddr 0 (.t 5)⟩, ⟨(some 24), none, .load false 1 (.t 23)⟩, ⟨(some 25), none, .faddr 0 (.t 3)⟩, ⟨(some 26), none, .load false 1 (.t 25)⟩, ⟨(some 27), none, .bin .sub (.t 24) (.t 26)⟩, ⟨(some 28), none, .call 183 [(.t 22), (.t 27)]⟩, ⟨(some 29), none, .call 184 [(.t 17), (.t 28)]⟩, ⟨(some 6), none, .mov (.t 29)⟩] [(12, [0]), (14, [0]), (17, [0]), (19, [0])])
 .ret))⟩
/-- furlong/geom.Turn -/
def v170 : VFun := ⟨3, [(.tmp 6), (.tmp 7)], (.seq (.ops [⟨(some 3), none, .box 27 (.t 0)⟩, ⟨(some 4), none, .box 27 (.t 1)⟩, ⟨(some 5), none, .box 27 (.t 2)⟩, ⟨(some 6), none, .mov (.c (.int .i64 0))⟩, ⟨(some 7), none, .mov (.c (.int .i64 0))⟩])
 (.seq (.seq (.ops [⟨(some 8), none, .load true 2 (.t 3)⟩, ⟨(some 9), none, .call 55 [(.t 8)]⟩, ⟨(some 10), none, .un .not (.t 9)⟩, ⟨(some 11), none, .mov (.t 10)⟩, ⟨(some 12), (some (11, false)), .load true 2 (.t 4)⟩, ⟨(some 13), (some (11, false)), .call 55 [(.t 12)]⟩, ⟨(some 14), (some (11, false)), .un .not (.t 13)⟩, ⟨(some 15), none, .pick (.t 11) (.c (.bool true)) (.t 14)⟩, ⟨(some 16), none, .mov (.t 15)⟩, ⟨(some 17), (some (16, false)), .load true 2 (.t 5)⟩, ⟨(some 18), (some (16, false)), .call 55 [(.t 17)]⟩, ⟨(some 19), (some (16, false)), .un .not (.t 18)⟩, ⟨(some 20), none, .pick (.t 16) (.c (.bool true)) (.t 19)⟩])
 (.cond (.t 20) (.seq (.ops [⟨(some 6), none, .mov (.c (.int .i64 0))⟩, ⟨(some 7), none, .mov (.c (.int .i64 300))⟩])
 .ret) .skip))
 (.seq (.ops [⟨(some 21), none, .load true 2 (.t 3)⟩, ⟨(some 22), none, .load true 2 (.t 4)⟩, ⟨(some 23), none, .load true 2 (.t 5)⟩, ⟨(some 24), none, .call 169 [(.t 21), (.t 22), (.t 23)]⟩, ⟨(some 6), none, .mov (.t 24)⟩, ⟨(some 7), none, .mov (.c (.int .i64 0))⟩])
 .ret)))⟩
/-- furlong/wide.Add -/
def v174 : VFun := ⟨2, [(.cell 4 true 2), (.tmp 5)], (.seq (.ops [⟨(some 2), none, .box 116 (.t 0)⟩, ⟨(some 3), none, .box 116 (.t 1)⟩, ⟨(some 4), none, .alloc [(.int .u64 0), (.int .u64 0)] 116⟩, ⟨(some 5), none, .mov (.c (.bool false))⟩])
 (.seq (.ops [⟨(some 9), none, .faddr 1 (.t 2)⟩, ⟨(some 10), none, .load false 1 (.t 9)⟩, ⟨(some 11), none, .faddr 1 (.t 3)⟩, ⟨(some 12), none, .load false 1 (.t 11)⟩, ⟨(some 13), none, .bin .add (.t 10) (.t 12)⟩, ⟨(some 6), none, .mov (.t 13)⟩])
 (.seq (.ops [⟨(some 14), none, .faddr 0 (.t 2)⟩, ⟨(some 15), none, .load false 1 (.t 14)⟩, ⟨(some 16), none, .faddr 0 (.t 3)⟩, ⟨(some 17), none, .load false 1 (.t 16)⟩, ⟨(some 18), none, .bin .add (.t 15) (.t 17)⟩, ⟨(some 7), none, .mov (.t 18)⟩])
 (.seq (.ops [⟨(some 19), none, .mov (.t 7)⟩, ⟨(some 20), none, .faddr 0 (.t 2)⟩, ⟨(some 21), none, .load false 1 (.t 20)⟩, ⟨(some 22), none, .bin .lss (.t 19) (.t 21)⟩, ⟨(some 8), none, .mov (.t 22)⟩])
 (.seq (.seq (.ops [⟨(some 23), none, .mov (.t 6)⟩, ⟨(some 24), none, .faddr 1 (.t 2)⟩, ⟨(some 25), none, .load false 1 (.t 24)⟩, ⟨(some 26), none, .bin .lss (.t 23) (.t 25)⟩])
 (.cond (.t 26) (.seq (.ops [⟨(some 27), none, .mov (.t 7)⟩, ⟨(some 28), none, .bin .add (.t 27) (.c (.int .u64 1))⟩, ⟨(some 7), none, .mov (.t 28)⟩])
 (.ops [⟨(some 29), none, .mov (.t 8)⟩, ⟨(some 30), none, .mov (.t 29)⟩, ⟨(some 31), (some (30, false)), .mov (.t 7)⟩, ⟨(some 32), (some (30, false)), .bin .eql (.t 31) (.c (.int .u64 0))⟩, ⟨(some 33), none, .pick (.t 30) (.c (.bool true)) (.t 32)⟩, ⟨(some 8), none, .mov (.t 33)⟩])) .skip))
 (.seq (.seq (.ops [⟨(some 34), none, .mov (.t 8)⟩])
 (.cond (.t 34) (.seq (.ops [⟨(some 35), none, .build [(.int .u64 0), (.int .u64 0)] []⟩, ⟨none, none, .store 2 (.t 4) (.t 35)⟩, ⟨(some 5), none, .mov (.c (.bool false))⟩])
 .ret) .skip))
 (.seq (.ops [⟨(some 36), none, .mov (.t 7)⟩, ⟨(some 37), none, .mov (.t 6)⟩, ⟨(some 38), none, .build [(.int .u64 0), (.int .u64 0)] [(0, 1, (.t 36)), (1, 1, (.t 37))]⟩, ⟨none, none, .store 2 (.t 4) (.t 38)⟩, ⟨(some 5), none, .mov (.c (.bool true))⟩])
 .ret)))))))⟩
/-- furlong/wide.Mul -/
def v175 : VFun := ⟨2, [(.cell 4 true 2)], (.seq (.ops [⟨(some 4), none, .alloc [(.int .u64 0), (.int .u64 0)] 116⟩])
 (.seq (.ops [⟨(some 12), none, .mov (.t 0)⟩, ⟨(some 13), none, .bin .shr (.t 12) (.c (.int .u64 32))⟩, ⟨(some 14), none, .mov (.t 0)⟩, ⟨(some 15), none, .bin .and (.t 14) (.c (.int .u64 4294967295))⟩, ⟨(some 16), none, .mov (.t 1)⟩, ⟨(some 17), none, .bin .shr (.t 16) (.c (.int .u64 32))⟩, ⟨(some 18), none, .mov (.t 1)⟩, ⟨(some 19), none, .bin .and (.t 18) (.c (.int .u64 4294967295))⟩, ⟨(some 5), none, .mov (.t 13)⟩, ⟨(some 6), none, .mov (.t 15)⟩, ⟨(some 7), none, .mov (.t 17)⟩, ⟨(some 8), none, .mov (.t 19)⟩])
 (.seq (.ops [⟨(some 20), none, .mov (.t 6)⟩, ⟨(some 21), none, .mov (.t 8)⟩, ⟨(some 22), none, .bin .mul (.t 20) (.t 21)⟩, ⟨(some 9), none, .mov (.t 22)⟩])
 (.seq (.ops [⟨(some 23), none, .mov (.t 5)⟩, ⟨(some 24), none, .mov (.t 8)⟩, ⟨(some 25), none, .bin .mul (.t 23) (.t 24)⟩, ⟨(some 26), none, .mov (.t 9)⟩, ⟨(some 27), none, .bin .shr (.t 26) (.c (.int .u64 32))⟩, ⟨(some 28), none, .bin .add (.t 25) (.t 27)⟩, ⟨(some 10), none, .mov (.t 28)⟩])
 (.seq (.ops [⟨(some 29), none, .mov (.t 6)⟩, ⟨(some 30), none, .mov (.t 7)⟩, ⟨(some 31), none, .bin .mul (.t 29) (.t 30)⟩, ⟨(some 32), none, .mov (.t 10)⟩, ⟨(some 33), none, .bin .and (.t 32) (.c (.int .u64 4294967295))⟩, ⟨(some 34), none, .bin .add (.t 31) (.t 33)⟩, ⟨(some 11), none, .mov (.t 34)⟩])
 (.seq (.ops [⟨(some 35), none, .mov (.t 5)⟩, ⟨(some 36), none, .mov (.t 7)⟩, ⟨(some 37), none, .bin .mul (.t 35) (.t 36)⟩, ⟨(some 38), none, .mov (.t 10)⟩, ⟨(some 39), none, .bin .shr (.t 38) (.c (.int .u64 32))⟩, ⟨(some 40), none, .bin .add (.t 37) (.t 39)⟩, ⟨(some 41), none, .mov (.t 11)⟩, ⟨(some 42), none, .bin .shr (.t 41) (.c (.int .u64 32))⟩, ⟨(some 43), none, .bin .add (.t 40) (.t 42)⟩, ⟨(some 44), none, .mov (.t 11)⟩, ⟨(some 45), none, .bin .shl (.t 44) (.c (.int .u64 32))⟩, ⟨(some 46), none, .mov (.t 9)⟩, ⟨(some 47), none, .bin .and (.t 46) (.c (.int .u64 4294967295))⟩, ⟨(some 48), none, .bin .or (.t 45) (.t 47)⟩, ⟨(some 49), none, .build [(.int .u64 0), (.int .u64 0)] [(0, 1, (.t 43)), (1, 1, (.t 48))]⟩, ⟨none, none, .store 2 (.t 4) (.t 49)⟩])
 .ret))))))⟩
def b176_0 : VCode := (.block 1 (.seq (.ops [⟨(some 21), none, .mov (.t 2)⟩, ⟨(some 22), none, .mov (.t 1)⟩, ⟨(some 23), none, .bin .sub (.t 21) (.t 22)⟩, ⟨(some 12), none, .mov (.t 23)⟩])
 (.seq (.seq (.ops [⟨(some 24), none, .mov (.t 12)⟩, ⟨(some 25), none, .bin .leq (.t 24) (.c (.int .i64 12))⟩])
 (.cond (.t 25) (.seq (.ops [⟨(some 26), none, .mov (.t 0)⟩, ⟨(some 27), none, .mov (.t 1)⟩, ⟨(some 28), none, .mov (.t 2)⟩, ⟨(some 29), none, .mov (.t 4)⟩, ⟨(some 30), none, .call 186 [(.t 26), (.t 27), (.t 28), (.t 29)]⟩])
 .ret) .skip))
 (.seq (.seq (.ops [⟨(some 31), none, .mov (.t 3)⟩, ⟨(some 32), none, .bin .eql (.t 31) (.c (.int .i64 0))⟩])
 (.cond (.t 32) (.seq (.ops [⟨(some 33), none, .mov (.t 0)⟩, ⟨(some 34), none, .mov (.t 1)⟩, ⟨(some 35), none, .mov (.t 2)⟩, ⟨(some 36), none, .mov (.t 4)⟩, ⟨(some 37), none, .call 187 [(.t 33), (.t 34), (.t 35), (.t 36)]⟩])
 .ret) .skip))
 (.seq (.seq (.ops [⟨(some 38), none, .mov (.t 10)⟩, ⟨(some 39), none, .un .not (.t 38)⟩])
 (.cond (.t 39) (.seq (.ops [⟨(some 40), none, .mov (.t 0)⟩, ⟨(some 41), none, .mov (.t 1)⟩, ⟨(some 42), none, .mov (.t 2)⟩, ⟨(some 43), none, .mov (.t 4)⟩, ⟨(some 44), none, .call 188 [(.t 40), (.t 41), (.t 42), (.t 43)]⟩])
 (.ops [⟨(some 45), none, .mov (.t 3)⟩, ⟨(some 46), none, .bin .sub (.t 45) (.c (.int .i64 1))⟩, ⟨(some 3), none, .mov (.t 46)⟩])) .skip))
 (.seq (.ops [⟨(some 48), none, .mov (.t 0)⟩, ⟨(some 49), none, .mov (.t 1)⟩, ⟨(some 50), none, .mov (.t 2)⟩, ⟨(some 51), none, .mov (.t 4)⟩, ⟨(some 52), none, .call 189 [(.t 48), (.t 49), (.t 50), (.t 51)]⟩, ⟨(some 47), none, .mov (.t 52)⟩, ⟨(some 53), none, .extract (.t 47) 0⟩, ⟨(some 54), none, .extract (.t 47) 1⟩, ⟨(some 13), none, .mov (.t 53)⟩, ⟨(some 14), none, .mov (.t 54)⟩])
 (.seq (.seq (.ops [⟨(some 55), none, .mov (.t 14)⟩, ⟨(some 56), none, .bin .eql (.t 55) (.c (.int .i64 2))⟩])
 (.cond (.t 56) (.seq (.ops [⟨(some 57), none, .mov (.t 0)⟩, ⟨(some 58), none, .mov (.t 1)⟩, ⟨(some 59), none, .mov (.t 2)⟩, ⟨(some 60), none, .mov (.t 4)⟩, ⟨(some 61), none, .call 190 [(.t 57), (.t 58), (.t 59), (.t 60)]⟩])
 (.seq (.ops [⟨(some 62), none, .mov (.t 2)⟩, ⟨(some 63), none, .bin .sub (.t 62) (.c (.int .i64 1))⟩, ⟨(some 64), none, .mov (.t 13)⟩, ⟨(some 65), none, .mov (.t 1)⟩, ⟨(some 66), none, .bin .sub (.t 64) (.t 65)⟩, ⟨(some 67), none, .bin .sub (.t 63) (.t 66)⟩, ⟨(some 13), none, .mov (.t 67)⟩])
 (.ops [⟨(some 14), none, .mov (.c (.int .i64 1))⟩]))) .skip))
 (.seq (.seq (.ops [⟨(some 68), none, .mov (.t 10)⟩, ⟨(some 69), none, .mov (.t 68)⟩, ⟨(some 70), (some (69, true)), .mov (.t 11)⟩, ⟨(some 71), none, .pick (.t 69) (.t 70) (.c (.bool false))⟩, ⟨(some 72), none, .mov (.t 71)⟩, ⟨(some 73), (some (72, true)), .mov (.t 14)⟩, ⟨(some 74), (some (72, true)), .bin .eql (.t 73) (.c (.int .i64 1))⟩, ⟨(some 75), none, .pick (.t 72) (.t 74) (.c (.bool false))⟩])
 (.cond (.t 75) (.seq (.ops [⟨(some 76), none, .mov (.t 0)⟩, ⟨(some 77), none, .mov (.t 1)⟩, ⟨(some 78), none, .mov (.t 2)⟩, ⟨(some 79), none, .mov (.t 4)⟩, ⟨(some 80), none, .call 191 [(.t 76), (.t 77), (.t 78), (.t 79)]⟩])
 (.cond (.t 80) .ret .skip)) .skip))
 (.seq (.seq (.drawn [⟨(some 81), none, .mov (.t 1)⟩, ⟨(some 82), none, .bin .gtr (.t 81) (.c (.int .i64 0))⟩, ⟨(some 83), none, .mov (.t 82)⟩, ⟨(some 84), (some (83, true)), .mov (.t 4)⟩, ⟨(some 85), (some (83, true)), .mov (.t 0)⟩, ⟨(some 86), (some (83, true)), .mov (.t 1)⟩, ⟨(some 87), (some (83, true)), .bin .sub (.t 86) (.c (.int .i64 1))⟩, ⟨(some 88), (some (83, true)), .iaddr 6 none (.t 85) (.t 87)⟩, ⟨(some 89), (some (83, true)), .load true 6 (.t 88)⟩, ⟨(some 90), (some (83, true)), .mov (.t 0)⟩, ⟨(some 91), (some (83, true)), .mov (.t 13)⟩, ⟨(some 92), (some (83, true)), .iaddr 6 none (.t 90) (.t 91)⟩, ⟨(some 93), (some (83, true)), .load true 6 (.t 92)⟩, ⟨(some 94), (some (83, true)), .callv (.t 84) [(.t 89), (.t 93)]⟩, ⟨(some 95), (some (83, true)), .bin .lss (.t 94) (.c (.int .i64 0))⟩, ⟨(some 96), (some (83, true)), .un .not (.t 95)⟩, ⟨(some 97), none, .pick (.t 83) (.t 96) (.c (.bool false))⟩] [])
 (.cond (.t 97) (.seq (.ops [⟨(some 98), none, .mov (.t 0)⟩, ⟨(some 99), none, .mov (.t 1)⟩, ⟨(some 100), none, .mov (.t 2)⟩, ⟨(some 101), none, .mov (.t 13)⟩, ⟨(some 102), none, .mov (.t 4)⟩, ⟨(some 103), none, .call 192 [(.t 98), (.t 99), (.t 100), (.t 101), (.t 102)]⟩, ⟨(some 15), none, .mov (.t 103)⟩])
 (.seq (.ops [⟨(some 104), none, .mov (.t 15)⟩, ⟨(some 1), none, .mov (.t 104)⟩])
 (.exit 1))) .skip))
 (.seq (.ops [⟨(some 106), none, .mov (.t 0)⟩, ⟨(some 107), none, .mov (.t 1)⟩, ⟨(some 108), none, .mov (.t 2)⟩, ⟨(some 109), none, .mov (.t 13)⟩, ⟨(some 110), none, .mov (.t 4)⟩, ⟨(some 111), none, .call 193 [(.t 106), (.t 107), (.t 108), (.t 109), (.t 110)]⟩, ⟨(some 105), none, .mov (.t 111)⟩, ⟨(some 112), none, .extract (.t 105) 0⟩, ⟨(some 113), none, .extract (.t 105) 1⟩, ⟨(some 16), none, .mov (.t 112)⟩, ⟨(some 17), none, .mov (.t 113)⟩])
 (.seq (.ops [⟨(some 114), none, .mov (.t 17)⟩, ⟨(some 11), none, .mov (.t 114)⟩])
 (.seq (.ops [⟨(some 115), none, .mov (.t 16)⟩, ⟨(some 116), none, .mov (.t 1)⟩, ⟨(some 117), none, .bin .sub (.t 115) (.t 116)⟩, ⟨(some 118), none, .mov (.t 2)⟩, ⟨(some 119), none, .mov (.t 16)⟩, ⟨(some 120), none, .bin .sub (.t 118) (.t 119)⟩, ⟨(some 18), none, .mov (.t 117)⟩, ⟨(some 19), none, .mov (.t 120)⟩])
 (.seq (.ops [⟨(some 121), none, .mov (.t 12)⟩, ⟨(some 122), none, .bin .quo (.t 121) (.c (.int .i64 8))⟩, ⟨(some 20), none, .mov (.t 122)⟩])
 (.seq (.ops [⟨(some 123), none, .mov (.t 18)⟩, ⟨(some 124), none, .mov (.t 19)⟩, ⟨(some 125), none, .bin .lss (.t 123) (.t 124)⟩])
 (.cond (.t 125) (.seq (.ops [⟨(some 126), none, .mov (.t 18)⟩, ⟨(some 127), none, .mov (.t 20)⟩, ⟨(some 128), none, .bin .geq (.t 126) (.t 127)⟩, ⟨(some 10), none, .mov (.t 128)⟩])
 (.seq (.ops [⟨(some 129), none, .mov (.t 0)⟩, ⟨(some 130), none, .mov (.t 1)⟩, ⟨(some 131), none, .mov (.t 16)⟩, ⟨(some 132), none, .mov (.t 3)⟩, ⟨(some 133), none, .mov (.t 4)⟩, ⟨(some 134), none, .call 176 [(.t 129), (.t 130), (.t 131), (.t 132), (.t 133)]⟩])
 (.ops [⟨(some 135), none, .mov (.t 16)⟩, ⟨(some 136), none, .bin .add (.t 135) (.c (.int .i64 1))⟩, ⟨(some 1), none, .mov (.t 136)⟩]))) (.seq (.ops [⟨(some 137), none, .mov (.t 19)⟩, ⟨(some 138), none, .mov (.t 20)⟩, ⟨(some 139), none, .bin .geq (.t 137) (.t 138)⟩, ⟨(some 10), none, .mov (.t 139)⟩])
 (.seq (.ops [⟨(some 140), none, .mov (.t 0)⟩, ⟨(some 141), none, .mov (.t 16)⟩, ⟨(some 142), none, .bin .add (.t 141) (.c (.int .i64 1))⟩, ⟨(some 143), none, .mov (.t 2)⟩, ⟨(some 144), none, .mov (.t 3)⟩, ⟨(some 145), none, .mov (.t 4)⟩, ⟨(some 146), none, .call 176 [(.t 140), (.t 142), (.t 143), (.t 144), (.t 145)]⟩])
 (.ops [⟨(some 147), none, .mov (.t 16)⟩, ⟨(some 2), none, .mov (.t 147)⟩]))))))))))))))))))
/-- slices.pdqsortCmpFunc[furlong/index.far] -/
def v176 : VFun := ⟨5, [], (.seq (.ops [⟨(some 10), none, .mov (.c (.bool true))⟩])
 (.seq (.ops [⟨(some 11), none, .mov (.c (.bool true))⟩])
 (.block 0 (.loop b176_0))))⟩
/-- math/bits.Len -/
def v177 : VFun := ⟨1, [(.tmp 2)], (.seq (.ops [⟨(some 2), none, .mov (.c (.int .i64 0))⟩])
 (.seq (.cond (.c (.bool false)) (.seq (.ops [⟨(some 3), none, .mov (.t 0)⟩, ⟨(some 4), none, .conv (.int .u32) (.t 3)⟩, ⟨(some 5), none, .call 194 [(.t 4)]⟩, ⟨(some 2), none, .mov (.t 5)⟩])
 .ret) .skip)
 (.seq (.ops [⟨(some 6), none, .mov (.t 0)⟩, ⟨(some 7), none, .call 195 [(.t 6)]⟩, ⟨(some 2), none, .mov (.t 7)⟩])
 .ret)))⟩
/-- cmp.Compare[uint64] -/
def v178 : VFun := ⟨2, [(.tmp 4)], (.seq (.ops [⟨(some 4), none, .mov (.c (.int .i64 0))⟩])
 (.seq (.ops [⟨(some 7), none, .mov (.t 0)⟩, ⟨(some 8), none, .call 196 [(.t 7)]⟩, ⟨(some 5), none, .mov (.t 8)⟩])
 (.seq (.ops [⟨(some 9), none, .mov (.t 1)⟩, ⟨(some 10), none, .call 196 [(.t 9)]⟩, ⟨(some 6), none, .mov (.t 10)⟩])
 (.seq (.seq (.ops [⟨(some 11), none, .mov (.t 5)⟩])
 (.cond (.t 11) (.seq (.seq (.ops [⟨(some 12), none, .mov (.t 6)⟩])
 (.cond (.t 12) (.seq (.ops [⟨(some 4), none, .mov (.c (.int .i64 0))⟩])
 .ret) .skip))
 (.seq (.ops [⟨(some 4), none, .mov (.c (.int .i64 (-1)))⟩])
 .ret)) .skip))
 (.seq (.seq (.ops [⟨(some 13), none, .mov (.t 6)⟩])
 (.cond (.t 13) (.seq (.ops [⟨(some 4), none, .mov (.c (.int .i64 1))⟩])
 .ret) .skip))
 (.seq (.seq (.ops [⟨(some 14), none, .mov (.t 0)⟩, ⟨(some 15), none, .mov (.t 1)⟩, ⟨(some 16), none, .bin .lss (.t 14) (.t 15)⟩])
 (.cond (.t 16) (.seq (.ops [⟨(some 4), none, .mov (.c (.int .i64 (-1)))⟩])
 .ret) .skip))
 (.seq (.seq (.ops [⟨(some 17), none, .mov (.t 0)⟩, ⟨(some 18), none, .mov (.t 1)⟩, ⟨(some 19), none, .bin .gtr (.t 17) (.t 18)⟩])
 (.cond (.t 19) (.seq (.ops [⟨(some 4), none, .mov (.c (.int .i64 1))⟩])
 .ret) .skip))
 (.seq (.ops [⟨(some 4), none, .mov (.c (.int .i64 0))⟩])
 .ret))))))))⟩
/-- furlong/geom.times -/
def v183 : VFun := ⟨2, [(.cell 4 true 3)], (.seq (.ops [⟨(some 4), none, .alloc [(.bool false), (.int .u64 0), (.int .u64 0)] 249⟩])
 (.seq (.ops [⟨(some 6), none, .mov (.t 0)⟩, ⟨(some 7), none, .bin .lss (.t 6) (.c (.int .i64 0))⟩, ⟨(some 8), none, .mov (.t 1)⟩, ⟨(some 9), none, .bin .lss (.t 8) (.c (.int .i64 0))⟩, ⟨(some 10), none, .eqs .bool true (.t 7) (.t 9)⟩, ⟨(some 11), none, .mov (.t 10)⟩, ⟨(some 12), (some (11, true)), .mov (.t 0)⟩, ⟨(some 13), (some (11, true)), .bin .neq (.t 12) (.c (.int .i64 0))⟩, ⟨(some 14), none, .pick (.t 11) (.t 13) (.c (.bool false))⟩, ⟨(some 15), none, .mov (.t 14)⟩, ⟨(some 16), (some (15, true)), .mov (.t 1)⟩, ⟨(some 17), (some (15, true)), .bin .neq (.t 16) (.c (.int .i64 0))⟩, ⟨(some 18), none, .pick (.t 15) (.t 17) (.c (.bool false))⟩, ⟨(some 19), none, .build [(.bool false), (.int .u64 0), (.int .u64 0)] [(0, 1, (.t 18))]⟩, ⟨(some 5), none, .alloc [(.bool false), (.int .u64 0), (.int .u64 0)] 249⟩, ⟨none, none, .store 3 (.t 5) (.t 19)⟩])
 (.seq (.ops [⟨(some 20), none, .mov (.t 0)⟩, ⟨(some 21), none, .mov (.t 0)⟩, ⟨(some 22), none, .un .neg (.t 21)⟩, ⟨(some 23), none, .bi .max [(.t 20), (.t 22)]⟩, ⟨(some 24), none, .conv (.int .u64) (.t 23)⟩, ⟨(some 25), none, .mov (.t 1)⟩, ⟨(some 26), none, .mov (.t 1)⟩, ⟨(some 27), none, .un .neg (.t 26)⟩, ⟨(some 28), none, .bi .max [(.t 25), (.t 27)]⟩, ⟨(some 29), none, .conv (.int .u64) (.t 28)⟩, ⟨(some 30), none, .call 175 [(.t 24), (.t 29)]⟩, ⟨(some 31), none, .faddr 1 (.t 5)⟩, ⟨none, none, .store 2 (.t 31) (.t 30)⟩])
 (.seq (.ops [⟨(some 32), none, .load true 3 (.t 5)⟩, ⟨none, none, .store 3 (.t 4) (.t 32)⟩])
 .ret))))⟩
/-- (furlong/geom.product).compare -/
def v184 : VFun := ⟨2, [(.tmp 4)], (.seq (.ops [⟨(some 2), none, .box 249 (.t 0)⟩, ⟨(some 3), none, .box 249 (.t 1)⟩, ⟨(some 4), none, .mov (.c (.int .i64 0))⟩])
 (.seq (.block 0 (.seq (.ops [⟨(some 6), none, .faddr 0 (.t 2)⟩, ⟨(some 7), none, .load false 1 (.t 6)⟩, ⟨(some 8), none, .mov (.t 7)⟩, ⟨(some 9), (some (8, true)), .faddr 0 (.t 3)⟩, ⟨(some 10), (some (8, true)), .load false 1 (.t 9)⟩, ⟨(some 11), none, .pick (.t 8) (.t 10) (.c (.bool false))⟩, ⟨(some 5), none, .mov (.t 11)⟩])
 (.cond (.t 5) (.seq (.ops [⟨(some 12), none, .faddr 1 (.t 3)⟩, ⟨(some 13), none, .load true 2 (.t 12)⟩, ⟨(some 14), none, .faddr 1 (.t 2)⟩, ⟨(some 15), none, .load true 2 (.t 14)⟩, ⟨(some 16), none, .call 146 [(.t 13), (.t 15)]⟩, ⟨(some 4), none, .mov (.t 16)⟩])
 .ret) (.seq (.ops [⟨(some 18), none, .faddr 0 (.t 2)⟩, ⟨(some 19), none, .load false 1 (.t 18)⟩, ⟨(some 17), none, .mov (.t 19)⟩])
 (.cond (.t 17) (.seq (.ops [⟨(some 4), none, .mov (.c (.int .i64 (-1)))⟩])
 .ret) (.seq (.ops [⟨(some 21), none, .faddr 0 (.t 3)⟩, ⟨(some 22), none, .load false 1 (.t 21)⟩, ⟨(some 20), none, .mov (.t 22)⟩])
 (.cond (.t 20) (.seq (.ops [⟨(some 4), none, .mov (.c (.int .i64 1))⟩])
 .ret) .skip)))))))
 (.seq (.ops [⟨(some 23), none, .faddr 1 (.t 2)⟩, ⟨(some 24), none, .load true 2 (.t 23)⟩, ⟨(some 25), none, .faddr 1 (.t 3)⟩, ⟨(some 26), none, .load true 2 (.t 25)⟩, ⟨(some 27), none, .call 146 [(.t 24), (.t 26)]⟩, ⟨(some 4), none, .mov (.t 27)⟩])
 .ret)))⟩
def b186_0 : VCode := (.seq (.seq (.drawn [⟨(some 18), none, .mov (.t 9)⟩, ⟨(some 19), none, .mov (.t 1)⟩, ⟨(some 20), none, .bin .gtr (.t 18) (.t 19)⟩, ⟨(some 21), none, .mov (.t 20)⟩, ⟨(some 22), (some (21, true)), .mov (.t 3)⟩, ⟨(some 23), (some (21, true)), .mov (.t 0)⟩, ⟨(some 24), (some (21, true)), .mov (.t 9)⟩, ⟨(some 25), (some (21, true)), .iaddr 6 none (.t 23) (.t 24)⟩, ⟨(some 26), (some (21, true)), .load true 6 (.t 25)⟩, ⟨(some 27), (some (21, true)), .mov (.t 0)⟩, ⟨(some 28), (some (21, true)), .mov (.t 9)⟩, ⟨(some 29), (some (21, true)), .bin .sub (.t 28) (.c (.int .i64 1))⟩, ⟨(some 30), (some (21, true)), .iaddr 6 none (.t 27) (.t 29)⟩, ⟨(some 31), (some (21, true)), .load true 6 (.t 30)⟩, ⟨(some 32), (some (21, true)), .callv (.t 22) [(.t 26), (.t 31)]⟩, ⟨(some 33), (some (21, true)), .bin .lss (.t 32) (.c (.int .i64 0))⟩, ⟨(some 34), none, .pick (.t 21) (.t 33) (.c (.bool false))⟩] [])
 (.cond (.t 34) .skip (.exit 2)))
 (.seq (.block 3 (.drawn [⟨(some 37), none, .mov (.t 0)⟩, ⟨(some 38), none, .mov (.t 9)⟩, ⟨(some 39), none, .mov (.t 0)⟩, ⟨(some 40), none, .mov (.t 9)⟩, ⟨(some 41), none, .bin .sub (.t 40) (.c (.int .i64 1))⟩, ⟨(some 42), none, .mov (.t 0)⟩, ⟨(some 43), none, .mov (.t 9)⟩, ⟨(some 44), none, .bin .sub (.t 43) (.c (.int .i64 1))⟩, ⟨(some 45), none, .iaddr 6 none (.t 42) (.t 44)⟩, ⟨(some 46), none, .load true 6 (.t 45)⟩, ⟨(some 47), none, .mov (.t 0)⟩, ⟨(some 48), none, .mov (.t 9)⟩, ⟨(some 49), none, .iaddr 6 none (.t 47) (.t 48)⟩, ⟨(some 50), none, .load true 6 (.t 49)⟩, ⟨(some 51), none, .iaddr 6 none (.t 37) (.t 38)⟩, ⟨none, none, .store 6 (.t 51) (.t 46)⟩, ⟨(some 52), none, .iaddr 6 none (.t 39) (.t 41)⟩, ⟨none, none, .store 6 (.t 52) (.t 50)⟩] []))
 (.ops [⟨(some 35), none, .mov (.t 9)⟩, ⟨(some 36), none, .bin .sub (.t 35) (.c (.int .i64 1))⟩, ⟨(some 9), none, .mov (.t 36)⟩])))
def b186_1 : VCode := (.seq (.seq (.ops [⟨(some 12), none, .mov (.t 8)⟩, ⟨(some 13), none, .mov (.t 2)⟩, ⟨(some 14), none, .bin .lss (.t 12) (.t 13)⟩])
 (.cond (.t 14) .skip (.exit 0)))
 (.seq (.block 1 (.seq (.ops [⟨(some 17), none, .mov (.t 8)⟩, ⟨(some 9), none, .mov (.t 17)⟩])
 (.block 2 (.loop b186_0))))
 (.ops [⟨(some 15), none, .mov (.t 8)⟩, ⟨(some 16), none, .bin .add (.t 15) (.c (.int .i64 1))⟩, ⟨(some 8), none, .mov (.t 16)⟩])))
/-- slices.insertionSortCmpFunc[furlong/index.far] -/
def v186 : VFun := ⟨4, [], (.seq (.ops [⟨(some 10), none, .mov (.t 1)⟩, ⟨(some 11), none, .bin .add (.t 10) (.c (.int .i64 1))⟩, ⟨(some 8), none, .mov (.t 11)⟩])
 (.block 0 (.loop b186_1)))⟩
def b187_0 : VCode := (.seq (.seq (.ops [⟨(some 20), none, .mov (.t 11)⟩, ⟨(some 21), none, .bin .geq (.t 20) (.c (.int .i64 0))⟩])
 (.cond (.t 21) .skip (.exit 0)))
 (.seq (.block 1 (.ops [⟨(some 24), none, .mov (.t 0)⟩, ⟨(some 25), none, .mov (.t 11)⟩, ⟨(some 26), none, .mov (.t 10)⟩, ⟨(some 27), none, .mov (.t 8)⟩, ⟨(some 28), none, .mov (.t 3)⟩, ⟨(some 29), none, .call 199 [(.t 24), (.t 25), (.t 26), (.t 27), (.t 28)]⟩]))
 (.ops [⟨(some 22), none, .mov (.t 11)⟩, ⟨(some 23), none, .bin .sub (.t 22) (.c (.int .i64 1))⟩, ⟨(some 11), none, .mov (.t 23)⟩])))
def b187_1 : VCode := (.seq (.seq (.ops [⟨(some 32), none, .mov (.t 12)⟩, ⟨(some 33), none, .bin .geq (.t 32) (.c (.int .i64 0))⟩])
 (.cond (.t 33) .skip (.exit 2)))
 (.seq (.block 3 (.seq (.drawn [⟨(some 36), none, .mov (.t 0)⟩, ⟨(some 37), none, .mov (.t 8)⟩, ⟨(some 38), none, .mov (.t 0)⟩, ⟨(some 39), none, .mov (.t 8)⟩, ⟨(some 40), none, .mov (.t 12)⟩, ⟨(some 41), none, .bin .add (.t 39) (.t 40)⟩, ⟨(some 42), none, .mov (.t 0)⟩, ⟨(some 43), none, .mov (.t 8)⟩, ⟨(some 44), none, .mov (.t 12)⟩, ⟨(some 45), none, .bin .add (.t 43) (.t 44)⟩, ⟨(some 46), none, .iaddr 6 none (.t 42) (.t 45)⟩, ⟨(some 47), none, .load true 6 (.t 46)⟩, ⟨(some 48), none, .mov (.t 0)⟩, ⟨(some 49), none, .mov (.t 8)⟩, ⟨(some 50), none, .iaddr 6 none (.t 48) (.t 49)⟩, ⟨(some 51), none, .load true 6 (.t 50)⟩, ⟨(some 52), none, .iaddr 6 none (.t 36) (.t 37)⟩, ⟨none, none, .store 6 (.t 52) (.t 47)⟩, ⟨(some 53), none, .iaddr 6 none (.t 38) (.t 41)⟩, ⟨none, none, .store 6 (.t 53) (.t 51)⟩] [])
 (.ops [⟨(some 54), none, .mov (.t 0)⟩, ⟨(some 55), none, .mov (.t 9)⟩, ⟨(some 56), none, .mov (.t 12)⟩, ⟨(some 57), none, .mov (.t 8)⟩, ⟨(some 58), none, .mov (.t 3)⟩, ⟨(some 59), none, .call 199 [(.t 54), (.t 55), (.t 56), (.t 57), (.t 58)]⟩])))
 (.ops [⟨(some 34), none, .mov (.t 12)⟩, ⟨(some 35), none, .bin .sub (.t 34) (.c (.int .i64 1))⟩, ⟨(some 12), none, .mov (.t 35)⟩])))
/-- slices.heapSortCmpFunc[furlong/index.far] -/
def v187 : VFun := ⟨4, [], (.seq (.ops [⟨(some 13), none, .mov (.t 1)⟩, ⟨(some 8), none, .mov (.t 13)⟩])
 (.seq (.ops [⟨(some 9), none, .mov (.c (.int .i64 0))⟩])
 (.seq (.ops [⟨(some 14), none, .mov (.t 2)⟩, ⟨(some 15), none, .mov (.t 1)⟩, ⟨(some 16), none, .bin .sub (.t 14) (.t 15)⟩, ⟨(some 10), none, .mov (.t 16)⟩])
 (.seq (.seq (.ops [⟨(some 17), none, .mov (.t 10)⟩, ⟨(some 18), none, .bin .sub (.t 17) (.c (.int .i64 1))⟩, ⟨(some 19), none, .bin .quo (.t 18) (.c (.int .i64 2))⟩, ⟨(some 11), none, .mov (.t 19)⟩])
 (.block 0 (.loop b187_0)))
 (.seq (.ops [⟨(some 30), none, .mov (.t 10)⟩, ⟨(some 31), none, .bin .sub (.t 30) (.c (.int .i64 1))⟩, ⟨(some 12), none, .mov (.t 31)⟩])
 (.block 2 (.loop b187_1)))))))⟩
def b188_0 : VCode := (.seq (.seq (.ops [⟨(some 28), none, .mov (.t 11)⟩, ⟨(some 29), none, .mov (.t 1)⟩, ⟨(some 30), none, .mov (.t 8)⟩, ⟨(some 31), none, .bin .quo (.t 30) (.c (.int .i64 4))⟩, ⟨(some 32), none, .bin .mul (.t 31) (.c (.int .i64 2))⟩, ⟨(some 33), none, .bin .add (.t 29) (.t 32)⟩, ⟨(some 34), none, .bin .add (.t 33) (.c (.int .i64 1))⟩, ⟨(some 35), none, .bin .leq (.t 28) (.t 34)⟩])
 (.cond (.t 35) .skip (.exit 0)))
 (.seq (.block 1 (.seq (.ops [⟨(some 38), none, .call 201 [(.t 9)]⟩, ⟨(some 39), none, .mov (.t 10)⟩, ⟨(some 40), none, .bin .sub (.t 39) (.c (.int .u64 1))⟩, ⟨(some 41), none, .bin .and (.t 38) (.t 40)⟩, ⟨(some 42), none, .conv (.int .i64) (.t 41)⟩, ⟨(some 12), none, .mov (.t 42)⟩])
 (.seq (.seq (.ops [⟨(some 43), none, .mov (.t 12)⟩, ⟨(some 44), none, .mov (.t 8)⟩, ⟨(some 45), none, .bin .geq (.t 43) (.t 44)⟩])
 (.cond (.t 45) (.ops [⟨(some 46), none, .mov (.t 12)⟩, ⟨(some 47), none, .mov (.t 8)⟩, ⟨(some 48), none, .bin .sub (.t 46) (.t 47)⟩, ⟨(some 12), none, .mov (.t 48)⟩]) .skip))
 (.drawn [⟨(some 49), none, .mov (.t 0)⟩, ⟨(some 50), none, .mov (.t 11)⟩, ⟨(some 51), none, .mov (.t 0)⟩, ⟨(some 52), none, .mov (.t 1)⟩, ⟨(some 53), none, .mov (.t 12)⟩, ⟨(some 54), none, .bin .add (.t 52) (.t 53)⟩, ⟨(some 55), none, .mov (.t 0)⟩, ⟨(some 56), none, .mov (.t 1)⟩, ⟨(some 57), none, .mov (.t 12)⟩, ⟨(some 58), none, .bin .add (.t 56) (.t 57)⟩, ⟨(some 59), none, .iaddr 6 none (.t 55) (.t 58)⟩, ⟨(some 60), none, .load true 6 (.t 59)⟩, ⟨(some 61), none, .mov (.t 0)⟩, ⟨(some 62), none, .mov (.t 11)⟩, ⟨(some 63), none, .iaddr 6 none (.t 61) (.t 62)⟩, ⟨(some 64), none, .load true 6 (.t 63)⟩, ⟨(some 65), none, .iaddr 6 none (.t 49) (.t 50)⟩, ⟨none, none, .store 6 (.t 65) (.t 60)⟩, ⟨(some 66), none, .iaddr 6 none (.t 51) (.t 54)⟩, ⟨none, none, .store 6 (.t 66) (.t 64)⟩] []))))
 (.ops [⟨(some 36), none, .mov (.t 11)⟩, ⟨(some 37), none, .bin .add (.t 36) (.c (.int .i64 1))⟩, ⟨(some 11), none, .mov (.t 37)⟩])))
/-- slices.breakPatternsCmpFunc[furlong/index.far] -/
def v188 : VFun := ⟨4, [], (.seq (.ops [⟨(some 13), none, .mov (.t 2)⟩, ⟨(some 14), none, .mov (.t 1)⟩, ⟨(some 15), none, .bin .sub (.t 13) (.t 14)⟩, ⟨(some 8), none, .mov (.t 15)⟩])
 (.seq (.ops [⟨(some 16), none, .mov (.t 8)⟩, ⟨(some 17), none, .bin .geq (.t 16) (.c (.int .i64 8))⟩])
 (.cond (.t 17) (.seq (.ops [⟨(some 18), none, .mov (.t 8)⟩, ⟨(some 19), none, .conv (.int .u64) (.t 18)⟩, ⟨(some 9), none, .alloc [(.int .u64 0)] 267⟩, ⟨none, none, .store 1 (.t 9) (.t 19)⟩])
 (.seq (.ops [⟨(some 20), none, .mov (.t 8)⟩, ⟨(some 21), none, .call 200 [(.t 20)]⟩, ⟨(some 10), none, .mov (.t 21)⟩])
 (.seq (.ops [⟨(some 22), none, .mov (.t 1)⟩, ⟨(some 23), none, .mov (.t 8)⟩, ⟨(some 24), none, .bin .quo (.t 23) (.c (.int .i64 4))⟩, ⟨(some 25), none, .bin .mul (.t 24) (.c (.int .i64 2))⟩, ⟨(some 26), none, .bin .add (.t 22) (.t 25)⟩, ⟨(some 27), none, .bin .sub (.t 26) (.c (.int .i64 1))⟩, ⟨(some 11), none, .mov (.t 27)⟩])
 (.block 0 (.loop b188_0))))) .skip)))⟩
/-- slices.choosePivotCmpFunc[furlong/index.far] -/
def v189 : VFun := ⟨4, [(.tmp 8), (.tmp 9)], (.seq (.ops [⟨(some 8), none, .mov (.c (.int .i64 0))⟩, ⟨(some 9), none, .mov (.c (.int .i64 0))⟩])
 (.seq (.ops [⟨(some 15), none, .mov (.t 2)⟩, ⟨(some 16), none, .mov (.t 1)⟩, ⟨(some 17), none, .bin .sub (.t 15) (.t 16)⟩, ⟨(some 10), none, .mov (.t 17)⟩])
 (.seq (.ops [⟨(some 11), none, .alloc [(.int .i64 0)] 3⟩])
 (.seq (.ops [⟨(some 18), none, .mov (.t 1)⟩, ⟨(some 19), none, .mov (.t 10)⟩, ⟨(some 20), none, .bin .quo (.t 19) (.c (.int .i64 4))⟩, ⟨(some 21), none, .bin .mul (.t 20) (.c (.int .i64 1))⟩, ⟨(some 22), none, .bin .add (.t 18) (.t 21)⟩, ⟨(some 12), none, .mov (.t 22)⟩])
 (.seq (.ops [⟨(some 23), none, .mov (.t 1)⟩, ⟨(some 24), none, .mov (.t 10)⟩, ⟨(some 25), none, .bin .quo (.t 24) (.c (.int .i64 4))⟩, ⟨(some 26), none, .bin .mul (.t 25) (.c (.int .i64 2))⟩, ⟨(some 27), none, .bin .add (.t 23) (.t 26)⟩, ⟨(some 13), none, .mov (.t 27)⟩])
 (.seq (.ops [⟨(some 28), none, .mov (.t 1)⟩, ⟨(some 29), none, .mov (.t 10)⟩, ⟨(some 30), none, .bin .quo (.t 29) (.c (.int .i64 4))⟩, ⟨(some 31), none, .bin .mul (.t 30) (.c (.int .i64 3))⟩, ⟨(some 32), none, .bin .add (.t 28) (.t 31)⟩, ⟨(some 14), none, .mov (.t 32)⟩])
 (.seq (.seq (.ops [⟨(some 33), none, .mov (.t 10)⟩, ⟨(some 34), none, .bin .geq (.t 33) (.c (.int .i64 8))⟩])
 (.cond (.t 34) (.seq (.seq (.ops [⟨(some 35), none, .mov (.t 10)⟩, ⟨(some 36), none, .bin .geq (.t 35) (.c (.int .i64 50))⟩])
 (.cond (.t 36) (.seq (.ops [⟨(some 37), none, .mov (.t 0)⟩, ⟨(some 38), none, .mov (.t 12)⟩, ⟨(some 39), none, .mov (.t 3)⟩, ⟨(some 40), none, .call 202 [(.t 37), (.t 38), (.t 11), (.t 39)]⟩, ⟨(some 12), none, .mov (.t 40)⟩])
 (.seq (.ops [⟨(some 41), none, .mov (.t 0)⟩, ⟨(some 42), none, .mov (.t 13)⟩, ⟨(some 43), none, .mov (.t 3)⟩, ⟨(some 44), none, .call 202 [(.t 41), (.t 42), (.t 11), (.t 43)]⟩, ⟨(some 13), none, .mov (.t 44)⟩])
 (.ops [⟨(some 45), none, .mov (.t 0)⟩, ⟨(some 46), none, .mov (.t 14)⟩, ⟨(some 47), none, .mov (.t 3)⟩, ⟨(some 48), none, .call 202 [(.t 45), (.t 46), (.t 11), (.t 47)]⟩, ⟨(some 14), none, .mov (.t 48)⟩]))) .skip))
 (.ops [⟨(some 49), none, .mov (.t 0)⟩, ⟨(some 50), none, .mov (.t 12)⟩, ⟨(some 51), none, .mov (.t 13)⟩, ⟨(some 52), none, .mov (.t 14)⟩, ⟨(some 53), none, .mov (.t 3)⟩, ⟨(some 54), none, .call 203 [(.t 49), (.t 50), (.t 51), (.t 52), (.t 11), (.t 53)]⟩, ⟨(some 13), none, .mov (.t 54)⟩])) .skip))
 (.seq (.ops [⟨(some 55), none, .load false 1 (.t 11)⟩])
 (.block 0 (.seq (.ops [⟨(some 58), none, .bin .eql (.t 55) (.c (.int .i64 0))⟩, ⟨(some 57), none, .mov (.t 58)⟩])
 (.cond (.t 57) (.seq (.ops [⟨(some 59), none, .mov (.t 13)⟩, ⟨(some 8), none, .mov (.t 59)⟩, ⟨(some 9), none, .mov (.c (.int .i64 1))⟩])
 .ret) (.seq (.ops [⟨(some 61), none, .bin .eql (.t 55) (.c (.int .i64 12))⟩, ⟨(some 60), none, .mov (.t 61)⟩])
 (.cond (.t 60) (.seq (.ops [⟨(some 62), none, .mov (.t 13)⟩, ⟨(some 8), none, .mov (.t 62)⟩, ⟨(some 9), none, .mov (.c (.int .i64 2))⟩])
 .ret) (.seq (.ops [⟨(some 56), none, .mov (.t 13)⟩, ⟨(some 8), none, .mov (.t 56)⟩, ⟨(some 9), none, .mov (.c (.int .i64 0))⟩])
 .ret))))))))))))))⟩
def b190_0 : VCode := (.seq (.seq (.ops [⟨(some 13), none, .mov (.t 8)⟩, ⟨(some 14), none, .mov (.t 9)⟩, ⟨(some 15), none, .bin .lss (.t 13) (.t 14)⟩])
 (.cond (.t 15) .skip (.exit 0)))
 (.block 1 (.seq (.drawn [⟨(some 16), none, .mov (.t 0)⟩, ⟨(some 17), none, .mov (.t 8)⟩, ⟨(some 18), none, .mov (.t 0)⟩, ⟨(some 19), none, .mov (.t 9)⟩, ⟨(some 20), none, .mov (.t 0)⟩, ⟨(some 21), none, .mov (.t 9)⟩, ⟨(some 22), none, .iaddr 6 none (.t 20) (.t 21)⟩, ⟨(some 23), none, .load true 6 (.t 22)⟩, ⟨(some 24), none, .mov (.t 0)⟩, ⟨(some 25), none, .mov (.t 8)⟩, ⟨(some 26), none, .iaddr 6 none (.t 24) (.t 25)⟩, ⟨(some 27), none, .load true 6 (.t 26)⟩, ⟨(some 28), none, .iaddr 6 none (.t 16) (.t 17)⟩, ⟨none, none, .store 6 (.t 28) (.t 23)⟩, ⟨(some 29), none, .iaddr 6 none (.t 18) (.t 19)⟩, ⟨none, none, .store 6 (.t 29) (.t 27)⟩] [])
 (.seq (.ops [⟨(some 30), none, .mov (.t 8)⟩, ⟨(some 31), none, .bin .add (.t 30) (.c (.int .i64 1))⟩, ⟨(some 8), none, .mov (.t 31)⟩])
 (.ops [⟨(some 32), none, .mov (.t 9)⟩, ⟨(some 33), none, .bin .sub (.t 32) (.c (.int .i64 1))⟩, ⟨(some 9), none, .mov (.t 33)⟩])))))
/-- slices.reverseRangeCmpFunc[furlong/index.far] -/
def v190 : VFun := ⟨4, [], (.seq (.ops [⟨(some 10), none, .mov (.t 1)⟩, ⟨(some 8), none, .mov (.t 10)⟩])
 (.seq (.ops [⟨(some 11), none, .mov (.t 2)⟩, ⟨(some 12), none, .bin .sub (.t 11) (.c (.int .i64 1))⟩, ⟨(some 9), none, .mov (.t 12)⟩])
 (.block 0 (.loop b190_0))))⟩
def b191_0 : VCode := (.seq (.seq (.drawn [⟨(some 19), none, .mov (.t 9)⟩, ⟨(some 20), none, .mov (.t 2)⟩, ⟨(some 21), none, .bin .lss (.t 19) (.t 20)⟩, ⟨(some 22), none, .mov (.t 21)⟩, ⟨(some 23), (some (22, true)), .mov (.t 3)⟩, ⟨(some 24), (some (22, true)), .mov (.t 0)⟩, ⟨(some 25), (some (22, true)), .mov (.t 9)⟩, ⟨(some 26), (some (22, true)), .iaddr 6 none (.t 24) (.t 25)⟩, ⟨(some 27), (some (22, true)), .load true 6 (.t 26)⟩, ⟨(some 28), (some (22, true)), .mov (.t 0)⟩, ⟨(some 29), (some (22, true)), .mov (.t 9)⟩, ⟨(some 30), (some (22, true)), .bin .sub (.t 29) (.c (.int .i64 1))⟩, ⟨(some 31), (some (22, true)), .iaddr 6 none (.t 28) (.t 30)⟩, ⟨(some 32), (some (22, true)), .load true 6 (.t 31)⟩, ⟨(some 33), (some (22, true)), .callv (.t 23) [(.t 27), (.t 32)]⟩, ⟨(some 34), (some (22, true)), .bin .lss (.t 33) (.c (.int .i64 0))⟩, ⟨(some 35), (some (22, true)), .un .not (.t 34)⟩, ⟨(some 36), none, .pick (.t 22) (.t 35) (.c (.bool false))⟩] [])
 (.cond (.t 36) .skip (.exit 2)))
 (.block 3 (.ops [⟨(some 37), none, .mov (.t 9)⟩, ⟨(some 38), none, .bin .add (.t 37) (.c (.int .i64 1))⟩, ⟨(some 9), none, .mov (.t 38)⟩])))
def b191_1 : VCode := (.seq (.seq (.ops [⟨(some 68), none, .mov (.t 11)⟩, ⟨(some 69), none, .bin .geq (.t 68) (.c (.int .i64 1))⟩])
 (.cond (.t 69) .skip (.exit 4)))
 (.seq (.block 5 (.seq (.seq (.drawn [⟨(some 72), none, .mov (.t 3)⟩, ⟨(some 73), none, .mov (.t 0)⟩, ⟨(some 74), none, .mov (.t 11)⟩, ⟨(some 75), none, .iaddr 6 none (.t 73) (.t 74)⟩, ⟨(some 76), none, .load true 6 (.t 75)⟩, ⟨(some 77), none, .mov (.t 0)⟩, ⟨(some 78), none, .mov (.t 11)⟩, ⟨(some 79), none, .bin .sub (.t 78) (.c (.int .i64 1))⟩, ⟨(some 80), none, .iaddr 6 none (.t 77) (.t 79)⟩, ⟨(some 81), none, .load true 6 (.t 80)⟩, ⟨(some 82), none, .callv (.t 72) [(.t 76), (.t 81)]⟩, ⟨(some 83), none, .bin .lss (.t 82) (.c (.int .i64 0))⟩, ⟨(some 84), none, .un .not (.t 83)⟩] [])
 (.cond (.t 84) (.exit 4) .skip))
 (.drawn [⟨(some 85), none, .mov (.t 0)⟩, ⟨(some 86), none, .mov (.t 11)⟩, ⟨(some 87), none, .mov (.t 0)⟩, ⟨(some 88), none, .mov (.t 11)⟩, ⟨(some 89), none, .bin .sub (.t 88) (.c (.int .i64 1))⟩, ⟨(some 90), none, .mov (.t 0)⟩, ⟨(some 91), none, .mov (.t 11)⟩, ⟨(some 92), none, .bin .sub (.t 91) (.c (.int .i64 1))⟩, ⟨(some 93), none, .iaddr 6 none (.t 90) (.t 92)⟩, ⟨(some 94), none, .load true 6 (.t 93)⟩, ⟨(some 95), none, .mov (.t 0)⟩, ⟨(some 96), none, .mov (.t 11)⟩, ⟨(some 97), none, .iaddr 6 none (.t 95) (.t 96)⟩, ⟨(some 98), none, .load true 6 (.t 97)⟩, ⟨(some 99), none, .iaddr 6 none (.t 85) (.t 86)⟩, ⟨none, none, .store 6 (.t 99) (.t 94)⟩, ⟨(some 100), none, .iaddr 6 none (.t 87) (.t 89)⟩, ⟨none, none, .store 6 (.t 100) (.t 98)⟩] [])))
 (.ops [⟨(some 70), none, .mov (.t 11)⟩, ⟨(some 71), none, .bin .sub (.t 70) (.c (.int .i64 1))⟩, ⟨(some 11), none, .mov (.t 71)⟩])))
def b191_2 : VCode := (.seq (.seq (.ops [⟨(some 107), none, .mov (.t 12)⟩, ⟨(some 108), none, .mov (.t 2)⟩, ⟨(some 109), none, .bin .lss (.t 107) (.t 108)⟩])
 (.cond (.t 109) .skip (.exit 6)))
 (.seq (.block 7 (.seq (.seq (.drawn [⟨(some 112), none, .mov (.t 3)⟩, ⟨(some 113), none, .mov (.t 0)⟩, ⟨(some 114), none, .mov (.t 12)⟩, ⟨(some 115), none, .iaddr 6 none (.t 113) (.t 114)⟩, ⟨(some 116), none, .load true 6 (.t 115)⟩, ⟨(some 117), none, .mov (.t 0)⟩, ⟨(some 118), none, .mov (.t 12)⟩, ⟨(some 119), none, .bin .sub (.t 118) (.c (.int .i64 1))⟩, ⟨(some 120), none, .iaddr 6 none (.t 117) (.t 119)⟩, ⟨(some 121), none, .load true 6 (.t 120)⟩, ⟨(some 122), none, .callv (.t 112) [(.t 116), (.t 121)]⟩, ⟨(some 123), none, .bin .lss (.t 122) (.c (.int .i64 0))⟩, ⟨(some 124), none, .un .not (.t 123)⟩] [])
 (.cond (.t 124) (.exit 6) .skip))
 (.drawn [⟨(some 125), none, .mov (.t 0)⟩, ⟨(some 126), none, .mov (.t 12)⟩, ⟨(some 127), none, .mov (.t 0)⟩, ⟨(some 128), none, .mov (.t 12)⟩, ⟨(some 129), none, .bin .sub (.t 128) (.c (.int .i64 1))⟩, ⟨(some 130), none, .mov (.t 0)⟩, ⟨(some 131), none, .mov (.t 12)⟩, ⟨(some 132), none, .bin .sub (.t 131) (.c (.int .i64 1))⟩, ⟨(some 133), none, .iaddr 6 none (.t 130) (.t 132)⟩, ⟨(some 134), none, .load true 6 (.t 133)⟩, ⟨(some 135), none, .mov (.t 0)⟩, ⟨(some 136), none, .mov (.t 12)⟩, ⟨(some 137), none, .iaddr 6 none (.t 135) (.t 136)⟩, ⟨(some 138), none, .load true 6 (.t 137)⟩, ⟨(some 139), none, .iaddr 6 none (.t 125) (.t 126)⟩, ⟨none, none, .store 6 (.t 139) (.t 134)⟩, ⟨(some 140), none, .iaddr 6 none (.t 127) (.t 129)⟩, ⟨none, none, .store 6 (.t 140) (.t 138)⟩] [])))
 (.ops [⟨(some 110), none, .mov (.t 12)⟩, ⟨(some 111), none, .bin .add (.t 110) (.c (.int .i64 1))⟩, ⟨(some 12), none, .mov (.t 111)⟩])))
def b191_3 : VCode := (.seq (.seq (.ops [⟨(some 15), none, .mov (.t 10)⟩, ⟨(some 16), none, .bin .lss (.t 15) (.c (.int .i64 5))⟩])
 (.cond (.t 16) .skip (.exit 0)))
 (.seq (.block 1 (.seq (.block 2 (.loop b191_0))
 (.seq (.seq (.ops [⟨(some 39), none, .mov (.t 9)⟩, ⟨(some 40), none, .mov (.t 2)⟩, ⟨(some 41), none, .bin .eql (.t 39) (.t 40)⟩])
 (.cond (.t 41) (.seq (.ops [⟨(some 8), none, .mov (.c (.bool true))⟩])
 .ret) .skip))
 (.seq (.seq (.ops [⟨(some 42), none, .mov (.t 2)⟩, ⟨(some 43), none, .mov (.t 1)⟩, ⟨(some 44), none, .bin .sub (.t 42) (.t 43)⟩, ⟨(some 45), none, .bin .lss (.t 44) (.c (.int .i64 50))⟩])
 (.cond (.t 45) (.seq (.ops [⟨(some 8), none, .mov (.c (.bool false))⟩])
 .ret) .skip))
 (.seq (.drawn [⟨(some 46), none, .mov (.t 0)⟩, ⟨(some 47), none, .mov (.t 9)⟩, ⟨(some 48), none, .mov (.t 0)⟩, ⟨(some 49), none, .mov (.t 9)⟩, ⟨(some 50), none, .bin .sub (.t 49) (.c (.int .i64 1))⟩, ⟨(some 51), none, .mov (.t 0)⟩, ⟨(some 52), none, .mov (.t 9)⟩, ⟨(some 53), none, .bin .sub (.t 52) (.c (.int .i64 1))⟩, ⟨(some 54), none, .iaddr 6 none (.t 51) (.t 53)⟩, ⟨(some 55), none, .load true 6 (.t 54)⟩, ⟨(some 56), none, .mov (.t 0)⟩, ⟨(some 57), none, .mov (.t 9)⟩, ⟨(some 58), none, .iaddr 6 none (.t 56) (.t 57)⟩, ⟨(some 59), none, .load true 6 (.t 58)⟩, ⟨(some 60), none, .iaddr 6 none (.t 46) (.t 47)⟩, ⟨none, none, .store 6 (.t 60) (.t 55)⟩, ⟨(some 61), none, .iaddr 6 none (.t 48) (.t 50)⟩, ⟨none, none, .store 6 (.t 61) (.t 59)⟩] [])
 (.seq (.seq (.ops [⟨(some 62), none, .mov (.t 9)⟩, ⟨(some 63), none, .mov (.t 1)⟩, ⟨(some 64), none, .bin .sub (.t 62) (.t 63)⟩, ⟨(some 65), none, .bin .geq (.t 64) (.c (.int .i64 2))⟩])
 (.cond (.t 65) (.seq (.ops [⟨(some 66), none, .mov (.t 9)⟩, ⟨(some 67), none, .bin .sub (.t 66) (.c (.int .i64 1))⟩, ⟨(some 11), none, .mov (.t 67)⟩])
 (.block 4 (.loop b191_1))) .skip))
 (.seq (.ops [⟨(some 101), none, .mov (.t 2)⟩, ⟨(some 102), none, .mov (.t 9)⟩, ⟨(some 103), none, .bin .sub (.t 101) (.t 102)⟩, ⟨(some 104), none, .bin .geq (.t 103) (.c (.int .i64 2))⟩])
 (.cond (.t 104) (.seq (.ops [⟨(some 105), none, .mov (.t 9)⟩, ⟨(some 106), none, .bin .add (.t 105) (.c (.int .i64 1))⟩, ⟨(some 12), none, .mov (.t 106)⟩])
 (.block 6 (.loop b191_2))) .skip))))))))
 (.ops [⟨(some 17), none, .mov (.t 10)⟩, ⟨(some 18), none, .bin .add (.t 17) (.c (.int .i64 1))⟩, ⟨(some 10), none, .mov (.t 18)⟩])))
/-- slices.partialInsertionSortCmpFunc[furlong/index.far] -/
def v191 : VFun := ⟨4, [(.tmp 8)], (.seq (.ops [⟨(some 8), none, .mov (.c (.bool false))⟩])
 (.seq (.ops [⟨(some 13), none, .mov (.t 1)⟩, ⟨(some 14), none, .bin .add (.t 13) (.c (.int .i64 1))⟩, ⟨(some 9), none, .mov (.t 14)⟩])
 (.seq (.seq (.ops [⟨(some 10), none, .mov (.c (.int .i64 0))⟩])
 (.block 0 (.loop b191_3)))
 (.seq (.ops [⟨(some 8), none, .mov (.c (.bool false))⟩])
 .ret))))⟩
def b192_0 : VCode := (.seq (.seq (.drawn [⟨(some 31), none, .mov (.t 11)⟩, ⟨(some 32), none, .mov (.t 12)⟩, ⟨(some 33), none, .bin .leq (.t 31) (.t 32)⟩, ⟨(some 34), none, .mov (.t 33)⟩, ⟨(some 35), (some (34, true)), .mov (.t 4)⟩, ⟨(some 36), (some (34, true)), .mov (.t 0)⟩, ⟨(some 37), (some (34, true)), .mov (.t 1)⟩, ⟨(some 38), (some (34, true)), .iaddr 6 none (.t 36) (.t 37)⟩, ⟨(some 39), (some (34, true)), .load true 6 (.t 38)⟩, ⟨(some 40), (some (34, true)), .mov (.t 0)⟩, ⟨(some 41), (some (34, true)), .mov (.t 11)⟩, ⟨(some 42), (some (34, true)), .iaddr 6 none (.t 40) (.t 41)⟩, ⟨(some 43), (some (34, true)), .load true 6 (.t 42)⟩, ⟨(some 44), (some (34, true)), .callv (.t 35) [(.t 39), (.t 43)]⟩, ⟨(some 45), (some (34, true)), .bin .lss (.t 44) (.c (.int .i64 0))⟩, ⟨(some 46), (some (34, true)), .un .not (.t 45)⟩, ⟨(some 47), none, .pick (.t 34) (.t 46) (.c (.bool false))⟩] [])
 (.cond (.t 47) .skip (.exit 2)))
 (.block 3 (.ops [⟨(some 48), none, .mov (.t 11)⟩, ⟨(some 49), none, .bin .add (.t 48) (.c (.int .i64 1))⟩, ⟨(some 11), none, .mov (.t 49)⟩])))
def b192_1 : VCode := (.seq (.seq (.drawn [⟨(some 50), none, .mov (.t 11)⟩, ⟨(some 51), none, .mov (.t 12)⟩, ⟨(some 52), none, .bin .leq (.t 50) (.t 51)⟩, ⟨(some 53), none, .mov (.t 52)⟩, ⟨(some 54), (some (53, true)), .mov (.t 4)⟩, ⟨(some 55), (some (53, true)), .mov (.t 0)⟩, ⟨(some 56), (some (53, true)), .mov (.t 1)⟩, ⟨(some 57), (some (53, true)), .iaddr 6 none (.t 55) (.t 56)⟩, ⟨(some 58), (some (53, true)), .load true 6 (.t 57)⟩, ⟨(some 59), (some (53, true)), .mov (.t 0)⟩, ⟨(some 60), (some (53, true)), .mov (.t 12)⟩, ⟨(some 61), (some (53, true)), .iaddr 6 none (.t 59) (.t 60)⟩, ⟨(some 62), (some (53, true)), .load true 6 (.t 61)⟩, ⟨(some 63), (some (53, true)), .callv (.t 54) [(.t 58), (.t 62)]⟩, ⟨(some 64), (some (53, true)), .bin .lss (.t 63) (.c (.int .i64 0))⟩, ⟨(some 65), none, .pick (.t 53) (.t 64) (.c (.bool false))⟩] [])
 (.cond (.t 65) .skip (.exit 4)))
 (.block 5 (.ops [⟨(some 66), none, .mov (.t 12)⟩, ⟨(some 67), none, .bin .sub (.t 66) (.c (.int .i64 1))⟩, ⟨(some 12), none, .mov (.t 67)⟩])))
def b192_2 : VCode := (.block 1 (.seq (.block 2 (.loop b192_0))
 (.seq (.block 4 (.loop b192_1))
 (.seq (.seq (.ops [⟨(some 68), none, .mov (.t 11)⟩, ⟨(some 69), none, .mov (.t 12)⟩, ⟨(some 70), none, .bin .gtr (.t 68) (.t 69)⟩])
 (.cond (.t 70) (.exit 0) .skip))
 (.seq (.drawn [⟨(some 71), none, .mov (.t 0)⟩, ⟨(some 72), none, .mov (.t 11)⟩, ⟨(some 73), none, .mov (.t 0)⟩, ⟨(some 74), none, .mov (.t 12)⟩, ⟨(some 75), none, .mov (.t 0)⟩, ⟨(some 76), none, .mov (.t 12)⟩, ⟨(some 77), none, .iaddr 6 none (.t 75) (.t 76)⟩, ⟨(some 78), none, .load true 6 (.t 77)⟩, ⟨(some 79), none, .mov (.t 0)⟩, ⟨(some 80), none, .mov (.t 11)⟩, ⟨(some 81), none, .iaddr 6 none (.t 79) (.t 80)⟩, ⟨(some 82), none, .load true 6 (.t 81)⟩, ⟨(some 83), none, .iaddr 6 none (.t 71) (.t 72)⟩, ⟨none, none, .store 6 (.t 83) (.t 78)⟩, ⟨(some 84), none, .iaddr 6 none (.t 73) (.t 74)⟩, ⟨none, none, .store 6 (.t 84) (.t 82)⟩] [])
 (.seq (.ops [⟨(some 85), none, .mov (.t 11)⟩, ⟨(some 86), none, .bin .add (.t 85) (.c (.int .i64 1))⟩, ⟨(some 11), none, .mov (.t 86)⟩])
 (.ops [⟨(some 87), none, .mov (.t 12)⟩, ⟨(some 88), none, .bin .sub (.t 87) (.c (.int .i64 1))⟩, ⟨(some 12), none, .mov (.t 88)⟩])))))))
/-- slices.partitionEqualCmpFunc[furlong/index.far] -/
def v192 : VFun := ⟨5, [(.tmp 10)], (.seq (.ops [⟨(some 10), none, .mov (.c (.int .i64 0))⟩])
 (.seq (.drawn [⟨(some 13), none, .mov (.t 0)⟩, ⟨(some 14), none, .mov (.t 1)⟩, ⟨(some 15), none, .mov (.t 0)⟩, ⟨(some 16), none, .mov (.t 3)⟩, ⟨(some 17), none, .mov (.t 0)⟩, ⟨(some 18), none, .mov (.t 3)⟩, ⟨(some 19), none, .iaddr 6 none (.t 17) (.t 18)⟩, ⟨(some 20), none, .load true 6 (.t 19)⟩, ⟨(some 21), none, .mov (.t 0)⟩, ⟨(some 22), none, .mov (.t 1)⟩, ⟨(some 23), none, .iaddr 6 none (.t 21) (.t 22)⟩, ⟨(some 24), none, .load true 6 (.t 23)⟩, ⟨(some 25), none, .iaddr 6 none (.t 13) (.t 14)⟩, ⟨none, none, .store 6 (.t 25) (.t 20)⟩, ⟨(some 26), none, .iaddr 6 none (.t 15) (.t 16)⟩, ⟨none, none, .store 6 (.t 26) (.t 24)⟩] [])
 (.seq (.ops [⟨(some 27), none, .mov (.t 1)⟩, ⟨(some 28), none, .bin .add (.t 27) (.c (.int .i64 1))⟩, ⟨(some 29), none, .mov (.t 2)⟩, ⟨(some 30), none, .bin .sub (.t 29) (.c (.int .i64 1))⟩, ⟨(some 11), none, .mov (.t 28)⟩, ⟨(some 12), none, .mov (.t 30)⟩])
 (.seq (.block 0 (.loop b192_2))
 (.seq (.ops [⟨(some 89), none, .mov (.t 11)⟩, ⟨(some 10), none, .mov (.t 89)⟩])
 .ret)))))⟩
def b193_0 : VCode := (.seq (.seq (.drawn [⟨(some 32), none, .mov (.t 12)⟩, ⟨(some 33), none, .mov (.t 13)⟩, ⟨(some 34), none, .bin .leq (.t 32) (.t 33)⟩, ⟨(some 35), none, .mov (.t 34)⟩, ⟨(some 36), (some (35, true)), .mov (.t 4)⟩, ⟨(some 37), (some (35, true)), .mov (.t 0)⟩, ⟨(some 38), (some (35, true)), .mov (.t 12)⟩, ⟨(some 39), (some (35, true)), .iaddr 6 none (.t 37) (.t 38)⟩, ⟨(some 40), (some (35, true)), .load true 6 (.t 39)⟩, ⟨(some 41), (some (35, true)), .mov (.t 0)⟩, ⟨(some 42), (some (35, true)), .mov (.t 1)⟩, ⟨(some 43), (some (35, true)), .iaddr 6 none (.t 41) (.t 42)⟩, ⟨(some 44), (some (35, true)), .load true 6 (.t 43)⟩, ⟨(some 45), (some (35, true)), .callv (.t 36) [(.t 40), (.t 44)]⟩, ⟨(some 46), (some (35, true)), .bin .lss (.t 45) (.c (.int .i64 0))⟩, ⟨(some 47), none, .pick (.t 35) (.t 46) (.c (.bool false))⟩] [])
 (.cond (.t 47) .skip (.exit 0)))
 (.block 1 (.ops [⟨(some 48), none, .mov (.t 12)⟩, ⟨(some 49), none, .bin .add (.t 48) (.c (.int .i64 1))⟩, ⟨(some 12), none, .mov (.t 49)⟩])))
def b193_1 : VCode := (.seq (.seq (.drawn [⟨(some 50), none, .mov (.t 12)⟩, ⟨(some 51), none, .mov (.t 13)⟩, ⟨(some 52), none, .bin .leq (.t 50) (.t 51)⟩, ⟨(some 53), none, .mov (.t 52)⟩, ⟨(some 54), (some (53, true)), .mov (.t 4)⟩, ⟨(some 55), (some (53, true)), .mov (.t 0)⟩, ⟨(some 56), (some (53, true)), .mov (.t 13)⟩, ⟨(some 57), (some (53, true)), .iaddr 6 none (.t 55) (.t 56)⟩, ⟨(some 58), (some (53, true)), .load true 6 (.t 57)⟩, ⟨(some 59), (some (53, true)), .mov (.t 0)⟩, ⟨(some 60), (some (53, true)), .mov (.t 1)⟩, ⟨(some 61), (some (53, true)), .iaddr 6 none (.t 59) (.t 60)⟩, ⟨(some 62), (some (53, true)), .load true 6 (.t 61)⟩, ⟨(some 63), (some (53, true)), .callv (.t 54) [(.t 58), (.t 62)]⟩, ⟨(some 64), (some (53, true)), .bin .lss (.t 63) (.c (.int .i64 0))⟩, ⟨(some 65), (some (53, true)), .un .not (.t 64)⟩, ⟨(some 66), none, .pick (.t 53) (.t 65) (.c (.bool false))⟩] [])
 (.cond (.t 66) .skip (.exit 2)))
 (.block 3 (.ops [⟨(some 67), none, .mov (.t 13)⟩, ⟨(some 68), none, .bin .sub (.t 67) (.c (.int .i64 1))⟩, ⟨(some 13), none, .mov (.t 68)⟩])))
def b193_2 : VCode := (.seq (.seq (.drawn [⟨(some 105), none, .mov (.t 12)⟩, ⟨(some 106), none, .mov (.t 13)⟩, ⟨(some 107), none, .bin .leq (.t 105) (.t 106)⟩, ⟨(some 108), none, .mov (.t 107)⟩, ⟨(some 109), (some (108, true)), .mov (.t 4)⟩, ⟨(some 110), (some (108, true)), .mov (.t 0)⟩, ⟨(some 111), (some (108, true)), .mov (.t 12)⟩, ⟨(some 112), (some (108, true)), .iaddr 6 none (.t 110) (.t 111)⟩, ⟨(some 113), (some (108, true)), .load true 6 (.t 112)⟩, ⟨(some 114), (some (108, true)), .mov (.t 0)⟩, ⟨(some 115), (some (108, true)), .mov (.t 1)⟩, ⟨(some 116), (some (108, true)), .iaddr 6 none (.t 114) (.t 115)⟩, ⟨(some 117), (some (108, true)), .load true 6 (.t 116)⟩, ⟨(some 118), (some (108, true)), .callv (.t 109) [(.t 113), (.t 117)]⟩, ⟨(some 119), (some (108, true)), .bin .lss (.t 118) (.c (.int .i64 0))⟩, ⟨(some 120), none, .pick (.t 108) (.t 119) (.c (.bool false))⟩] [])
 (.cond (.t 120) .skip (.exit 6)))
 (.block 7 (.ops [⟨(some 121), none, .mov (.t 12)⟩, ⟨(some 122), none, .bin .add (.t 121) (.c (.int .i64 1))⟩, ⟨(some 12), none, .mov (.t 122)⟩])))
def b193_3 : VCode := (.seq (.seq (.drawn [⟨(some 123), none, .mov (.t 12)⟩, ⟨(some 124), none, .mov (.t 13)⟩, ⟨(some 125), none, .bin .leq (.t 123) (.t 124)⟩, ⟨(some 126), none, .mov (.t 125)⟩, ⟨(some 127), (some (126, true)), .mov (.t 4)⟩, ⟨(some 128), (some (126, true)), .mov (.t 0)⟩, ⟨(some 129), (some (126, true)), .mov (.t 13)⟩, ⟨(some 130), (some (126, true)), .iaddr 6 none (.t 128) (.t 129)⟩, ⟨(some 131), (some (126, true)), .load true 6 (.t 130)⟩, ⟨(some 132), (some (126, true)), .mov (.t 0)⟩, ⟨(some 133), (some (126, true)), .mov (.t 1)⟩, ⟨(some 134), (some (126, true)), .iaddr 6 none (.t 132) (.t 133)⟩, ⟨(some 135), (some (126, true)), .load true 6 (.t 134)⟩, ⟨(some 136), (some (126, true)), .callv (.t 127) [(.t 131), (.t 135)]⟩, ⟨(some 137), (some (126, true)), .bin .lss (.t 136) (.c (.int .i64 0))⟩, ⟨(some 138), (some (126, true)), .un .not (.t 137)⟩, ⟨(some 139), none, .pick (.t 126) (.t 138) (.c (.bool false))⟩] [])
 (.cond (.t 139) .skip (.exit 8)))
 (.block 9 (.ops [⟨(some 140), none, .mov (.t 13)⟩, ⟨(some 141), none, .bin .sub (.t 140) (.c (.int .i64 1))⟩, ⟨(some 13), none, .mov (.t 141)⟩])))
def b193_4 : VCode := (.block 5 (.seq (.block 6 (.loop b193_2))
 (.seq (.block 8 (.loop b193_3))
 (.seq (.seq (.ops [⟨(some 142), none, .mov (.t 12)⟩, ⟨(some 143), none, .mov (.t 13)⟩, ⟨(some 144), none, .bin .gtr (.t 142) (.t 143)⟩])
 (.cond (.t 144) (.exit 4) .skip))
 (.seq (.drawn [⟨(some 145), none, .mov (.t 0)⟩, ⟨(some 146), none, .mov (.t 12)⟩, ⟨(some 147), none, .mov (.t 0)⟩, ⟨(some 148), none, .mov (.t 13)⟩, ⟨(some 149), none, .mov (.t 0)⟩, ⟨(some 150), none, .mov (.t 13)⟩, ⟨(some 151), none, .iaddr 6 none (.t 149) (.t 150)⟩, ⟨(some 152), none, .load true 6 (.t 151)⟩, ⟨(some 153), none, .mov (.t 0)⟩, ⟨(some 154), none, .mov (.t 12)⟩, ⟨(some 155), none, .iaddr 6 none (.t 153) (.t 154)⟩, ⟨(some 156), none, .load true 6 (.t 155)⟩, ⟨(some 157), none, .iaddr 6 none (.t 145) (.t 146)⟩, ⟨none, none, .store 6 (.t 157) (.t 152)⟩, ⟨(some 158), none, .iaddr 6 none (.t 147) (.t 148)⟩, ⟨none, none, .store 6 (.t 158) (.t 156)⟩] [])
 (.seq (.ops [⟨(some 159), none, .mov (.t 12)⟩, ⟨(some 160), none, .bin .add (.t 159) (.c (.int .i64 1))⟩, ⟨(some 12), none, .mov (.t 160)⟩])
 (.ops [⟨(some 161), none, .mov (.t 13)⟩, ⟨(some 162), none, .bin .sub (.t 161) (.c (.int .i64 1))⟩, ⟨(some 13), none, .mov (.t 162)⟩])))))))
/-- slices.partitionCmpFunc[furlong/index.far] -/
def v193 : VFun := ⟨5, [(.tmp 10), (.tmp 11)], (.seq (.ops [⟨(some 10), none, .mov (.c (.int .i64 0))⟩, ⟨(some 11), none, .mov (.c (.bool false))⟩])
 (.seq (.drawn [⟨(some 14), none, .mov (.t 0)⟩, ⟨(some 15), none, .mov (.t 1)⟩, ⟨(some 16), none, .mov (.t 0)⟩, ⟨(some 17), none, .mov (.t 3)⟩, ⟨(some 18), none, .mov (.t 0)⟩, ⟨(some 19), none, .mov (.t 3)⟩, ⟨(some 20), none, .iaddr 6 none (.t 18) (.t 19)⟩, ⟨(some 21), none, .load true 6 (.t 20)⟩, ⟨(some 22), none, .mov (.t 0)⟩, ⟨(some 23), none, .mov (.t 1)⟩, ⟨(some 24), none, .iaddr 6 none (.t 22) (.t 23)⟩, ⟨(some 25), none, .load true 6 (.t 24)⟩, ⟨(some 26), none, .iaddr 6 none (.t 14) (.t 15)⟩, ⟨none, none, .store 6 (.t 26) (.t 21)⟩, ⟨(some 27), none, .iaddr 6 none (.t 16) (.t 17)⟩, ⟨none, none, .store 6 (.t 27) (.t 25)⟩] [])
 (.seq (.ops [⟨(some 28), none, .mov (.t 1)⟩, ⟨(some 29), none, .bin .add (.t 28) (.c (.int .i64 1))⟩, ⟨(some 30), none, .mov (.t 2)⟩, ⟨(some 31), none, .bin .sub (.t 30) (.c (.int .i64 1))⟩, ⟨(some 12), none, .mov (.t 29)⟩, ⟨(some 13), none, .mov (.t 31)⟩])
 (.seq (.block 0 (.loop b193_0))
 (.seq (.block 2 (.loop b193_1))
 (.seq (.seq (.ops [⟨(some 69), none, .mov (.t 12)⟩, ⟨(some 70), none, .mov (.t 13)⟩, ⟨(some 71), none, .bin .gtr (.t 69) (.t 70)⟩])
 (.cond (.t 71) (.seq (.drawn [⟨(some 72), none, .mov (.t 0)⟩, ⟨(some 73), none, .mov (.t 13)⟩, ⟨(some 74), none, .mov (.t 0)⟩, ⟨(some 75), none, .mov (.t 1)⟩, ⟨(some 76), none, .mov (.t 0)⟩, ⟨(some 77), none, .mov (.t 1)⟩, ⟨(some 78), none, .iaddr 6 none (.t 76) (.t 77)⟩, ⟨(some 79), none, .load true 6 (.t 78)⟩, ⟨(some 80), none, .mov (.t 0)⟩, ⟨(some 81), none, .mov (.t 13)⟩, ⟨(some 82), none, .iaddr 6 none (.t 80) (.t 81)⟩, ⟨(some 83), none, .load true 6 (.t 82)⟩, ⟨(some 84), none, .iaddr 6 none (.t 72) (.t 73)⟩, ⟨none, none, .store 6 (.t 84) (.t 79)⟩, ⟨(some 85), none, .iaddr 6 none (.t 74) (.t 75)⟩, ⟨none, none, .store 6 (.t 85) (.t 83)⟩] [])
 (.seq (.ops [⟨(some 86), none, .mov (.t 13)⟩, ⟨(some 10), none, .mov (.t 86)⟩, ⟨(some 11), none, .mov (.c (.bool true))⟩])
 .ret)) .skip))
 (.seq (.drawn [⟨(some 87), none, .mov (.t 0)⟩, ⟨(some 88), none, .mov (.t 12)⟩, ⟨(some 89), none, .mov (.t 0)⟩, ⟨(some 90), none, .mov (.t 13)⟩, ⟨(some 91), none, .mov (.t 0)⟩, ⟨(some 92), none, .mov (.t 13)⟩, ⟨(some 93), none, .iaddr 6 none (.t 91) (.t 92)⟩, ⟨(some 94), none, .load true 6 (.t 93)⟩, ⟨(some 95), none, .mov (.t 0)⟩, ⟨(some 96), none, .mov (.t 12)⟩, ⟨(some 97), none, .iaddr 6 none (.t 95) (.t 96)⟩, ⟨(some 98), none, .load true 6 (.t 97)⟩, ⟨(some 99), none, .iaddr 6 none (.t 87) (.t 88)⟩, ⟨none, none, .store 6 (.t 99) (.t 94)⟩, ⟨(some 100), none, .iaddr 6 none (.t 89) (.t 90)⟩, ⟨none, none, .store 6 (.t 100) (.t 98)⟩] [])
 (.seq (.ops [⟨(some 101), none, .mov (.t 12)⟩, ⟨(some 102), none, .bin .add (.t 101) (.c (.int .i64 1))⟩, ⟨(some 12), none, .mov (.t 102)⟩])
 (.seq (.ops [⟨(some 103), none, .mov (.t 13)⟩, ⟨(some 104), none, .bin .sub (.t 103) (.c (.int .i64 1))⟩, ⟨(some 13), none, .mov (.t 104)⟩])
 (.seq (.block 4 (.loop b193_4))
 (.seq (.drawn [⟨(some 163), none, .mov (.t 0)⟩, ⟨(some 164), none, .mov (.t 13)⟩, ⟨(some 165), none, .mov (.t 0)⟩, ⟨(some 166), none, .mov (.t 1)⟩, ⟨(some 167), none, .mov (.t 0)⟩, ⟨(some 168), none, .mov (.t 1)⟩, ⟨(some 169), none, .iaddr 6 none (.t 167) (.t 168)⟩, ⟨(some 170), none, .load true 6 (.t 169)⟩, ⟨(some 171), none, .mov (.t 0)⟩, ⟨(some 172), none, .mov (.t 13)⟩, ⟨(some 173), none, .iaddr 6 none (.t 171) (.t 172)⟩, ⟨(some 174), none, .load true 6 (.t 173)⟩, ⟨(some 175), none, .iaddr 6 none (.t 163) (.t 164)⟩, ⟨none, none, .store 6 (.t 175) (.t 170)⟩, ⟨(some 176), none, .iaddr 6 none (.t 165) (.t 166)⟩, ⟨none, none, .store 6 (.t 176) (.t 174)⟩] [])
 (.seq (.ops [⟨(some 177), none, .mov (.t 13)⟩, ⟨(some 10), none, .mov (.t 177)⟩, ⟨(some 11), none, .mov (.c (.bool false))⟩])
 .ret))))))))))))⟩
/-- math/bits.Len32 -/
def v194 : VFun := ⟨1, [(.tmp 2)], (.seq (.ops [⟨(some 2), none, .mov (.c (.int .i64 0))⟩])
 (.seq (.seq (.ops [⟨(some 3), none, .mov (.t 0)⟩, ⟨(some 4), none, .bin .geq (.t 3) (.c (.int .u32 65536))⟩])
 (.cond (.t 4) (.seq (.ops [⟨(some 5), none, .mov (.t 0)⟩, ⟨(some 6), none, .bin .shr (.t 5) (.c (.int .u64 16))⟩, ⟨(some 0), none, .mov (.t 6)⟩])
 (.ops [⟨(some 2), none, .mov (.c (.int .i64 16))⟩])) .skip))
 (.seq (.seq (.ops [⟨(some 7), none, .mov (.t 0)⟩, ⟨(some 8), none, .bin .geq (.t 7) (.c (.int .u32 256))⟩])
 (.cond (.t 8) (.seq (.ops [⟨(some 9), none, .mov (.t 0)⟩, ⟨(some 10), none, .bin .shr (.t 9) (.c (.int .u64 8))⟩, ⟨(some 0), none, .mov (.t 10)⟩])
 (.ops [⟨(some 11), none, .mov (.t 2)⟩, ⟨(some 12), none, .bin .add (.t 11) (.c (.int .i64 8))⟩, ⟨(some 2), none, .mov (.t 12)⟩])) .skip))
 (.seq (.ops [⟨(some 13), none, .mov (.t 2)⟩, ⟨(some 14), none, .mov (.t 0)⟩, ⟨(some 15), none, .conv (.int .u8) (.t 14)⟩, ⟨(some 16), none, .indexS (.c (.str [0, 1, 2, 2, 3, 3, 3, 3, 4, 4, 4, 4, 4, 4, 4, 4, 5, 5, 5, 5, 5, 5, 5, 5, 5, 5, 5, 5, 5, 5, 5, 5, 6, 6, 6, 6, 6, 6, 6, 6, 6, 6, 6, 6, 6, 6, 6, 6, 6, 6, 6, 6, 6, 6, 6, 6, 6, 6, 6, 6, 6, 6, 6, 6, 7, 7, 7, 7, 7, 7, 7, 7, 7, 7, 7, 7, 7, 7, 7, 7, 7, 7, 7, 7, 7, 7, 7, 7, 7, 7, 7, 7, 7, 7, 7, 7, 7, 7, 7, 7, 7, 7, 7, 7, 7, 7, 7, 7, 7, 7, 7, 7, 7, 7, 7, 7, 7, 7, 7, 7, 7, 7, 7, 7, 7, 7, 7, 7, 8, 8, 8, 8, 8, 8, 8, 8, 8, 8, 8, 8, 8, 8, 8, 8, 8, 8, 8, 8, 8, 8, 8, 8, 8, 8, 8, 8, 8, 8, 8, 8, 8, 8, 8, 8, 8, 8, 8, 8, 8, 8, 8, 8, 8, 8, 8, 8, 8, 8, 8, 8, 8, 8, 8, 8, 8, 8, 8, 8, 8, 8, 8, 8, 8, 8, 8, 8, 8, 8, 8, 8, 8, 8, 8, 8, 8, 8, 8, 8, 8, 8, 8, 8, 8, 8, 8, 8, 8, 8, 8, 8, 8, 8, 8, 8, 8, 8, 8, 8, 8, 8, 8, 8, 8, 8, 8, 8, 8, 8, 8, 8, 8, 8, 8, 8, 8, 8, 8, 8, 8, 8, 8, 8, 8, 8, 8, 8])) (.t 15)⟩, ⟨(some 17), none, .conv (.int .i64) (.t 16)⟩, ⟨(some 18), none, .bin .add (.t 13) (.t 17)⟩, ⟨(some 2), none, .mov (.t 18)⟩])
 .ret))))⟩
/-- math/bits.Len64 -/
def v195 : VFun := ⟨1, [(.tmp 2)], (.seq (.ops [⟨(some 2), none, .mov (.c (.int .i64 0))⟩])
 (.seq (.seq (.ops [⟨(some 3), none, .mov (.t 0)⟩, ⟨(some 4), none, .bin .geq (.t 3) (.c (.int .u64 4294967296))⟩])
 (.cond (.t 4) (.seq (.ops [⟨(some 5), none, .mov (.t 0)⟩, ⟨(some 6), none, .bin .shr (.t 5) (.c (.int .u64 32))⟩, ⟨(some 0), none, .mov (.t 6)⟩])
 (.ops [⟨(some 2), none, .mov (.c (.int .i64 32))⟩])) .skip))
 (.seq (.seq (.ops [⟨(some 7), none, .mov (.t 0)⟩, ⟨(some 8), none, .bin .geq (.t 7) (.c (.int .u64 65536))⟩])
 (.cond (.t 8) (.seq (.ops [⟨(some 9), none, .mov (.t 0)⟩, ⟨(some 10), none, .bin .shr (.t 9) (.c (.int .u64 16))⟩, ⟨(some 0), none, .mov (.t 10)⟩])
 (.ops [⟨(some 11), none, .mov (.t 2)⟩, ⟨(some 12), none, .bin .add (.t 11) (.c (.int .i64 16))⟩, ⟨(some 2), none, .mov (.t 12)⟩])) .skip))
 (.seq (.seq (.ops [⟨(some 13), none, .mov (.t 0)⟩, ⟨(some 14), none, .bin .geq (.t 13) (.c (.int .u64 256))⟩])
 (.cond (.t 14) (.seq (.ops [⟨(some 15), none, .mov (.t 0)⟩, ⟨(some 16), none, .bin .shr (.t 15) (.c (.int .u64 8))⟩, ⟨(some 0), none, .mov (.t 16)⟩])
 (.ops [⟨(some 17), none, .mov (.t 2)⟩, ⟨(some 18), none, .bin .add (.t 17) (.c (.int .i64 8))⟩, ⟨(some 2), none, .mov (.t 18)⟩])) .skip))
 (.seq (.ops [⟨(some 19), none, .mov (.t 2)⟩, ⟨(some 20), none, .mov (.t 0)⟩, ⟨(some 21), none, .conv (.int .u8) (.t 20)⟩, ⟨(some 22), none, .indexS (.c (.str [0, 1, 2, 2, 3, 3, 3, 3, 4, 4, 4, 4, 4, 4, 4, 4, 5, 5, 5, 5, 5, 5, 5, 5, 5, 5, 5, 5, 5, 5, 5, 5, 6, 6, 6, 6, 6, 6, 6, 6, 6, 6, 6, 6, 6, 6, 6, 6, 6, 6, 6, 6, 6, 6, 6, 6, 6, 6, 6, 6, 6, 6, 6, 6, 7, 7, 7, 7, 7, 7, 7, 7, 7, 7, 7, 7, 7, 7, 7, 7, 7, 7, 7, 7, 7, 7, 7, 7, 7, 7, 7, 7, 7, 7, 7, 7, 7, 7, 7, 7, 7, 7, 7, 7, 7, 7, 7, 7, 7, 7, 7, 7, 7, 7, 7, 7, 7, 7, 7, 7, 7, 7, 7, 7, 7, 7, 7, 7, 8, 8, 8, 8, 8, 8, 8, 8, 8, 8, 8, 8, 8, 8, 8, 8, 8, 8, 8, 8, 8, 8, 8, 8, 8, 8, 8, 8, 8, 8, 8, 8, 8, 8, 8, 8, 8, 8, 8, 8, 8, 8, 8, 8, 8, 8, 8, 8, 8, 8, 8, 8, 8, 8, 8, 8, 8, 8, 8, 8, 8, 8, 8, 8, 8, 8, 8, 8, 8, 8, 8, 8, 8, 8, 8, 8, 8, 8, 8, 8, 8, 8, 8, 8, 8, 8, 8, 8, 8, 8, 8, 8, 8, 8, 8, 8, 8, 8, 8, 8, 8, 8, 8, 8, 8, 8, 8, 8, 8, 8, 8, 8, 8, 8, 8, 8, 8, 8, 8, 8, 8, 8, 8, 8, 8, 8, 8, 8])) (.t 21)⟩, ⟨(some 23), none, .conv (.int .i64) (.t 22)⟩, ⟨(some 24), none, .bin .add (.t 19) (.t 23)⟩, ⟨(some 2), none, .mov (.t 24)⟩])
 .ret)))))⟩
/-- cmp.isNaN[uint64] -/
def v196 : VFun := ⟨1, [(.tmp 2)], (.seq (.ops [⟨(some 2), none, .mov (.c (.bool false))⟩])
 (.seq (.ops [⟨(some 3), none, .mov (.t 0)⟩, ⟨(some 4), none, .mov (.t 0)⟩, ⟨(some 5), none, .bin .neq (.t 3) (.t 4)⟩, ⟨(some 2), none, .mov (.t 5)⟩])
 .ret))⟩
def b199_0 : VCode := (.block 1 (.seq (.ops [⟨(some 13), none, .mov (.t 10)⟩, ⟨(some 14), none, .bin .mul (.c (.int .i64 2)) (.t 13)⟩, ⟨(some 15), none, .bin .add (.t 14) (.c (.int .i64 1))⟩, ⟨(some 11), none, .mov (.t 15)⟩])
 (.seq (.seq (.ops [⟨(some 16), none, .mov (.t 11)⟩, ⟨(some 17), none, .mov (.t 2)⟩, ⟨(some 18), none, .bin .geq (.t 16) (.t 17)⟩])
 (.cond (.t 18) (.exit 0) .skip))
 (.seq (.seq (.drawn [⟨(some 19), none, .mov (.t 11)⟩, ⟨(some 20), none, .bin .add (.t 19) (.c (.int .i64 1))⟩, ⟨(some 21), none, .mov (.t 2)⟩, ⟨(some 22), none, .bin .lss (.t 20) (.t 21)⟩, ⟨(some 23), none, .mov (.t 22)⟩, ⟨(some 24), (some (23, true)), .mov (.t 4)⟩, ⟨(some 25), (some (23, true)), .mov (.t 0)⟩, ⟨(some 26), (some (23, true)), .mov (.t 3)⟩, ⟨(some 27), (some (23, true)), .mov (.t 11)⟩, ⟨(some 28), (some (23, true)), .bin .add (.t 26) (.t 27)⟩, ⟨(some 29), (some (23, true)), .iaddr 6 none (.t 25) (.t 28)⟩, ⟨(some 30), (some (23, true)), .load true 6 (.t 29)⟩, ⟨(some 31), (some (23, true)), .mov (.t 0)⟩, ⟨(some 32), (some (23, true)), .mov (.t 3)⟩, ⟨(some 33), (some (23, true)), .mov (.t 11)⟩, ⟨(some 34), (some (23, true)), .bin .add (.t 32) (.t 33)⟩, ⟨(some 35), (some (23, true)), .bin .add (.t 34) (.c (.int .i64 1))⟩, ⟨(some 36), (some (23, true)), .iaddr 6 none (.t 31) (.t 35)⟩, ⟨(some 37), (some (23, true)), .load true 6 (.t 36)⟩, ⟨(some 38), (some (23, true)), .callv (.t 24) [(.t 30), (.t 37)]⟩, ⟨(some 39), (some (23, true)), .bin .lss (.t 38) (.c (.int .i64 0))⟩, ⟨(some 40), none, .pick (.t 23) (.t 39) (.c (.bool false))⟩] [])
 (.cond (.t 40) (.ops [⟨(some 41), none, .mov (.t 11)⟩, ⟨(some 42), none, .bin .add (.t 41) (.c (.int .i64 1))⟩, ⟨(some 11), none, .mov (.t 42)⟩]) .skip))
 (.seq (.seq (.drawn [⟨(some 43), none, .mov (.t 4)⟩, ⟨(some 44), none, .mov (.t 0)⟩, ⟨(some 45), none, .mov (.t 3)⟩, ⟨(some 46), none, .mov (.t 10)⟩, ⟨(some 47), none, .bin .add (.t 45) (.t 46)⟩, ⟨(some 48), none, .iaddr 6 none (.t 44) (.t 47)⟩, ⟨(some 49), none, .load true 6 (.t 48)⟩, ⟨(some 50), none, .mov (.t 0)⟩, ⟨(some 51), none, .mov (.t 3)⟩, ⟨(some 52), none, .mov (.t 11)⟩, ⟨(some 53), none, .bin .add (.t 51) (.t 52)⟩, ⟨(some 54), none, .iaddr 6 none (.t 50) (.t 53)⟩, ⟨(some 55), none, .load true 6 (.t 54)⟩, ⟨(some 56), none, .callv (.t 43) [(.t 49), (.t 55)]⟩, ⟨(some 57), none, .bin .lss (.t 56) (.c (.int .i64 0))⟩, ⟨(some 58), none, .un .not (.t 57)⟩] [])
 (.cond (.t 58) .ret .skip))
 (.seq (.drawn [⟨(some 59), none, .mov (.t 0)⟩, ⟨(some 60), none, .mov (.t 3)⟩, ⟨(some 61), none, .mov (.t 10)⟩, ⟨(some 62), none, .bin .add (.t 60) (.t 61)⟩, ⟨(some 63), none, .mov (.t 0)⟩, ⟨(some 64), none, .mov (.t 3)⟩, ⟨(some 65), none, .mov (.t 11)⟩, ⟨(some 66), none, .bin .add (.t 64) (.t 65)⟩, ⟨(some 67), none, .mov (.t 0)⟩, ⟨(some 68), none, .mov (.t 3)⟩, ⟨(some 69), none, .mov (.t 11)⟩, ⟨(some 70), none, .bin .add (.t 68) (.t 69)⟩, ⟨(some 71), none, .iaddr 6 none (.t 67) (.t 70)⟩, ⟨(some 72), none, .load true 6 (.t 71)⟩, ⟨(some 73), none, .mov (.t 0)⟩, ⟨(some 74), none, .mov (.t 3)⟩, ⟨(some 75), none, .mov (.t 10)⟩, ⟨(some 76), none, .bin .add (.t 74) (.t 75)⟩, ⟨(some 77), none, .iaddr 6 none (.t 73) (.t 76)⟩, ⟨(some 78), none, .load true 6 (.t 77)⟩, ⟨(some 79), none, .iaddr 6 none (.t 59) (.t 62)⟩, ⟨none, none, .store 6 (.t 79) (.t 72)⟩, ⟨(some 80), none, .iaddr 6 none (.t 63) (.t 66)⟩, ⟨none, none, .store 6 (.t 80) (.t 78)⟩] [])
 (.ops [⟨(some 81), none, .mov (.t 11)⟩, ⟨(some 10), none, .mov (.t 81)⟩])))))))
/-- slices.siftDownCmpFunc[furlong/index.far] -/
def v199 : VFun := ⟨5, [], (.seq (.ops [⟨(some 12), none, .mov (.t 1)⟩, ⟨(some 10), none, .mov (.t 12)⟩])
 (.block 0 (.loop b199_0)))⟩
/-- slices.nextPowerOfTwo -/
def v200 : VFun := ⟨1, [(.tmp 2)], (.seq (.ops [⟨(some 2), none, .mov (.c (.int .u64 0))⟩])
 (.seq (.ops [⟨(some 3), none, .mov (.t 0)⟩, ⟨(some 4), none, .conv (.int .u64) (.t 3)⟩, ⟨(some 5), none, .call 177 [(.t 4)]⟩, ⟨(some 6), none, .bin .shl (.c (.int .u64 1)) (.t 5)⟩, ⟨(some 2), none, .mov (.t 6)⟩])
 .ret))⟩
/-- (*slices.xorshift).Next -/
def v201 : VFun := ⟨1, [(.tmp 2)], (.seq (.ops [⟨(some 2), none, .mov (.c (.int .u64 0))⟩])
 (.seq (.drawn [⟨(some 3), none, .mov (.t 0)⟩, ⟨(some 4), none, .nilck (.t 3)⟩, ⟨(some 5), none, .load false 1 (.t 4)⟩, ⟨(some 6), none, .mov (.t 0)⟩, ⟨(some 7), none, .nilck (.t 6)⟩, ⟨(some 8), none, .load false 1 (.t 7)⟩, ⟨(some 9), none, .bin .shl (.t 8) (.c (.int .u64 13))⟩, ⟨(some 10), none, .bin .xor (.t 5) (.t 9)⟩, ⟨(some 11), none, .nilck (.t 3)⟩, ⟨none, none, .store 1 (.t 11) (.t 10)⟩] [])
 (.seq (.drawn [⟨(some 12), none, .mov (.t 0)⟩, ⟨(some 13), none, .nilck (.t 12)⟩, ⟨(some 14), none, .load false 1 (.t 13)⟩, ⟨(some 15), none, .mov (.t 0)⟩, ⟨(some 16), none, .nilck (.t 15)⟩, ⟨(some 17), none, .load false 1 (.t 16)⟩, ⟨(some 18), none, .bin .shr (.t 17) (.c (.int .u64 7))⟩, ⟨(some 19), none, .bin .xor (.t 14) (.t 18)⟩, ⟨(some 20), none, .nilck (.t 12)⟩, ⟨none, none, .store 1 (.t 20) (.t 19)⟩] [])
 (.seq (.drawn [⟨(some 21), none, .mov (.t 0)⟩, ⟨(some 22), none, .nilck (.t 21)⟩, ⟨(some 23), none, .load false 1 (.t 22)⟩, ⟨(some 24), none, .mov (.t 0)⟩, ⟨(some 25), none, .nilck (.t 24)⟩, ⟨(some 26), none, .load false 1 (.t 25)⟩, ⟨(some 27), none, .bin .shl (.t 26) (.c (.int .u64 17))⟩, ⟨(some 28), none, .bin .xor (.t 23) (.t 27)⟩, ⟨(some 29), none, .nilck (.t 21)⟩, ⟨none, none, .store 1 (.t 29) (.t 28)⟩] [])
 (.seq (.ops [⟨(some 30), none, .mov (.t 0)⟩, ⟨(some 31), none, .nilck (.t 30)⟩, ⟨(some 32), none, .load false 1 (.t 31)⟩, ⟨(some 2), none, .mov (.t 32)⟩])
 .ret)))))⟩
/-- slices.medianAdjacentCmpFunc[furlong/index.far] -/
def v202 : VFun := ⟨4, [(.tmp 8)], (.seq (.ops [⟨(some 8), none, .mov (.c (.int .i64 0))⟩])
 (.seq (.ops [⟨(some 9), none, .mov (.t 0)⟩, ⟨(some 10), none, .mov (.t 1)⟩, ⟨(some 11), none, .bin .sub (.t 10) (.c (.int .i64 1))⟩, ⟨(some 12), none, .mov (.t 1)⟩, ⟨(some 13), none, .mov (.t 1)⟩, ⟨(some 14), none, .bin .add (.t 13) (.c (.int .i64 1))⟩, ⟨(some 15), none, .mov (.t 2)⟩, ⟨(some 16), none, .mov (.t 3)⟩, ⟨(some 17), none, .call 203 [(.t 9), (.t 11), (.t 12), (.t 14), (.t 15), (.t 16)]⟩, ⟨(some 8), none, .mov (.t 17)⟩])
 .ret))⟩
/-- slices.medianCmpFunc[furlong/index.far] -/
def v203 : VFun := ⟨6, [(.tmp 12)], (.seq (.ops [⟨(some 12), none, .mov (.c (.int .i64 0))⟩])
 (.seq (.ops [⟨(some 14), none, .mov (.t 0)⟩, ⟨(some 15), none, .mov (.t 1)⟩, ⟨(some 16), none, .mov (.t 2)⟩, ⟨(some 17), none, .mov (.t 4)⟩, ⟨(some 18), none, .mov (.t 5)⟩, ⟨(some 19), none, .call 205 [(.t 14), (.t 15), (.t 16), (.t 17), (.t 18)]⟩, ⟨(some 13), none, .mov (.t 19)⟩, ⟨(some 20), none, .extract (.t 13) 0⟩, ⟨(some 21), none, .extract (.t 13) 1⟩, ⟨(some 1), none, .mov (.t 20)⟩, ⟨(some 2), none, .mov (.t 21)⟩])
 (.seq (.ops [⟨(some 23), none, .mov (.t 0)⟩, ⟨(some 24), none, .mov (.t 2)⟩, ⟨(some 25), none, .mov (.t 3)⟩, ⟨(some 26), none, .mov (.t 4)⟩, ⟨(some 27), none, .mov (.t 5)⟩, ⟨(some 28), none, .call 205 [(.t 23), (.t 24), (.t 25), (.t 26), (.t 27)]⟩, ⟨(some 22), none, .mov (.t 28)⟩, ⟨(some 29), none, .extract (.t 22) 0⟩, ⟨(some 30), none, .extract (.t 22) 1⟩, ⟨(some 2), none, .mov (.t 29)⟩, ⟨(some 3), none, .mov (.t 30)⟩])
 (.seq (.ops [⟨(some 32), none, .mov (.t 0)⟩, ⟨(some 33), none, .mov (.t 1)⟩, ⟨(some 34), none, .mov (.t 2)⟩, ⟨(some 35), none, .mov (.t 4)⟩, ⟨(some 36), none, .mov (.t 5)⟩, ⟨(some 37), none, .call 205 [(.t 32), (.t 33), (.t 34), (.t 35), (.t 36)]⟩, ⟨(some 31), none, .mov (.t 37)⟩, ⟨(some 38), none, .extract (.t 31) 0⟩, ⟨(some 39), none, .extract (.t 31) 1⟩, ⟨(some 1), none, .mov (.t 38)⟩, ⟨(some 2), none, .mov (.t 39)⟩])
 (.seq (.ops [⟨(some 40), none, .mov (.t 2)⟩, ⟨(some 12), none, .mov (.t 40)⟩])
 .ret)))))⟩
/-- slices.order2CmpFunc[furlong/index.far] -/
def v205 : VFun := ⟨5, [(.tmp 10), (.tmp 11)], (.seq (.ops [⟨(some 10), none, .mov (.c (.int .i64 0))⟩, ⟨(some 11), none, .mov (.c (.int .i64 0))⟩])
 (.seq (.seq (.drawn [⟨(some 12), none, .mov (.t 4)⟩, ⟨(some 13), none, .mov (.t 0)⟩, ⟨(some 14), none, .mov (.t 2)⟩, ⟨(some 15), none, .iaddr 6 none (.t 13) (.t 14)⟩, ⟨(some 16), none, .load true 6 (.t 15)⟩, ⟨(some 17), none, .mov (.t 0)⟩, ⟨(some 18), none, .mov (.t 1)⟩, ⟨(some 19), none, .iaddr 6 none (.t 17) (.t 18)⟩, ⟨(some 20), none, .load true 6 (.t 19)⟩, ⟨(some 21), none, .callv (.t 12) [(.t 16), (.t 20)]⟩, ⟨(some 22), none, .bin .lss (.t 21) (.c (.int .i64 0))⟩] [])
 (.cond (.t 22) (.seq (.ops [⟨(some 23), none, .mov (.t 3)⟩, ⟨(some 24), none, .nilck (.t 23)⟩, ⟨(some 25), none, .load false 1 (.t 24)⟩, ⟨(some 26), none, .bin .add (.t 25) (.c (.int .i64 1))⟩, ⟨(some 27), none, .nilck (.t 23)⟩, ⟨none, none, .store 1 (.t 27) (.t 26)⟩])
 (.seq (.ops [⟨(some 28), none, .mov (.t 2)⟩, ⟨(some 29), none, .mov (.t 1)⟩, ⟨(some 10), none, .mov (.t 28)⟩, ⟨(some 11), none, .mov (.t 29)⟩])
 .ret)) .skip))
 (.seq (.ops [⟨(some 30), none, .mov (.t 1)⟩, ⟨(some 31), none, .mov (.t 2)⟩, ⟨(some 10), none, .mov (.t 30)⟩, ⟨(some 11), none, .mov (.t 31)⟩])
 .ret)))⟩
def tab : Nat → Option VFun := tableOf [(4, v4), (12, v12), (14, v14), (16, v16), (18, v18), (19, v19), (22, v22), (23, v23), (24, v24), (25, v25), (36, v36), (37, v37), (40, v40), (41, v41), (42, v42), (43, v43), (44, v44), (45, v45), (47, v47), (52, v52), (53, v53), (55, v55), (56, v56), (59, v59), (60, v60), (61, v61), (62, v62), (72, v72), (73, v73), (74, v74), (75, v75), (76, v76), (79, v79), (80, v80), (83, v83), (84, v84), (85, v85), (86, v86), (87, v87), (88, v88), (89, v89), (90, v90), (91, v91), (93, v93), (94, v94), (95, v95), (98, v98), (99, v99), (100, v100), (101, v101), (119, v119), (120, v120), (121, v121), (122, v122), (123, v123), (124, v124), (125, v125), (127, v127), (131, v131), (132, v132), (133, v133), (134, v134), (135, v135), (136, v136), (142, v142), (143, v143), (144, v144), (145, v145), (146, v146), (147, v147), (148, v148), (167, v167), (169, v169), (170, v170), (174, v174), (175, v175), (176, v176), (177, v177), (178, v178), (183, v183), (184, v184), (186, v186), (187, v187), (188, v188), (189, v189), (190, v190), (191, v191), (192, v192), (193, v193), (194, v194), (195, v195), (196, v196), (199, v199), (200, v200), (201, v201), (202, v202), (203, v203), (205, v205)]
end Go.Proofs.YtpfpngmfooagiaaGreat.VM
set_option linter.unusedSimpArgs false
set_option linter.unusedVariables false
set_option linter.defProp false
set_option maxHeartbeats 1000000
namespace Go.Proofs.YtpfpngmfooagiaaGreat.VM
attribute [local irreducible] Af Nx EvO Ev Un Gd Cd EvR EvQ EvC Nc Gc Lp EvM NxM AfM GdM EvMR EvMQ EvMD EvMC Nm Gm
section
variable {P : Program}
def coordOk (x : Int) : Prop := 0 ≤ x ∧ x ≤ 4294967295
instance (x : Int) : Decidable (coordOk x) := by unfold coordOk; infer_instance
def ptOk (p : Pt) : Prop := coordOk p.x ∧ coordOk p.y
instance (p : Pt) : Decidable (ptOk p) := by unfold ptOk; infer_instance
theorem coord_pu (g : Pg P tab) (a : Int) : Pu P 83 [.int .i64 a] (fun v => v = .bool (decide (coordOk a))) := by
  refine g.pu (vf := v83) rfl rfl ?_
  simp +contextual (maxSteps := 2000000) (disch := omega) only [v83, coordOk, RX, VOp.fresh, bxC, bsC, un, most, callsOf, seval, Int.reducePow, ↓reduceIte, Nat.reduceEqDiff, reduceCtorEq]
theorem pointMay_pu (g : Pg P tab) (p : Pt) : Pu P 55 [.agg [.int .i64 p.x, .int .i64 p.y]] (fun v => v = .bool (decide (ptOk p))) := by
  refine g.pu (vf := v55) rfl rfl ?_
  simp +contextual (maxSteps := 2000000) (disch := omega) only [v55, RX, VOp.fresh, bxC, bsC, un, most, callsOf, seval, Int.reducePow, ↓reduceIte, Nat.reduceEqDiff, reduceCtorEq]
  refine (coord_pu g _).go rfl ?_
  rintro v rfl
  simp +contextual (maxSteps := 2000000) (disch := omega) only [RX, VOp.fresh, bxC, bsC, un, most, callsOf, seval, Int.reducePow, ↓reduceIte, Nat.reduceEqDiff, reduceCtorEq]
  refine ⟨fun h1 => ?_, fun h1 => ?_⟩
  · refine (coord_pu g _).go rfl ?_
    rintro v rfl
    simp +contextual (maxSteps := 2000000) (disch := omega) only [h1, ptOk, RX, VOp.fresh, bxC, bsC, un, most, callsOf, seval, Int.reducePow, ↓reduceIte, Nat.reduceEqDiff, reduceCtorEq]
  · simp +contextual (maxSteps := 2000000) (disch := omega) only [h1, ptOk, RX, VOp.fresh, bxC, bsC, un, most, callsOf, seval, Int.reducePow, ↓reduceIte, Nat.reduceEqDiff, reduceCtorEq]
theorem getInt {v : AV} {l : List Int} (h : IsL 8 RInt v l) (i : Nat) (hi : i < l.length) : ∃ r, AV.tolds r = true ∧ ∀ (hh : Heap) (kk : IntKind), iaV hh 1 none v (.int kk (i : Int)) = .val (.rp (.int .i64 (l.getD i 0) :: r)) hh := by
  obtain ⟨ci, r, ⟨e, _⟩, ht, hia⟩ := h.get zInt tInt i hi
  have : l.getD i 0 = l[i] := by simp [List.getD_eq_getElem?_getD, List.getElem?_eq_getElem hi]
  refine ⟨r, ?_, fun hh kk => ?_⟩
  · rw [e] at ht; exact ht
  · rw [hia, e, this]; rfl
def nxt (n i : Nat) : Nat := if i + 1 = n then 0 else i + 1
def ringAt (closed : Bool) (r : List Pt) (i : Nat) : Prop := ptOk (r.getD i ⟨0, 0⟩) ∧ ((0 < nxt r.length i ∨ closed = true) → r.getD i ⟨0, 0⟩ ≠ r.getD (nxt r.length i) ⟨0, 0⟩)
def ringOk (least : Int) (closed : Bool) (r : List Pt) : Prop := least ≤ r.length ∧ r.length ≤ 16 ∧ ∀ i, i < r.length → ringAt closed r i
theorem getPt {v : AV} {l : List Pt} (h : IsL 16 RPt v l) (i : Nat) (hi : i < l.length) : ∃ r, AV.tolds r = true ∧ ∀ (hh : Heap) (kk : IntKind), iaV hh 2 none v (.int kk (i : Int)) = .val (.rp (.int .i64 (l.getD i ⟨0, 0⟩).x :: .int .i64 (l.getD i ⟨0, 0⟩).y :: r)) hh := by
  obtain ⟨ci, r, ⟨e, _⟩, ht, hia⟩ := h.get zPt tPt i hi
  have : l.getD i ⟨0, 0⟩ = l[i] := by simp [List.getD_eq_getElem?_getD, List.getElem?_eq_getElem hi]
  refine ⟨r, ?_, fun hh kk => ?_⟩
  · rw [e] at ht; exact ht
  · rw [hia, e, this]; rfl
theorem flat2 {a b c d : Int} : eqv (.flat [.int, .int]) (.agg [.int .i64 a, .int .i64 b]) (.agg [.int .i64 c, .int .i64 d]) = some (decide (a = c ∧ b = d)) := by
  simp only [eqv, List.length_cons, List.length_nil, and_self, if_true, sameCells, sameK]
  by_cases h : a = c <;> by_cases h' : b = d <;> simp [h, h', sameCells, sameK]
theorem pt_eq {p q : Pt} : (p.x = q.x ∧ p.y = q.y) = (p = q) := by
  rw [eq_iff_iff]; constructor
  · intro h; cases p; cases q; simp_all
  · rintro rfl; exact ⟨rfl, rfl⟩
theorem ring_loop (g : Pg P tab) {least : Int} {closed : Bool} {r : List Pt} {v : AV} (hv : IsL 16 RPt v r) (hr : r.length ≤ 16) (n : Nat) :
    ∀ (i : Nat) (s : T AV) (hh : Heap) (k : List Fr) (Q : Ex → T AV → Heap → Prop), i + n = r.length → sg s 0 = v → sg s 2 = .bool closed → sg s 19 = v → sg s 20 = .int .i64 r.length → sg s 21 = .int .i64 i →
      ((∀ j, i ≤ j → j < r.length → ringAt closed r j) → ∀ s' h', Un P k Q (.exit 0) s' h') → ((¬ ∀ j, i ≤ j → j < r.length → ringAt closed r j) → ∀ s' h', sg s' 6 = .bool false → Un P k Q .ret s' h') → Lp P b119_0 s hh (Un P k Q) := by
  induction n with
  | zero =>
    intro i s hh k Q hi h0 h2 h19 h20 h21 hK hR
    refine g.lpe b119_0.eq_1 ?_
    have c1 : ¬ ((i : Int) < (r.length : Int)) := by omega
    simp only [h21, h20, c1, RX, VOp.fresh, bxC, bsC, un, most, callsOf, seval, Int.reducePow, ↓reduceIte, Nat.reduceEqDiff, reduceCtorEq]
    exact hK (fun j h1 h2 => by omega) _ _
  | succ n ih =>
    intro i s hh k Q hi h0 h2 h19 h20 h21 hK hR
    refine g.lpe b119_0.eq_1 ?_
    have c1 : (i : Int) < (r.length : Int) := by omega
    obtain ⟨r1, _, g1⟩ := getPt hv i (by omega)
    have w1 : IntKind.i64.wrap ((i : Int) + 1) = ((i + 1 : Nat) : Int) := by rw [w64 (by omega) (by omega)]; push_cast; rfl
    have next : ringAt closed r i → ∀ (s' : T AV) (h' : Heap), sg s' 0 = v → sg s' 2 = .bool closed → sg s' 19 = v → sg s' 20 = .int .i64 r.length → sg s' 21 = .int .i64 ((i + 1 : Nat) : Int) → Lp P b119_0 s' h' (Un P k Q) := by
      intro hok s' h' a1 a2 a3 a4 a5
      refine ih (i + 1) s' h' k Q (by omega) a1 a2 a3 a4 a5 (fun hall => hK fun j h1 h2 => ?_) (fun hn => hR fun hall => hn fun j h1 h2 => hall j (by omega) h2)
      rcases Nat.lt_or_ge i j with h | h
      · exact hall j h h2
      · have : j = i := by omega
        subst this; exact hok
    have stop : ¬ ringAt closed r i → ∀ (s' : T AV) (h' : Heap), sg s' 6 = .bool false → Un P k Q .ret s' h' := fun hn => hR fun hall => hn (hall i (Nat.le_refl _) (by omega))
    have hpt := pointMay_pu g (r.getD i ⟨0, 0⟩)
    have hn : nxt r.length i = if i + 1 = r.length then 0 else i + 1 := rfl
    by_cases hl : i + 1 = r.length
    · have c2 : ((i + 1 : Nat) : Int) = (r.length : Int) := by omega
      rw [if_pos hl] at hn
      obtain ⟨r2, _, g2⟩ := getPt hv 0 (by omega)
      simp only [Int.natCast_zero, Int.ofNat_zero, Int.ofNat_eq_natCast] at g2
      simp +contextual (maxSteps := 2000000) only [RW, Bool.and_self, h0, h2, h19, h20, h21, c1, g1, hv.len, w1, c2, RX, VOp.fresh, bxC, bsC, un, most, callsOf, seval, Int.reducePow, ↓reduceIte, Nat.reduceEqDiff, reduceCtorEq]
      refine hpt.go rfl ?_
      rintro x rfl
      cases closed
      all_goals simp +contextual (maxSteps := 2000000) only [RW, Bool.and_self, h0, h2, h19, h20, h21, g2, w1, flat2, pt_eq, RX, VOp.fresh, bxC, bsC, un, most, callsOf, seval, Int.reducePow, ↓reduceIte, Nat.reduceEqDiff, reduceCtorEq]
      all_goals repeat' (first | apply And.intro | intro _)
      all_goals first
        | (refine next ⟨by assumption, ?_⟩ _ _ ?_ ?_ ?_ ?_ ?_ <;> first | (simp only [h0, h2, h19, h20, sg_set, Nat.reduceEqDiff, ↓reduceIte]; done) | (rw [hn]; simp_all; done))
        | (refine stop ?_ _ _ ?_ <;> first | (simp only [sg_set, Nat.reduceEqDiff, ↓reduceIte]; done) | (rintro ⟨a1, a2⟩; rw [hn] at a2; simp_all; done))
        | trace_state
    · have c2 : ¬ ((i + 1 : Nat) : Int) = (r.length : Int) := by omega
      rw [if_neg hl] at hn
      obtain ⟨r2, _, g2⟩ := getPt hv (i + 1) (by omega)
      have c3 : (0 : Int) < ((i + 1 : Nat) : Int) := by omega
      simp +contextual (maxSteps := 2000000) only [RW, Bool.and_self, h0, h2, h19, h20, h21, c1, g1, hv.len, w1, c2, RX, VOp.fresh, bxC, bsC, un, most, callsOf, seval, Int.reducePow, ↓reduceIte, Nat.reduceEqDiff, reduceCtorEq]
      refine hpt.go rfl ?_
      rintro x rfl
      cases closed
      all_goals simp +contextual (maxSteps := 2000000) only [RW, Bool.and_self, h0, h2, h19, h20, h21, g2, w1, flat2, pt_eq, c3, RX, VOp.fresh, bxC, bsC, un, most, callsOf, seval, Int.reducePow, ↓reduceIte, Nat.reduceEqDiff, reduceCtorEq]
      all_goals repeat' (first | apply And.intro | intro _)
      all_goals first
        | (refine next ⟨by assumption, ?_⟩ _ _ ?_ ?_ ?_ ?_ ?_ <;> first | (simp only [h0, h2, h19, h20, sg_set, Nat.reduceEqDiff, ↓reduceIte]; done) | (rw [hn]; simp_all; done))
        | (refine stop ?_ _ _ ?_ <;> first | (simp only [sg_set, Nat.reduceEqDiff, ↓reduceIte]; done) | (rintro ⟨a1, a2⟩; rw [hn] at a2; simp_all; done))
        | trace_state
theorem ring_pu (g : Pg P tab) {least : Int} {closed : Bool} {r : List Pt} {v : AV} (hv : IsL 16 RPt v r) : Pu P 119 [v, .int .i64 least, .bool closed] (IsB (ringOk least closed r)) := by
  refine g.pu (vf := v119) rfl rfl ?_
  simp +contextual (maxSteps := 2000000) only [v119, hv.len, RX, VOp.fresh, bxC, bsC, un, most, callsOf, seval, Int.reducePow, ↓reduceIte, Nat.reduceEqDiff, reduceCtorEq]
  repeat' (first | apply And.intro | intro _)
  all_goals first
    | (rename_i hok; unfold ringOk at hok; omega)
    | skip
  refine ring_loop g hv (least := least) (closed := closed) (by omega) r.length 0 _ _ _ _ (by omega) ?_ ?_ ?_ ?_ ?_ ?_ ?_
  · simp only [sg_set, Nat.reduceEqDiff, ↓reduceIte]
  · simp only [sg_set, Nat.reduceEqDiff, ↓reduceIte]
  · simp only [sg_set, Nat.reduceEqDiff, ↓reduceIte]
  · simp only [sg_set, Nat.reduceEqDiff, ↓reduceIte]
  · simp only [sg_set, Nat.reduceEqDiff, ↓reduceIte]
    rfl
  · intro hall s' h'
    simp +contextual (maxSteps := 2000000) only [RX, VOp.fresh, bxC, bsC, un, most, callsOf, seval, Int.reducePow, ↓reduceIte, Nat.reduceEqDiff, reduceCtorEq]
    exact ⟨by omega, by omega, fun i hi => hall i (by omega) hi⟩
  · intro hn s' h' h4
    simp +contextual (maxSteps := 2000000) only [h4, RX, VOp.fresh, bxC, bsC, un, most, callsOf, seval, Int.reducePow, ↓reduceIte, Nat.reduceEqDiff, reduceCtorEq]
    intro hok
    exact hn fun j _ hj => hok.2.2 j hj
theorem getRing {v : AV} {l : List (List Pt)} (h : IsL 24 RRing v l) (i : Nat) (hi : i < l.length) : ∃ rv r, IsL 16 RPt rv (l.getD i []) ∧ AV.tolds r = true ∧ ∀ (hh : Heap) (kk : IntKind), iaV hh 1 none v (.int kk (i : Int)) = .val (.rp (rv :: r)) hh := by
  obtain ⟨ci, r, ⟨rv, e, hr⟩, ht, hia⟩ := h.get zRing tRing i hi
  have : l.getD i [] = l[i] := by simp [List.getD_eq_getElem?_getD, List.getElem?_eq_getElem hi]
  refine ⟨rv, r, by rw [this]; exact hr, ?_, fun hh kk => ?_⟩
  · rw [e] at ht
    simp only [AV.tolds, List.cons_append, List.nil_append, Bool.and_eq_true] at ht
    exact ht.2
  · rw [hia, e]; rfl
theorem tolds1 {b : Nat} {α : Type} {R : α → List AV → Prop} {v : AV} {l : List α} (h : IsL b R v l) (ht : ∀ a c, R a c → AV.tolds c = true) : AV.tolds [v] = true := by
  simp [AV.tolds, h.told ht]
theorem mayRing_pu (g : Pg P tab) {r : List Pt} {v : AV} (hv : IsL 16 RPt v r) : Pu P 121 [v] (IsB (¬ ringOk 3 true r)) := by
  refine g.pu (vf := v121) rfl rfl ?_
  simp +contextual (maxSteps := 2000000) only [v121, RX, VOp.fresh, bxC, bsC, un, most, callsOf, seval, Int.reducePow, ↓reduceIte, Nat.reduceEqDiff, reduceCtorEq]
  refine (ring_pu g hv).go (by simp [AV.tolds, AV.told, hv.told tPt]) ?_
  rintro x ⟨b, rfl, hb⟩
  cases b <;> simp +contextual (maxSteps := 2000000) only [RX, VOp.fresh, bxC, bsC, un, most, callsOf, seval, Int.reducePow, ↓reduceIte, Nat.reduceEqDiff, reduceCtorEq] <;> simpa using hb
theorem indexFunc_loop (g : Pg P tab) {l : List (List Pt)} {v : AV} (hv : IsL 24 RRing v l) (n : Nat) :
    ∀ (i : Nat) (s : T AV) (hh : Heap) (k : List Fr) (Q : Ex → T AV → Heap → Prop), i + n = l.length → sg s 0 = v → sg s 1 = .fn 121 [] → sg s 7 = .int .i64 l.length → sg s 8 = .int .i64 i →
      ((∀ j, i ≤ j → j < l.length → ringOk 3 true (l.getD j [])) → ∀ s', Un P k Q (.exit 0) s' hh) → (∀ j, i ≤ j → j < l.length → ¬ ringOk 3 true (l.getD j []) → ∀ s', sg s' 4 = .int .i64 j → Un P k Q .ret s' hh) → Lp P b167_0 s hh (Un P k Q) := by
  have hb := hv.bound (by decide)
  induction n with
  | zero =>
    intro i s hh k Q hi h0 h1 h7 h8 hK hR
    refine g.lpe b167_0.eq_1 ?_
    have c1 : ¬ ((i : Int) < (l.length : Int)) := by omega
    simp only [h7, h8, c1, RX, VOp.fresh, bxC, bsC, un, most, callsOf, seval, Int.reducePow, ↓reduceIte, Nat.reduceEqDiff, reduceCtorEq]
    exact hK (fun j h1 h2 => by omega) _
  | succ n ih =>
    intro i s hh k Q hi h0 h1 h7 h8 hK hR
    refine g.lpe b167_0.eq_1 ?_
    have c1 : (i : Int) < (l.length : Int) := by omega
    obtain ⟨rv, r1, hrv, _, g1⟩ := getRing hv i (by omega)
    have w1 : IntKind.i64.wrap ((i : Int) + 1) = ((i + 1 : Nat) : Int) := by rw [w64 (by omega) (by omega)]; push_cast; rfl
    simp only [h0, h1, h7, h8, c1, g1, RX, VOp.fresh, bxC, bsC, un, most, callsOf, seval, Int.reducePow, ↓reduceIte, Nat.reduceEqDiff, reduceCtorEq]
    refine (mayRing_pu g hrv).go (tolds1 hrv tPt) ?_
    rintro x ⟨b, rfl, hbb⟩
    cases b
    · simp only [h8, w1, RX, VOp.fresh, bxC, bsC, un, most, callsOf, seval, Int.reducePow, ↓reduceIte, Nat.reduceEqDiff, reduceCtorEq]
      have hok : ringOk 3 true (l.getD i []) := by
        apply Classical.byContradiction
        intro hn
        exact absurd (hbb.2 hn) (by simp)
      refine ih (i + 1) _ hh k Q (by omega) ?_ ?_ ?_ ?_ (fun hall => hK fun j h1 h2 => ?_) (fun j h1 h2 => hR j (by omega) h2)
      · simp only [h0, sg_set, Nat.reduceEqDiff, ↓reduceIte]
      · simp only [h1, sg_set, Nat.reduceEqDiff, ↓reduceIte]
      · simp only [h7, sg_set, Nat.reduceEqDiff, ↓reduceIte]
      · simp only [sg_set, Nat.reduceEqDiff, ↓reduceIte]
      · rcases Nat.lt_or_ge i j with h | h
        · exact hall j h h2
        · have : j = i := by omega
          subst this; exact hok
    · simp only [h8, RX, VOp.fresh, bxC, bsC, un, most, callsOf, seval, Int.reducePow, ↓reduceIte, Nat.reduceEqDiff, reduceCtorEq]
      exact hR i (Nat.le_refl _) (by omega) (hbb.1 rfl) _ (by simp only [sg_set, Nat.reduceEqDiff, ↓reduceIte])
theorem indexFunc_pu (g : Pg P tab) {l : List (List Pt)} {v : AV} (hv : IsL 24 RRing v l) : Pu P 167 [v, .fn 121 []] (fun x => ∃ n : Int, x = .int .i64 n ∧ (0 ≤ n ↔ ¬ ∀ i, i < l.length → ringOk 3 true (l.getD i []))) := by
  refine g.pu (vf := v167) rfl rfl ?_
  simp only [v167, hv.len, RX, VOp.fresh, bxC, bsC, un, most, callsOf, seval, Int.reducePow, ↓reduceIte, Nat.reduceEqDiff, reduceCtorEq]
  refine indexFunc_loop g hv l.length 0 _ _ _ _ (by omega) ?_ ?_ ?_ ?_ ?_ ?_
  · simp only [sg_set, Nat.reduceEqDiff, ↓reduceIte]
  · simp only [sg_set, Nat.reduceEqDiff, ↓reduceIte]
  · simp only [sg_set, Nat.reduceEqDiff, ↓reduceIte]
  · simp only [sg_set, Nat.reduceEqDiff, ↓reduceIte]
    rfl
  · intro hall s'
    simp only [RX, VOp.fresh, bxC, bsC, un, most, callsOf, seval, Int.reducePow, ↓reduceIte, Nat.reduceEqDiff, reduceCtorEq]
    exact ⟨-1, rfl, by simp; exact fun i hi => hall i (by omega) hi⟩
  · intro j _ hj hn s' h4
    simp only [h4, RX, VOp.fresh, bxC, bsC, un, most, callsOf, seval, Int.reducePow, ↓reduceIte, Nat.reduceEqDiff, reduceCtorEq]
    exact ⟨j, rfl, ⟨fun _ h => hn (h j hj), fun _ => by omega⟩⟩
theorem containsFunc_pu (g : Pg P tab) {l : List (List Pt)} {v : AV} (hv : IsL 24 RRing v l) : Pu P 120 [v, .fn 121 []] (IsB (¬ ∀ i, i < l.length → ringOk 3 true (l.getD i []))) := by
  refine g.pu (vf := v120) rfl rfl ?_
  simp only [v120, RX, VOp.fresh, bxC, bsC, un, most, callsOf, seval, Int.reducePow, ↓reduceIte, Nat.reduceEqDiff, reduceCtorEq]
  refine (indexFunc_pu g hv).go (by simp [AV.tolds, AV.told, hv.told tRing]) ?_
  rintro x ⟨n, rfl, hn⟩
  simp only [RX, VOp.fresh, bxC, bsC, un, most, callsOf, seval, Int.reducePow, ↓reduceIte, Nat.reduceEqDiff, reduceCtorEq]
  exact hn
def featOk (f : Feat) : Prop := 1 ≤ f.id ∧ f.id ≤ 65535 ∧ 1 ≤ f.rings.length ∧ f.rings.length ≤ 4 ∧
  ((f.shape = 0 ∧ f.rings.length = 1 ∧ (f.rings.getD 0 []).length = 1 ∧ ptOk ((f.rings.getD 0 []).getD 0 ⟨0, 0⟩)) ∨ (f.shape = 1 ∧ f.rings.length = 1 ∧ ringOk 2 false (f.rings.getD 0 [])) ∨ (f.shape = 2 ∧ ∀ i, i < f.rings.length → ringOk 3 true (f.rings.getD i [])))
theorem shapeMay_pu (g : Pg P tab) {f : Feat} {v : AV} (hv : IsL 24 RRing v f.rings) : Pu P 72 [.agg [.int .i64 f.id, .int .i64 f.shape, v]] (IsB (featOk f)) := by
  refine g.pu (vf := v72) rfl rfl ?_
  have hb := hv.bound (by decide)
  by_cases h0 : 0 < f.rings.length
  · obtain ⟨rv, r1, hrv, t1, g1⟩ := getRing hv 0 h0
    simp only [Int.natCast_zero, Int.ofNat_zero, Int.ofNat_eq_natCast] at g1
    by_cases h1 : 0 < (f.rings.getD 0 []).length
    · obtain ⟨r2, t2, g2⟩ := getPt hrv 0 h1
      simp only [Int.natCast_zero, Int.ofNat_zero, Int.ofNat_eq_natCast] at g2
      simp +contextual (maxSteps := 2000000) only [v72, hv.len, hrv.len, g1, g2, RX, VOp.fresh, bxC, bsC, un, most, callsOf, seval, Int.reducePow, ↓reduceIte, Nat.reduceEqDiff, reduceCtorEq]
      repeat' (first | apply And.intro | intro _)
      all_goals first
        | (rename_i hok; obtain ⟨a1, a2, a3, a4, ⟨b1, b2, b3, b4⟩ | ⟨b1, b2, b3⟩ | ⟨b1, b2⟩⟩ := hok <;> omega)
        | (refine (pointMay_pu g _).go rfl ?_
           rintro x rfl
           simp +contextual (maxSteps := 2000000) only [RX, VOp.fresh, bxC, bsC, un, most, callsOf, seval, Int.reducePow, ↓reduceIte, Nat.reduceEqDiff, reduceCtorEq]
           exact ⟨fun h => ⟨by omega, by omega, by omega, by omega, .inl ⟨by omega, by omega, by omega, h⟩⟩, fun hok => by obtain ⟨a1, a2, a3, a4, ⟨b1, b2, b3, b4⟩ | ⟨b1, b2, b3⟩ | ⟨b1, b2⟩⟩ := hok <;> first | assumption | omega⟩)
        | (refine (ring_pu g hrv).go (by simp [AV.tolds, AV.told, hrv.told tPt]) ?_
           rintro x ⟨b, rfl, hbb⟩
           simp +contextual (maxSteps := 2000000) only [RX, VOp.fresh, bxC, bsC, un, most, callsOf, seval, Int.reducePow, ↓reduceIte, Nat.reduceEqDiff, reduceCtorEq]
           rw [hbb]
           exact ⟨fun h => ⟨by omega, by omega, by omega, by omega, .inr (.inl ⟨by omega, by omega, h⟩)⟩, fun hok => by obtain ⟨a1, a2, a3, a4, ⟨b1, b2, b3, b4⟩ | ⟨b1, b2, b3⟩ | ⟨b1, b2⟩⟩ := hok <;> first | assumption | omega⟩)
        | (refine (containsFunc_pu g hv).go (by simp [AV.tolds, AV.told, hv.told tRing]) ?_
           rintro x ⟨b, rfl, hbb⟩
           cases b <;> simp +contextual (maxSteps := 2000000) only [RX, VOp.fresh, bxC, bsC, un, most, callsOf, seval, Int.reducePow, ↓reduceIte, Nat.reduceEqDiff, reduceCtorEq]
           · exact ⟨by omega, by omega, by omega, by omega, .inr (.inr ⟨by omega, Classical.byContradiction fun hn => absurd (hbb.2 hn) (by simp)⟩)⟩
           · intro hok; obtain ⟨a1, a2, a3, a4, ⟨b1, b2, b3, b4⟩ | ⟨b1, b2, b3⟩ | ⟨b1, b2⟩⟩ := hok <;> first | exact hbb.1 rfl b2 | omega)
        | trace_state
    · have e1 : (f.rings.getD 0 []).length = 0 := by omega
      simp +contextual (maxSteps := 2000000) only [v72, hv.len, hrv.len, g1, e1, RX, VOp.fresh, bxC, bsC, un, most, callsOf, seval, Int.reducePow, ↓reduceIte, Nat.reduceEqDiff, reduceCtorEq]
      repeat' (first | apply And.intro | intro _)
      all_goals first
        | (rename_i hok; obtain ⟨a1, a2, a3, a4, ⟨b1, b2, b3, b4⟩ | ⟨b1, b2, b3⟩ | ⟨b1, b2⟩⟩ := hok <;> omega)
        | (refine (ring_pu g hrv).go (by simp [AV.tolds, AV.told, hrv.told tPt]) ?_
           rintro x ⟨b, rfl, hbb⟩
           simp +contextual (maxSteps := 2000000) only [RX, VOp.fresh, bxC, bsC, un, most, callsOf, seval, Int.reducePow, ↓reduceIte, Nat.reduceEqDiff, reduceCtorEq]
           rw [hbb]
           exact ⟨fun h => ⟨by omega, by omega, by omega, by omega, .inr (.inl ⟨by omega, by omega, h⟩)⟩, fun hok => by obtain ⟨a1, a2, a3, a4, ⟨b1, b2, b3, b4⟩ | ⟨b1, b2, b3⟩ | ⟨b1, b2⟩⟩ := hok <;> first | assumption | omega⟩)
        | (refine (containsFunc_pu g hv).go (by simp [AV.tolds, AV.told, hv.told tRing]) ?_
           rintro x ⟨b, rfl, hbb⟩
           cases b <;> simp +contextual (maxSteps := 2000000) only [RX, VOp.fresh, bxC, bsC, un, most, callsOf, seval, Int.reducePow, ↓reduceIte, Nat.reduceEqDiff, reduceCtorEq]
           · exact ⟨by omega, by omega, by omega, by omega, .inr (.inr ⟨by omega, Classical.byContradiction fun hn => absurd (hbb.2 hn) (by simp)⟩)⟩
           · intro hok; obtain ⟨a1, a2, a3, a4, ⟨b1, b2, b3, b4⟩ | ⟨b1, b2, b3⟩ | ⟨b1, b2⟩⟩ := hok <;> first | exact hbb.1 rfl b2 | omega)
        | trace_state
  · have e0 : f.rings.length = 0 := by omega
    have c1 : (f.rings.length : Int) < 1 := by omega
    simp +contextual (maxSteps := 2000000) only [v72, hv.len, c1, RX, VOp.fresh, bxC, bsC, un, most, callsOf, seval, Int.reducePow, ↓reduceIte, Nat.reduceEqDiff, reduceCtorEq]
    repeat' (first | apply And.intro | intro _)
    all_goals (rename_i hok; obtain ⟨a1, a2, a3, a4, _⟩ := hok; omega)
end
end Go.Proofs.YtpfpngmfooagiaaGreat.VM
namespace Go.Proofs.YtpfpngmfooagiaaGreat.VM
attribute [local irreducible] Af Nx EvO Ev Un Gd Cd EvR EvQ EvC Nc Gc Lp EvM NxM AfM GdM EvMR EvMQ EvMD EvMC Nm Gm
end Go.Proofs.YtpfpngmfooagiaaGreat.VM
namespace Go.Proofs.YtpfpngmfooagiaaGreat.VM
attribute [local irreducible] Af Nx EvO Ev Un Gd Cd EvR EvQ EvC Nc Gc Lp EvM NxM AfM GdM EvMR EvMQ EvMD EvMC Nm Gm
section
variable {P : Program}
theorem num_pu (g : Pg P tab) (n : Int) : Pu P 19 [.int .i64 n] (fun v => v = .int .i64 n) := by
  refine g.pu (vf := v19) rfl rfl ?_
  simp +contextual (maxSteps := 2000000) (disch := omega) only [v19, RX, VOp.fresh, bxC, bsC, un, most, callsOf, seval, Int.reducePow, ↓reduceIte, Nat.reduceEqDiff, reduceCtorEq]
theorem i64c {n : Int} (a : -1000000 ≤ n) (b : n ≤ 1000000) : I64 n := ⟨by omega, by omega⟩
theorem i0 : I64 0 := i64c (by decide) (by decide)
theorem i1 : I64 1 := i64c (by decide) (by decide)
end
end Go.Proofs.YtpfpngmfooagiaaGreat.VM
namespace Go.Proofs.YtpfpngmfooagiaaGreat.VM
attribute [local irreducible] Af Nx EvO Ev Un Gd Cd EvR EvQ EvC Nc Gc Lp EvM NxM AfM GdM EvMR EvMQ EvMD EvMC Nm Gm
theorem getD_ring {l : List (List Pt)} {i : Nat} (hi : i < l.length) : l.getD i [] = l[i] := by simp [List.getD_eq_getElem?_getD, List.getElem?_eq_getElem hi]
end Go.Proofs.YtpfpngmfooagiaaGreat.VM
namespace Go.Proofs.YtpfpngmfooagiaaGreat.VM
attribute [local irreducible] Af Nx EvO Ev Un Gd Cd EvR EvQ EvC Nc Gc Lp EvM NxM AfM GdM EvMR EvMQ EvMD EvMC Nm Gm
theorem reach_eq : reachBytes = 140737488351232 := rfl
end Go.Proofs.YtpfpngmfooagiaaGreat.VM
namespace Go.Proofs.YtpfpngmfooagiaaGreat.VM
attribute [local irreducible] Af Nx EvO Ev Un Gd Cd EvR EvQ EvC Nc Gc Lp EvM NxM AfM GdM EvMR EvMQ EvMD EvMC Nm Gm
theorem Lvs.put {h : Heap} {B : Nat → Prop} {x y : List AV} (l : Lvs h B x y) {b : Nat} (hb : ¬ B b) (o : Blk) : Lvs (h.put b o) B x y := l.frame (by rw [put_next]; exact Nat.le_refl _) fun c hc _ => by rw [Heap.get_put, if_neg (show ¬ c = b from fun e => hb (e ▸ hc))]
end Go.Proofs.YtpfpngmfooagiaaGreat.VM
namespace Go.Proofs.YtpfpngmfooagiaaGreat.VM
attribute [local irreducible] Af Nx EvO Ev Un Gd Cd EvR EvQ EvC Nc Gc Lp EvM NxM AfM GdM EvMR EvMQ EvMD EvMC Nm Gm
section
variable {P : Program}
def rrAt (r : List Pt) (i : Nat) : Prop := ptOk (r.getD i ⟨0, 0⟩) ∧ (0 < i → r.getD i ⟨0, 0⟩ ≠ r.getD (i - 1) ⟨0, 0⟩)
def rRing (sh : Int) (r : List Pt) : Prop := r.length ≤ 16 ∧ (∀ i, i < r.length → rrAt r i) ∧ ((sh = 0 ∧ r.length = 1) ∨ (sh = 1 ∧ 2 ≤ r.length) ∨ (sh = 2 ∧ 3 ≤ r.length ∧ r.getD 0 ⟨0, 0⟩ ≠ r.getD (r.length - 1) ⟨0, 0⟩))
theorem rings_eq {r : List Pt} {c : Bool} (h1 : 1 ≤ r.length) : (∀ i, i < r.length → ringAt c r i) ↔ (∀ i, i < r.length → rrAt r i) ∧ (c = true → r.getD 0 ⟨0, 0⟩ ≠ r.getD (r.length - 1) ⟨0, 0⟩) := by
  constructor
  · intro h
    refine ⟨fun i hi => ⟨(h i hi).1, fun h0 => ?_⟩, fun hc => ?_⟩
    · have := (h (i - 1) (by omega)).2
      have e : nxt r.length (i - 1) = i := by unfold nxt; rw [if_neg (by omega)]; omega
      rw [e] at this
      exact fun e => this (.inl h0) e.symm
    · have := (h (r.length - 1) (by omega)).2 (.inr hc)
      have e : nxt r.length (r.length - 1) = 0 := by unfold nxt; rw [if_pos (by omega)]
      rw [e] at this
      exact fun e => this e.symm
  · rintro ⟨h, k⟩ i hi
    refine ⟨(h i hi).1, fun hc => ?_⟩
    unfold nxt at hc ⊢
    by_cases e : i + 1 = r.length
    · rw [if_pos e] at hc ⊢
      rcases hc with hc | hc
      · omega
      · have := k hc
        rw [show r.length - 1 = i by omega] at this
        exact fun e => this e.symm
    · rw [if_neg e] at hc ⊢
      have := (h (i + 1) (by omega)).2 (by omega)
      rw [Nat.add_sub_cancel] at this
      exact fun e => this e.symm
def rFeat (f : Feat) : Prop := 1 ≤ f.id ∧ f.id ≤ 65535 ∧ 1 ≤ f.rings.length ∧ f.rings.length ≤ 4 ∧ (f.shape = 2 ∨ f.rings.length = 1) ∧ ∀ i, i < f.rings.length → rRing f.shape (f.rings.getD i [])
theorem rFeat_eq (f : Feat) : rFeat f ↔ featOk f := by
  constructor
  · rintro ⟨a1, a2, a3, a4, a5, a6⟩
    refine ⟨a1, a2, a3, a4, ?_⟩
    have h0 := a6 0 (by omega)
    rcases h0.2.2 with ⟨k, h⟩ | ⟨k, h⟩ | ⟨k, h⟩
    · exact .inl ⟨k, by omega, h, (h0.2.1 0 (by omega)).1⟩
    · exact .inr (.inl ⟨k, by omega, by omega, by have := h0.1; omega, (rings_eq (by omega)).2 ⟨h0.2.1, fun e => by cases e⟩⟩)
    · refine .inr (.inr ⟨k, fun i hi => ?_⟩)
      have hi' := a6 i hi
      rcases hi'.2.2 with ⟨k', h⟩ | ⟨k', h⟩ | ⟨k', h, h2⟩
      · omega
      · omega
      · exact ⟨by omega, by have := hi'.1; omega, (rings_eq (by omega)).2 ⟨hi'.2.1, fun _ => h2⟩⟩
  · rintro ⟨a1, a2, a3, a4, h⟩
    rcases h with ⟨k, b2, b3, b4⟩ | ⟨k, b2, b3⟩ | ⟨k, b2⟩
    · refine ⟨a1, a2, a3, a4, .inr b2, fun i hi => ?_⟩
      have : i = 0 := by omega
      subst this
      refine ⟨by omega, fun j hj => ?_, .inl ⟨k, b3⟩⟩
      have : j = 0 := by omega
      subst this
      exact ⟨b4, fun h => by omega⟩
    · refine ⟨a1, a2, a3, a4, .inr b2, fun i hi => ?_⟩
      have : i = 0 := by omega
      subst this
      obtain ⟨c1, c2, c3⟩ := b3
      exact ⟨by omega, ((rings_eq (by omega)).1 c3).1, .inr (.inl ⟨k, by omega⟩)⟩
    · refine ⟨a1, a2, a3, a4, .inl k, fun i hi => ?_⟩
      obtain ⟨c1, c2, c3⟩ := b2 i hi
      have := (rings_eq (by omega)).1 c3
      exact ⟨by omega, this.1, .inr (.inr ⟨k, by omega, this.2 rfl⟩)⟩
end
end Go.Proofs.YtpfpngmfooagiaaGreat.VM
set_option linter.unusedSimpArgs false
set_option linter.unusedVariables false
set_option linter.defProp false
set_option maxHeartbeats 1000000
namespace Go.Proofs.YtpfpngmfooagiaaGreat.VM
attribute [local irreducible] Af Nx EvO Ev Un Gd Cd EvR EvQ EvC Nc Gc Lp EvM NxM AfM GdM EvMR EvMQ EvMD EvMC Nm Gm
def Plain {α : Type} (R : α → List AV → Prop) (sz : Nat) : Prop := ∀ a c, R a c → c.length = sz ∧ c.all AV.one = true ∧ AV.tolds c = true ∧ AV.bares c = true
theorem Plain.cat {α : Type} {R : α → List AV → Prop} {sz : Nat} (p : Plain R sz) : ∀ {l : List α} {c : List AV}, Cat R l c → c.length = l.length * sz ∧ c.all AV.one = true ∧ AV.tolds c = true ∧ AV.bares c = true
  | _, _, .nil => ⟨by simp, rfl, rfl, rfl⟩
  | _, _, .cons h t => by
    obtain ⟨a1, a2, a3, a4⟩ := p _ _ h
    obtain ⟨b1, b2, b3, b4⟩ := p.cat t
    exact ⟨by rw [List.length_append, a1, b1, List.length_cons, Nat.add_mul]; omega, by rw [List.all_append, a2, b2]; rfl, by rw [Cat.told.tolds_append, a3, b3]; rfl, by rw [bares_app, a4, b4]; rfl⟩
theorem plainPt : Plain RPt 2 := fun a c h => by rw [h.1]; exact ⟨rfl, rfl, rfl, rfl⟩
/-- what stands is put behind an empty slice of one's own -/
theorem app_copy {α : Type} {R : α → List AV → Prop} {sz bytes : Nat} (p : Plain R sz) {x : AV} {l : List α} (hx : IsL bytes R x l) {h : Heap} {b e0 v0 : Nat} (hg : h.get b = some (.cells [] e0 v0)) (e : TypeId) :
    ∃ v h' t, appendV h sz bytes e (.sl b 0 0 0 sz) x = some (v, h') ∧ h.next ≤ h'.next ∧ (∀ c, c < h.next → c ≠ b → h'.get c = h.get c) ∧ Lv h' (fun c => h.next ≤ c) v t ∧ IsL bytes R t l ∧ v.cells = some [v] ∧ v.one = true := by
  have hbq : Nat.beq sz sz = true := by rw [Nat.beq_eq]
  have z : ∀ x : AV, l = [] → lenV x = some 0 → cellsOf h sz 0 x = some [] → ∃ v h' t, appendV h sz bytes e (.sl b 0 0 0 sz) x = some (v, h') ∧ h.next ≤ h'.next ∧ (∀ c, c < h.next → c ≠ b → h'.get c = h.get c) ∧ Lv h' (fun c => h.next ≤ c) v t ∧ IsL bytes R t l ∧ v.cells = some [v] ∧ v.one = true := by
    intro x hl h1 h2
    subst hl
    refine ⟨.sl b 0 0 0 sz, h.put b (.cells [] e0 (v0 + 1)), .rs [] 0, ?_, Nat.le_refl _, fun c _ hc => by rw [Heap.get_put, if_neg hc], ⟨[], .sl0, rfl, Own.nil, fun b hb => by simp at hb⟩, ⟨by simp, .inr ⟨[], rfl, .nil⟩⟩, rfl, rfl⟩
    simp only [appendV, h1, h2, List.length_nil, Nat.zero_mul, List.all_nil, and_self, if_true, hbq, cond_true, Nat.add_zero, Nat.le_refl, writeAt, hg, lsets]
    rfl
  obtain ⟨hb0, ⟨rfl, hl⟩ | ⟨c, rfl, hc⟩⟩ := hx
  · exact z _ hl rfl rfl
  · obtain ⟨h1, h2, h3, h4⟩ := p.cat hc
    by_cases h0 : l.length = 0
    · have hl : l = [] := List.eq_nil_of_length_eq_zero h0
      have : c = [] := List.eq_nil_of_length_eq_zero (by rw [h1, h0, Nat.zero_mul])
      subst this
      refine z _ hl (by rw [lenV, h0]) ?_
      simp [cellsOf, cut_eq]
    · have hcut : cut c 0 (l.length * sz) = some c := by rw [cut_eq, List.drop_zero, ← h1, List.take_length, if_pos rfl]
      refine ⟨.sl h.next 0 l.length l.length sz, (h.put b .dead).mk' h.next (.cells c e 0), .rs c l.length, ?_, by rw [mk_next, put_next]; omega, fun d hd hne => by rw [Heap.get_mk, if_neg (by omega), Heap.get_put, if_neg hne], ⟨[h.next], ?_, rfl, ?_, fun d hd => by simp at hd; omega⟩, ⟨hb0, .inr ⟨c, rfl, hc⟩⟩, rfl, rfl⟩
      · have hm : l.length * bytes ≤ most2 := by exact Nat.le_trans hb0 (by rw [reach_eq]; decide)
        have h5 : ¬ (l.length ≤ 0) := by omega
        have hc0 : cut ([] : List AV) 0 0 = some [] := rfl
        simp only [appendV, lenV, cellsOf, hcut, hc0, h1, h2, List.nil_append, and_self, if_true, hbq, cond_true, h5, if_false, hm, Nat.le_refl, hg, Nat.zero_mul, Nat.zero_add]
      · exact (Fd.sl (by omega) (by rw [mk_next]; omega) (by rw [Heap.get_mk, if_pos rfl]) (hcut) (Fds.tolds h3)).cast rfl
      · intro d hd
        simp only [List.mem_singleton] at hd
        subst hd
        exact ⟨c, e, 0, by rw [Heap.get_mk, if_pos rfl], h4⟩
section
variable {P : Program}
theorem Cat.take {α : Type} {R : α → List AV → Prop} {l : List α} {c d : List AV} {i : Nat} (hi : i < l.length) (h : Cat R (l.take i) c) (h' : R l[i] d) : Cat R (l.take (i + 1)) (c ++ d) := by
  rw [List.take_succ_eq_append_getElem hi]
  have := h.append (Cat.cons h' .nil)
  rwa [List.append_nil] at this
end
theorem len3 {l : List AV} (h : l.length = 3) : ∃ x y z, l = [x, y, z] := match l, h with | [x, y, z], _ => ⟨x, y, z, rfl⟩
end Go.Proofs.YtpfpngmfooagiaaGreat.VM
namespace Go.Proofs.YtpfpngmfooagiaaGreat.VM
attribute [local irreducible] Af Nx EvO Ev Un Gd Cd EvR EvQ EvC Nc Gc Lp EvM NxM AfM GdM EvMR EvMQ EvMD EvMC Nm Gm
section
variable {P : Program}
theorem sPts_loop (g : Pg P tab) {l : List Pt} {a b w u p0 p1 q0 q1 : AV} (ha : IsL 16 RPt a l) (hb : IsL 16 RPt b l) {i0 n2 n3 : Nat} (hwa : ∃ r, ∀ hh : Heap, iaV hh 1 none w (.int .i64 i0) = .val (.rp (a :: r)) hh) (hub : ∃ r, ∀ hh : Heap, iaV hh 1 none u (.int .i64 i0) = .val (.rp (b :: r)) hh) (n : Nat) :
    ∀ (i : Nat) (s : T AV) (hh : Heap) (k : List Fr) (Q : Ex → T AV → Heap → Prop), i + n = l.length → (∃ e ver, hh.get n2 = some (.cells [p0, p1, w] e ver)) → (∃ e ver, hh.get n3 = some (.cells [q0, q1, u] e ver)) → sg s 2 = .ptr n2 0 → sg s 3 = .ptr n3 0 → sg s 5 = .int .i64 i0 → sg s 6 = .int .i64 i →
      (∀ s', (∀ j, j = 2 ∨ j = 3 ∨ j = 5 → sg s' j = sg s j) → Un P k Q (.exit 2) s' hh) → Lp P b36_0 s hh (Un P k Q) := by
  have hbd := ha.bound (by decide)
  obtain ⟨ra, hwa⟩ := hwa
  obtain ⟨rb, hub⟩ := hub
  induction n with
  | zero =>
    intro i s hh k Q hi hx hy h2 h3 h5 h6 hK
    refine g.lpe b36_0.eq_1 ?_
    obtain ⟨e1, v1, hx⟩ := hx
    have c1 : ¬ ((i : Int) < (l.length : Int)) := by omega
    simp only [h2, h3, h5, h6, hx, hwa, ha.len, c1, RX, VOp.fresh, bxC, bsC, un, most, callsOf, seval, Int.reducePow, ↓reduceIte, Nat.reduceEqDiff, reduceCtorEq]
    refine hK _ ?_
    rintro j (rfl | rfl | rfl) <;> simp only [sg_set, Nat.reduceEqDiff, ↓reduceIte]
  | succ n ih =>
    intro i s hh k Q hi hx hy h2 h3 h5 h6 hK
    refine g.lpe b36_0.eq_1 ?_
    have c1 : (i : Int) < (l.length : Int) := by omega
    obtain ⟨r1, _, g1⟩ := getPt ha i (by omega)
    obtain ⟨r2, _, g2⟩ := getPt hb i (by omega)
    have w1 : IntKind.i64.wrap ((i : Int) + 1) = ((i + 1 : Nat) : Int) := by rw [w64 (by omega) (by omega)]; push_cast; rfl
    have hx' := hx
    have hy' := hy
    obtain ⟨e1, v1, hx⟩ := hx
    obtain ⟨e2, v2, hy⟩ := hy
    simp only [h2, h3, h5, h6, hx, hy, hwa, hub, ha.len, c1, g1, g2, w1, flat2, RX, VOp.fresh, bxC, bsC, un, most, callsOf, seval, Int.reducePow, ↓reduceIte, Nat.reduceEqDiff, reduceCtorEq]
    refine ih (i + 1) _ _ k Q (by omega) hx' hy' ?_ ?_ ?_ ?_ ?_
    · simp only [h2, sg_set, Nat.reduceEqDiff, ↓reduceIte]
    · simp only [h3, sg_set, Nat.reduceEqDiff, ↓reduceIte]
    · simp only [h5, sg_set, Nat.reduceEqDiff, ↓reduceIte]
    · simp only [sg_set, Nat.reduceEqDiff, ↓reduceIte]
    · intro s' q
      refine hK s' fun j hj => (q j hj).trans ?_
      rcases hj with rfl | rfl | rfl <;> simp only [sg_set, Nat.reduceEqDiff, ↓reduceIte]
theorem sRings_loop (g : Pg P tab) {l : List (List Pt)} {w u p0 p1 q0 q1 : AV} (ha : IsL 24 RRing w l) (hb : IsL 24 RRing u l) {n2 n3 : Nat} (n : Nat) :
    ∀ (i : Nat) (s : T AV) (hh : Heap) (k : List Fr) (Q : Ex → T AV → Heap → Prop), i + n = l.length → (∃ e ver, hh.get n2 = some (.cells [p0, p1, w] e ver)) → (∃ e ver, hh.get n3 = some (.cells [q0, q1, u] e ver)) → sg s 2 = .ptr n2 0 → sg s 3 = .ptr n3 0 → sg s 5 = .int .i64 i →
      (∀ s', Un P k Q (.exit 0) s' hh) → Lp P b36_1 s hh (Un P k Q) := by
  have hbd := ha.bound (by decide)
  induction n with
  | zero =>
    intro i s hh k Q hi hx hy h2 h3 h5 hK
    refine g.lpe b36_1.eq_1 ?_
    obtain ⟨e1, v1, hx⟩ := hx
    have c1 : ¬ ((i : Int) < (l.length : Int)) := by omega
    simp only [h2, h3, h5, hx, ha.len, c1, RX, VOp.fresh, bxC, bsC, un, most, callsOf, seval, Int.reducePow, ↓reduceIte, Nat.reduceEqDiff, reduceCtorEq]
    exact hK _
  | succ n ih =>
    intro i s hh k Q hi hx hy h2 h3 h5 hK
    refine g.lpe b36_1.eq_1 ?_
    have c1 : (i : Int) < (l.length : Int) := by omega
    obtain ⟨x1, r1, i1, _, g1⟩ := getRing ha i (by omega)
    obtain ⟨x2, r2, i2, _, g2⟩ := getRing hb i (by omega)
    have w1 : IntKind.i64.wrap ((i : Int) + 1) = ((i + 1 : Nat) : Int) := by rw [w64 (by omega) (by omega)]; push_cast; rfl
    have hx' := hx
    have hy' := hy
    obtain ⟨e1, v1, hx⟩ := hx
    obtain ⟨e2, v2, hy⟩ := hy
    simp only [h2, h3, h5, hx, hy, ha.len, c1, g1, g2, i1.len, i2.len, RX, VOp.fresh, bxC, bsC, un, most, callsOf, seval, Int.reducePow, ↓reduceIte, Nat.reduceEqDiff, reduceCtorEq]
    refine sPts_loop g i1 i2 (i0 := i) ⟨r1, fun hh => g1 hh _⟩ ⟨r2, fun hh => g2 hh _⟩ (l.getD i []).length 0 _ _ _ _ (by omega) hx' hy' ?_ ?_ ?_ ?_ ?_
    · simp only [h2, sg_set, Nat.reduceEqDiff, ↓reduceIte]
    · simp only [h3, sg_set, Nat.reduceEqDiff, ↓reduceIte]
    · simp only [h5, sg_set, Nat.reduceEqDiff, ↓reduceIte]
    · simp only [sg_set, Nat.reduceEqDiff, ↓reduceIte]
      rfl
    intro s' q
    have a2 := q 2 (by simp)
    have a3 := q 3 (by simp)
    have a5 := q 5 (by simp)
    simp only [sg_set, Nat.reduceEqDiff, ↓reduceIte, h2, h3, h5] at a2 a3 a5
    simp only [a5, w1, RX, VOp.fresh, bxC, bsC, un, most, callsOf, seval, Int.reducePow, ↓reduceIte, Nat.reduceEqDiff, reduceCtorEq]
    refine ih (i + 1) _ _ k Q (by omega) hx' hy' ?_ ?_ ?_ hK
    · simp only [a2, sg_set, Nat.reduceEqDiff, ↓reduceIte]
    · simp only [a3, sg_set, Nat.reduceEqDiff, ↓reduceIte]
    · simp only [sg_set, Nat.reduceEqDiff, ↓reduceIte]
theorem sFeat_pu (g : Pg P tab) {f : Feat} {c d : List AV} (hc : RFeat f c) (hd : RFeat f d) : Pu P 36 [.agg c, .agg d] (fun v => v = .bool true) := by
  obtain ⟨a, rfl, _, _, ha⟩ := hc
  obtain ⟨b, rfl, _, _, hb⟩ := hd
  refine g.pu (vf := v36) rfl rfl ?_
  simp only [v36, ha.len, hb.len, RX, VOp.fresh, bxC, bsC, un, most, callsOf, seval, Int.reducePow, ↓reduceIte, Nat.reduceEqDiff, reduceCtorEq]
  refine sRings_loop g ha hb (n2 := 0) (n3 := 1) f.rings.length 0 _ _ _ _ (by omega) ⟨49, 0, by rw [Heap.get_mk, if_neg (by decide), Heap.get_mk, if_pos rfl]⟩ ⟨49, 0, by rw [Heap.get_mk, if_pos rfl]⟩ ?_ ?_ ?_ fun s' => ?_
  · simp only [sg_set, Nat.reduceEqDiff, ↓reduceIte]
  · simp only [sg_set, Nat.reduceEqDiff, ↓reduceIte]
  · simp only [sg_set, Nat.reduceEqDiff, ↓reduceIte]
    rfl
  simp only [RX, VOp.fresh, bxC, bsC, un, most, callsOf, seval, Int.reducePow, ↓reduceIte, Nat.reduceEqDiff, reduceCtorEq]
end
end Go.Proofs.YtpfpngmfooagiaaGreat.VM
namespace Go.Proofs.YtpfpngmfooagiaaGreat.VM
attribute [local irreducible] Af Nx EvO Ev Un Gd Cd EvR EvQ EvC Nc Gc Lp EvM NxM AfM GdM EvMR EvMQ EvMD EvMC Nm Gm
end Go.Proofs.YtpfpngmfooagiaaGreat.VM
namespace Go.Proofs.YtpfpngmfooagiaaGreat.VM
attribute [local irreducible] Af Nx EvO Ev Un Gd Cd EvR EvQ EvC Nc Gc Lp EvM NxM AfM GdM EvMR EvMQ EvMD EvMC Nm Gm
end Go.Proofs.YtpfpngmfooagiaaGreat.VM
namespace Go.Proofs.YtpfpngmfooagiaaGreat.VM
attribute [local irreducible] Af Nx EvO Ev Un Gd Cd EvR EvQ EvC Nc Gc Lp EvM NxM AfM GdM EvMR EvMQ EvMD EvMC Nm Gm
theorem bares_mem : ∀ {l : List AV} {x : AV}, AV.bares l = true → x ∈ l → x.bare = true
  | y :: l, x, h, hx => by
    simp only [AV.bares, Bool.and_eq_true] at h
    rcases List.mem_cons.1 hx with rfl | hx
    · exact h.1
    · exact bares_mem h.2 hx
section
variable {h : Heap} {B : Nat → Prop}
theorem Fds.get : ∀ {x y : List AV} {D : List Nat}, Fds h x y D → ∀ {j : Nat} {b : AV}, y[j]? = some b → ∃ a E, x[j]? = some a ∧ a ∈ x ∧ Fd h a b E ∧ ∀ c ∈ E, c ∈ D
  | _, _, _, .nil, j, b, e => by simp at e
  | _, _, _, .cons (x := x) (D := D) f t, 0, b, e => by
    simp only [List.getElem?_cons_zero, Option.some.injEq] at e
    subst e
    exact ⟨x, D, rfl, List.mem_cons_self, f, fun c hc => List.mem_append_left _ hc⟩
  | _, _, _, .cons f t, j + 1, b, e => by
    simp only [List.getElem?_cons_succ] at e
    obtain ⟨a, E, h1, h2, h3, h4⟩ := t.get e
    exact ⟨a, E, by simpa using h1, List.mem_cons_of_mem _ h2, h3, fun c hc => List.mem_append_right _ (h4 c hc)⟩
theorem Lvs.get {x y : List AV} (l : Lvs h B x y) {j : Nat} {b : AV} (e : y[j]? = some b) : ∃ a, x[j]? = some a ∧ Lv h B a b := by
  obtain ⟨D, f, hb, o, i⟩ := l
  obtain ⟨a, E, h1, h2, h3, h4⟩ := f.get e
  exact ⟨a, h1, E, h3, bares_mem hb h2, fun c hc => o c (h4 c hc), fun c hc => i c (h4 c hc)⟩
end
end Go.Proofs.YtpfpngmfooagiaaGreat.VM
namespace Go.Proofs.YtpfpngmfooagiaaGreat.VM
attribute [local irreducible] Af Nx EvO Ev Un Gd Cd EvR EvQ EvC Nc Gc Lp EvM NxM AfM GdM EvMR EvMQ EvMD EvMC Nm Gm
structure Bx where
  x0 : Int
  y0 : Int
  x1 : Int
  y1 : Int
def boxOk (b : Bx) : Prop := coordOk b.x0 ∧ coordOk b.y0 ∧ coordOk b.x1 ∧ coordOk b.y1 ∧ b.x0 ≤ b.x1 ∧ b.y0 ≤ b.y1
instance (b : Bx) : Decidable (boxOk b) := by unfold boxOk; infer_instance
def nodeOk (x : Int) : Prop := 0 ≤ x ∧ x < 8
instance (x : Int) : Decidable (nodeOk x) := by unfold nodeOk; infer_instance
def feat0 : Feat := ⟨0, 0, []⟩
section
variable {P : Program}
theorem isL_one {b : Nat} {α : Type} {R : α → List AV → Prop} {v : AV} {l : List α} (h : IsL b R v l) : v.one = true := by
  rcases h.2 with ⟨rfl, _⟩ | ⟨c, rfl, _⟩ <;> rfl
theorem zFeat (a : Feat) (c : List AV) (h : RFeat a c) : c.length = 3 := by obtain ⟨v, rfl, _⟩ := h; rfl
theorem getFeat {v : AV} {l : List Feat} (h : IsL 32 RFeat v l) (i : Nat) (hi : i < l.length) : ∃ rv r, IsL 24 RRing rv (l.getD i feat0).rings ∧ I64 (l.getD i feat0).id ∧ I64 (l.getD i feat0).shape ∧ AV.tolds r = true ∧
    ∀ (hh : Heap) (kk : IntKind), iaV hh 3 none v (.int kk (i : Int)) = .val (.rp (.int .i64 (l.getD i feat0).id :: .int .i64 (l.getD i feat0).shape :: rv :: r)) hh := by
  obtain ⟨ci, r, ⟨rv, e, i1, i2, hr⟩, ht, hia⟩ := h.get zFeat tFeat i hi
  have : l.getD i feat0 = l[i] := by simp [List.getD_eq_getElem?_getD, List.getElem?_eq_getElem hi]
  refine ⟨rv, r, by rw [this]; exact hr, by rw [this]; exact i1, by rw [this]; exact i2, ?_, fun hh kk => ?_⟩
  · rw [e] at ht
    simp only [AV.tolds, List.cons_append, List.nil_append, Bool.and_eq_true] at ht
    exact ht.2.2.2
  · rw [hia, e, this]; rfl
end
def zeroBox (b : Bx) : Prop := b.x0 = 0 ∧ b.y0 = 0 ∧ b.x1 = 0 ∧ b.y1 = 0
instance (b : Bx) : Decidable (zeroBox b) := by unfold zeroBox; infer_instance
end Go.Proofs.YtpfpngmfooagiaaGreat.VM
namespace Go.Proofs.YtpfpngmfooagiaaGreat.VM
attribute [local irreducible] Af Nx EvO Ev Un Gd Cd EvR EvQ EvC Nc Gc Lp EvM NxM AfM GdM EvMR EvMQ EvMD EvMC Nm Gm
section
variable {P : Program}
theorem sFeats_loop (g : Pg P tab) {l : List Feat} {a b : AV} (ha : IsL 32 RFeat a l) (hb : IsL 32 RFeat b l) (n : Nat) :
    ∀ (i : Nat) (s : T AV) (hh : Heap) (k : List Fr) (Q : Ex → T AV → Heap → Prop), i + n = l.length → sg s 0 = a → sg s 1 = b → sg s 5 = .int .i64 i → (∀ s' h', Un P k Q (.exit 0) s' h') → Lp P b18_0 s hh (Un P k Q) := by
  have hbd := ha.bound (by decide)
  induction n with
  | zero =>
    intro i s hh k Q hi h0 h1 h5 hK
    refine g.lpe b18_0.eq_1 ?_
    have c1 : ¬ ((i : Int) < (l.length : Int)) := by omega
    simp only [h0, h5, ha.len, c1, RX, VOp.fresh, bxC, bsC, un, most, callsOf, seval, Int.reducePow, ↓reduceIte, Nat.reduceEqDiff, reduceCtorEq]
    exact hK _ _
  | succ n ih =>
    intro i s hh k Q hi h0 h1 h5 hK
    refine g.lpe b18_0.eq_1 ?_
    have c1 : (i : Int) < (l.length : Int) := by omega
    obtain ⟨x1, r1, i4, i2, i3, _, g1⟩ := getFeat ha i (by omega)
    obtain ⟨y1, r2, k4, k2, k3, _, g2⟩ := getFeat hb i (by omega)
    have w1 : IntKind.i64.wrap ((i : Int) + 1) = ((i + 1 : Nat) : Int) := by rw [w64 (by omega) (by omega)]; push_cast; rfl
    simp only [h0, h1, h5, ha.len, c1, g1, g2, Bool.or_self, RX, VOp.fresh, bxC, bsC, un, most, callsOf, seval, Int.reducePow, ↓reduceIte, Nat.reduceEqDiff, reduceCtorEq]
    refine (sFeat_pu g (f := l.getD i feat0) ⟨_, rfl, i2, i3, i4⟩ ⟨_, rfl, k2, k3, k4⟩).go (by simp [AV.tolds, AV.told, i4.told tRing, k4.told tRing]) ?_
    rintro v rfl
    simp only [h0, h1, h5, w1, RX, VOp.fresh, bxC, bsC, un, most, callsOf, seval, Int.reducePow, ↓reduceIte, Nat.reduceEqDiff, reduceCtorEq]
    refine ih (i + 1) _ _ k Q (by omega) ?_ ?_ ?_ hK
    · simp only [h0, sg_set, Nat.reduceEqDiff, ↓reduceIte]
    · simp only [h1, sg_set, Nat.reduceEqDiff, ↓reduceIte]
    · simp only [sg_set, Nat.reduceEqDiff, ↓reduceIte]
theorem sFeats_pu (g : Pg P tab) {l : List Feat} {a b : AV} (ha : IsL 32 RFeat a l) (hb : IsL 32 RFeat b l) : Pu P 18 [a, b] (fun v => v = .bool true) := by
  refine g.pu (vf := v18) rfl rfl ?_
  simp only [v18, ha.len, hb.len, RX, VOp.fresh, bxC, bsC, un, most, callsOf, seval, Int.reducePow, ↓reduceIte, Nat.reduceEqDiff, reduceCtorEq]
  refine sFeats_loop g ha hb l.length 0 _ _ _ _ (by omega) ?_ ?_ ?_ fun s' h' => ?_
  · simp only [sg_set, Nat.reduceEqDiff, ↓reduceIte]
  · simp only [sg_set, Nat.reduceEqDiff, ↓reduceIte]
  · simp only [sg_set, Nat.reduceEqDiff, ↓reduceIte]
    rfl
  simp only [RX, VOp.fresh, bxC, bsC, un, most, callsOf, seval, Int.reducePow, ↓reduceIte, Nat.reduceEqDiff, reduceCtorEq]
end
end Go.Proofs.YtpfpngmfooagiaaGreat.VM
namespace Go.Proofs.YtpfpngmfooagiaaGreat.VM
attribute [local irreducible] Af Nx EvO Ev Un Gd Cd EvR EvQ EvC Nc Gc Lp EvM NxM AfM GdM EvMR EvMQ EvMD EvMC Nm Gm
end Go.Proofs.YtpfpngmfooagiaaGreat.VM
namespace Go.Proofs.YtpfpngmfooagiaaGreat.VM
attribute [local irreducible] Af Nx EvO Ev Un Gd Cd EvR EvQ EvC Nc Gc Lp EvM NxM AfM GdM EvMR EvMQ EvMD EvMC Nm Gm
end Go.Proofs.YtpfpngmfooagiaaGreat.VM
