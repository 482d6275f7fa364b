/- Part of a proof: what stands for the program, and its walk. No condition. -/
import Derived.Below
import Derived.ChangeArms
import Derived.ChangeMaps5
import Derived.Laws.Cells
import Derived.Laws.IdiomCopy
import Derived.MapKept
import Derived.OrdersIn
import Derived.RangeFuncLeaves
import Derived.RangeFuncRecord
import Derived.SizedLaws
import Derived.WalkKit
import Derived.WalkLawsBesides
import GoSem.Claim
import Derived.Test.YtinonmcnofjeeaaQAc
set_option linter.unusedSimpArgs false
set_option linter.unusedVariables false
set_option linter.defProp false
set_option maxHeartbeats 1000000
namespace Go.Proofs.Ytinonmcnofjeeaa.VM
def b10_0 : VCode := (.seq (.seq (.ops [⟨(some 49), none, .mov (.t 9)⟩, ⟨(some 50), none, .mov (.t 1)⟩, ⟨(some 51), none, .bi (.len 1) [(.t 50)]⟩, ⟨(some 52), none, .bin .lss (.t 49) (.t 51)⟩, ⟨(some 53), none, .mov (.t 52)⟩, ⟨(some 54), (some (53, true)), .mov (.t 9)⟩, ⟨(some 55), (some (53, true)), .bin .lss (.t 54) (.c (.int .i64 80))⟩, ⟨(some 56), none, .pick (.t 53) (.t 55) (.c (.bool false))⟩])
 (.cond (.t 56) .skip (.exit 0)))
 (.seq (.block 1 (.seq (.ops [⟨(some 59), none, .mov (.t 1)⟩, ⟨(some 60), none, .mov (.t 9)⟩, ⟨(some 61), none, .iaddr 18 none (.t 59) (.t 60)⟩, ⟨(some 62), none, .load true 18 (.t 61)⟩, ⟨(some 10), none, .alloc [(.int .i64 0), (.int .i64 0), (.int .i64 0), (.int .i64 0), (.int .i64 0), (.int .i64 0), (.int .i64 0), (.bool false), (.int .i64 0), (.int .i64 0), (.bool false), (.int .i64 0), (.int .i64 0), (.int .i64 0), (.int .i64 0), .nils, .nils, (.int .i64 0)] 84⟩, ⟨none, none, .store 18 (.t 10) (.t 62)⟩])
 (.seq (.block 2 (.seq (.ops [⟨(some 75), none, .faddr 0 (.t 10)⟩, ⟨(some 76), none, .load false 1 (.t 75)⟩, ⟨(some 77), none, .bin .lss (.t 76) (.c (.int .i64 4))⟩, ⟨(some 74), none, .mov (.t 77)⟩])
 (.cond (.t 74) (.seq (.ops [⟨(some 78), none, .faddr 1 (.t 10)⟩, ⟨(some 79), none, .load true 16 (.t 78)⟩, ⟨(some 11), none, .alloc [(.int .i64 0), (.int .i64 0), (.int .i64 0), (.int .i64 0), (.int .i64 0), (.int .i64 0), (.bool false), (.int .i64 0), (.int .i64 0), (.bool false), (.int .i64 0), (.int .i64 0), (.int .i64 0), (.int .i64 0), .nils, .nils] 63⟩, ⟨none, none, .store 16 (.t 11) (.t 79)⟩])
 (.seq (.ops [⟨(some 80), none, .faddr 1 (.t 10)⟩, ⟨(some 81), none, .faddr 14 (.t 80)⟩, ⟨(some 82), none, .load false 1 (.t 81)⟩, ⟨(some 83), none, .call 13 [(.t 82)]⟩, ⟨(some 84), none, .faddr 14 (.t 11)⟩, ⟨none, none, .store 1 (.t 84) (.t 83)⟩])
 (.seq (.ops [⟨(some 85), none, .mov (.t 5)⟩, ⟨(some 86), none, .load true 16 (.t 11)⟩, ⟨(some 87), none, .call 35 [(.t 85), (.t 86)]⟩, ⟨(some 12), none, .mov (.t 87)⟩])
 (.seq (.seq (.drawn [⟨(some 88), none, .mov (.t 12)⟩, ⟨(some 89), none, .call 19 [(.t 88)]⟩, ⟨(some 90), none, .mov (.t 7)⟩, ⟨(some 91), none, .faddr 1 (.t 10)⟩, ⟨(some 92), none, .load true 16 (.t 91)⟩, ⟨(some 93), none, .call 36 [(.t 90), (.t 92)]⟩, ⟨(some 94), none, .bin .neq (.t 89) (.t 93)⟩] [(4, [0])])
 (.cond (.t 94) (.seq (.ops [⟨(some 4), none, .mov (.c (.bool false))⟩])
 .ret) .skip))
 (.ops [⟨(some 95), none, .faddr 14 (.t 11)⟩, ⟨(some 96), none, .load false 1 (.t 95)⟩, ⟨(some 97), none, .call 21 [(.t 96)]⟩]))))) (.seq (.ops [⟨(some 99), none, .faddr 0 (.t 10)⟩, ⟨(some 100), none, .load false 1 (.t 99)⟩, ⟨(some 101), none, .bin .lss (.t 100) (.c (.int .i64 6))⟩, ⟨(some 98), none, .mov (.t 101)⟩])
 (.cond (.t 98) (.seq (.ops [⟨(some 103), none, .mov (.t 5)⟩, ⟨(some 104), none, .faddr 17 (.t 10)⟩, ⟨(some 105), none, .load false 1 (.t 104)⟩, ⟨(some 106), none, .call 37 [(.t 103), (.t 105)]⟩, ⟨(some 102), none, .mov (.t 106)⟩, ⟨(some 107), none, .extract (.t 102) 0⟩, ⟨(some 108), none, .extract (.t 102) 1⟩, ⟨(some 13), none, .alloc [(.int .i64 0), (.int .i64 0), (.int .i64 0), (.int .i64 0), (.int .i64 0), (.int .i64 0), (.bool false), (.int .i64 0), (.int .i64 0), (.bool false), (.int .i64 0), (.int .i64 0), (.int .i64 0), (.int .i64 0), .nils, .nils] 63⟩, ⟨none, none, .store 16 (.t 13) (.t 107)⟩, ⟨(some 14), none, .mov (.t 108)⟩])
 (.seq (.ops [⟨(some 110), none, .mov (.t 7)⟩, ⟨(some 111), none, .faddr 17 (.t 10)⟩, ⟨(some 112), none, .load false 1 (.t 111)⟩, ⟨(some 113), none, .call 38 [(.t 110), (.t 112)]⟩, ⟨(some 109), none, .mov (.t 113)⟩, ⟨(some 114), none, .extract (.t 109) 0⟩, ⟨(some 115), none, .extract (.t 109) 1⟩, ⟨(some 15), none, .alloc [(.int .i64 0), (.int .i64 0), (.int .i64 0), (.int .i64 0), (.int .i64 0), (.int .i64 0), (.bool false), (.int .i64 0), (.int .i64 0), (.bool false), (.int .i64 0), (.int .i64 0), (.int .i64 0), (.int .i64 0), .nils, .nils] 63⟩, ⟨none, none, .store 16 (.t 15) (.t 114)⟩, ⟨(some 16), none, .mov (.t 115)⟩])
 (.seq (.ops [⟨(some 116), none, .load true 16 (.t 13)⟩, ⟨(some 117), none, .load true 16 (.t 15)⟩, ⟨(some 118), none, .call 29 [(.t 116), (.t 117)]⟩, ⟨(some 119), none, .un .not (.t 118)⟩, ⟨(some 120), none, .mov (.t 119)⟩, ⟨(some 121), (some (120, false)), .mov (.t 14)⟩, ⟨(some 122), (some (120, false)), .call 19 [(.t 121)]⟩, ⟨(some 123), (some (120, false)), .mov (.t 16)⟩, ⟨(some 124), (some (120, false)), .bin .neq (.t 122) (.t 123)⟩, ⟨(some 125), none, .pick (.t 120) (.c (.bool true)) (.t 124)⟩])
 (.cond (.t 125) (.seq (.ops [⟨(some 4), none, .mov (.c (.bool false))⟩])
 .ret) .skip)))) (.seq (.ops [⟨(some 63), none, .mov (.t 5)⟩, ⟨(some 64), none, .faddr 17 (.t 10)⟩, ⟨(some 65), none, .load false 1 (.t 64)⟩, ⟨(some 66), none, .call 39 [(.t 63), (.t 65)]⟩, ⟨(some 17), none, .mov (.t 66)⟩])
 (.seq (.drawn [⟨(some 67), none, .mov (.t 17)⟩, ⟨(some 68), none, .call 19 [(.t 67)]⟩, ⟨(some 69), none, .mov (.t 7)⟩, ⟨(some 70), none, .faddr 17 (.t 10)⟩, ⟨(some 71), none, .load false 1 (.t 70)⟩, ⟨(some 72), none, .call 40 [(.t 69), (.t 71)]⟩, ⟨(some 73), none, .bin .neq (.t 68) (.t 72)⟩] [(4, [0])])
 (.cond (.t 73) (.seq (.ops [⟨(some 4), none, .mov (.c (.bool false))⟩])
 .ret) .skip))))))))
 (.seq (.ops [⟨(some 126), none, .mov (.t 5)⟩, ⟨(some 127), none, .call 41 [(.t 126)]⟩, ⟨(some 18), none, .mov (.t 127)⟩])
 (.seq (.seq (.ops [⟨(some 128), none, .mov (.t 18)⟩, ⟨(some 129), none, .mov (.t 7)⟩, ⟨(some 130), none, .nilck (.t 129)⟩, ⟨(some 131), none, .faddr 1 (.t 130)⟩, ⟨(some 132), none, .load false 1 (.t 131)⟩, ⟨(some 133), none, .call 42 [(.t 128), (.t 132)]⟩, ⟨(some 134), none, .un .not (.t 133)⟩])
 (.cond (.t 134) (.seq (.ops [⟨(some 4), none, .mov (.c (.bool false))⟩])
 .ret) .skip))
 (.ops [⟨(some 135), none, .mov (.t 18)⟩, ⟨(some 136), none, .call 30 [(.t 135)]⟩]))))))
 (.ops [⟨(some 57), none, .mov (.t 9)⟩, ⟨(some 58), none, .bin .add (.t 57) (.c (.int .i64 1))⟩, ⟨(some 9), none, .mov (.t 58)⟩])))
/-- furlong/furlonglaw17.QueueActs -/
def v10 : VFun := ⟨2, [(.tmp 4)], (.seq (.ops [⟨(some 4), none, .mov (.c (.bool false))⟩])
 (.seq (.ops [⟨(some 20), none, .mov (.t 0)⟩, ⟨(some 21), none, .call 32 [(.t 20)]⟩, ⟨(some 19), none, .mov (.t 21)⟩, ⟨(some 22), none, .extract (.t 19) 0⟩, ⟨(some 23), none, .extract (.t 19) 1⟩, ⟨(some 5), none, .mov (.t 22)⟩, ⟨(some 6), none, .mov (.t 23)⟩])
 (.seq (.ops [⟨(some 25), none, .mov (.t 0)⟩, ⟨(some 26), none, .call 33 [(.t 25)]⟩, ⟨(some 24), none, .mov (.t 26)⟩, ⟨(some 27), none, .extract (.t 24) 0⟩, ⟨(some 28), none, .extract (.t 24) 1⟩, ⟨(some 7), none, .mov (.t 27)⟩, ⟨(some 8), none, .mov (.t 28)⟩])
 (.seq (.seq (.ops [⟨(some 29), none, .mov (.t 8)⟩, ⟨(some 30), none, .bin .neq (.t 29) (.c (.int .i64 0))⟩])
 (.cond (.t 30) (.seq (.ops [⟨(some 31), none, .mov (.t 6)⟩, ⟨(some 32), none, .call 19 [(.t 31)]⟩, ⟨(some 33), none, .mov (.t 8)⟩, ⟨(some 34), none, .bin .eql (.t 32) (.t 33)⟩, ⟨(some 35), none, .mov (.t 34)⟩, ⟨(some 36), (some (35, true)), .mov (.t 5)⟩, ⟨(some 37), (some (35, true)), .eqs .ptr false (.t 36) (.c .nilp)⟩, ⟨(some 38), none, .pick (.t 35) (.t 37) (.c (.bool false))⟩, ⟨(some 39), none, .mov (.t 38)⟩, ⟨(some 40), (some (39, true)), .call 34 []⟩, ⟨(some 41), none, .pick (.t 39) (.t 40) (.c (.bool false))⟩, ⟨(some 4), none, .mov (.t 41)⟩])
 .ret) .skip))
 (.seq (.seq (.ops [⟨(some 42), none, .mov (.t 6)⟩, ⟨(some 43), none, .call 19 [(.t 42)]⟩, ⟨(some 44), none, .bin .neq (.t 43) (.c (.int .i64 0))⟩, ⟨(some 45), none, .mov (.t 44)⟩, ⟨(some 46), (some (45, false)), .mov (.t 5)⟩, ⟨(some 47), (some (45, false)), .eqs .ptr false (.t 46) (.c .nilp)⟩, ⟨(some 48), none, .pick (.t 45) (.c (.bool true)) (.t 47)⟩])
 (.cond (.t 48) (.seq (.ops [⟨(some 4), none, .mov (.c (.bool false))⟩])
 .ret) .skip))
 (.seq (.seq (.ops [⟨(some 9), none, .mov (.c (.int .i64 0))⟩])
 (.block 0 (.loop b10_0)))
 (.seq (.ops [⟨(some 137), none, .call 34 []⟩, ⟨(some 4), none, .mov (.t 137)⟩])
 .ret)))))))⟩
def b13_0 : VCode := (.seq (.seq (.ops [⟨(some 5), none, .mov (.t 4)⟩, ⟨(some 6), none, .mov (.t 0)⟩, ⟨(some 7), none, .bi (.len 1) [(.t 6)]⟩, ⟨(some 8), none, .bin .lss (.t 5) (.t 7)⟩])
 (.cond (.t 8) .skip (.exit 0)))
 (.seq (.block 1 (.drawn [⟨(some 11), none, .mov (.t 3)⟩, ⟨(some 12), none, .mov (.t 0)⟩, ⟨(some 13), none, .mov (.t 4)⟩, ⟨(some 14), none, .iaddr 8 none (.t 12) (.t 13)⟩, ⟨(some 15), none, .faddr 0 (.t 14)⟩, ⟨(some 16), none, .load false 1 (.t 15)⟩, ⟨(some 17), none, .mov (.t 0)⟩, ⟨(some 18), none, .mov (.t 4)⟩, ⟨(some 19), none, .iaddr 8 none (.t 17) (.t 18)⟩, ⟨(some 20), none, .faddr 4 (.t 19)⟩, ⟨(some 21), none, .load false 1 (.t 20)⟩, ⟨(some 22), none, .mov (.t 0)⟩, ⟨(some 23), none, .mov (.t 4)⟩, ⟨(some 24), none, .iaddr 8 none (.t 22) (.t 23)⟩, ⟨(some 25), none, .faddr 1 (.t 24)⟩, ⟨(some 26), none, .load true 3 (.t 25)⟩, ⟨(some 27), none, .call 44 [(.t 26)]⟩, ⟨(some 28), none, .mov (.t 0)⟩, ⟨(some 29), none, .mov (.t 4)⟩, ⟨(some 30), none, .iaddr 8 none (.t 28) (.t 29)⟩, ⟨(some 31), none, .faddr 5 (.t 30)⟩, ⟨(some 32), none, .load true 3 (.t 31)⟩, ⟨(some 33), none, .call 14 [(.t 32)]⟩, ⟨(some 34), none, .build [(.int .i64 0), (.int .i64 0), (.int .i64 0), .nils, (.int .i64 0), (.int .i64 0), .nils, .nils] [(0, 1, (.t 16)), (4, 1, (.t 21)), (1, 3, (.t 27)), (5, 3, (.t 33))]⟩, ⟨(some 35), none, .bslice [(.int .i64 0), (.int .i64 0), (.int .i64 0), .nils, (.int .i64 0), (.int .i64 0), .nils, .nils] 54 1 [(0, 8, (.t 34))]⟩, ⟨(some 36), none, .bi (.append 8 112 54) [(.t 11), (.t 35)]⟩, ⟨(some 3), none, .mov (.t 36)⟩] [(5, [17, 23]), (10, [17, 23]), (21, [0])]))
 (.ops [⟨(some 9), none, .mov (.t 4)⟩, ⟨(some 10), none, .bin .add (.t 9) (.c (.int .i64 1))⟩, ⟨(some 4), none, .mov (.t 10)⟩])))
/-- furlong/furlonglaw0.CopyOps -/
def v13 : VFun := ⟨1, [(.tmp 2)], (.seq (.ops [⟨(some 2), none, .mov (.c .nils)⟩])
 (.seq (.ops [⟨(some 3), none, .mov (.c .nils)⟩])
 (.seq (.seq (.ops [⟨(some 4), none, .mov (.c (.int .i64 0))⟩])
 (.block 0 (.loop b13_0)))
 (.seq (.ops [⟨(some 37), none, .mov (.t 3)⟩, ⟨(some 2), none, .mov (.t 37)⟩])
 .ret))))⟩
/-- furlong/furlonglaw0.CopyMap -/
def v14 : VFun := ⟨1, [(.cell 2 true 3)], (.seq (.ops [⟨(some 1), none, .box 26 (.t 0)⟩, ⟨(some 2), none, .alloc [(.int .i64 0), .nils, .nils] 26⟩])
 (.seq (.mixed [⟨(some 3), none, .faddr 0 (.t 1)⟩, ⟨(some 4), none, .load false 1 (.t 3)⟩, ⟨(some 5), none, .bslice [(.int .i64 0)] 3 0 []⟩, ⟨(some 6), none, .faddr 1 (.t 1)⟩, ⟨(some 7), none, .load false 1 (.t 6)⟩, ⟨(some 8), none, .bi (.append 1 8 3) [(.t 5), (.t 7)]⟩, ⟨(some 9), none, .bslice [(.int .i64 0)] 3 0 []⟩, ⟨(some 10), none, .faddr 2 (.t 1)⟩, ⟨(some 11), none, .load false 1 (.t 10)⟩, ⟨(some 12), none, .bi (.append 1 8 3) [(.t 9), (.t 11)]⟩, ⟨(some 13), none, .build [(.int .i64 0), .nils, .nils] [(0, 1, (.t 4)), (1, 1, (.t 8)), (2, 1, (.t 12))]⟩, ⟨none, none, .store 3 (.t 2) (.t 13)⟩] [(1, [3, 6, 7, 10]), (4, [0]), (8, [0, 3, 6])])
 .ret))⟩
/-- furlong/furlonglaw0.Num -/
def v19 : VFun := ⟨1, [(.tmp 2)], (.seq (.ops [⟨(some 2), none, .mov (.c (.int .i64 0))⟩])
 (.seq (.ops [⟨(some 3), none, .mov (.t 0)⟩, ⟨(some 2), none, .mov (.t 3)⟩])
 .ret))⟩
def b21_0 : VCode := (.seq (.seq (.ops [⟨(some 3), none, .mov (.t 2)⟩, ⟨(some 4), none, .mov (.t 0)⟩, ⟨(some 5), none, .bi (.len 1) [(.t 4)]⟩, ⟨(some 6), none, .bin .lss (.t 3) (.t 5)⟩])
 (.cond (.t 6) .skip (.exit 0)))
 (.seq (.block 1 (.seq (.ops [⟨(some 9), none, .mov (.t 0)⟩, ⟨(some 10), none, .mov (.t 2)⟩, ⟨(some 11), none, .iaddr 8 none (.t 9) (.t 10)⟩, ⟨(some 12), none, .faddr 1 (.t 11)⟩, ⟨(some 13), none, .load true 3 (.t 12)⟩, ⟨(some 14), none, .bslice [(.int .i64 0), (.int .i64 0), .nils] 52 1 [(0, 3, (.t 13))]⟩, ⟨(some 15), none, .call 69 [(.t 14)]⟩])
 (.seq (.ops [⟨(some 16), none, .mov (.t 0)⟩, ⟨(some 17), none, .mov (.t 2)⟩, ⟨(some 18), none, .iaddr 8 none (.t 16) (.t 17)⟩, ⟨(some 19), none, .faddr 5 (.t 18)⟩, ⟨(some 20), none, .load true 3 (.t 19)⟩, ⟨(some 21), none, .call 22 [(.t 20)]⟩])
 (.ops [⟨(some 22), none, .mov (.t 0)⟩, ⟨(some 23), none, .mov (.t 2)⟩, ⟨(some 24), none, .mov (.t 0)⟩, ⟨(some 25), none, .mov (.t 2)⟩, ⟨(some 26), none, .iaddr 8 none (.t 24) (.t 25)⟩, ⟨(some 27), none, .faddr 4 (.t 26)⟩, ⟨(some 28), none, .load false 1 (.t 27)⟩, ⟨(some 29), none, .bin .xor (.t 28) (.c (.int .i64 90))⟩, ⟨(some 30), none, .iaddr 8 none (.t 22) (.t 23)⟩, ⟨(some 31), none, .faddr 4 (.t 30)⟩, ⟨none, none, .store 1 (.t 31) (.t 29)⟩]))))
 (.ops [⟨(some 7), none, .mov (.t 2)⟩, ⟨(some 8), none, .bin .add (.t 7) (.c (.int .i64 1))⟩, ⟨(some 2), none, .mov (.t 8)⟩])))
/-- furlong/furlonglaw0.SpoilOps -/
def v21 : VFun := ⟨1, [], (.seq (.ops [⟨(some 2), none, .mov (.c (.int .i64 0))⟩])
 (.block 0 (.loop b21_0)))⟩
/-- furlong/furlonglaw0.SpoilMap -/
def v22 : VFun := ⟨1, [], (.seq (.ops [⟨(some 1), none, .box 26 (.t 0)⟩])
 (.seq (.ops [⟨(some 2), none, .faddr 1 (.t 1)⟩, ⟨(some 3), none, .load false 1 (.t 2)⟩, ⟨(some 4), none, .call 70 [(.t 3)]⟩])
 (.ops [⟨(some 5), none, .faddr 2 (.t 1)⟩, ⟨(some 6), none, .load false 1 (.t 5)⟩, ⟨(some 7), none, .call 70 [(.t 6)]⟩])))⟩
def b25_0 : VCode := (.seq (.ops [⟨(some 28), none, .bin .lss (.t 27) (.c (.int .i64 3))⟩])
 (.seq (.cond (.t 28) .skip (.exit 0))
 (.seq (.block 1 (.seq (.ops [⟨(some 29), none, .index false 1 3 (.t 26) (.t 27)⟩, ⟨(some 8), none, .mov (.t 29)⟩])
 (.ops [⟨(some 30), none, .mov (.t 6)⟩, ⟨(some 31), none, .mov (.t 8)⟩, ⟨(some 32), none, .call 46 [(.t 30), (.t 31), (.c (.int .i64 1))]⟩])))
 (.ops [⟨(some 33), none, .bin .add (.t 27) (.c (.int .i64 1))⟩, ⟨(some 27), none, .mov (.t 33)⟩]))))
def b25_1 : VCode := (.seq (.ops [⟨(some 83), none, .bin .lss (.t 82) (.t 81)⟩])
 (.seq (.cond (.t 83) .skip (.exit 2))
 (.seq (.block 3 (.seq (.ops [⟨(some 84), none, .mov (.t 82)⟩, ⟨(some 9), none, .mov (.t 84)⟩])
 (.ops [⟨(some 85), none, .mov (.t 6)⟩, ⟨(some 86), none, .faddr 15 (.t 1)⟩, ⟨(some 87), none, .load false 1 (.t 86)⟩, ⟨(some 88), none, .mov (.t 9)⟩, ⟨(some 89), none, .iaddr 3 none (.t 87) (.t 88)⟩, ⟨(some 90), none, .call 73 [(.t 85), (.t 89)]⟩])))
 (.ops [⟨(some 91), none, .bin .add (.t 82) (.c (.int .i64 1))⟩, ⟨(some 82), none, .mov (.t 91)⟩]))))
/-- furlong/msg.Put -/
def v25 : VFun := ⟨1, [(.tmp 2), (.tmp 3)], (.seq (.ops [⟨(some 1), none, .box 63 (.t 0)⟩, ⟨(some 2), none, .mov (.c (.str []))⟩, ⟨(some 3), none, .mov (.c (.int .i64 0))⟩])
 (.seq (.ops [⟨(some 11), none, .call 71 [(.t 1)]⟩, ⟨(some 10), none, .mov (.t 11)⟩, ⟨(some 12), none, .extract (.t 10) 0⟩, ⟨(some 13), none, .extract (.t 10) 1⟩, ⟨(some 4), none, .alloc [(.bool false), (.bool false), (.bool false), (.bool false), (.bool false)] 132⟩, ⟨none, none, .store 5 (.t 4) (.t 12)⟩, ⟨(some 5), none, .mov (.t 13)⟩])
 (.seq (.seq (.ops [⟨(some 14), none, .mov (.t 5)⟩, ⟨(some 15), none, .un .not (.t 14)⟩])
 (.cond (.t 15) (.seq (.ops [⟨(some 2), none, .mov (.c (.str []))⟩, ⟨(some 3), none, .mov (.c (.int .i64 1600))⟩])
 .ret) .skip))
 (.seq (.ops [⟨(some 16), none, .bslice [(.int .u8 0)] 5 2 [(0, 1, (.c (.int .u8 77))), (1, 1, (.c (.int .u8 83)))]⟩, ⟨(some 17), none, .conv .mark (.t 16)⟩, ⟨(some 18), none, .build [.nils] [(0, 1, (.t 17))]⟩, ⟨(some 19), none, .box 103 (.t 18)⟩, ⟨(some 6), none, .mov (.t 19)⟩])
 (.seq (.seq (.ops [⟨(some 20), none, .faddr 0 (.t 1)⟩, ⟨(some 21), none, .load false 1 (.t 20)⟩, ⟨(some 22), none, .faddr 1 (.t 1)⟩, ⟨(some 23), none, .load false 1 (.t 22)⟩, ⟨(some 24), none, .faddr 2 (.t 1)⟩, ⟨(some 25), none, .load false 1 (.t 24)⟩, ⟨(some 26), none, .build [(.int .i64 0), (.int .i64 0), (.int .i64 0)] [(0, 1, (.t 21)), (1, 1, (.t 23)), (2, 1, (.t 25))]⟩, ⟨(some 27), none, .mov (.c (.int .i64 0))⟩])
 (.block 0 (.loop b25_0)))
 (.seq (.seq (.ops [⟨(some 34), none, .faddr 0 (.t 4)⟩, ⟨(some 35), none, .load false 1 (.t 34)⟩])
 (.cond (.t 35) (.ops [⟨(some 36), none, .mov (.t 6)⟩, ⟨(some 37), none, .faddr 3 (.t 1)⟩, ⟨(some 38), none, .load true 2 (.t 37)⟩, ⟨(some 39), none, .call 48 [(.t 36), (.t 38)]⟩]) .skip))
 (.seq (.seq (.ops [⟨(some 40), none, .faddr 1 (.t 4)⟩, ⟨(some 41), none, .load false 1 (.t 40)⟩])
 (.cond (.t 41) (.ops [⟨(some 42), none, .mov (.t 6)⟩, ⟨(some 43), none, .faddr 5 (.t 1)⟩, ⟨(some 44), none, .load false 1 (.t 43)⟩, ⟨(some 45), none, .faddr 14 (.t 1)⟩, ⟨(some 46), none, .load false 1 (.t 45)⟩, ⟨(some 47), none, .call 49 [(.t 42), (.t 44), (.t 46)]⟩]) .skip))
 (.seq (.seq (.ops [⟨(some 48), none, .faddr 2 (.t 4)⟩, ⟨(some 49), none, .load false 1 (.t 48)⟩])
 (.cond (.t 49) (.ops [⟨(some 50), none, .mov (.t 6)⟩, ⟨(some 51), none, .faddr 6 (.t 1)⟩, ⟨(some 52), none, .load false 1 (.t 51)⟩, ⟨(some 53), none, .call 50 [(.t 50), (.t 52)]⟩]) .skip))
 (.seq (.seq (.ops [⟨(some 54), none, .faddr 3 (.t 4)⟩, ⟨(some 55), none, .load false 1 (.t 54)⟩])
 (.cond (.t 55) (.seq (.ops [⟨(some 56), none, .mov (.t 6)⟩, ⟨(some 57), none, .faddr 7 (.t 1)⟩, ⟨(some 58), none, .load false 1 (.t 57)⟩, ⟨(some 59), none, .call 46 [(.t 56), (.t 58), (.c (.int .i64 2))]⟩])
 (.ops [⟨(some 60), none, .mov (.t 6)⟩, ⟨(some 61), none, .faddr 10 (.t 1)⟩, ⟨(some 62), none, .load true 4 (.t 61)⟩, ⟨(some 63), none, .call 72 [(.t 60), (.t 62)]⟩])) .skip))
 (.seq (.seq (.ops [⟨(some 64), none, .faddr 4 (.t 4)⟩, ⟨(some 65), none, .load false 1 (.t 64)⟩])
 (.cond (.t 65) (.seq (.ops [⟨(some 66), none, .mov (.t 6)⟩, ⟨(some 67), none, .faddr 8 (.t 1)⟩, ⟨(some 68), none, .load false 1 (.t 67)⟩, ⟨(some 69), none, .call 46 [(.t 66), (.t 68), (.c (.int .i64 4))]⟩])
 (.seq (.ops [⟨(some 70), none, .mov (.t 6)⟩, ⟨(some 71), none, .faddr 9 (.t 1)⟩, ⟨(some 72), none, .load false 1 (.t 71)⟩, ⟨(some 73), none, .call 50 [(.t 70), (.t 72)]⟩])
 (.seq (.ops [⟨(some 74), none, .mov (.t 6)⟩, ⟨(some 75), none, .faddr 15 (.t 1)⟩, ⟨(some 76), none, .load false 1 (.t 75)⟩, ⟨(some 77), none, .bi (.len 1) [(.t 76)]⟩, ⟨(some 78), none, .call 46 [(.t 74), (.t 77), (.c (.int .i64 2))]⟩])
 (.seq (.ops [⟨(some 79), none, .faddr 15 (.t 1)⟩, ⟨(some 80), none, .load false 1 (.t 79)⟩, ⟨(some 81), none, .bi (.len 1) [(.t 80)]⟩, ⟨(some 82), none, .mov (.c (.int .i64 0))⟩])
 (.block 2 (.loop b25_1)))))) .skip))
 (.seq (.seq (.ops [⟨(some 92), none, .mov (.t 6)⟩, ⟨(some 93), none, .nilck (.t 92)⟩, ⟨(some 94), none, .faddr 0 (.t 93)⟩, ⟨(some 95), none, .load false 1 (.t 94)⟩, ⟨(some 96), none, .bi (.len 1) [(.t 95)]⟩, ⟨(some 97), none, .bin .gtr (.t 96) (.c (.int .i64 16384))⟩])
 (.cond (.t 97) (.seq (.ops [⟨(some 2), none, .mov (.c (.str []))⟩, ⟨(some 3), none, .mov (.c (.int .i64 1600))⟩])
 .ret) .skip))
 (.seq (.ops [⟨(some 98), none, .mov (.t 6)⟩, ⟨(some 99), none, .nilck (.t 98)⟩, ⟨(some 100), none, .faddr 0 (.t 99)⟩, ⟨(some 101), none, .load false 1 (.t 100)⟩, ⟨(some 102), none, .conv .text (.t 101)⟩, ⟨(some 2), none, .mov (.t 102)⟩, ⟨(some 3), none, .mov (.c (.int .i64 0))⟩])
 .ret))))))))))))⟩
def b26_0 : VCode := (.seq (.seq (.ops [⟨(some 63), none, .mov (.t 5)⟩, ⟨(some 64), none, .faddr 15 (.t 1)⟩, ⟨(some 65), none, .load false 1 (.t 64)⟩, ⟨(some 66), none, .bi (.len 1) [(.t 65)]⟩, ⟨(some 67), none, .bin .lss (.t 63) (.t 66)⟩, ⟨(some 68), none, .mov (.t 67)⟩, ⟨(some 69), (some (68, true)), .mov (.t 4)⟩, ⟨(some 70), (some (68, true)), .bi (.len 0) [(.t 69)]⟩, ⟨(some 71), (some (68, true)), .bin .leq (.t 70) (.c (.int .i64 16384))⟩, ⟨(some 72), none, .pick (.t 68) (.t 71) (.c (.bool false))⟩])
 (.cond (.t 72) .skip (.exit 1)))
 (.seq (.block 2 (.ops [⟨(some 75), none, .mov (.t 4)⟩, ⟨(some 76), none, .faddr 15 (.t 1)⟩, ⟨(some 77), none, .load false 1 (.t 76)⟩, ⟨(some 78), none, .mov (.t 5)⟩, ⟨(some 79), none, .iaddr 3 none (.t 77) (.t 78)⟩, ⟨(some 80), none, .load true 3 (.t 79)⟩, ⟨(some 81), none, .call 76 [(.t 80)]⟩, ⟨(some 82), none, .bin .add (.t 75) (.t 81)⟩, ⟨(some 4), none, .mov (.t 82)⟩]))
 (.ops [⟨(some 73), none, .mov (.t 5)⟩, ⟨(some 74), none, .bin .add (.t 73) (.c (.int .i64 1))⟩, ⟨(some 5), none, .mov (.t 74)⟩])))
/-- furlong/furlongref12.PutMsg -/
def v26 : VFun := ⟨1, [(.tmp 2), (.tmp 3)], (.seq (.ops [⟨(some 1), none, .box 63 (.t 0)⟩, ⟨(some 2), none, .mov (.c (.str []))⟩, ⟨(some 3), none, .mov (.c (.int .i64 0))⟩])
 (.seq (.seq (.ops [⟨(some 6), none, .load true 16 (.t 1)⟩, ⟨(some 7), none, .call 74 [(.t 6)]⟩, ⟨(some 8), none, .un .not (.t 7)⟩])
 (.cond (.t 8) (.seq (.ops [⟨(some 2), none, .mov (.c (.str []))⟩, ⟨(some 3), none, .mov (.c (.int .i64 1600))⟩])
 .ret) .skip))
 (.seq (.drawn [⟨(some 9), none, .faddr 0 (.t 1)⟩, ⟨(some 10), none, .load false 1 (.t 9)⟩, ⟨(some 11), none, .call 52 [(.t 10), (.c (.int .i64 1))]⟩, ⟨(some 12), none, .bin .add (.c (.str [77, 83])) (.t 11)⟩, ⟨(some 13), none, .faddr 1 (.t 1)⟩, ⟨(some 14), none, .load false 1 (.t 13)⟩, ⟨(some 15), none, .call 52 [(.t 14), (.c (.int .i64 1))]⟩, ⟨(some 16), none, .bin .add (.t 12) (.t 15)⟩, ⟨(some 17), none, .faddr 2 (.t 1)⟩, ⟨(some 18), none, .load false 1 (.t 17)⟩, ⟨(some 19), none, .call 52 [(.t 18), (.c (.int .i64 1))]⟩, ⟨(some 20), none, .bin .add (.t 16) (.t 19)⟩, ⟨(some 4), none, .mov (.t 20)⟩] [(5, [0]), (9, [0, 3])])
 (.seq (.seq (.ops [⟨(some 21), none, .faddr 0 (.t 1)⟩, ⟨(some 22), none, .load false 1 (.t 21)⟩])
 (.block 0 (.seq (.ops [⟨(some 29), none, .bin .eql (.t 22) (.c (.int .i64 5))⟩, ⟨(some 28), none, .mov (.t 29)⟩])
 (.cond (.t 28) (.drawn [⟨(some 30), none, .mov (.t 4)⟩, ⟨(some 31), none, .faddr 7 (.t 1)⟩, ⟨(some 32), none, .load false 1 (.t 31)⟩, ⟨(some 33), none, .call 52 [(.t 32), (.c (.int .i64 2))]⟩, ⟨(some 34), none, .bin .add (.t 30) (.t 33)⟩, ⟨(some 35), none, .faddr 10 (.t 1)⟩, ⟨(some 36), none, .load true 4 (.t 35)⟩, ⟨(some 37), none, .call 75 [(.t 36)]⟩, ⟨(some 38), none, .bin .add (.t 34) (.t 37)⟩, ⟨(some 4), none, .mov (.t 38)⟩] [(6, [0])]) (.seq (.ops [⟨(some 40), none, .bin .eql (.t 22) (.c (.int .i64 6))⟩, ⟨(some 39), none, .mov (.t 40)⟩])
 (.cond (.t 39) (.seq (.drawn [⟨(some 41), none, .mov (.t 4)⟩, ⟨(some 42), none, .faddr 7 (.t 1)⟩, ⟨(some 43), none, .load false 1 (.t 42)⟩, ⟨(some 44), none, .call 52 [(.t 43), (.c (.int .i64 2))]⟩, ⟨(some 45), none, .bin .add (.t 41) (.t 44)⟩, ⟨(some 46), none, .faddr 10 (.t 1)⟩, ⟨(some 47), none, .load true 4 (.t 46)⟩, ⟨(some 48), none, .call 75 [(.t 47)]⟩, ⟨(some 49), none, .bin .add (.t 45) (.t 48)⟩, ⟨(some 50), none, .faddr 8 (.t 1)⟩, ⟨(some 51), none, .load false 1 (.t 50)⟩, ⟨(some 52), none, .call 52 [(.t 51), (.c (.int .i64 4))]⟩, ⟨(some 53), none, .bin .add (.t 49) (.t 52)⟩, ⟨(some 54), none, .faddr 9 (.t 1)⟩, ⟨(some 55), none, .load false 1 (.t 54)⟩, ⟨(some 56), none, .call 56 [(.t 55)]⟩, ⟨(some 57), none, .bin .add (.t 53) (.t 56)⟩, ⟨(some 58), none, .faddr 15 (.t 1)⟩, ⟨(some 59), none, .load false 1 (.t 58)⟩, ⟨(some 60), none, .bi (.len 1) [(.t 59)]⟩, ⟨(some 61), none, .call 52 [(.t 60), (.c (.int .i64 2))]⟩, ⟨(some 62), none, .bin .add (.t 57) (.t 61)⟩, ⟨(some 4), none, .mov (.t 62)⟩] [(6, [0]), (10, [0, 4]), (14, [0, 4, 8]), (18, [0, 4, 8, 12]), (19, [0, 4, 8, 12])])
 (.seq (.ops [⟨(some 5), none, .mov (.c (.int .i64 0))⟩])
 (.block 1 (.loop b26_0)))) (.seq (.ops [⟨(some 84), none, .bin .eql (.t 22) (.c (.int .i64 0))⟩, ⟨(some 83), none, .mov (.t 84)⟩])
 (.cond (.t 83) (.drawn [⟨(some 85), none, .mov (.t 4)⟩, ⟨(some 86), none, .faddr 3 (.t 1)⟩, ⟨(some 87), none, .load true 2 (.t 86)⟩, ⟨(some 88), none, .call 54 [(.t 87)]⟩, ⟨(some 89), none, .bin .add (.t 85) (.t 88)⟩, ⟨(some 90), none, .faddr 5 (.t 1)⟩, ⟨(some 91), none, .load false 1 (.t 90)⟩, ⟨(some 92), none, .bin .add (.t 91) (.c (.int .i64 1))⟩, ⟨(some 93), none, .call 52 [(.t 92), (.c (.int .i64 4))]⟩, ⟨(some 94), none, .bin .add (.t 89) (.t 93)⟩, ⟨(some 95), none, .faddr 14 (.t 1)⟩, ⟨(some 96), none, .load false 1 (.t 95)⟩, ⟨(some 97), none, .call 55 [(.t 96)]⟩, ⟨(some 98), none, .bin .add (.t 94) (.t 97)⟩, ⟨(some 4), none, .mov (.t 98)⟩] [(6, [0]), (11, [0, 4])]) (.seq (.seq (.ops [⟨(some 100), none, .bin .eql (.t 22) (.c (.int .i64 1))⟩, ⟨(some 99), none, .mov (.t 100)⟩])
 (.cond (.t 99) .skip (.ops [⟨(some 101), none, .bin .eql (.t 22) (.c (.int .i64 2))⟩, ⟨(some 99), none, .mov (.t 101)⟩])))
 (.cond (.t 99) (.drawn [⟨(some 102), none, .mov (.t 4)⟩, ⟨(some 103), none, .faddr 3 (.t 1)⟩, ⟨(some 104), none, .load true 2 (.t 103)⟩, ⟨(some 105), none, .call 54 [(.t 104)]⟩, ⟨(some 106), none, .bin .add (.t 102) (.t 105)⟩, ⟨(some 107), none, .faddr 6 (.t 1)⟩, ⟨(some 108), none, .load false 1 (.t 107)⟩, ⟨(some 109), none, .call 56 [(.t 108)]⟩, ⟨(some 110), none, .bin .add (.t 106) (.t 109)⟩, ⟨(some 4), none, .mov (.t 110)⟩] [(6, [0])]) (.ops [⟨(some 23), none, .mov (.t 4)⟩, ⟨(some 24), none, .faddr 3 (.t 1)⟩, ⟨(some 25), none, .load true 2 (.t 24)⟩, ⟨(some 26), none, .call 54 [(.t 25)]⟩, ⟨(some 27), none, .bin .add (.t 23) (.t 26)⟩, ⟨(some 4), none, .mov (.t 27)⟩])))))))))))
 (.seq (.seq (.ops [⟨(some 111), none, .mov (.t 4)⟩, ⟨(some 112), none, .bi (.len 0) [(.t 111)]⟩, ⟨(some 113), none, .bin .gtr (.t 112) (.c (.int .i64 16384))⟩])
 (.cond (.t 113) (.seq (.ops [⟨(some 2), none, .mov (.c (.str []))⟩, ⟨(some 3), none, .mov (.c (.int .i64 1600))⟩])
 .ret) .skip))
 (.seq (.ops [⟨(some 114), none, .mov (.t 4)⟩, ⟨(some 2), none, .mov (.t 114)⟩, ⟨(some 3), none, .mov (.c (.int .i64 0))⟩])
 .ret))))))⟩
/-- furlong/furlonglaw0.SameMsg -/
def v29 : VFun := ⟨2, [(.tmp 4)], (.seq (.ops [⟨(some 2), none, .box 63 (.t 0)⟩, ⟨(some 3), none, .box 63 (.t 1)⟩, ⟨(some 4), none, .mov (.c (.bool false))⟩])
 (.seq (.ops [⟨(some 5), none, .faddr 0 (.t 2)⟩, ⟨(some 6), none, .load false 1 (.t 5)⟩, ⟨(some 7), none, .faddr 0 (.t 3)⟩, ⟨(some 8), none, .load false 1 (.t 7)⟩, ⟨(some 9), none, .bin .eql (.t 6) (.t 8)⟩, ⟨(some 10), none, .mov (.t 9)⟩, ⟨(some 11), (some (10, true)), .faddr 1 (.t 2)⟩, ⟨(some 12), (some (10, true)), .load false 1 (.t 11)⟩, ⟨(some 13), (some (10, true)), .faddr 1 (.t 3)⟩, ⟨(some 14), (some (10, true)), .load false 1 (.t 13)⟩, ⟨(some 15), (some (10, true)), .bin .eql (.t 12) (.t 14)⟩, ⟨(some 16), none, .pick (.t 10) (.t 15) (.c (.bool false))⟩, ⟨(some 17), none, .mov (.t 16)⟩, ⟨(some 18), (some (17, true)), .faddr 2 (.t 2)⟩, ⟨(some 19), (some (17, true)), .load false 1 (.t 18)⟩, ⟨(some 20), (some (17, true)), .faddr 2 (.t 3)⟩, ⟨(some 21), (some (17, true)), .load false 1 (.t 20)⟩, ⟨(some 22), (some (17, true)), .bin .eql (.t 19) (.t 21)⟩, ⟨(some 23), none, .pick (.t 17) (.t 22) (.c (.bool false))⟩, ⟨(some 24), none, .mov (.t 23)⟩, ⟨(some 25), (some (24, true)), .faddr 3 (.t 2)⟩, ⟨(some 26), (some (24, true)), .load true 2 (.t 25)⟩, ⟨(some 27), (some (24, true)), .faddr 3 (.t 3)⟩, ⟨(some 28), (some (24, true)), .load true 2 (.t 27)⟩, ⟨(some 29), (some (24, true)), .eqs (.flat [.int, .int]) false (.t 26) (.t 28)⟩, ⟨(some 30), none, .pick (.t 24) (.t 29) (.c (.bool false))⟩, ⟨(some 31), none, .mov (.t 30)⟩, ⟨(some 32), (some (31, true)), .faddr 5 (.t 2)⟩, ⟨(some 33), (some (31, true)), .load false 1 (.t 32)⟩, ⟨(some 34), (some (31, true)), .faddr 5 (.t 3)⟩, ⟨(some 35), (some (31, true)), .load false 1 (.t 34)⟩, ⟨(some 36), (some (31, true)), .bin .eql (.t 33) (.t 35)⟩, ⟨(some 37), none, .pick (.t 31) (.t 36) (.c (.bool false))⟩, ⟨(some 38), none, .mov (.t 37)⟩, ⟨(some 39), (some (38, true)), .faddr 6 (.t 2)⟩, ⟨(some 40), (some (38, true)), .load false 1 (.t 39)⟩, ⟨(some 41), (some (38, true)), .faddr 6 (.t 3)⟩, ⟨(some 42), (some (38, true)), .load false 1 (.t 41)⟩, ⟨(some 43), (some (38, true)), .eqs .bool false (.t 40) (.t 42)⟩, ⟨(some 44), none, .pick (.t 38) (.t 43) (.c (.bool false))⟩, ⟨(some 45), none, .mov (.t 44)⟩, ⟨(some 46), (some (45, true)), .faddr 7 (.t 2)⟩, ⟨(some 47), (some (45, true)), .load false 1 (.t 46)⟩, ⟨(some 48), (some (45, true)), .faddr 7 (.t 3)⟩, ⟨(some 49), (some (45, true)), .load false 1 (.t 48)⟩, ⟨(some 50), (some (45, true)), .bin .eql (.t 47) (.t 49)⟩, ⟨(some 51), none, .pick (.t 45) (.t 50) (.c (.bool false))⟩, ⟨(some 52), none, .mov (.t 51)⟩, ⟨(some 53), (some (52, true)), .faddr 8 (.t 2)⟩, ⟨(some 54), (some (52, true)), .load false 1 (.t 53)⟩, ⟨(some 55), (some (52, true)), .faddr 8 (.t 3)⟩, ⟨(some 56), (some (52, true)), .load false 1 (.t 55)⟩, ⟨(some 57), (some (52, true)), .bin .eql (.t 54) (.t 56)⟩, ⟨(some 58), none, .pick (.t 52) (.t 57) (.c (.bool false))⟩, ⟨(some 59), none, .mov (.t 58)⟩, ⟨(some 60), (some (59, true)), .faddr 9 (.t 2)⟩, ⟨(some 61), (some (59, true)), .load false 1 (.t 60)⟩, ⟨(some 62), (some (59, true)), .faddr 9 (.t 3)⟩, ⟨(some 63), (some (59, true)), .load false 1 (.t 62)⟩, ⟨(some 64), (some (59, true)), .eqs .bool false (.t 61) (.t 63)⟩, ⟨(some 65), none, .pick (.t 59) (.t 64) (.c (.bool false))⟩, ⟨(some 66), none, .mov (.t 65)⟩, ⟨(some 67), (some (66, true)), .faddr 10 (.t 2)⟩, ⟨(some 68), (some (66, true)), .load true 4 (.t 67)⟩, ⟨(some 69), (some (66, true)), .faddr 10 (.t 3)⟩, ⟨(some 70), (some (66, true)), .load true 4 (.t 69)⟩, ⟨(some 71), (some (66, true)), .eqs (.flat [.int, .int, .int, .int]) false (.t 68) (.t 70)⟩, ⟨(some 72), none, .pick (.t 66) (.t 71) (.c (.bool false))⟩, ⟨(some 73), none, .mov (.t 72)⟩, ⟨(some 74), (some (73, true)), .faddr 14 (.t 2)⟩, ⟨(some 75), (some (73, true)), .load false 1 (.t 74)⟩, ⟨(some 76), (some (73, true)), .faddr 14 (.t 3)⟩, ⟨(some 77), (some (73, true)), .load false 1 (.t 76)⟩, ⟨(some 78), (some (73, true)), .call 68 [(.t 75), (.t 77)]⟩, ⟨(some 79), none, .pick (.t 73) (.t 78) (.c (.bool false))⟩, ⟨(some 80), none, .mov (.t 79)⟩, ⟨(some 81), (some (80, true)), .faddr 15 (.t 2)⟩, ⟨(some 82), (some (80, true)), .load false 1 (.t 81)⟩, ⟨(some 83), (some (80, true)), .faddr 15 (.t 3)⟩, ⟨(some 84), (some (80, true)), .load false 1 (.t 83)⟩, ⟨(some 85), (some (80, true)), .call 81 [(.t 82), (.t 84)]⟩, ⟨(some 86), none, .pick (.t 80) (.t 85) (.c (.bool false))⟩, ⟨(some 4), none, .mov (.t 86)⟩])
 .ret))⟩
def b30_0 : VCode := (.seq (.seq (.ops [⟨(some 3), none, .mov (.t 2)⟩, ⟨(some 4), none, .mov (.t 0)⟩, ⟨(some 5), none, .bi (.len 1) [(.t 4)]⟩, ⟨(some 6), none, .bin .lss (.t 3) (.t 5)⟩])
 (.cond (.t 6) .skip (.exit 0)))
 (.seq (.block 1 (.seq (.ops [⟨(some 9), none, .mov (.t 0)⟩, ⟨(some 10), none, .mov (.t 2)⟩, ⟨(some 11), none, .iaddr 16 none (.t 9) (.t 10)⟩, ⟨(some 12), none, .faddr 14 (.t 11)⟩, ⟨(some 13), none, .load false 1 (.t 12)⟩, ⟨(some 14), none, .call 21 [(.t 13)]⟩])
 (.seq (.ops [⟨(some 15), none, .mov (.t 0)⟩, ⟨(some 16), none, .mov (.t 2)⟩, ⟨(some 17), none, .iaddr 16 none (.t 15) (.t 16)⟩, ⟨(some 18), none, .faddr 15 (.t 17)⟩, ⟨(some 19), none, .load false 1 (.t 18)⟩, ⟨(some 20), none, .call 69 [(.t 19)]⟩])
 (.ops [⟨(some 21), none, .mov (.t 0)⟩, ⟨(some 22), none, .mov (.t 2)⟩, ⟨(some 23), none, .mov (.t 0)⟩, ⟨(some 24), none, .mov (.t 2)⟩, ⟨(some 25), none, .iaddr 16 none (.t 23) (.t 24)⟩, ⟨(some 26), none, .faddr 2 (.t 25)⟩, ⟨(some 27), none, .load false 1 (.t 26)⟩, ⟨(some 28), none, .bin .xor (.t 27) (.c (.int .i64 90))⟩, ⟨(some 29), none, .iaddr 16 none (.t 21) (.t 22)⟩, ⟨(some 30), none, .faddr 2 (.t 29)⟩, ⟨none, none, .store 1 (.t 30) (.t 28)⟩]))))
 (.ops [⟨(some 7), none, .mov (.t 2)⟩, ⟨(some 8), none, .bin .add (.t 7) (.c (.int .i64 1))⟩, ⟨(some 2), none, .mov (.t 8)⟩])))
/-- furlong/furlonglaw0.SpoilMsgs -/
def v30 : VFun := ⟨1, [], (.seq (.ops [⟨(some 2), none, .mov (.c (.int .i64 0))⟩])
 (.block 0 (.loop b30_0)))⟩
/-- furlong/queue.New -/
def v32 : VFun := ⟨1, [(.tmp 2), (.tmp 3)], (.seq (.ops [⟨(some 2), none, .mov (.c .nilp)⟩, ⟨(some 3), none, .mov (.c (.int .i64 0))⟩])
 (.seq (.seq (.ops [⟨(some 4), none, .mov (.t 0)⟩, ⟨(some 5), none, .bin .lss (.t 4) (.c (.int .i64 1))⟩, ⟨(some 6), none, .mov (.t 5)⟩, ⟨(some 7), (some (6, false)), .mov (.t 0)⟩, ⟨(some 8), (some (6, false)), .bin .gtr (.t 7) (.c (.int .i64 64))⟩, ⟨(some 9), none, .pick (.t 6) (.c (.bool true)) (.t 8)⟩])
 (.cond (.t 9) (.seq (.ops [⟨(some 2), none, .mov (.c .nilp)⟩, ⟨(some 3), none, .mov (.c (.int .i64 1700))⟩])
 .ret) .skip))
 (.seq (.ops [⟨(some 10), none, .mov (.t 0)⟩, ⟨(some 11), none, .build [(.int .i64 0), .nils] [(0, 1, (.t 10))]⟩, ⟨(some 12), none, .box 149 (.t 11)⟩, ⟨(some 2), none, .mov (.t 12)⟩, ⟨(some 3), none, .mov (.c (.int .i64 0))⟩])
 .ret)))⟩
/-- furlong/furlongref12.NewQueue -/
def v33 : VFun := ⟨1, [(.tmp 2), (.tmp 3)], (.seq (.ops [⟨(some 2), none, .mov (.c .nilp)⟩, ⟨(some 3), none, .mov (.c (.int .i64 0))⟩])
 (.seq (.seq (.ops [⟨(some 4), none, .mov (.t 0)⟩, ⟨(some 5), none, .bin .lss (.t 4) (.c (.int .i64 1))⟩, ⟨(some 6), none, .mov (.t 5)⟩, ⟨(some 7), (some (6, false)), .mov (.t 0)⟩, ⟨(some 8), (some (6, false)), .bin .gtr (.t 7) (.c (.int .i64 64))⟩, ⟨(some 9), none, .pick (.t 6) (.c (.bool true)) (.t 8)⟩])
 (.cond (.t 9) (.seq (.ops [⟨(some 2), none, .mov (.c .nilp)⟩, ⟨(some 3), none, .mov (.c (.int .i64 1700))⟩])
 .ret) .skip))
 (.seq (.ops [⟨(some 10), none, .mov (.t 0)⟩, ⟨(some 11), none, .build [(.int .i64 0), .nils] [(0, 1, (.t 10))]⟩, ⟨(some 12), none, .box 94 (.t 11)⟩, ⟨(some 2), none, .mov (.t 12)⟩, ⟨(some 3), none, .mov (.c (.int .i64 0))⟩])
 .ret)))⟩
/-- furlong/furlonglaw17.awake -/
def v34 : VFun := ⟨0, [(.tmp 0)], (.seq (.ops [⟨(some 0), none, .mov (.c (.bool false))⟩])
 (.seq (.ops [⟨(some 15), none, .call 32 [(.c (.int .i64 2))]⟩, ⟨(some 14), none, .mov (.t 15)⟩, ⟨(some 16), none, .extract (.t 14) 0⟩, ⟨(some 17), none, .extract (.t 14) 1⟩, ⟨(some 1), none, .mov (.t 16)⟩, ⟨(some 2), none, .mov (.t 17)⟩])
 (.seq (.ops [⟨(some 19), none, .call 32 [(.c (.int .i64 0))]⟩, ⟨(some 18), none, .mov (.t 19)⟩, ⟨(some 20), none, .extract (.t 18) 0⟩, ⟨(some 21), none, .extract (.t 18) 1⟩, ⟨(some 3), none, .mov (.t 20)⟩, ⟨(some 4), none, .mov (.t 21)⟩])
 (.seq (.seq (.ops [⟨(some 22), none, .mov (.t 2)⟩, ⟨(some 23), none, .call 19 [(.t 22)]⟩, ⟨(some 24), none, .bin .neq (.t 23) (.c (.int .i64 0))⟩, ⟨(some 25), none, .mov (.t 24)⟩, ⟨(some 26), (some (25, false)), .mov (.t 1)⟩, ⟨(some 27), (some (25, false)), .eqs .ptr false (.t 26) (.c .nilp)⟩, ⟨(some 28), none, .pick (.t 25) (.c (.bool true)) (.t 27)⟩])
 (.cond (.t 28) (.seq (.ops [⟨(some 0), none, .mov (.c (.bool false))⟩])
 .ret) .skip))
 (.seq (.ops [⟨(some 29), none, .mov (.t 1)⟩, ⟨(some 30), none, .call 43 [(.c (.int .i64 1))]⟩, ⟨(some 31), none, .call 35 [(.t 29), (.t 30)]⟩, ⟨(some 5), none, .mov (.t 31)⟩])
 (.seq (.ops [⟨(some 32), none, .mov (.t 1)⟩, ⟨(some 33), none, .call 39 [(.t 32), (.c (.int .i64 0))]⟩, ⟨(some 6), none, .mov (.t 33)⟩])
 (.seq (.ops [⟨(some 34), none, .mov (.t 1)⟩, ⟨(some 35), none, .call 43 [(.c (.int .i64 2))]⟩, ⟨(some 36), none, .call 35 [(.t 34), (.t 35)]⟩, ⟨(some 7), none, .mov (.t 36)⟩])
 (.seq (.ops [⟨(some 38), none, .mov (.t 1)⟩, ⟨(some 39), none, .call 37 [(.t 38), (.c (.int .i64 0))]⟩, ⟨(some 37), none, .mov (.t 39)⟩, ⟨(some 40), none, .extract (.t 37) 0⟩, ⟨(some 41), none, .extract (.t 37) 1⟩, ⟨(some 8), none, .alloc [(.int .i64 0), (.int .i64 0), (.int .i64 0), (.int .i64 0), (.int .i64 0), (.int .i64 0), (.bool false), (.int .i64 0), (.int .i64 0), (.bool false), (.int .i64 0), (.int .i64 0), (.int .i64 0), (.int .i64 0), .nils, .nils] 63⟩, ⟨none, none, .store 16 (.t 8) (.t 40)⟩, ⟨(some 9), none, .mov (.t 41)⟩])
 (.seq (.ops [⟨(some 42), none, .mov (.t 1)⟩, ⟨(some 43), none, .call 43 [(.c (.int .i64 2))]⟩, ⟨(some 44), none, .call 35 [(.t 42), (.t 43)]⟩, ⟨(some 10), none, .mov (.t 44)⟩])
 (.seq (.ops [⟨(some 46), none, .mov (.t 1)⟩, ⟨(some 47), none, .call 37 [(.t 46), (.c (.int .i64 2))]⟩, ⟨(some 45), none, .mov (.t 47)⟩, ⟨(some 48), none, .extract (.t 45) 0⟩, ⟨(some 49), none, .extract (.t 45) 1⟩, ⟨(some 11), none, .alloc [(.int .i64 0), (.int .i64 0), (.int .i64 0), (.int .i64 0), (.int .i64 0), (.int .i64 0), (.bool false), (.int .i64 0), (.int .i64 0), (.bool false), (.int .i64 0), (.int .i64 0), (.int .i64 0), (.int .i64 0), .nils, .nils] 63⟩, ⟨none, none, .store 16 (.t 11) (.t 48)⟩, ⟨(some 12), none, .mov (.t 49)⟩])
 (.seq (.ops [⟨(some 50), none, .mov (.t 1)⟩, ⟨(some 51), none, .build [(.int .i64 0), (.int .i64 0), (.int .i64 0), (.int .i64 0), (.int .i64 0), (.int .i64 0), (.bool false), (.int .i64 0), (.int .i64 0), (.bool false), (.int .i64 0), (.int .i64 0), (.int .i64 0), (.int .i64 0), .nils, .nils] [(0, 1, (.c (.int .i64 4)))]⟩, ⟨(some 52), none, .call 35 [(.t 50), (.t 51)]⟩, ⟨(some 13), none, .mov (.t 52)⟩])
 (.seq (.ops [⟨(some 53), none, .mov (.t 4)⟩, ⟨(some 54), none, .call 19 [(.t 53)]⟩, ⟨(some 55), none, .bin .eql (.t 54) (.c (.int .i64 1700))⟩, ⟨(some 56), none, .mov (.t 55)⟩, ⟨(some 57), (some (56, true)), .mov (.t 5)⟩, ⟨(some 58), (some (56, true)), .call 19 [(.t 57)]⟩, ⟨(some 59), (some (56, true)), .bin .eql (.t 58) (.c (.int .i64 0))⟩, ⟨(some 60), none, .pick (.t 56) (.t 59) (.c (.bool false))⟩, ⟨(some 61), none, .mov (.t 60)⟩, ⟨(some 62), (some (61, true)), .mov (.t 6)⟩, ⟨(some 63), (some (61, true)), .call 19 [(.t 62)]⟩, ⟨(some 64), (some (61, true)), .bin .eql (.t 63) (.c (.int .i64 0))⟩, ⟨(some 65), none, .pick (.t 61) (.t 64) (.c (.bool false))⟩, ⟨(some 66), none, .mov (.t 65)⟩, ⟨(some 67), (some (66, true)), .mov (.t 7)⟩, ⟨(some 68), (some (66, true)), .call 19 [(.t 67)]⟩, ⟨(some 69), (some (66, true)), .bin .eql (.t 68) (.c (.int .i64 1701))⟩, ⟨(some 70), none, .pick (.t 66) (.t 69) (.c (.bool false))⟩, ⟨(some 71), none, .mov (.t 70)⟩, ⟨(some 72), (some (71, true)), .faddr 3 (.t 8)⟩, ⟨(some 73), (some (71, true)), .faddr 1 (.t 72)⟩, ⟨(some 74), (some (71, true)), .load false 1 (.t 73)⟩, ⟨(some 75), (some (71, true)), .bin .eql (.t 74) (.c (.int .i64 1))⟩, ⟨(some 76), none, .pick (.t 71) (.t 75) (.c (.bool false))⟩, ⟨(some 77), none, .mov (.t 76)⟩, ⟨(some 78), (some (77, true)), .mov (.t 9)⟩, ⟨(some 79), (some (77, true)), .call 19 [(.t 78)]⟩, ⟨(some 80), (some (77, true)), .bin .eql (.t 79) (.c (.int .i64 0))⟩, ⟨(some 81), none, .pick (.t 77) (.t 80) (.c (.bool false))⟩, ⟨(some 82), none, .mov (.t 81)⟩, ⟨(some 83), (some (82, true)), .mov (.t 10)⟩, ⟨(some 84), (some (82, true)), .call 19 [(.t 83)]⟩, ⟨(some 85), (some (82, true)), .bin .eql (.t 84) (.c (.int .i64 0))⟩, ⟨(some 86), none, .pick (.t 82) (.t 85) (.c (.bool false))⟩, ⟨(some 87), none, .mov (.t 86)⟩, ⟨(some 88), (some (87, true)), .mov (.t 12)⟩, ⟨(some 89), (some (87, true)), .call 19 [(.t 88)]⟩, ⟨(some 90), (some (87, true)), .bin .eql (.t 89) (.c (.int .i64 1700))⟩, ⟨(some 91), none, .pick (.t 87) (.t 90) (.c (.bool false))⟩, ⟨(some 92), none, .mov (.t 91)⟩, ⟨(some 93), (some (92, true)), .mov (.t 13)⟩, ⟨(some 94), (some (92, true)), .call 19 [(.t 93)]⟩, ⟨(some 95), (some (92, true)), .bin .eql (.t 94) (.c (.int .i64 1700))⟩, ⟨(some 96), none, .pick (.t 92) (.t 95) (.c (.bool false))⟩, ⟨(some 97), none, .mov (.t 96)⟩, ⟨(some 98), (some (97, true)), .mov (.t 1)⟩, ⟨(some 99), (some (97, true)), .call 41 [(.t 98)]⟩, ⟨(some 100), (some (97, true)), .call 43 [(.c (.int .i64 1))]⟩, ⟨(some 101), (some (97, true)), .call 43 [(.c (.int .i64 2))]⟩, ⟨(some 102), (some (97, true)), .bslice [(.int .i64 0), (.int .i64 0), (.int .i64 0), (.int .i64 0), (.int .i64 0), (.int .i64 0), (.bool false), (.int .i64 0), (.int .i64 0), (.bool false), (.int .i64 0), (.int .i64 0), (.int .i64 0), (.int .i64 0), .nils, .nils] 63 2 [(0, 16, (.t 100)), (16, 16, (.t 101))]⟩, ⟨(some 103), (some (97, true)), .call 42 [(.t 99), (.t 102)]⟩, ⟨(some 104), none, .pick (.t 97) (.t 103) (.c (.bool false))⟩, ⟨(some 0), none, .mov (.t 104)⟩])
 .ret))))))))))))⟩
/-- (*furlong/queue.Queue).Send -/
def v35 : VFun := ⟨2, [(.tmp 4)], (.seq (.ops [⟨(some 3), none, .box 63 (.t 1)⟩, ⟨(some 4), none, .mov (.c (.int .i64 0))⟩])
 (.seq (.seq (.ops [⟨(some 7), none, .mov (.t 0)⟩, ⟨(some 8), none, .eqs .ptr false (.t 7) (.c .nilp)⟩])
 (.cond (.t 8) (.seq (.ops [⟨(some 4), none, .mov (.c (.int .i64 1))⟩])
 .ret) .skip))
 (.seq (.seq (.ops [⟨(some 10), none, .load true 16 (.t 3)⟩, ⟨(some 11), none, .call 25 [(.t 10)]⟩, ⟨(some 9), none, .mov (.t 11)⟩, ⟨(some 12), none, .extract (.t 9) 0⟩, ⟨(some 13), none, .extract (.t 9) 1⟩, ⟨(some 5), none, .mov (.t 12)⟩, ⟨(some 6), none, .mov (.t 13)⟩])
 (.seq (.ops [⟨(some 14), none, .mov (.t 6)⟩, ⟨(some 15), none, .bin .neq (.t 14) (.c (.int .i64 0))⟩])
 (.cond (.t 15) (.seq (.ops [⟨(some 4), none, .mov (.c (.int .i64 1700))⟩])
 .ret) .skip)))
 (.seq (.seq (.drawn [⟨(some 16), none, .mov (.t 0)⟩, ⟨(some 17), none, .nilck (.t 16)⟩, ⟨(some 18), none, .faddr 1 (.t 17)⟩, ⟨(some 19), none, .load false 1 (.t 18)⟩, ⟨(some 20), none, .bi (.len 1) [(.t 19)]⟩, ⟨(some 21), none, .mov (.t 0)⟩, ⟨(some 22), none, .nilck (.t 21)⟩, ⟨(some 23), none, .faddr 0 (.t 22)⟩, ⟨(some 24), none, .load false 1 (.t 23)⟩, ⟨(some 25), none, .bin .geq (.t 20) (.t 24)⟩] [])
 (.cond (.t 25) (.seq (.ops [⟨(some 4), none, .mov (.c (.int .i64 1701))⟩])
 .ret) .skip))
 (.seq (.drawn [⟨(some 26), none, .mov (.t 0)⟩, ⟨(some 27), none, .mov (.t 0)⟩, ⟨(some 28), none, .nilck (.t 27)⟩, ⟨(some 29), none, .faddr 1 (.t 28)⟩, ⟨(some 30), none, .load false 1 (.t 29)⟩, ⟨(some 31), none, .load true 16 (.t 3)⟩, ⟨(some 32), none, .call 82 [(.t 31)]⟩, ⟨(some 33), none, .bslice [(.int .i64 0), (.int .i64 0), (.int .i64 0), (.int .i64 0), (.int .i64 0), (.int .i64 0), (.bool false), (.int .i64 0), (.int .i64 0), (.bool false), (.int .i64 0), (.int .i64 0), (.int .i64 0), (.int .i64 0), .nils, .nils] 63 1 [(0, 16, (.t 32))]⟩, ⟨(some 34), none, .bi (.append 16 160 63) [(.t 30), (.t 33)]⟩, ⟨(some 35), none, .nilck (.t 26)⟩, ⟨(some 36), none, .faddr 1 (.t 35)⟩, ⟨none, none, .store 1 (.t 36) (.t 34)⟩] [(4, [7, 8])])
 (.seq (.ops [⟨(some 4), none, .mov (.c (.int .i64 0))⟩])
 .ret))))))⟩
/-- (*furlong/furlongref12.Queue).Send -/
def v36 : VFun := ⟨2, [(.tmp 4)], (.seq (.ops [⟨(some 3), none, .box 63 (.t 1)⟩, ⟨(some 4), none, .mov (.c (.int .i64 0))⟩])
 (.seq (.ops [⟨(some 8), none, .load true 16 (.t 3)⟩, ⟨(some 9), none, .call 26 [(.t 8)]⟩, ⟨(some 7), none, .mov (.t 9)⟩, ⟨(some 10), none, .extract (.t 7) 0⟩, ⟨(some 11), none, .extract (.t 7) 1⟩, ⟨(some 5), none, .mov (.t 10)⟩, ⟨(some 6), none, .mov (.t 11)⟩])
 (.seq (.block 0 (.seq (.ops [⟨(some 13), none, .mov (.t 6)⟩, ⟨(some 14), none, .bin .neq (.t 13) (.c (.int .i64 0))⟩, ⟨(some 12), none, .mov (.t 14)⟩])
 (.cond (.t 12) (.seq (.ops [⟨(some 4), none, .mov (.c (.int .i64 1700))⟩])
 .ret) (.seq (.drawn [⟨(some 16), none, .mov (.t 0)⟩, ⟨(some 17), none, .nilck (.t 16)⟩, ⟨(some 18), none, .faddr 1 (.t 17)⟩, ⟨(some 19), none, .load false 1 (.t 18)⟩, ⟨(some 20), none, .bi (.len 1) [(.t 19)]⟩, ⟨(some 21), none, .mov (.t 0)⟩, ⟨(some 22), none, .nilck (.t 21)⟩, ⟨(some 23), none, .faddr 0 (.t 22)⟩, ⟨(some 24), none, .load false 1 (.t 23)⟩, ⟨(some 25), none, .bin .eql (.t 20) (.t 24)⟩, ⟨(some 15), none, .mov (.t 25)⟩] [])
 (.cond (.t 15) (.seq (.ops [⟨(some 4), none, .mov (.c (.int .i64 1701))⟩])
 .ret) .skip)))))
 (.seq (.drawn [⟨(some 26), none, .mov (.t 0)⟩, ⟨(some 27), none, .mov (.t 0)⟩, ⟨(some 28), none, .nilck (.t 27)⟩, ⟨(some 29), none, .faddr 1 (.t 28)⟩, ⟨(some 30), none, .load false 1 (.t 29)⟩, ⟨(some 31), none, .load true 16 (.t 3)⟩, ⟨(some 32), none, .bslice [(.int .i64 0), (.int .i64 0), (.int .i64 0), (.int .i64 0), (.int .i64 0), (.int .i64 0), (.bool false), (.int .i64 0), (.int .i64 0), (.bool false), (.int .i64 0), (.int .i64 0), (.int .i64 0), (.int .i64 0), .nils, .nils] 63 1 [(0, 16, (.t 31))]⟩, ⟨(some 33), none, .bi (.append 16 160 63) [(.t 30), (.t 32)]⟩, ⟨(some 34), none, .nilck (.t 26)⟩, ⟨(some 35), none, .faddr 1 (.t 34)⟩, ⟨none, none, .store 1 (.t 35) (.t 33)⟩] [(4, [7])])
 (.seq (.ops [⟨(some 4), none, .mov (.c (.int .i64 0))⟩])
 .ret)))))⟩
/-- (*furlong/queue.Queue).Take -/
def v37 : VFun := ⟨2, [(.cell 4 true 16), (.tmp 5)], (.seq (.ops [⟨(some 4), none, .alloc [(.int .i64 0), (.int .i64 0), (.int .i64 0), (.int .i64 0), (.int .i64 0), (.int .i64 0), (.bool false), (.int .i64 0), (.int .i64 0), (.bool false), (.int .i64 0), (.int .i64 0), (.int .i64 0), (.int .i64 0), .nils, .nils] 63⟩, ⟨(some 5), none, .mov (.c (.int .i64 0))⟩])
 (.seq (.block 0 (.seq (.ops [⟨(some 8), none, .mov (.t 0)⟩, ⟨(some 9), none, .eqs .ptr false (.t 8) (.c .nilp)⟩, ⟨(some 7), none, .mov (.t 9)⟩])
 (.cond (.t 7) (.seq (.ops [⟨(some 10), none, .build [(.int .i64 0), (.int .i64 0), (.int .i64 0), (.int .i64 0), (.int .i64 0), (.int .i64 0), (.bool false), (.int .i64 0), (.int .i64 0), (.bool false), (.int .i64 0), (.int .i64 0), (.int .i64 0), (.int .i64 0), .nils, .nils] []⟩, ⟨none, none, .store 16 (.t 4) (.t 10)⟩, ⟨(some 5), none, .mov (.c (.int .i64 1))⟩])
 .ret) (.seq (.ops [⟨(some 12), none, .mov (.t 1)⟩, ⟨(some 13), none, .bin .lss (.t 12) (.c (.int .i64 0))⟩, ⟨(some 14), none, .mov (.t 13)⟩, ⟨(some 15), (some (14, false)), .mov (.t 1)⟩, ⟨(some 16), (some (14, false)), .mov (.t 0)⟩, ⟨(some 17), (some (14, false)), .nilck (.t 16)⟩, ⟨(some 18), (some (14, false)), .faddr 1 (.t 17)⟩, ⟨(some 19), (some (14, false)), .load false 1 (.t 18)⟩, ⟨(some 20), (some (14, false)), .bi (.len 1) [(.t 19)]⟩, ⟨(some 21), (some (14, false)), .bin .geq (.t 15) (.t 20)⟩, ⟨(some 22), none, .pick (.t 14) (.c (.bool true)) (.t 21)⟩, ⟨(some 11), none, .mov (.t 22)⟩])
 (.cond (.t 11) (.seq (.ops [⟨(some 23), none, .build [(.int .i64 0), (.int .i64 0), (.int .i64 0), (.int .i64 0), (.int .i64 0), (.int .i64 0), (.bool false), (.int .i64 0), (.int .i64 0), (.bool false), (.int .i64 0), (.int .i64 0), (.int .i64 0), (.int .i64 0), .nils, .nils] []⟩, ⟨none, none, .store 16 (.t 4) (.t 23)⟩, ⟨(some 5), none, .mov (.c (.int .i64 1700))⟩])
 .ret) .skip)))))
 (.seq (.ops [⟨(some 24), none, .mov (.t 0)⟩, ⟨(some 25), none, .nilck (.t 24)⟩, ⟨(some 26), none, .faddr 1 (.t 25)⟩, ⟨(some 27), none, .load false 1 (.t 26)⟩, ⟨(some 28), none, .mov (.t 1)⟩, ⟨(some 29), none, .iaddr 16 none (.t 27) (.t 28)⟩, ⟨(some 30), none, .load true 16 (.t 29)⟩, ⟨(some 6), none, .alloc [(.int .i64 0), (.int .i64 0), (.int .i64 0), (.int .i64 0), (.int .i64 0), (.int .i64 0), (.bool false), (.int .i64 0), (.int .i64 0), (.bool false), (.int .i64 0), (.int .i64 0), (.int .i64 0), (.int .i64 0), .nils, .nils] 63⟩, ⟨none, none, .store 16 (.t 6) (.t 30)⟩])
 (.seq (.ops [⟨(some 31), none, .mov (.t 0)⟩, ⟨(some 32), none, .mov (.t 0)⟩, ⟨(some 33), none, .nilck (.t 32)⟩, ⟨(some 34), none, .faddr 1 (.t 33)⟩, ⟨(some 35), none, .load false 1 (.t 34)⟩, ⟨(some 36), none, .mov (.t 1)⟩, ⟨(some 37), none, .mov (.t 1)⟩, ⟨(some 38), none, .bin .add (.t 37) (.c (.int .i64 1))⟩, ⟨(some 39), none, .call 83 [(.t 35), (.t 36), (.t 38)]⟩, ⟨(some 40), none, .nilck (.t 31)⟩, ⟨(some 41), none, .faddr 1 (.t 40)⟩, ⟨none, none, .store 1 (.t 41) (.t 39)⟩])
 (.seq (.ops [⟨(some 42), none, .load true 16 (.t 6)⟩, ⟨none, none, .store 16 (.t 4) (.t 42)⟩, ⟨(some 5), none, .mov (.c (.int .i64 0))⟩])
 .ret)))))⟩
/-- (*furlong/furlongref12.Queue).Take -/
def v38 : VFun := ⟨2, [(.cell 4 true 16), (.tmp 5)], (.seq (.ops [⟨(some 4), none, .alloc [(.int .i64 0), (.int .i64 0), (.int .i64 0), (.int .i64 0), (.int .i64 0), (.int .i64 0), (.bool false), (.int .i64 0), (.int .i64 0), (.bool false), (.int .i64 0), (.int .i64 0), (.int .i64 0), (.int .i64 0), .nils, .nils] 63⟩, ⟨(some 5), none, .mov (.c (.int .i64 0))⟩])
 (.seq (.seq (.ops [⟨(some 8), none, .mov (.t 1)⟩, ⟨(some 9), none, .bin .lss (.t 8) (.c (.int .i64 0))⟩, ⟨(some 10), none, .mov (.t 9)⟩, ⟨(some 11), (some (10, false)), .mov (.t 1)⟩, ⟨(some 12), (some (10, false)), .mov (.t 0)⟩, ⟨(some 13), (some (10, false)), .nilck (.t 12)⟩, ⟨(some 14), (some (10, false)), .faddr 1 (.t 13)⟩, ⟨(some 15), (some (10, false)), .load false 1 (.t 14)⟩, ⟨(some 16), (some (10, false)), .bi (.len 1) [(.t 15)]⟩, ⟨(some 17), (some (10, false)), .bin .geq (.t 11) (.t 16)⟩, ⟨(some 18), none, .pick (.t 10) (.c (.bool true)) (.t 17)⟩])
 (.cond (.t 18) (.seq (.ops [⟨(some 19), none, .build [(.int .i64 0), (.int .i64 0), (.int .i64 0), (.int .i64 0), (.int .i64 0), (.int .i64 0), (.bool false), (.int .i64 0), (.int .i64 0), (.bool false), (.int .i64 0), (.int .i64 0), (.int .i64 0), (.int .i64 0), .nils, .nils] []⟩, ⟨none, none, .store 16 (.t 4) (.t 19)⟩, ⟨(some 5), none, .mov (.c (.int .i64 1700))⟩])
 .ret) .skip))
 (.seq (.ops [⟨(some 20), none, .mov (.t 0)⟩, ⟨(some 21), none, .nilck (.t 20)⟩, ⟨(some 22), none, .faddr 1 (.t 21)⟩, ⟨(some 23), none, .load false 1 (.t 22)⟩, ⟨(some 24), none, .mov (.t 1)⟩, ⟨(some 25), none, .iaddr 16 none (.t 23) (.t 24)⟩, ⟨(some 26), none, .load true 16 (.t 25)⟩, ⟨(some 6), none, .alloc [(.int .i64 0), (.int .i64 0), (.int .i64 0), (.int .i64 0), (.int .i64 0), (.int .i64 0), (.bool false), (.int .i64 0), (.int .i64 0), (.bool false), (.int .i64 0), (.int .i64 0), (.int .i64 0), (.int .i64 0), .nils, .nils] 63⟩, ⟨none, none, .store 16 (.t 6) (.t 26)⟩])
 (.seq (.ops [⟨(some 27), none, .bslice [(.int .i64 0), (.int .i64 0), (.int .i64 0), (.int .i64 0), (.int .i64 0), (.int .i64 0), (.bool false), (.int .i64 0), (.int .i64 0), (.bool false), (.int .i64 0), (.int .i64 0), (.int .i64 0), (.int .i64 0), .nils, .nils] 63 0 []⟩, ⟨(some 28), none, .mov (.t 0)⟩, ⟨(some 29), none, .nilck (.t 28)⟩, ⟨(some 30), none, .faddr 1 (.t 29)⟩, ⟨(some 31), none, .load false 1 (.t 30)⟩, ⟨(some 32), none, .mov (.t 1)⟩, ⟨(some 33), none, .slice 16 (.t 31) none (some (.t 32)) none⟩, ⟨(some 34), none, .bi (.append 16 160 63) [(.t 27), (.t 33)]⟩, ⟨(some 7), none, .mov (.t 34)⟩])
 (.seq (.ops [⟨(some 35), none, .mov (.t 7)⟩, ⟨(some 36), none, .mov (.t 0)⟩, ⟨(some 37), none, .nilck (.t 36)⟩, ⟨(some 38), none, .faddr 1 (.t 37)⟩, ⟨(some 39), none, .load false 1 (.t 38)⟩, ⟨(some 40), none, .mov (.t 1)⟩, ⟨(some 41), none, .bin .add (.t 40) (.c (.int .i64 1))⟩, ⟨(some 42), none, .slice 16 (.t 39) (some (.t 41)) none none⟩, ⟨(some 43), none, .bi (.append 16 160 63) [(.t 35), (.t 42)]⟩, ⟨(some 7), none, .mov (.t 43)⟩])
 (.seq (.ops [⟨(some 44), none, .mov (.t 0)⟩, ⟨(some 45), none, .mov (.t 7)⟩, ⟨(some 46), none, .nilck (.t 44)⟩, ⟨(some 47), none, .faddr 1 (.t 46)⟩, ⟨none, none, .store 1 (.t 47) (.t 45)⟩])
 (.seq (.ops [⟨(some 48), none, .load true 16 (.t 6)⟩, ⟨none, none, .store 16 (.t 4) (.t 48)⟩, ⟨(some 5), none, .mov (.c (.int .i64 0))⟩])
 .ret)))))))⟩
/-- (*furlong/queue.Queue).Copy -/
def v39 : VFun := ⟨2, [(.tmp 4)], (.seq (.ops [⟨(some 4), none, .mov (.c (.int .i64 0))⟩])
 (.seq (.block 0 (.seq (.ops [⟨(some 6), none, .mov (.t 0)⟩, ⟨(some 7), none, .eqs .ptr false (.t 6) (.c .nilp)⟩, ⟨(some 5), none, .mov (.t 7)⟩])
 (.cond (.t 5) (.seq (.ops [⟨(some 4), none, .mov (.c (.int .i64 1))⟩])
 .ret) (.seq (.ops [⟨(some 9), none, .mov (.t 1)⟩, ⟨(some 10), none, .bin .lss (.t 9) (.c (.int .i64 0))⟩, ⟨(some 11), none, .mov (.t 10)⟩, ⟨(some 12), (some (11, false)), .mov (.t 1)⟩, ⟨(some 13), (some (11, false)), .mov (.t 0)⟩, ⟨(some 14), (some (11, false)), .nilck (.t 13)⟩, ⟨(some 15), (some (11, false)), .faddr 1 (.t 14)⟩, ⟨(some 16), (some (11, false)), .load false 1 (.t 15)⟩, ⟨(some 17), (some (11, false)), .bi (.len 1) [(.t 16)]⟩, ⟨(some 18), (some (11, false)), .bin .geq (.t 12) (.t 17)⟩, ⟨(some 19), none, .pick (.t 11) (.c (.bool true)) (.t 18)⟩, ⟨(some 8), none, .mov (.t 19)⟩])
 (.cond (.t 8) (.seq (.ops [⟨(some 4), none, .mov (.c (.int .i64 1700))⟩])
 .ret) .skip)))))
 (.seq (.ops [⟨(some 20), none, .mov (.t 0)⟩, ⟨(some 21), none, .mov (.t 0)⟩, ⟨(some 22), none, .nilck (.t 21)⟩, ⟨(some 23), none, .faddr 1 (.t 22)⟩, ⟨(some 24), none, .load false 1 (.t 23)⟩, ⟨(some 25), none, .mov (.t 1)⟩, ⟨(some 26), none, .iaddr 16 none (.t 24) (.t 25)⟩, ⟨(some 27), none, .load true 16 (.t 26)⟩, ⟨(some 28), none, .call 35 [(.t 20), (.t 27)]⟩, ⟨(some 4), none, .mov (.t 28)⟩])
 .ret)))⟩
/-- (*furlong/furlongref12.Queue).Copy -/
def v40 : VFun := ⟨2, [(.tmp 4)], (.seq (.ops [⟨(some 4), none, .mov (.c (.int .i64 0))⟩])
 (.seq (.block 0 (.seq (.ops [⟨(some 6), none, .mov (.t 1)⟩, ⟨(some 7), none, .bin .lss (.t 6) (.c (.int .i64 0))⟩, ⟨(some 8), none, .mov (.t 7)⟩, ⟨(some 9), (some (8, false)), .mov (.t 1)⟩, ⟨(some 10), (some (8, false)), .mov (.t 0)⟩, ⟨(some 11), (some (8, false)), .nilck (.t 10)⟩, ⟨(some 12), (some (8, false)), .faddr 1 (.t 11)⟩, ⟨(some 13), (some (8, false)), .load false 1 (.t 12)⟩, ⟨(some 14), (some (8, false)), .bi (.len 1) [(.t 13)]⟩, ⟨(some 15), (some (8, false)), .bin .geq (.t 9) (.t 14)⟩, ⟨(some 16), none, .pick (.t 8) (.c (.bool true)) (.t 15)⟩, ⟨(some 5), none, .mov (.t 16)⟩])
 (.cond (.t 5) (.seq (.ops [⟨(some 4), none, .mov (.c (.int .i64 1700))⟩])
 .ret) (.seq (.drawn [⟨(some 18), none, .mov (.t 0)⟩, ⟨(some 19), none, .nilck (.t 18)⟩, ⟨(some 20), none, .faddr 1 (.t 19)⟩, ⟨(some 21), none, .load false 1 (.t 20)⟩, ⟨(some 22), none, .bi (.len 1) [(.t 21)]⟩, ⟨(some 23), none, .mov (.t 0)⟩, ⟨(some 24), none, .nilck (.t 23)⟩, ⟨(some 25), none, .faddr 0 (.t 24)⟩, ⟨(some 26), none, .load false 1 (.t 25)⟩, ⟨(some 27), none, .bin .eql (.t 22) (.t 26)⟩, ⟨(some 17), none, .mov (.t 27)⟩] [])
 (.cond (.t 17) (.seq (.ops [⟨(some 4), none, .mov (.c (.int .i64 1701))⟩])
 .ret) .skip)))))
 (.seq (.drawn [⟨(some 28), none, .mov (.t 0)⟩, ⟨(some 29), none, .mov (.t 0)⟩, ⟨(some 30), none, .nilck (.t 29)⟩, ⟨(some 31), none, .faddr 1 (.t 30)⟩, ⟨(some 32), none, .load false 1 (.t 31)⟩, ⟨(some 33), none, .mov (.t 0)⟩, ⟨(some 34), none, .nilck (.t 33)⟩, ⟨(some 35), none, .faddr 1 (.t 34)⟩, ⟨(some 36), none, .load false 1 (.t 35)⟩, ⟨(some 37), none, .mov (.t 1)⟩, ⟨(some 38), none, .iaddr 16 none (.t 36) (.t 37)⟩, ⟨(some 39), none, .load true 16 (.t 38)⟩, ⟨(some 40), none, .bslice [(.int .i64 0), (.int .i64 0), (.int .i64 0), (.int .i64 0), (.int .i64 0), (.int .i64 0), (.bool false), (.int .i64 0), (.int .i64 0), (.bool false), (.int .i64 0), (.int .i64 0), (.int .i64 0), (.int .i64 0), .nils, .nils] 63 1 [(0, 16, (.t 39))]⟩, ⟨(some 41), none, .bi (.append 16 160 63) [(.t 32), (.t 40)]⟩, ⟨(some 42), none, .nilck (.t 28)⟩, ⟨(some 43), none, .faddr 1 (.t 42)⟩, ⟨none, none, .store 1 (.t 43) (.t 41)⟩] [(4, [13])])
 (.seq (.ops [⟨(some 4), none, .mov (.c (.int .i64 0))⟩])
 .ret))))⟩
def b41_0 : VCode := (.seq (.ops [⟨(some 14), none, .bin .lss (.t 13) (.t 12)⟩])
 (.seq (.cond (.t 14) .skip (.exit 0))
 (.seq (.block 1 (.seq (.ops [⟨(some 15), none, .iaddr 16 none (.t 11) (.t 13)⟩, ⟨(some 16), none, .load true 16 (.t 15)⟩, ⟨(some 5), none, .alloc [(.int .i64 0), (.int .i64 0), (.int .i64 0), (.int .i64 0), (.int .i64 0), (.int .i64 0), (.bool false), (.int .i64 0), (.int .i64 0), (.bool false), (.int .i64 0), (.int .i64 0), (.int .i64 0), (.int .i64 0), .nils, .nils] 63⟩, ⟨none, none, .store 16 (.t 5) (.t 16)⟩])
 (.ops [⟨(some 17), none, .mov (.t 3)⟩, ⟨(some 18), none, .load true 16 (.t 5)⟩, ⟨(some 19), none, .call 82 [(.t 18)]⟩, ⟨(some 20), none, .bslice [(.int .i64 0), (.int .i64 0), (.int .i64 0), (.int .i64 0), (.int .i64 0), (.int .i64 0), (.bool false), (.int .i64 0), (.int .i64 0), (.bool false), (.int .i64 0), (.int .i64 0), (.int .i64 0), (.int .i64 0), .nils, .nils] 63 1 [(0, 16, (.t 19))]⟩, ⟨(some 21), none, .bi (.append 16 160 63) [(.t 17), (.t 20)]⟩, ⟨(some 3), none, .mov (.t 21)⟩])))
 (.ops [⟨(some 22), none, .bin .add (.t 13) (.c (.int .i64 1))⟩, ⟨(some 13), none, .mov (.t 22)⟩]))))
/-- (*furlong/queue.Queue).All -/
def v41 : VFun := ⟨1, [(.tmp 2)], (.seq (.ops [⟨(some 2), none, .mov (.c .nils)⟩])
 (.seq (.seq (.ops [⟨(some 6), none, .mov (.t 0)⟩, ⟨(some 7), none, .eqs .ptr false (.t 6) (.c .nilp)⟩])
 (.cond (.t 7) (.seq (.ops [⟨(some 2), none, .mov (.c .nils)⟩])
 .ret) .skip))
 (.seq (.ops [⟨(some 3), none, .mov (.c .nils)⟩])
 (.seq (.seq (.ops [⟨(some 8), none, .mov (.t 0)⟩, ⟨(some 9), none, .nilck (.t 8)⟩, ⟨(some 10), none, .faddr 1 (.t 9)⟩, ⟨(some 11), none, .load false 1 (.t 10)⟩, ⟨(some 12), none, .bi (.len 1) [(.t 11)]⟩, ⟨(some 13), none, .mov (.c (.int .i64 0))⟩])
 (.block 0 (.loop b41_0)))
 (.seq (.ops [⟨(some 23), none, .mov (.t 3)⟩, ⟨(some 2), none, .mov (.t 23)⟩])
 .ret)))))⟩
def b42_0 : VCode := (.seq (.seq (.ops [⟨(some 11), none, .mov (.t 5)⟩, ⟨(some 12), none, .mov (.t 0)⟩, ⟨(some 13), none, .bi (.len 1) [(.t 12)]⟩, ⟨(some 14), none, .bin .lss (.t 11) (.t 13)⟩])
 (.cond (.t 14) .skip (.exit 0)))
 (.seq (.block 1 (.seq (.drawn [⟨(some 17), none, .mov (.t 0)⟩, ⟨(some 18), none, .mov (.t 5)⟩, ⟨(some 19), none, .iaddr 16 none (.t 17) (.t 18)⟩, ⟨(some 20), none, .load true 16 (.t 19)⟩, ⟨(some 21), none, .mov (.t 1)⟩, ⟨(some 22), none, .mov (.t 5)⟩, ⟨(some 23), none, .iaddr 16 none (.t 21) (.t 22)⟩, ⟨(some 24), none, .load true 16 (.t 23)⟩, ⟨(some 25), none, .call 29 [(.t 20), (.t 24)]⟩, ⟨(some 26), none, .un .not (.t 25)⟩] [])
 (.cond (.t 26) (.seq (.ops [⟨(some 4), none, .mov (.c (.bool false))⟩])
 .ret) .skip)))
 (.ops [⟨(some 15), none, .mov (.t 5)⟩, ⟨(some 16), none, .bin .add (.t 15) (.c (.int .i64 1))⟩, ⟨(some 5), none, .mov (.t 16)⟩])))
/-- furlong/furlonglaw0.SameMsgs -/
def v42 : VFun := ⟨2, [(.tmp 4)], (.seq (.ops [⟨(some 4), none, .mov (.c (.bool false))⟩])
 (.seq (.seq (.ops [⟨(some 6), none, .mov (.t 0)⟩, ⟨(some 7), none, .bi (.len 1) [(.t 6)]⟩, ⟨(some 8), none, .mov (.t 1)⟩, ⟨(some 9), none, .bi (.len 1) [(.t 8)]⟩, ⟨(some 10), none, .bin .neq (.t 7) (.t 9)⟩])
 (.cond (.t 10) (.seq (.ops [⟨(some 4), none, .mov (.c (.bool false))⟩])
 .ret) .skip))
 (.seq (.seq (.ops [⟨(some 5), none, .mov (.c (.int .i64 0))⟩])
 (.block 0 (.loop b42_0)))
 (.seq (.ops [⟨(some 4), none, .mov (.c (.bool true))⟩])
 .ret))))⟩
/-- furlong/furlonglaw17.ask -/
def v43 : VFun := ⟨1, [(.cell 2 true 16)], (.seq (.ops [⟨(some 2), none, .alloc [(.int .i64 0), (.int .i64 0), (.int .i64 0), (.int .i64 0), (.int .i64 0), (.int .i64 0), (.bool false), (.int .i64 0), (.int .i64 0), (.bool false), (.int .i64 0), (.int .i64 0), (.int .i64 0), (.int .i64 0), .nils, .nils] 63⟩])
 (.seq (.ops [⟨(some 3), none, .mov (.t 0)⟩, ⟨(some 4), none, .build [(.int .i64 0), (.int .i64 0)] [(1, 1, (.t 3))]⟩, ⟨(some 5), none, .build [(.int .i64 0), (.int .i64 0), (.int .i64 0), (.int .i64 0), (.int .i64 0), (.int .i64 0), (.bool false), (.int .i64 0), (.int .i64 0), (.bool false), (.int .i64 0), (.int .i64 0), (.int .i64 0), (.int .i64 0), .nils, .nils] [(0, 1, (.c (.int .i64 4))), (3, 2, (.t 4)), (2, 1, (.c (.int .i64 1)))]⟩, ⟨none, none, .store 16 (.t 2) (.t 5)⟩])
 .ret))⟩
def b44_0 : VCode := (.seq (.seq (.ops [⟨(some 10), none, .mov (.t 4)⟩, ⟨(some 11), none, .faddr 2 (.t 1)⟩, ⟨(some 12), none, .load false 1 (.t 11)⟩, ⟨(some 13), none, .bi (.len 1) [(.t 12)]⟩, ⟨(some 14), none, .bin .lss (.t 10) (.t 13)⟩])
 (.cond (.t 14) .skip (.exit 0)))
 (.seq (.block 1 (.drawn [⟨(some 17), none, .faddr 2 (.t 3)⟩, ⟨(some 18), none, .load false 1 (.t 17)⟩, ⟨(some 19), none, .bslice [(.int .i64 0), (.int .i64 0)] 48 0 []⟩, ⟨(some 20), none, .faddr 2 (.t 1)⟩, ⟨(some 21), none, .load false 1 (.t 20)⟩, ⟨(some 22), none, .mov (.t 4)⟩, ⟨(some 23), none, .iaddr 1 none (.t 21) (.t 22)⟩, ⟨(some 24), none, .load false 1 (.t 23)⟩, ⟨(some 25), none, .bi (.append 2 16 48) [(.t 19), (.t 24)]⟩, ⟨(some 26), none, .bslice [.nils] 49 1 [(0, 1, (.t 25))]⟩, ⟨(some 27), none, .bi (.append 1 24 49) [(.t 18), (.t 26)]⟩, ⟨(some 28), none, .faddr 2 (.t 3)⟩, ⟨none, none, .store 1 (.t 28) (.t 27)⟩] [(1, [3, 9, 10]), (4, [0]), (7, [0])]))
 (.ops [⟨(some 15), none, .mov (.t 4)⟩, ⟨(some 16), none, .bin .add (.t 15) (.c (.int .i64 1))⟩, ⟨(some 4), none, .mov (.t 16)⟩])))
/-- furlong/furlonglaw0.CopyFeature -/
def v44 : VFun := ⟨1, [(.cell 2 true 3)], (.seq (.ops [⟨(some 1), none, .box 52 (.t 0)⟩, ⟨(some 2), none, .alloc [(.int .i64 0), (.int .i64 0), .nils] 52⟩])
 (.seq (.ops [⟨(some 5), none, .faddr 0 (.t 1)⟩, ⟨(some 6), none, .load false 1 (.t 5)⟩, ⟨(some 7), none, .faddr 1 (.t 1)⟩, ⟨(some 8), none, .load false 1 (.t 7)⟩, ⟨(some 9), none, .build [(.int .i64 0), (.int .i64 0), .nils] [(0, 1, (.t 6)), (1, 1, (.t 8))]⟩, ⟨(some 3), none, .alloc [(.int .i64 0), (.int .i64 0), .nils] 52⟩, ⟨none, none, .store 3 (.t 3) (.t 9)⟩])
 (.seq (.seq (.ops [⟨(some 4), none, .mov (.c (.int .i64 0))⟩])
 (.block 0 (.loop b44_0)))
 (.seq (.ops [⟨(some 29), none, .load true 3 (.t 3)⟩, ⟨none, none, .store 3 (.t 2) (.t 29)⟩])
 .ret))))⟩
/-- (*furlong/rec.Writer).Num -/
def v46 : VFun := ⟨3, [], (.drawn [⟨(some 6), none, .mov (.t 0)⟩, ⟨(some 7), none, .mov (.t 0)⟩, ⟨(some 8), none, .nilck (.t 7)⟩, ⟨(some 9), none, .faddr 0 (.t 8)⟩, ⟨(some 10), none, .load false 1 (.t 9)⟩, ⟨(some 11), none, .mov (.t 1)⟩, ⟨(some 12), none, .mov (.t 2)⟩, ⟨(some 13), none, .call 89 [(.t 11), (.t 12)]⟩, ⟨(some 14), none, .bi (.append 1 1 5) [(.t 10), (.t 13)]⟩, ⟨(some 15), none, .nilck (.t 6)⟩, ⟨(some 16), none, .faddr 0 (.t 15)⟩, ⟨none, none, .store 1 (.t 16) (.t 14)⟩] [(4, [8])])⟩
def b47_0 : VCode := (.seq (.ops [⟨(some 27), none, .bin .lss (.t 26) (.t 25)⟩])
 (.seq (.cond (.t 27) .skip (.exit 0))
 (.seq (.block 1 (.seq (.ops [⟨(some 28), none, .iaddr 1 none (.t 24) (.t 26)⟩, ⟨(some 29), none, .load false 1 (.t 28)⟩, ⟨(some 5), none, .mov (.t 29)⟩])
 (.ops [⟨(some 30), none, .mov (.t 0)⟩, ⟨(some 31), none, .mov (.t 5)⟩, ⟨(some 32), none, .call 46 [(.t 30), (.t 31), (.c (.int .i64 4))]⟩])))
 (.ops [⟨(some 33), none, .bin .add (.t 26) (.c (.int .i64 1))⟩, ⟨(some 26), none, .mov (.t 33)⟩]))))
def b47_1 : VCode := (.seq (.ops [⟨(some 40), none, .bin .lss (.t 39) (.t 38)⟩])
 (.seq (.cond (.t 40) .skip (.exit 2))
 (.seq (.block 3 (.seq (.ops [⟨(some 41), none, .iaddr 1 none (.t 37) (.t 39)⟩, ⟨(some 42), none, .load false 1 (.t 41)⟩, ⟨(some 7), none, .mov (.t 42)⟩])
 (.ops [⟨(some 43), none, .mov (.t 0)⟩, ⟨(some 44), none, .mov (.t 7)⟩, ⟨(some 45), none, .call 46 [(.t 43), (.t 44), (.c (.int .i64 1))]⟩])))
 (.ops [⟨(some 46), none, .bin .add (.t 39) (.c (.int .i64 1))⟩, ⟨(some 39), none, .mov (.t 46)⟩]))))
/-- (*furlong/rec.Writer).Map -/
def v47 : VFun := ⟨2, [], (.seq (.ops [⟨(some 8), none, .mov (.t 0)⟩, ⟨(some 9), none, .mov (.t 1)⟩, ⟨(some 10), none, .nilck (.t 9)⟩, ⟨(some 11), none, .faddr 0 (.t 10)⟩, ⟨(some 12), none, .load false 1 (.t 11)⟩, ⟨(some 13), none, .call 46 [(.t 8), (.t 12), (.c (.int .i64 2))]⟩])
 (.seq (.ops [⟨(some 14), none, .mov (.t 0)⟩, ⟨(some 15), none, .mov (.t 1)⟩, ⟨(some 16), none, .nilck (.t 15)⟩, ⟨(some 17), none, .faddr 1 (.t 16)⟩, ⟨(some 18), none, .load false 1 (.t 17)⟩, ⟨(some 19), none, .bi (.len 1) [(.t 18)]⟩, ⟨(some 20), none, .call 46 [(.t 14), (.t 19), (.c (.int .i64 1))]⟩])
 (.seq (.seq (.ops [⟨(some 21), none, .mov (.t 1)⟩, ⟨(some 22), none, .nilck (.t 21)⟩, ⟨(some 23), none, .faddr 1 (.t 22)⟩, ⟨(some 24), none, .load false 1 (.t 23)⟩, ⟨(some 25), none, .bi (.len 1) [(.t 24)]⟩, ⟨(some 26), none, .mov (.c (.int .i64 0))⟩])
 (.block 0 (.loop b47_0)))
 (.seq (.ops [⟨(some 34), none, .mov (.t 1)⟩, ⟨(some 35), none, .nilck (.t 34)⟩, ⟨(some 36), none, .faddr 2 (.t 35)⟩, ⟨(some 37), none, .load false 1 (.t 36)⟩, ⟨(some 38), none, .bi (.len 1) [(.t 37)]⟩, ⟨(some 39), none, .mov (.c (.int .i64 0))⟩])
 (.block 2 (.loop b47_1))))))⟩
/-- (*furlong/rec.Writer).Name -/
def v48 : VFun := ⟨2, [], (.seq (.ops [⟨(some 3), none, .box 23 (.t 1)⟩])
 (.seq (.ops [⟨(some 4), none, .mov (.t 0)⟩, ⟨(some 5), none, .faddr 0 (.t 3)⟩, ⟨(some 6), none, .load false 1 (.t 5)⟩, ⟨(some 7), none, .call 46 [(.t 4), (.t 6), (.c (.int .i64 1))]⟩])
 (.ops [⟨(some 8), none, .mov (.t 0)⟩, ⟨(some 9), none, .faddr 1 (.t 3)⟩, ⟨(some 10), none, .load false 1 (.t 9)⟩, ⟨(some 11), none, .call 46 [(.t 8), (.t 10), (.c (.int .i64 2))]⟩])))⟩
def b49_0 : VCode := (.seq (.ops [⟨(some 19), none, .bin .lss (.t 18) (.t 17)⟩])
 (.seq (.cond (.t 19) .skip (.exit 0))
 (.seq (.block 1 (.seq (.ops [⟨(some 20), none, .mov (.t 18)⟩, ⟨(some 6), none, .mov (.t 20)⟩])
 (.seq (.ops [⟨(some 21), none, .mov (.t 2)⟩, ⟨(some 22), none, .mov (.t 6)⟩, ⟨(some 23), none, .iaddr 8 none (.t 21) (.t 22)⟩, ⟨(some 7), none, .mov (.t 23)⟩])
 (.seq (.ops [⟨(some 24), none, .mov (.t 0)⟩, ⟨(some 25), none, .mov (.t 7)⟩, ⟨(some 26), none, .nilck (.t 25)⟩, ⟨(some 27), none, .faddr 0 (.t 26)⟩, ⟨(some 28), none, .load false 1 (.t 27)⟩, ⟨(some 29), none, .call 46 [(.t 24), (.t 28), (.c (.int .i64 1))]⟩])
 (.seq (.ops [⟨(some 30), none, .mov (.t 7)⟩, ⟨(some 31), none, .nilck (.t 30)⟩, ⟨(some 32), none, .faddr 0 (.t 31)⟩, ⟨(some 33), none, .load false 1 (.t 32)⟩])
 (.block 2 (.seq (.ops [⟨(some 40), none, .bin .eql (.t 33) (.c (.int .i64 0))⟩, ⟨(some 39), none, .mov (.t 40)⟩])
 (.cond (.t 39) (.ops [⟨(some 41), none, .mov (.t 0)⟩, ⟨(some 42), none, .mov (.t 7)⟩, ⟨(some 43), none, .nilck (.t 42)⟩, ⟨(some 44), none, .faddr 1 (.t 43)⟩, ⟨(some 45), none, .call 73 [(.t 41), (.t 44)]⟩]) (.seq (.ops [⟨(some 47), none, .bin .eql (.t 33) (.c (.int .i64 1))⟩, ⟨(some 46), none, .mov (.t 47)⟩])
 (.cond (.t 46) (.ops [⟨(some 48), none, .mov (.t 0)⟩, ⟨(some 49), none, .mov (.t 7)⟩, ⟨(some 50), none, .nilck (.t 49)⟩, ⟨(some 51), none, .faddr 4 (.t 50)⟩, ⟨(some 52), none, .load false 1 (.t 51)⟩, ⟨(some 53), none, .call 46 [(.t 48), (.t 52), (.c (.int .i64 2))]⟩]) (.ops [⟨(some 34), none, .mov (.t 0)⟩, ⟨(some 35), none, .mov (.t 7)⟩, ⟨(some 36), none, .nilck (.t 35)⟩, ⟨(some 37), none, .faddr 5 (.t 36)⟩, ⟨(some 38), none, .call 47 [(.t 34), (.t 37)]⟩])))))))))))
 (.ops [⟨(some 54), none, .bin .add (.t 18) (.c (.int .i64 1))⟩, ⟨(some 18), none, .mov (.t 54)⟩]))))
/-- (*furlong/rec.Writer).Ops -/
def v49 : VFun := ⟨3, [], (.seq (.ops [⟨(some 8), none, .mov (.t 0)⟩, ⟨(some 9), none, .mov (.t 1)⟩, ⟨(some 10), none, .bin .add (.t 9) (.c (.int .i64 1))⟩, ⟨(some 11), none, .call 46 [(.t 8), (.t 10), (.c (.int .i64 4))]⟩])
 (.seq (.ops [⟨(some 12), none, .mov (.t 0)⟩, ⟨(some 13), none, .mov (.t 2)⟩, ⟨(some 14), none, .bi (.len 1) [(.t 13)]⟩, ⟨(some 15), none, .call 46 [(.t 12), (.t 14), (.c (.int .i64 1))]⟩])
 (.seq (.ops [⟨(some 16), none, .mov (.t 2)⟩, ⟨(some 17), none, .bi (.len 1) [(.t 16)]⟩, ⟨(some 18), none, .mov (.c (.int .i64 0))⟩])
 (.block 0 (.loop b49_0)))))⟩
/-- (*furlong/rec.Writer).Bool -/
def v50 : VFun := ⟨2, [], (.seq (.ops [⟨(some 4), none, .mov (.t 1)⟩])
 (.cond (.t 4) (.ops [⟨(some 5), none, .mov (.t 0)⟩, ⟨(some 6), none, .call 46 [(.t 5), (.c (.int .i64 1)), (.c (.int .i64 1))]⟩]) (.ops [⟨(some 7), none, .mov (.t 0)⟩, ⟨(some 8), none, .call 46 [(.t 7), (.c (.int .i64 0)), (.c (.int .i64 1))]⟩])))⟩
def b52_0 : VCode := (.seq (.seq (.ops [⟨(some 11), none, .mov (.t 6)⟩, ⟨(some 12), none, .bin .geq (.t 11) (.c (.int .i64 0))⟩])
 (.cond (.t 12) .skip (.exit 0)))
 (.seq (.block 1 (.seq (.ops [⟨(some 15), none, .mov (.t 5)⟩, ⟨(some 16), none, .mov (.t 6)⟩, ⟨(some 17), none, .mov (.t 0)⟩, ⟨(some 18), none, .bin .and (.t 17) (.c (.int .i64 255))⟩, ⟨(some 19), none, .conv (.int .u8) (.t 18)⟩, ⟨(some 20), none, .iaddr 1 none (.t 15) (.t 16)⟩, ⟨none, none, .store 1 (.t 20) (.t 19)⟩])
 (.ops [⟨(some 21), none, .mov (.t 0)⟩, ⟨(some 22), none, .bin .shr (.t 21) (.c (.int .u64 8))⟩, ⟨(some 0), none, .mov (.t 22)⟩])))
 (.ops [⟨(some 13), none, .mov (.t 6)⟩, ⟨(some 14), none, .bin .sub (.t 13) (.c (.int .i64 1))⟩, ⟨(some 6), none, .mov (.t 14)⟩])))
/-- furlong/furlongref8.Be -/
def v52 : VFun := ⟨2, [(.tmp 4)], (.seq (.ops [⟨(some 4), none, .mov (.c (.str []))⟩])
 (.seq (.ops [⟨(some 7), none, .mov (.t 1)⟩, ⟨(some 8), none, .mkslice [(.int .u8 0)] 5 1 (.t 7) (.t 7)⟩, ⟨(some 5), none, .mov (.t 8)⟩])
 (.seq (.seq (.ops [⟨(some 9), none, .mov (.t 1)⟩, ⟨(some 10), none, .bin .sub (.t 9) (.c (.int .i64 1))⟩, ⟨(some 6), none, .mov (.t 10)⟩])
 (.block 0 (.loop b52_0)))
 (.seq (.ops [⟨(some 23), none, .mov (.t 5)⟩, ⟨(some 24), none, .conv .text (.t 23)⟩, ⟨(some 4), none, .mov (.t 24)⟩])
 .ret))))⟩
def b53_0 : VCode := (.seq (.seq (.ops [⟨(some 14), none, .mov (.t 4)⟩, ⟨(some 15), none, .faddr 1 (.t 1)⟩, ⟨(some 16), none, .load false 1 (.t 15)⟩, ⟨(some 17), none, .bi (.len 1) [(.t 16)]⟩, ⟨(some 18), none, .bin .lss (.t 14) (.t 17)⟩])
 (.cond (.t 18) .skip (.exit 0)))
 (.seq (.block 1 (.ops [⟨(some 21), none, .mov (.t 3)⟩, ⟨(some 22), none, .faddr 1 (.t 1)⟩, ⟨(some 23), none, .load false 1 (.t 22)⟩, ⟨(some 24), none, .mov (.t 4)⟩, ⟨(some 25), none, .iaddr 1 none (.t 23) (.t 24)⟩, ⟨(some 26), none, .load false 1 (.t 25)⟩, ⟨(some 27), none, .call 52 [(.t 26), (.c (.int .i64 4))]⟩, ⟨(some 28), none, .bin .add (.t 21) (.t 27)⟩, ⟨(some 3), none, .mov (.t 28)⟩]))
 (.ops [⟨(some 19), none, .mov (.t 4)⟩, ⟨(some 20), none, .bin .add (.t 19) (.c (.int .i64 1))⟩, ⟨(some 4), none, .mov (.t 20)⟩])))
def b53_1 : VCode := (.seq (.seq (.ops [⟨(some 29), none, .mov (.t 5)⟩, ⟨(some 30), none, .faddr 2 (.t 1)⟩, ⟨(some 31), none, .load false 1 (.t 30)⟩, ⟨(some 32), none, .bi (.len 1) [(.t 31)]⟩, ⟨(some 33), none, .bin .lss (.t 29) (.t 32)⟩])
 (.cond (.t 33) .skip (.exit 2)))
 (.seq (.block 3 (.ops [⟨(some 36), none, .mov (.t 3)⟩, ⟨(some 37), none, .faddr 2 (.t 1)⟩, ⟨(some 38), none, .load false 1 (.t 37)⟩, ⟨(some 39), none, .mov (.t 5)⟩, ⟨(some 40), none, .iaddr 1 none (.t 38) (.t 39)⟩, ⟨(some 41), none, .load false 1 (.t 40)⟩, ⟨(some 42), none, .call 52 [(.t 41), (.c (.int .i64 1))]⟩, ⟨(some 43), none, .bin .add (.t 36) (.t 42)⟩, ⟨(some 3), none, .mov (.t 43)⟩]))
 (.ops [⟨(some 34), none, .mov (.t 5)⟩, ⟨(some 35), none, .bin .add (.t 34) (.c (.int .i64 1))⟩, ⟨(some 5), none, .mov (.t 35)⟩])))
/-- furlong/furlongref8.putMap -/
def v53 : VFun := ⟨1, [(.tmp 2)], (.seq (.ops [⟨(some 1), none, .box 26 (.t 0)⟩, ⟨(some 2), none, .mov (.c (.str []))⟩])
 (.seq (.drawn [⟨(some 6), none, .faddr 0 (.t 1)⟩, ⟨(some 7), none, .load false 1 (.t 6)⟩, ⟨(some 8), none, .call 52 [(.t 7), (.c (.int .i64 2))]⟩, ⟨(some 9), none, .faddr 1 (.t 1)⟩, ⟨(some 10), none, .load false 1 (.t 9)⟩, ⟨(some 11), none, .bi (.len 1) [(.t 10)]⟩, ⟨(some 12), none, .call 52 [(.t 11), (.c (.int .i64 1))]⟩, ⟨(some 13), none, .bin .add (.t 8) (.t 12)⟩, ⟨(some 3), none, .mov (.t 13)⟩] [(4, [0]), (5, [0])])
 (.seq (.seq (.ops [⟨(some 4), none, .mov (.c (.int .i64 0))⟩])
 (.block 0 (.loop b53_0)))
 (.seq (.seq (.ops [⟨(some 5), none, .mov (.c (.int .i64 0))⟩])
 (.block 2 (.loop b53_1)))
 (.seq (.ops [⟨(some 44), none, .mov (.t 3)⟩, ⟨(some 2), none, .mov (.t 44)⟩])
 .ret)))))⟩
/-- furlong/furlongref8.PutTx -/
def v54 : VFun := ⟨1, [(.tmp 2)], (.seq (.ops [⟨(some 1), none, .box 23 (.t 0)⟩, ⟨(some 2), none, .mov (.c (.str []))⟩])
 (.seq (.drawn [⟨(some 3), none, .faddr 0 (.t 1)⟩, ⟨(some 4), none, .load false 1 (.t 3)⟩, ⟨(some 5), none, .call 52 [(.t 4), (.c (.int .i64 1))]⟩, ⟨(some 6), none, .faddr 1 (.t 1)⟩, ⟨(some 7), none, .load false 1 (.t 6)⟩, ⟨(some 8), none, .call 52 [(.t 7), (.c (.int .i64 2))]⟩, ⟨(some 9), none, .bin .add (.t 5) (.t 8)⟩, ⟨(some 2), none, .mov (.t 9)⟩] [(4, [0])])
 .ret))⟩
def b55_0 : VCode := (.seq (.seq (.ops [⟨(some 8), none, .mov (.t 4)⟩, ⟨(some 9), none, .mov (.t 0)⟩, ⟨(some 10), none, .bi (.len 1) [(.t 9)]⟩, ⟨(some 11), none, .bin .lss (.t 8) (.t 10)⟩])
 (.cond (.t 11) .skip (.exit 0)))
 (.seq (.block 1 (.seq (.ops [⟨(some 14), none, .mov (.t 3)⟩, ⟨(some 15), none, .mov (.t 0)⟩, ⟨(some 16), none, .mov (.t 4)⟩, ⟨(some 17), none, .iaddr 8 none (.t 15) (.t 16)⟩, ⟨(some 18), none, .faddr 0 (.t 17)⟩, ⟨(some 19), none, .load false 1 (.t 18)⟩, ⟨(some 20), none, .call 52 [(.t 19), (.c (.int .i64 1))]⟩, ⟨(some 21), none, .bin .add (.t 14) (.t 20)⟩, ⟨(some 3), none, .mov (.t 21)⟩])
 (.seq (.ops [⟨(some 22), none, .mov (.t 0)⟩, ⟨(some 23), none, .mov (.t 4)⟩, ⟨(some 24), none, .iaddr 8 none (.t 22) (.t 23)⟩, ⟨(some 25), none, .faddr 0 (.t 24)⟩, ⟨(some 26), none, .load false 1 (.t 25)⟩])
 (.block 2 (.seq (.ops [⟨(some 36), none, .bin .eql (.t 26) (.c (.int .i64 0))⟩, ⟨(some 35), none, .mov (.t 36)⟩])
 (.cond (.t 35) (.ops [⟨(some 37), none, .mov (.t 3)⟩, ⟨(some 38), none, .mov (.t 0)⟩, ⟨(some 39), none, .mov (.t 4)⟩, ⟨(some 40), none, .iaddr 8 none (.t 38) (.t 39)⟩, ⟨(some 41), none, .faddr 1 (.t 40)⟩, ⟨(some 42), none, .load true 3 (.t 41)⟩, ⟨(some 43), none, .call 76 [(.t 42)]⟩, ⟨(some 44), none, .bin .add (.t 37) (.t 43)⟩, ⟨(some 3), none, .mov (.t 44)⟩]) (.seq (.ops [⟨(some 46), none, .bin .eql (.t 26) (.c (.int .i64 1))⟩, ⟨(some 45), none, .mov (.t 46)⟩])
 (.cond (.t 45) (.ops [⟨(some 47), none, .mov (.t 3)⟩, ⟨(some 48), none, .mov (.t 0)⟩, ⟨(some 49), none, .mov (.t 4)⟩, ⟨(some 50), none, .iaddr 8 none (.t 48) (.t 49)⟩, ⟨(some 51), none, .faddr 4 (.t 50)⟩, ⟨(some 52), none, .load false 1 (.t 51)⟩, ⟨(some 53), none, .call 52 [(.t 52), (.c (.int .i64 2))]⟩, ⟨(some 54), none, .bin .add (.t 47) (.t 53)⟩, ⟨(some 3), none, .mov (.t 54)⟩]) (.ops [⟨(some 27), none, .mov (.t 3)⟩, ⟨(some 28), none, .mov (.t 0)⟩, ⟨(some 29), none, .mov (.t 4)⟩, ⟨(some 30), none, .iaddr 8 none (.t 28) (.t 29)⟩, ⟨(some 31), none, .faddr 5 (.t 30)⟩, ⟨(some 32), none, .load true 3 (.t 31)⟩, ⟨(some 33), none, .call 53 [(.t 32)]⟩, ⟨(some 34), none, .bin .add (.t 27) (.t 33)⟩, ⟨(some 3), none, .mov (.t 34)⟩])))))))))
 (.ops [⟨(some 12), none, .mov (.t 4)⟩, ⟨(some 13), none, .bin .add (.t 12) (.c (.int .i64 1))⟩, ⟨(some 4), none, .mov (.t 13)⟩])))
/-- furlong/furlongref8.PutOps -/
def v55 : VFun := ⟨1, [(.tmp 2)], (.seq (.ops [⟨(some 2), none, .mov (.c (.str []))⟩])
 (.seq (.ops [⟨(some 5), none, .mov (.t 0)⟩, ⟨(some 6), none, .bi (.len 1) [(.t 5)]⟩, ⟨(some 7), none, .call 52 [(.t 6), (.c (.int .i64 1))]⟩, ⟨(some 3), none, .mov (.t 7)⟩])
 (.seq (.seq (.ops [⟨(some 4), none, .mov (.c (.int .i64 0))⟩])
 (.block 0 (.loop b55_0)))
 (.seq (.ops [⟨(some 55), none, .mov (.t 3)⟩, ⟨(some 2), none, .mov (.t 55)⟩])
 .ret))))⟩
/-- furlong/furlongref8.Bit -/
def v56 : VFun := ⟨1, [(.tmp 2)], (.seq (.ops [⟨(some 2), none, .mov (.c (.str []))⟩])
 (.seq (.seq (.ops [⟨(some 3), none, .mov (.t 0)⟩])
 (.cond (.t 3) (.seq (.ops [⟨(some 2), none, .mov (.c (.str [1]))⟩])
 .ret) .skip))
 (.seq (.ops [⟨(some 2), none, .mov (.c (.str [0]))⟩])
 .ret)))⟩
/-- furlong/furlonglaw0.SameMap -/
def v67 : VFun := ⟨2, [(.tmp 4)], (.seq (.ops [⟨(some 2), none, .box 26 (.t 0)⟩, ⟨(some 3), none, .box 26 (.t 1)⟩, ⟨(some 4), none, .mov (.c (.bool false))⟩])
 (.seq (.ops [⟨(some 5), none, .faddr 0 (.t 2)⟩, ⟨(some 6), none, .load false 1 (.t 5)⟩, ⟨(some 7), none, .faddr 0 (.t 3)⟩, ⟨(some 8), none, .load false 1 (.t 7)⟩, ⟨(some 9), none, .bin .eql (.t 6) (.t 8)⟩, ⟨(some 10), none, .mov (.t 9)⟩, ⟨(some 11), (some (10, true)), .faddr 1 (.t 2)⟩, ⟨(some 12), (some (10, true)), .load false 1 (.t 11)⟩, ⟨(some 13), (some (10, true)), .faddr 1 (.t 3)⟩, ⟨(some 14), (some (10, true)), .load false 1 (.t 13)⟩, ⟨(some 15), (some (10, true)), .call 96 [(.t 12), (.t 14)]⟩, ⟨(some 16), none, .pick (.t 10) (.t 15) (.c (.bool false))⟩, ⟨(some 17), none, .mov (.t 16)⟩, ⟨(some 18), (some (17, true)), .faddr 2 (.t 2)⟩, ⟨(some 19), (some (17, true)), .load false 1 (.t 18)⟩, ⟨(some 20), (some (17, true)), .faddr 2 (.t 3)⟩, ⟨(some 21), (some (17, true)), .load false 1 (.t 20)⟩, ⟨(some 22), (some (17, true)), .call 96 [(.t 19), (.t 21)]⟩, ⟨(some 23), none, .pick (.t 17) (.t 22) (.c (.bool false))⟩, ⟨(some 4), none, .mov (.t 23)⟩])
 .ret))⟩
def b68_0 : VCode := (.seq (.seq (.ops [⟨(some 11), none, .mov (.t 5)⟩, ⟨(some 12), none, .mov (.t 0)⟩, ⟨(some 13), none, .bi (.len 1) [(.t 12)]⟩, ⟨(some 14), none, .bin .lss (.t 11) (.t 13)⟩])
 (.cond (.t 14) .skip (.exit 0)))
 (.seq (.block 1 (.seq (.drawn [⟨(some 17), none, .mov (.t 0)⟩, ⟨(some 18), none, .mov (.t 5)⟩, ⟨(some 19), none, .iaddr 8 none (.t 17) (.t 18)⟩, ⟨(some 20), none, .faddr 0 (.t 19)⟩, ⟨(some 21), none, .load false 1 (.t 20)⟩, ⟨(some 22), none, .mov (.t 1)⟩, ⟨(some 23), none, .mov (.t 5)⟩, ⟨(some 24), none, .iaddr 8 none (.t 22) (.t 23)⟩, ⟨(some 25), none, .faddr 0 (.t 24)⟩, ⟨(some 26), none, .load false 1 (.t 25)⟩, ⟨(some 27), none, .bin .neq (.t 21) (.t 26)⟩, ⟨(some 28), none, .mov (.t 27)⟩, ⟨(some 29), (some (28, false)), .mov (.t 0)⟩, ⟨(some 30), (some (28, false)), .mov (.t 5)⟩, ⟨(some 31), (some (28, false)), .iaddr 8 none (.t 29) (.t 30)⟩, ⟨(some 32), (some (28, false)), .faddr 4 (.t 31)⟩, ⟨(some 33), (some (28, false)), .load false 1 (.t 32)⟩, ⟨(some 34), (some (28, false)), .mov (.t 1)⟩, ⟨(some 35), (some (28, false)), .mov (.t 5)⟩, ⟨(some 36), (some (28, false)), .iaddr 8 none (.t 34) (.t 35)⟩, ⟨(some 37), (some (28, false)), .faddr 4 (.t 36)⟩, ⟨(some 38), (some (28, false)), .load false 1 (.t 37)⟩, ⟨(some 39), (some (28, false)), .bin .neq (.t 33) (.t 38)⟩, ⟨(some 40), none, .pick (.t 28) (.c (.bool true)) (.t 39)⟩, ⟨(some 41), none, .mov (.t 40)⟩, ⟨(some 42), (some (41, false)), .mov (.t 0)⟩, ⟨(some 43), (some (41, false)), .mov (.t 5)⟩, ⟨(some 44), (some (41, false)), .iaddr 8 none (.t 42) (.t 43)⟩, ⟨(some 45), (some (41, false)), .faddr 1 (.t 44)⟩, ⟨(some 46), (some (41, false)), .load true 3 (.t 45)⟩, ⟨(some 47), (some (41, false)), .mov (.t 1)⟩, ⟨(some 48), (some (41, false)), .mov (.t 5)⟩, ⟨(some 49), (some (41, false)), .iaddr 8 none (.t 47) (.t 48)⟩, ⟨(some 50), (some (41, false)), .faddr 1 (.t 49)⟩, ⟨(some 51), (some (41, false)), .load true 3 (.t 50)⟩, ⟨(some 52), (some (41, false)), .call 97 [(.t 46), (.t 51)]⟩, ⟨(some 53), (some (41, false)), .un .not (.t 52)⟩, ⟨(some 54), none, .pick (.t 41) (.c (.bool true)) (.t 53)⟩, ⟨(some 55), none, .mov (.t 54)⟩, ⟨(some 56), (some (55, false)), .mov (.t 0)⟩, ⟨(some 57), (some (55, false)), .mov (.t 5)⟩, ⟨(some 58), (some (55, false)), .iaddr 8 none (.t 56) (.t 57)⟩, ⟨(some 59), (some (55, false)), .faddr 5 (.t 58)⟩, ⟨(some 60), (some (55, false)), .load true 3 (.t 59)⟩, ⟨(some 61), (some (55, false)), .mov (.t 1)⟩, ⟨(some 62), (some (55, false)), .mov (.t 5)⟩, ⟨(some 63), (some (55, false)), .iaddr 8 none (.t 61) (.t 62)⟩, ⟨(some 64), (some (55, false)), .faddr 5 (.t 63)⟩, ⟨(some 65), (some (55, false)), .load true 3 (.t 64)⟩, ⟨(some 66), (some (55, false)), .call 67 [(.t 60), (.t 65)]⟩, ⟨(some 67), (some (55, false)), .un .not (.t 66)⟩, ⟨(some 68), none, .pick (.t 55) (.c (.bool true)) (.t 67)⟩] [])
 (.cond (.t 68) (.seq (.ops [⟨(some 4), none, .mov (.c (.bool false))⟩])
 .ret) .skip)))
 (.ops [⟨(some 15), none, .mov (.t 5)⟩, ⟨(some 16), none, .bin .add (.t 15) (.c (.int .i64 1))⟩, ⟨(some 5), none, .mov (.t 16)⟩])))
/-- furlong/furlonglaw0.SameOps -/
def v68 : VFun := ⟨2, [(.tmp 4)], (.seq (.ops [⟨(some 4), none, .mov (.c (.bool false))⟩])
 (.seq (.seq (.ops [⟨(some 6), none, .mov (.t 0)⟩, ⟨(some 7), none, .bi (.len 1) [(.t 6)]⟩, ⟨(some 8), none, .mov (.t 1)⟩, ⟨(some 9), none, .bi (.len 1) [(.t 8)]⟩, ⟨(some 10), none, .bin .neq (.t 7) (.t 9)⟩])
 (.cond (.t 10) (.seq (.ops [⟨(some 4), none, .mov (.c (.bool false))⟩])
 .ret) .skip))
 (.seq (.seq (.ops [⟨(some 5), none, .mov (.c (.int .i64 0))⟩])
 (.block 0 (.loop b68_0)))
 (.seq (.ops [⟨(some 4), none, .mov (.c (.bool true))⟩])
 .ret))))⟩
def b69_0 : VCode := (.seq (.seq (.ops [⟨(some 21), none, .mov (.t 4)⟩, ⟨(some 22), none, .mov (.t 0)⟩, ⟨(some 23), none, .mov (.t 2)⟩, ⟨(some 24), none, .iaddr 3 none (.t 22) (.t 23)⟩, ⟨(some 25), none, .faddr 2 (.t 24)⟩, ⟨(some 26), none, .load false 1 (.t 25)⟩, ⟨(some 27), none, .mov (.t 3)⟩, ⟨(some 28), none, .iaddr 1 none (.t 26) (.t 27)⟩, ⟨(some 29), none, .load false 1 (.t 28)⟩, ⟨(some 30), none, .bi (.len 1) [(.t 29)]⟩, ⟨(some 31), none, .bin .lss (.t 21) (.t 30)⟩])
 (.cond (.t 31) .skip (.exit 4)))
 (.seq (.block 5 (.drawn [⟨(some 34), none, .mov (.t 0)⟩, ⟨(some 35), none, .mov (.t 2)⟩, ⟨(some 36), none, .iaddr 3 none (.t 34) (.t 35)⟩, ⟨(some 37), none, .faddr 2 (.t 36)⟩, ⟨(some 38), none, .load false 1 (.t 37)⟩, ⟨(some 39), none, .mov (.t 3)⟩, ⟨(some 40), none, .iaddr 1 none (.t 38) (.t 39)⟩, ⟨(some 41), none, .load false 1 (.t 40)⟩, ⟨(some 42), none, .mov (.t 4)⟩, ⟨(some 43), none, .mov (.t 0)⟩, ⟨(some 44), none, .mov (.t 2)⟩, ⟨(some 45), none, .iaddr 3 none (.t 43) (.t 44)⟩, ⟨(some 46), none, .faddr 2 (.t 45)⟩, ⟨(some 47), none, .load false 1 (.t 46)⟩, ⟨(some 48), none, .mov (.t 3)⟩, ⟨(some 49), none, .iaddr 1 none (.t 47) (.t 48)⟩, ⟨(some 50), none, .load false 1 (.t 49)⟩, ⟨(some 51), none, .mov (.t 4)⟩, ⟨(some 52), none, .iaddr 2 none (.t 50) (.t 51)⟩, ⟨(some 53), none, .faddr 0 (.t 52)⟩, ⟨(some 54), none, .load false 1 (.t 53)⟩, ⟨(some 55), none, .bin .xor (.t 54) (.c (.int .i64 90))⟩, ⟨(some 56), none, .iaddr 2 none (.t 41) (.t 42)⟩, ⟨(some 57), none, .faddr 0 (.t 56)⟩, ⟨none, none, .store 1 (.t 57) (.t 55)⟩] []))
 (.ops [⟨(some 32), none, .mov (.t 4)⟩, ⟨(some 33), none, .bin .add (.t 32) (.c (.int .i64 1))⟩, ⟨(some 4), none, .mov (.t 33)⟩])))
def b69_1 : VCode := (.seq (.seq (.ops [⟨(some 11), none, .mov (.t 3)⟩, ⟨(some 12), none, .mov (.t 0)⟩, ⟨(some 13), none, .mov (.t 2)⟩, ⟨(some 14), none, .iaddr 3 none (.t 12) (.t 13)⟩, ⟨(some 15), none, .faddr 2 (.t 14)⟩, ⟨(some 16), none, .load false 1 (.t 15)⟩, ⟨(some 17), none, .bi (.len 1) [(.t 16)]⟩, ⟨(some 18), none, .bin .lss (.t 11) (.t 17)⟩])
 (.cond (.t 18) .skip (.exit 2)))
 (.seq (.block 3 (.seq (.ops [⟨(some 4), none, .mov (.c (.int .i64 0))⟩])
 (.block 4 (.loop b69_0))))
 (.ops [⟨(some 19), none, .mov (.t 3)⟩, ⟨(some 20), none, .bin .add (.t 19) (.c (.int .i64 1))⟩, ⟨(some 3), none, .mov (.t 20)⟩])))
def b69_2 : VCode := (.seq (.seq (.ops [⟨(some 5), none, .mov (.t 2)⟩, ⟨(some 6), none, .mov (.t 0)⟩, ⟨(some 7), none, .bi (.len 1) [(.t 6)]⟩, ⟨(some 8), none, .bin .lss (.t 5) (.t 7)⟩])
 (.cond (.t 8) .skip (.exit 0)))
 (.seq (.block 1 (.seq (.seq (.ops [⟨(some 3), none, .mov (.c (.int .i64 0))⟩])
 (.block 2 (.loop b69_1)))
 (.ops [⟨(some 58), none, .mov (.t 0)⟩, ⟨(some 59), none, .mov (.t 2)⟩, ⟨(some 60), none, .mov (.t 0)⟩, ⟨(some 61), none, .mov (.t 2)⟩, ⟨(some 62), none, .iaddr 3 none (.t 60) (.t 61)⟩, ⟨(some 63), none, .faddr 0 (.t 62)⟩, ⟨(some 64), none, .load false 1 (.t 63)⟩, ⟨(some 65), none, .bin .xor (.t 64) (.c (.int .i64 90))⟩, ⟨(some 66), none, .iaddr 3 none (.t 58) (.t 59)⟩, ⟨(some 67), none, .faddr 0 (.t 66)⟩, ⟨none, none, .store 1 (.t 67) (.t 65)⟩])))
 (.ops [⟨(some 9), none, .mov (.t 2)⟩, ⟨(some 10), none, .bin .add (.t 9) (.c (.int .i64 1))⟩, ⟨(some 2), none, .mov (.t 10)⟩])))
/-- furlong/furlonglaw0.SpoilFeatures -/
def v69 : VFun := ⟨1, [], (.seq (.ops [⟨(some 2), none, .mov (.c (.int .i64 0))⟩])
 (.block 0 (.loop b69_2)))⟩
def b70_0 : VCode := (.seq (.seq (.ops [⟨(some 3), none, .mov (.t 2)⟩, ⟨(some 4), none, .mov (.t 0)⟩, ⟨(some 5), none, .bi (.len 1) [(.t 4)]⟩, ⟨(some 6), none, .bin .lss (.t 3) (.t 5)⟩])
 (.cond (.t 6) .skip (.exit 0)))
 (.seq (.block 1 (.ops [⟨(some 9), none, .mov (.t 0)⟩, ⟨(some 10), none, .mov (.t 2)⟩, ⟨(some 11), none, .mov (.t 0)⟩, ⟨(some 12), none, .mov (.t 2)⟩, ⟨(some 13), none, .iaddr 1 none (.t 11) (.t 12)⟩, ⟨(some 14), none, .load false 1 (.t 13)⟩, ⟨(some 15), none, .bin .sub (.c (.int .i64 (-9))) (.t 14)⟩, ⟨(some 16), none, .iaddr 1 none (.t 9) (.t 10)⟩, ⟨none, none, .store 1 (.t 16) (.t 15)⟩]))
 (.ops [⟨(some 7), none, .mov (.t 2)⟩, ⟨(some 8), none, .bin .add (.t 7) (.c (.int .i64 1))⟩, ⟨(some 2), none, .mov (.t 8)⟩])))
/-- furlong/furlonglaw0.SpoilInts -/
def v70 : VFun := ⟨1, [], (.seq (.ops [⟨(some 2), none, .mov (.c (.int .i64 0))⟩])
 (.block 0 (.loop b70_0)))⟩
/-- furlong/msg.may -/
def v71 : VFun := ⟨1, [(.cell 2 true 5), (.tmp 3)], (.seq (.ops [⟨(some 2), none, .alloc [(.bool false), (.bool false), (.bool false), (.bool false), (.bool false)] 132⟩, ⟨(some 3), none, .mov (.c (.bool false))⟩])
 (.seq (.ops [⟨(some 8), none, .mov (.t 0)⟩, ⟨(some 9), none, .nilck (.t 8)⟩, ⟨(some 10), none, .faddr 0 (.t 9)⟩, ⟨(some 11), none, .load false 1 (.t 10)⟩, ⟨(some 12), none, .call 77 [(.t 11)]⟩, ⟨(some 7), none, .mov (.t 12)⟩, ⟨(some 13), none, .extract (.t 7) 0⟩, ⟨(some 14), none, .extract (.t 7) 1⟩, ⟨(some 4), none, .alloc [(.bool false), (.bool false), (.bool false), (.bool false), (.bool false)] 132⟩, ⟨none, none, .store 5 (.t 4) (.t 13)⟩, ⟨(some 5), none, .mov (.t 14)⟩])
 (.seq (.ops [⟨(some 15), none, .mov (.t 0)⟩, ⟨(some 16), none, .nilck (.t 15)⟩, ⟨(some 17), none, .faddr 3 (.t 16)⟩, ⟨(some 18), none, .load true 2 (.t 17)⟩, ⟨(some 19), none, .call 84 [(.t 18)]⟩, ⟨(some 6), none, .mov (.t 19)⟩])
 (.seq (.seq (.ops [⟨(some 20), none, .faddr 0 (.t 4)⟩, ⟨(some 21), none, .load false 1 (.t 20)⟩, ⟨(some 22), none, .un .not (.t 21)⟩])
 (.cond (.t 22) (.ops [⟨(some 23), none, .mov (.t 0)⟩, ⟨(some 24), none, .nilck (.t 23)⟩, ⟨(some 25), none, .faddr 3 (.t 24)⟩, ⟨(some 26), none, .load true 2 (.t 25)⟩, ⟨(some 27), none, .build [(.int .i64 0), (.int .i64 0)] []⟩, ⟨(some 28), none, .eqs (.flat [.int, .int]) false (.t 26) (.t 27)⟩, ⟨(some 6), none, .mov (.t 28)⟩]) .skip))
 (.seq (.drawn [⟨(some 29), none, .load true 5 (.t 4)⟩, ⟨(some 30), none, .mov (.t 5)⟩, ⟨(some 31), none, .mov (.t 30)⟩, ⟨(some 32), (some (31, true)), .mov (.t 0)⟩, ⟨(some 33), (some (31, true)), .nilck (.t 32)⟩, ⟨(some 34), (some (31, true)), .faddr 1 (.t 33)⟩, ⟨(some 35), (some (31, true)), .load false 1 (.t 34)⟩, ⟨(some 36), (some (31, true)), .call 98 [(.t 35)]⟩, ⟨(some 37), none, .pick (.t 31) (.t 36) (.c (.bool false))⟩, ⟨(some 38), none, .mov (.t 37)⟩, ⟨(some 39), (some (38, true)), .mov (.t 0)⟩, ⟨(some 40), (some (38, true)), .nilck (.t 39)⟩, ⟨(some 41), (some (38, true)), .faddr 2 (.t 40)⟩, ⟨(some 42), (some (38, true)), .load false 1 (.t 41)⟩, ⟨(some 43), (some (38, true)), .call 98 [(.t 42)]⟩, ⟨(some 44), none, .pick (.t 38) (.t 43) (.c (.bool false))⟩, ⟨(some 45), none, .mov (.t 44)⟩, ⟨(some 46), (some (45, true)), .mov (.t 6)⟩, ⟨(some 47), none, .pick (.t 45) (.t 46) (.c (.bool false))⟩, ⟨(some 48), none, .mov (.t 47)⟩, ⟨(some 49), (some (48, true)), .faddr 2 (.t 4)⟩, ⟨(some 50), (some (48, true)), .load false 1 (.t 49)⟩, ⟨(some 51), (some (48, true)), .mov (.t 50)⟩, ⟨(some 52), (some (51, false)), .mov (.t 0)⟩, ⟨(some 53), (some (51, false)), .nilck (.t 52)⟩, ⟨(some 54), (some (51, false)), .faddr 6 (.t 53)⟩, ⟨(some 55), (some (51, false)), .load false 1 (.t 54)⟩, ⟨(some 56), (some (51, false)), .un .not (.t 55)⟩, ⟨(some 57), (some (48, true)), .pick (.t 51) (.c (.bool true)) (.t 56)⟩, ⟨(some 58), none, .pick (.t 48) (.t 57) (.c (.bool false))⟩, ⟨(some 59), none, .mov (.t 58)⟩, ⟨(some 60), (some (59, true)), .load true 5 (.t 4)⟩, ⟨(some 61), (some (59, true)), .mov (.t 0)⟩, ⟨(some 62), (some (59, true)), .call 99 [(.t 60), (.t 61)]⟩, ⟨(some 63), none, .pick (.t 59) (.t 62) (.c (.bool false))⟩, ⟨(some 64), none, .mov (.t 63)⟩, ⟨(some 65), (some (64, true)), .load true 5 (.t 4)⟩, ⟨(some 66), (some (64, true)), .mov (.t 0)⟩, ⟨(some 67), (some (64, true)), .call 100 [(.t 65), (.t 66)]⟩, ⟨(some 68), none, .pick (.t 64) (.t 67) (.c (.bool false))⟩, ⟨(some 69), none, .mov (.t 68)⟩, ⟨(some 70), (some (69, true)), .load true 5 (.t 4)⟩, ⟨(some 71), (some (69, true)), .mov (.t 0)⟩, ⟨(some 72), (some (69, true)), .call 101 [(.t 70), (.t 71)]⟩, ⟨(some 73), none, .pick (.t 69) (.t 72) (.c (.bool false))⟩, ⟨none, none, .store 5 (.t 2) (.t 29)⟩, ⟨(some 3), none, .mov (.t 73)⟩] [(0, [8, 15, 34, 39, 44])])
 .ret)))))⟩
def b72_0 : VCode := (.seq (.ops [⟨(some 16), none, .bin .lss (.t 15) (.c (.int .i64 4))⟩])
 (.seq (.cond (.t 16) .skip (.exit 0))
 (.seq (.block 1 (.seq (.ops [⟨(some 17), none, .index false 1 4 (.t 14) (.t 15)⟩, ⟨(some 5), none, .mov (.t 17)⟩])
 (.ops [⟨(some 18), none, .mov (.t 0)⟩, ⟨(some 19), none, .mov (.t 5)⟩, ⟨(some 20), none, .call 46 [(.t 18), (.t 19), (.c (.int .i64 4))]⟩])))
 (.ops [⟨(some 21), none, .bin .add (.t 15) (.c (.int .i64 1))⟩, ⟨(some 15), none, .mov (.t 21)⟩]))))
/-- furlong/msg.box -/
def v72 : VFun := ⟨2, [], (.seq (.ops [⟨(some 3), none, .box 60 (.t 1)⟩])
 (.seq (.ops [⟨(some 6), none, .faddr 0 (.t 3)⟩, ⟨(some 7), none, .load false 1 (.t 6)⟩, ⟨(some 8), none, .faddr 1 (.t 3)⟩, ⟨(some 9), none, .load false 1 (.t 8)⟩, ⟨(some 10), none, .faddr 2 (.t 3)⟩, ⟨(some 11), none, .load false 1 (.t 10)⟩, ⟨(some 12), none, .faddr 3 (.t 3)⟩, ⟨(some 13), none, .load false 1 (.t 12)⟩, ⟨(some 14), none, .build [(.int .i64 0), (.int .i64 0), (.int .i64 0), (.int .i64 0)] [(0, 1, (.t 7)), (1, 1, (.t 9)), (2, 1, (.t 11)), (3, 1, (.t 13))]⟩, ⟨(some 15), none, .mov (.c (.int .i64 0))⟩])
 (.block 0 (.loop b72_0))))⟩
def b73_0 : VCode := (.seq (.ops [⟨(some 43), none, .bin .lss (.t 42) (.t 41)⟩])
 (.seq (.cond (.t 43) .skip (.exit 2))
 (.seq (.block 3 (.seq (.ops [⟨(some 44), none, .iaddr 2 none (.t 40) (.t 42)⟩, ⟨(some 45), none, .load true 2 (.t 44)⟩, ⟨(some 7), none, .alloc [(.int .i64 0), (.int .i64 0)] 48⟩, ⟨none, none, .store 2 (.t 7) (.t 45)⟩])
 (.seq (.ops [⟨(some 46), none, .mov (.t 0)⟩, ⟨(some 47), none, .faddr 0 (.t 7)⟩, ⟨(some 48), none, .load false 1 (.t 47)⟩, ⟨(some 49), none, .call 46 [(.t 46), (.t 48), (.c (.int .i64 4))]⟩])
 (.ops [⟨(some 50), none, .mov (.t 0)⟩, ⟨(some 51), none, .faddr 1 (.t 7)⟩, ⟨(some 52), none, .load false 1 (.t 51)⟩, ⟨(some 53), none, .call 46 [(.t 50), (.t 52), (.c (.int .i64 4))]⟩]))))
 (.ops [⟨(some 54), none, .bin .add (.t 42) (.c (.int .i64 1))⟩, ⟨(some 42), none, .mov (.t 54)⟩]))))
def b73_1 : VCode := (.seq (.ops [⟨(some 33), none, .bin .lss (.t 32) (.t 31)⟩])
 (.seq (.cond (.t 33) .skip (.exit 0))
 (.seq (.block 1 (.seq (.ops [⟨(some 34), none, .iaddr 1 none (.t 30) (.t 32)⟩, ⟨(some 35), none, .load false 1 (.t 34)⟩, ⟨(some 5), none, .mov (.t 35)⟩])
 (.seq (.ops [⟨(some 36), none, .mov (.t 0)⟩, ⟨(some 37), none, .mov (.t 5)⟩, ⟨(some 38), none, .bi (.len 1) [(.t 37)]⟩, ⟨(some 39), none, .call 46 [(.t 36), (.t 38), (.c (.int .i64 1))]⟩])
 (.seq (.ops [⟨(some 40), none, .mov (.t 5)⟩, ⟨(some 41), none, .bi (.len 1) [(.t 40)]⟩, ⟨(some 42), none, .mov (.c (.int .i64 0))⟩])
 (.block 2 (.loop b73_0))))))
 (.ops [⟨(some 55), none, .bin .add (.t 32) (.c (.int .i64 1))⟩, ⟨(some 32), none, .mov (.t 55)⟩]))))
/-- (*furlong/rec.Writer).Feature -/
def v73 : VFun := ⟨2, [], (.seq (.ops [⟨(some 8), none, .mov (.t 0)⟩, ⟨(some 9), none, .mov (.t 1)⟩, ⟨(some 10), none, .nilck (.t 9)⟩, ⟨(some 11), none, .faddr 0 (.t 10)⟩, ⟨(some 12), none, .load false 1 (.t 11)⟩, ⟨(some 13), none, .call 46 [(.t 8), (.t 12), (.c (.int .i64 2))]⟩])
 (.seq (.ops [⟨(some 14), none, .mov (.t 0)⟩, ⟨(some 15), none, .mov (.t 1)⟩, ⟨(some 16), none, .nilck (.t 15)⟩, ⟨(some 17), none, .faddr 1 (.t 16)⟩, ⟨(some 18), none, .load false 1 (.t 17)⟩, ⟨(some 19), none, .call 46 [(.t 14), (.t 18), (.c (.int .i64 1))]⟩])
 (.seq (.ops [⟨(some 20), none, .mov (.t 0)⟩, ⟨(some 21), none, .mov (.t 1)⟩, ⟨(some 22), none, .nilck (.t 21)⟩, ⟨(some 23), none, .faddr 2 (.t 22)⟩, ⟨(some 24), none, .load false 1 (.t 23)⟩, ⟨(some 25), none, .bi (.len 1) [(.t 24)]⟩, ⟨(some 26), none, .call 46 [(.t 20), (.t 25), (.c (.int .i64 1))]⟩])
 (.seq (.ops [⟨(some 27), none, .mov (.t 1)⟩, ⟨(some 28), none, .nilck (.t 27)⟩, ⟨(some 29), none, .faddr 2 (.t 28)⟩, ⟨(some 30), none, .load false 1 (.t 29)⟩, ⟨(some 31), none, .bi (.len 1) [(.t 30)]⟩, ⟨(some 32), none, .mov (.c (.int .i64 0))⟩])
 (.block 0 (.loop b73_1))))))⟩
/-- furlong/furlongref12.MsgMay -/
def v74 : VFun := ⟨1, [(.tmp 2)], (.seq (.ops [⟨(some 1), none, .box 63 (.t 0)⟩, ⟨(some 2), none, .mov (.c (.bool false))⟩])
 (.seq (.seq (.ops [⟨(some 3), none, .faddr 0 (.t 1)⟩, ⟨(some 4), none, .load false 1 (.t 3)⟩, ⟨(some 5), none, .bin .lss (.t 4) (.c (.int .i64 0))⟩, ⟨(some 6), none, .mov (.t 5)⟩, ⟨(some 7), (some (6, false)), .faddr 0 (.t 1)⟩, ⟨(some 8), (some (6, false)), .load false 1 (.t 7)⟩, ⟨(some 9), (some (6, false)), .bin .gtr (.t 8) (.c (.int .i64 6))⟩, ⟨(some 10), none, .pick (.t 6) (.c (.bool true)) (.t 9)⟩, ⟨(some 11), none, .mov (.t 10)⟩, ⟨(some 12), (some (11, false)), .faddr 1 (.t 1)⟩, ⟨(some 13), (some (11, false)), .load false 1 (.t 12)⟩, ⟨(some 14), (some (11, false)), .bin .lss (.t 13) (.c (.int .i64 0))⟩, ⟨(some 15), none, .pick (.t 11) (.c (.bool true)) (.t 14)⟩, ⟨(some 16), none, .mov (.t 15)⟩, ⟨(some 17), (some (16, false)), .faddr 1 (.t 1)⟩, ⟨(some 18), (some (16, false)), .load false 1 (.t 17)⟩, ⟨(some 19), (some (16, false)), .bin .geq (.t 18) (.c (.int .i64 8))⟩, ⟨(some 20), none, .pick (.t 16) (.c (.bool true)) (.t 19)⟩, ⟨(some 21), none, .mov (.t 20)⟩, ⟨(some 22), (some (21, false)), .faddr 2 (.t 1)⟩, ⟨(some 23), (some (21, false)), .load false 1 (.t 22)⟩, ⟨(some 24), (some (21, false)), .bin .lss (.t 23) (.c (.int .i64 0))⟩, ⟨(some 25), none, .pick (.t 21) (.c (.bool true)) (.t 24)⟩, ⟨(some 26), none, .mov (.t 25)⟩, ⟨(some 27), (some (26, false)), .faddr 2 (.t 1)⟩, ⟨(some 28), (some (26, false)), .load false 1 (.t 27)⟩, ⟨(some 29), (some (26, false)), .bin .geq (.t 28) (.c (.int .i64 8))⟩, ⟨(some 30), none, .pick (.t 26) (.c (.bool true)) (.t 29)⟩, ⟨(some 31), none, .mov (.t 30)⟩, ⟨(some 32), (some (31, false)), .load true 16 (.t 1)⟩, ⟨(some 33), (some (31, false)), .call 102 [(.t 32)]⟩, ⟨(some 34), (some (31, false)), .un .not (.t 33)⟩, ⟨(some 35), none, .pick (.t 31) (.c (.bool true)) (.t 34)⟩])
 (.cond (.t 35) (.seq (.ops [⟨(some 2), none, .mov (.c (.bool false))⟩])
 .ret) .skip))
 (.seq (.seq (.ops [⟨(some 36), none, .faddr 0 (.t 1)⟩, ⟨(some 37), none, .load false 1 (.t 36)⟩])
 (.block 0 (.seq (.ops [⟨(some 39), none, .bin .eql (.t 37) (.c (.int .i64 0))⟩, ⟨(some 38), none, .mov (.t 39)⟩])
 (.cond (.t 38) (.seq (.ops [⟨(some 40), none, .faddr 3 (.t 1)⟩, ⟨(some 41), none, .load true 2 (.t 40)⟩, ⟨(some 42), none, .call 91 [(.t 41)]⟩, ⟨(some 43), none, .mov (.t 42)⟩, ⟨(some 44), (some (43, true)), .faddr 5 (.t 1)⟩, ⟨(some 45), (some (43, true)), .load false 1 (.t 44)⟩, ⟨(some 46), (some (43, true)), .call 93 [(.t 45)]⟩, ⟨(some 47), none, .pick (.t 43) (.t 46) (.c (.bool false))⟩, ⟨(some 48), none, .mov (.t 47)⟩, ⟨(some 49), (some (48, true)), .faddr 14 (.t 1)⟩, ⟨(some 50), (some (48, true)), .load false 1 (.t 49)⟩, ⟨(some 51), (some (48, true)), .call 94 [(.t 50)]⟩, ⟨(some 52), none, .pick (.t 48) (.t 51) (.c (.bool false))⟩, ⟨(some 2), none, .mov (.t 52)⟩])
 .ret) (.seq (.ops [⟨(some 54), none, .bin .eql (.t 37) (.c (.int .i64 5))⟩, ⟨(some 53), none, .mov (.t 54)⟩])
 (.cond (.t 53) (.seq (.ops [⟨(some 55), none, .faddr 7 (.t 1)⟩, ⟨(some 56), none, .load false 1 (.t 55)⟩, ⟨(some 57), none, .bin .geq (.t 56) (.c (.int .i64 1))⟩, ⟨(some 58), none, .mov (.t 57)⟩, ⟨(some 59), (some (58, true)), .faddr 7 (.t 1)⟩, ⟨(some 60), (some (58, true)), .load false 1 (.t 59)⟩, ⟨(some 61), (some (58, true)), .bin .leq (.t 60) (.c (.int .i64 65535))⟩, ⟨(some 62), none, .pick (.t 58) (.t 61) (.c (.bool false))⟩, ⟨(some 63), none, .mov (.t 62)⟩, ⟨(some 64), (some (63, true)), .faddr 10 (.t 1)⟩, ⟨(some 65), (some (63, true)), .load true 4 (.t 64)⟩, ⟨(some 66), (some (63, true)), .call 103 [(.t 65)]⟩, ⟨(some 67), none, .pick (.t 63) (.t 66) (.c (.bool false))⟩, ⟨(some 2), none, .mov (.t 67)⟩])
 .ret) (.seq (.ops [⟨(some 69), none, .bin .eql (.t 37) (.c (.int .i64 6))⟩, ⟨(some 68), none, .mov (.t 69)⟩])
 (.cond (.t 68) (.seq (.ops [⟨(some 70), none, .faddr 7 (.t 1)⟩, ⟨(some 71), none, .load false 1 (.t 70)⟩, ⟨(some 72), none, .bin .geq (.t 71) (.c (.int .i64 1))⟩, ⟨(some 73), none, .mov (.t 72)⟩, ⟨(some 74), (some (73, true)), .faddr 7 (.t 1)⟩, ⟨(some 75), (some (73, true)), .load false 1 (.t 74)⟩, ⟨(some 76), (some (73, true)), .bin .leq (.t 75) (.c (.int .i64 65535))⟩, ⟨(some 77), none, .pick (.t 73) (.t 76) (.c (.bool false))⟩, ⟨(some 78), none, .mov (.t 77)⟩, ⟨(some 79), (some (78, true)), .faddr 10 (.t 1)⟩, ⟨(some 80), (some (78, true)), .load true 4 (.t 79)⟩, ⟨(some 81), (some (78, true)), .call 103 [(.t 80)]⟩, ⟨(some 82), none, .pick (.t 78) (.t 81) (.c (.bool false))⟩, ⟨(some 83), none, .mov (.t 82)⟩, ⟨(some 84), (some (83, true)), .faddr 8 (.t 1)⟩, ⟨(some 85), (some (83, true)), .load false 1 (.t 84)⟩, ⟨(some 86), (some (83, true)), .bin .geq (.t 85) (.c (.int .i64 0))⟩, ⟨(some 87), none, .pick (.t 83) (.t 86) (.c (.bool false))⟩, ⟨(some 88), none, .mov (.t 87)⟩, ⟨(some 89), (some (88, true)), .faddr 8 (.t 1)⟩, ⟨(some 90), (some (88, true)), .load false 1 (.t 89)⟩, ⟨(some 91), (some (88, true)), .bin .leq (.t 90) (.c (.int .i64 2147483647))⟩, ⟨(some 92), none, .pick (.t 88) (.t 91) (.c (.bool false))⟩, ⟨(some 93), none, .mov (.t 92)⟩, ⟨(some 94), (some (93, true)), .faddr 15 (.t 1)⟩, ⟨(some 95), (some (93, true)), .load false 1 (.t 94)⟩, ⟨(some 96), (some (93, true)), .bi (.len 1) [(.t 95)]⟩, ⟨(some 97), (some (93, true)), .bin .leq (.t 96) (.c (.int .i64 256))⟩, ⟨(some 98), none, .pick (.t 93) (.t 97) (.c (.bool false))⟩, ⟨(some 99), none, .mov (.t 98)⟩, ⟨(some 100), (some (99, true)), .faddr 15 (.t 1)⟩, ⟨(some 101), (some (99, true)), .load false 1 (.t 100)⟩, ⟨(some 102), (some (99, true)), .call 104 [(.t 101)]⟩, ⟨(some 103), none, .pick (.t 99) (.t 102) (.c (.bool false))⟩, ⟨(some 104), none, .mov (.t 103)⟩, ⟨(some 105), (some (104, true)), .faddr 9 (.t 1)⟩, ⟨(some 106), (some (104, true)), .load false 1 (.t 105)⟩, ⟨(some 107), (some (104, true)), .un .not (.t 106)⟩, ⟨(some 108), (some (104, true)), .mov (.t 107)⟩, ⟨(some 109), (some (108, false)), .faddr 15 (.t 1)⟩, ⟨(some 110), (some (108, false)), .load false 1 (.t 109)⟩, ⟨(some 111), (some (108, false)), .bi (.len 1) [(.t 110)]⟩, ⟨(some 112), (some (108, false)), .bin .eql (.t 111) (.c (.int .i64 0))⟩, ⟨(some 113), (some (104, true)), .pick (.t 108) (.c (.bool true)) (.t 112)⟩, ⟨(some 114), none, .pick (.t 104) (.t 113) (.c (.bool false))⟩, ⟨(some 2), none, .mov (.t 114)⟩])
 .ret) .skip))))))))
 (.seq (.ops [⟨(some 115), none, .faddr 3 (.t 1)⟩, ⟨(some 116), none, .load true 2 (.t 115)⟩, ⟨(some 117), none, .call 91 [(.t 116)]⟩, ⟨(some 2), none, .mov (.t 117)⟩])
 .ret))))⟩
/-- furlong/furlongref12.putBox -/
def v75 : VFun := ⟨1, [(.tmp 2)], (.seq (.ops [⟨(some 1), none, .box 60 (.t 0)⟩, ⟨(some 2), none, .mov (.c (.str []))⟩])
 (.seq (.drawn [⟨(some 3), none, .faddr 0 (.t 1)⟩, ⟨(some 4), none, .load false 1 (.t 3)⟩, ⟨(some 5), none, .call 52 [(.t 4), (.c (.int .i64 4))]⟩, ⟨(some 6), none, .faddr 1 (.t 1)⟩, ⟨(some 7), none, .load false 1 (.t 6)⟩, ⟨(some 8), none, .call 52 [(.t 7), (.c (.int .i64 4))]⟩, ⟨(some 9), none, .bin .add (.t 5) (.t 8)⟩, ⟨(some 10), none, .faddr 2 (.t 1)⟩, ⟨(some 11), none, .load false 1 (.t 10)⟩, ⟨(some 12), none, .call 52 [(.t 11), (.c (.int .i64 4))]⟩, ⟨(some 13), none, .bin .add (.t 9) (.t 12)⟩, ⟨(some 14), none, .faddr 3 (.t 1)⟩, ⟨(some 15), none, .load false 1 (.t 14)⟩, ⟨(some 16), none, .call 52 [(.t 15), (.c (.int .i64 4))]⟩, ⟨(some 17), none, .bin .add (.t 13) (.t 16)⟩, ⟨(some 2), none, .mov (.t 17)⟩] [(4, [0]), (8, [0, 3]), (12, [0, 3, 6])])
 .ret))⟩
def b76_0 : VCode := (.seq (.seq (.ops [⟨(some 34), none, .mov (.t 5)⟩, ⟨(some 35), none, .faddr 2 (.t 1)⟩, ⟨(some 36), none, .load false 1 (.t 35)⟩, ⟨(some 37), none, .mov (.t 4)⟩, ⟨(some 38), none, .iaddr 1 none (.t 36) (.t 37)⟩, ⟨(some 39), none, .load false 1 (.t 38)⟩, ⟨(some 40), none, .bi (.len 1) [(.t 39)]⟩, ⟨(some 41), none, .bin .lss (.t 34) (.t 40)⟩])
 (.cond (.t 41) .skip (.exit 2)))
 (.seq (.block 3 (.drawn [⟨(some 44), none, .mov (.t 3)⟩, ⟨(some 45), none, .faddr 2 (.t 1)⟩, ⟨(some 46), none, .load false 1 (.t 45)⟩, ⟨(some 47), none, .mov (.t 4)⟩, ⟨(some 48), none, .iaddr 1 none (.t 46) (.t 47)⟩, ⟨(some 49), none, .load false 1 (.t 48)⟩, ⟨(some 50), none, .mov (.t 5)⟩, ⟨(some 51), none, .iaddr 2 none (.t 49) (.t 50)⟩, ⟨(some 52), none, .faddr 0 (.t 51)⟩, ⟨(some 53), none, .load false 1 (.t 52)⟩, ⟨(some 54), none, .call 52 [(.t 53), (.c (.int .i64 4))]⟩, ⟨(some 55), none, .bin .add (.t 44) (.t 54)⟩, ⟨(some 56), none, .faddr 2 (.t 1)⟩, ⟨(some 57), none, .load false 1 (.t 56)⟩, ⟨(some 58), none, .mov (.t 4)⟩, ⟨(some 59), none, .iaddr 1 none (.t 57) (.t 58)⟩, ⟨(some 60), none, .load false 1 (.t 59)⟩, ⟨(some 61), none, .mov (.t 5)⟩, ⟨(some 62), none, .iaddr 2 none (.t 60) (.t 61)⟩, ⟨(some 63), none, .faddr 1 (.t 62)⟩, ⟨(some 64), none, .load false 1 (.t 63)⟩, ⟨(some 65), none, .call 52 [(.t 64), (.c (.int .i64 4))]⟩, ⟨(some 66), none, .bin .add (.t 55) (.t 65)⟩, ⟨(some 3), none, .mov (.t 66)⟩] [(13, [0]), (16, [0]), (20, [0])]))
 (.ops [⟨(some 42), none, .mov (.t 5)⟩, ⟨(some 43), none, .bin .add (.t 42) (.c (.int .i64 1))⟩, ⟨(some 5), none, .mov (.t 43)⟩])))
def b76_1 : VCode := (.seq (.seq (.ops [⟨(some 18), none, .mov (.t 4)⟩, ⟨(some 19), none, .faddr 2 (.t 1)⟩, ⟨(some 20), none, .load false 1 (.t 19)⟩, ⟨(some 21), none, .bi (.len 1) [(.t 20)]⟩, ⟨(some 22), none, .bin .lss (.t 18) (.t 21)⟩])
 (.cond (.t 22) .skip (.exit 0)))
 (.seq (.block 1 (.seq (.ops [⟨(some 25), none, .mov (.t 3)⟩, ⟨(some 26), none, .faddr 2 (.t 1)⟩, ⟨(some 27), none, .load false 1 (.t 26)⟩, ⟨(some 28), none, .mov (.t 4)⟩, ⟨(some 29), none, .iaddr 1 none (.t 27) (.t 28)⟩, ⟨(some 30), none, .load false 1 (.t 29)⟩, ⟨(some 31), none, .bi (.len 1) [(.t 30)]⟩, ⟨(some 32), none, .call 52 [(.t 31), (.c (.int .i64 1))]⟩, ⟨(some 33), none, .bin .add (.t 25) (.t 32)⟩, ⟨(some 3), none, .mov (.t 33)⟩])
 (.seq (.ops [⟨(some 5), none, .mov (.c (.int .i64 0))⟩])
 (.block 2 (.loop b76_0)))))
 (.ops [⟨(some 23), none, .mov (.t 4)⟩, ⟨(some 24), none, .bin .add (.t 23) (.c (.int .i64 1))⟩, ⟨(some 4), none, .mov (.t 24)⟩])))
/-- furlong/furlongref8.PutFeature -/
def v76 : VFun := ⟨1, [(.tmp 2)], (.seq (.ops [⟨(some 1), none, .box 52 (.t 0)⟩, ⟨(some 2), none, .mov (.c (.str []))⟩])
 (.seq (.drawn [⟨(some 6), none, .faddr 0 (.t 1)⟩, ⟨(some 7), none, .load false 1 (.t 6)⟩, ⟨(some 8), none, .call 52 [(.t 7), (.c (.int .i64 2))]⟩, ⟨(some 9), none, .faddr 1 (.t 1)⟩, ⟨(some 10), none, .load false 1 (.t 9)⟩, ⟨(some 11), none, .call 52 [(.t 10), (.c (.int .i64 1))]⟩, ⟨(some 12), none, .bin .add (.t 8) (.t 11)⟩, ⟨(some 13), none, .faddr 2 (.t 1)⟩, ⟨(some 14), none, .load false 1 (.t 13)⟩, ⟨(some 15), none, .bi (.len 1) [(.t 14)]⟩, ⟨(some 16), none, .call 52 [(.t 15), (.c (.int .i64 1))]⟩, ⟨(some 17), none, .bin .add (.t 12) (.t 16)⟩, ⟨(some 3), none, .mov (.t 17)⟩] [(4, [0]), (8, [0, 3]), (9, [0, 3])])
 (.seq (.seq (.ops [⟨(some 4), none, .mov (.c (.int .i64 0))⟩])
 (.block 0 (.loop b76_1)))
 (.seq (.ops [⟨(some 67), none, .mov (.t 3)⟩, ⟨(some 2), none, .mov (.t 67)⟩])
 .ret))))⟩
/-- furlong/msg.rowOf -/
def v77 : VFun := ⟨1, [(.cell 2 true 5), (.tmp 3)], (.seq (.ops [⟨(some 2), none, .alloc [(.bool false), (.bool false), (.bool false), (.bool false), (.bool false)] 132⟩, ⟨(some 3), none, .mov (.c (.bool false))⟩])
 (.seq (.seq (.ops [⟨(some 4), none, .mov (.t 0)⟩])
 (.block 0 (.seq (.ops [⟨(some 6), none, .bin .eql (.t 4) (.c (.int .i64 0))⟩, ⟨(some 5), none, .mov (.t 6)⟩])
 (.cond (.t 5) (.seq (.ops [⟨(some 7), none, .build [(.bool false), (.bool false), (.bool false), (.bool false), (.bool false)] [(0, 1, (.c (.bool true))), (1, 1, (.c (.bool true)))]⟩, ⟨none, none, .store 5 (.t 2) (.t 7)⟩, ⟨(some 3), none, .mov (.c (.bool true))⟩])
 .ret) (.seq (.seq (.ops [⟨(some 9), none, .bin .eql (.t 4) (.c (.int .i64 1))⟩, ⟨(some 8), none, .mov (.t 9)⟩])
 (.cond (.t 8) .skip (.ops [⟨(some 10), none, .bin .eql (.t 4) (.c (.int .i64 2))⟩, ⟨(some 8), none, .mov (.t 10)⟩])))
 (.cond (.t 8) (.seq (.ops [⟨(some 11), none, .build [(.bool false), (.bool false), (.bool false), (.bool false), (.bool false)] [(0, 1, (.c (.bool true))), (2, 1, (.c (.bool true)))]⟩, ⟨none, none, .store 5 (.t 2) (.t 11)⟩, ⟨(some 3), none, .mov (.c (.bool true))⟩])
 .ret) (.seq (.seq (.ops [⟨(some 13), none, .bin .eql (.t 4) (.c (.int .i64 3))⟩, ⟨(some 12), none, .mov (.t 13)⟩])
 (.cond (.t 12) .skip (.ops [⟨(some 14), none, .bin .eql (.t 4) (.c (.int .i64 4))⟩, ⟨(some 12), none, .mov (.t 14)⟩])))
 (.cond (.t 12) (.seq (.ops [⟨(some 15), none, .build [(.bool false), (.bool false), (.bool false), (.bool false), (.bool false)] [(0, 1, (.c (.bool true)))]⟩, ⟨none, none, .store 5 (.t 2) (.t 15)⟩, ⟨(some 3), none, .mov (.c (.bool true))⟩])
 .ret) (.seq (.ops [⟨(some 17), none, .bin .eql (.t 4) (.c (.int .i64 5))⟩, ⟨(some 16), none, .mov (.t 17)⟩])
 (.cond (.t 16) (.seq (.ops [⟨(some 18), none, .build [(.bool false), (.bool false), (.bool false), (.bool false), (.bool false)] [(3, 1, (.c (.bool true)))]⟩, ⟨none, none, .store 5 (.t 2) (.t 18)⟩, ⟨(some 3), none, .mov (.c (.bool true))⟩])
 .ret) (.seq (.ops [⟨(some 20), none, .bin .eql (.t 4) (.c (.int .i64 6))⟩, ⟨(some 19), none, .mov (.t 20)⟩])
 (.cond (.t 19) (.seq (.ops [⟨(some 21), none, .build [(.bool false), (.bool false), (.bool false), (.bool false), (.bool false)] [(3, 1, (.c (.bool true))), (4, 1, (.c (.bool true)))]⟩, ⟨none, none, .store 5 (.t 2) (.t 21)⟩, ⟨(some 3), none, .mov (.c (.bool true))⟩])
 .ret) .skip))))))))))))
 (.seq (.ops [⟨(some 22), none, .build [(.bool false), (.bool false), (.bool false), (.bool false), (.bool false)] []⟩, ⟨none, none, .store 5 (.t 2) (.t 22)⟩, ⟨(some 3), none, .mov (.c (.bool false))⟩])
 .ret)))⟩
def b81_0 : VCode := (.seq (.seq (.ops [⟨(some 11), none, .mov (.t 5)⟩, ⟨(some 12), none, .mov (.t 0)⟩, ⟨(some 13), none, .bi (.len 1) [(.t 12)]⟩, ⟨(some 14), none, .bin .lss (.t 11) (.t 13)⟩])
 (.cond (.t 14) .skip (.exit 0)))
 (.seq (.block 1 (.seq (.drawn [⟨(some 17), none, .mov (.t 0)⟩, ⟨(some 18), none, .mov (.t 5)⟩, ⟨(some 19), none, .iaddr 3 none (.t 17) (.t 18)⟩, ⟨(some 20), none, .load true 3 (.t 19)⟩, ⟨(some 21), none, .mov (.t 1)⟩, ⟨(some 22), none, .mov (.t 5)⟩, ⟨(some 23), none, .iaddr 3 none (.t 21) (.t 22)⟩, ⟨(some 24), none, .load true 3 (.t 23)⟩, ⟨(some 25), none, .call 97 [(.t 20), (.t 24)]⟩, ⟨(some 26), none, .un .not (.t 25)⟩] [])
 (.cond (.t 26) (.seq (.ops [⟨(some 4), none, .mov (.c (.bool false))⟩])
 .ret) .skip)))
 (.ops [⟨(some 15), none, .mov (.t 5)⟩, ⟨(some 16), none, .bin .add (.t 15) (.c (.int .i64 1))⟩, ⟨(some 5), none, .mov (.t 16)⟩])))
/-- furlong/furlonglaw0.SameFeatures -/
def v81 : VFun := ⟨2, [(.tmp 4)], (.seq (.ops [⟨(some 4), none, .mov (.c (.bool false))⟩])
 (.seq (.seq (.ops [⟨(some 6), none, .mov (.t 0)⟩, ⟨(some 7), none, .bi (.len 1) [(.t 6)]⟩, ⟨(some 8), none, .mov (.t 1)⟩, ⟨(some 9), none, .bi (.len 1) [(.t 8)]⟩, ⟨(some 10), none, .bin .neq (.t 7) (.t 9)⟩])
 (.cond (.t 10) (.seq (.ops [⟨(some 4), none, .mov (.c (.bool false))⟩])
 .ret) .skip))
 (.seq (.seq (.ops [⟨(some 5), none, .mov (.c (.int .i64 0))⟩])
 (.block 0 (.loop b81_0)))
 (.seq (.ops [⟨(some 4), none, .mov (.c (.bool true))⟩])
 .ret))))⟩
/-- furlong/msg.Copy -/
def v82 : VFun := ⟨1, [(.cell 2 true 16)], (.seq (.ops [⟨(some 1), none, .box 63 (.t 0)⟩, ⟨(some 2), none, .alloc [(.int .i64 0), (.int .i64 0), (.int .i64 0), (.int .i64 0), (.int .i64 0), (.int .i64 0), (.bool false), (.int .i64 0), (.int .i64 0), (.bool false), (.int .i64 0), (.int .i64 0), (.int .i64 0), (.int .i64 0), .nils, .nils] 63⟩])
 (.seq (.drawn [⟨(some 3), none, .faddr 14 (.t 1)⟩, ⟨(some 4), none, .load false 1 (.t 3)⟩, ⟨(some 5), none, .call 105 [(.t 4)]⟩, ⟨(some 6), none, .faddr 15 (.t 1)⟩, ⟨(some 7), none, .load false 1 (.t 6)⟩, ⟨(some 8), none, .call 106 [(.t 7)]⟩, ⟨(some 9), none, .faddr 14 (.t 1)⟩, ⟨none, none, .store 1 (.t 9) (.t 5)⟩, ⟨(some 10), none, .faddr 15 (.t 1)⟩, ⟨none, none, .store 1 (.t 10) (.t 8)⟩] [(4, [0])])
 (.seq (.ops [⟨(some 11), none, .load true 16 (.t 1)⟩, ⟨none, none, .store 16 (.t 2) (.t 11)⟩])
 .ret)))⟩
/-- slices.Delete[[]furlong/api.Msg,furlong/api.Msg] -/
def v83 : VFun := ⟨3, [(.tmp 6)], (.seq (.ops [⟨(some 6), none, .mov (.c .nils)⟩])
 (.seq (.ops [⟨(some 8), none, .mov (.t 0)⟩, ⟨(some 9), none, .mov (.t 1)⟩, ⟨(some 10), none, .mov (.t 2)⟩, ⟨(some 11), none, .mov (.t 0)⟩, ⟨(some 12), none, .bi (.len 1) [(.t 11)]⟩, ⟨(some 13), none, .slice 16 (.t 8) (some (.t 9)) (some (.t 10)) (some (.t 12))⟩])
 (.seq (.seq (.ops [⟨(some 14), none, .mov (.t 1)⟩, ⟨(some 15), none, .mov (.t 2)⟩, ⟨(some 16), none, .bin .eql (.t 14) (.t 15)⟩])
 (.cond (.t 16) (.seq (.ops [⟨(some 17), none, .mov (.t 0)⟩, ⟨(some 6), none, .mov (.t 17)⟩])
 .ret) .skip))
 (.seq (.ops [⟨(some 18), none, .mov (.t 0)⟩, ⟨(some 19), none, .bi (.len 1) [(.t 18)]⟩, ⟨(some 7), none, .mov (.t 19)⟩])
 (.seq (.drawn [⟨(some 20), none, .mov (.t 0)⟩, ⟨(some 21), none, .mov (.t 1)⟩, ⟨(some 22), none, .slice 16 (.t 20) none (some (.t 21)) none⟩, ⟨(some 23), none, .mov (.t 0)⟩, ⟨(some 24), none, .mov (.t 2)⟩, ⟨(some 25), none, .slice 16 (.t 23) (some (.t 24)) none none⟩, ⟨(some 26), none, .bi (.append 16 160 63) [(.t 22), (.t 25)]⟩, ⟨(some 0), none, .mov (.t 26)⟩] [])
 (.seq (.ops [⟨(some 27), none, .mov (.t 0)⟩, ⟨(some 28), none, .mov (.t 0)⟩, ⟨(some 29), none, .bi (.len 1) [(.t 28)]⟩, ⟨(some 30), none, .mov (.t 7)⟩, ⟨(some 31), none, .slice 16 (.t 27) (some (.t 29)) (some (.t 30)) none⟩, ⟨none, none, .bi (.clearS [(.int .i64 0), (.int .i64 0), (.int .i64 0), (.int .i64 0), (.int .i64 0), (.int .i64 0), (.bool false), (.int .i64 0), (.int .i64 0), (.bool false), (.int .i64 0), (.int .i64 0), (.int .i64 0), (.int .i64 0), .nils, .nils]) [(.t 31)]⟩])
 (.seq (.ops [⟨(some 32), none, .mov (.t 0)⟩, ⟨(some 6), none, .mov (.t 32)⟩])
 .ret)))))))⟩
/-- furlong/rec.NameMay -/
def v84 : VFun := ⟨1, [(.tmp 2)], (.seq (.ops [⟨(some 1), none, .box 23 (.t 0)⟩, ⟨(some 2), none, .mov (.c (.bool false))⟩])
 (.seq (.ops [⟨(some 3), none, .faddr 0 (.t 1)⟩, ⟨(some 4), none, .load false 1 (.t 3)⟩, ⟨(some 5), none, .bin .geq (.t 4) (.c (.int .i64 0))⟩, ⟨(some 6), none, .mov (.t 5)⟩, ⟨(some 7), (some (6, true)), .faddr 0 (.t 1)⟩, ⟨(some 8), (some (6, true)), .load false 1 (.t 7)⟩, ⟨(some 9), (some (6, true)), .bin .lss (.t 8) (.c (.int .i64 8))⟩, ⟨(some 10), none, .pick (.t 6) (.t 9) (.c (.bool false))⟩, ⟨(some 11), none, .mov (.t 10)⟩, ⟨(some 12), (some (11, true)), .faddr 1 (.t 1)⟩, ⟨(some 13), (some (11, true)), .load false 1 (.t 12)⟩, ⟨(some 14), (some (11, true)), .bin .geq (.t 13) (.c (.int .i64 1))⟩, ⟨(some 15), none, .pick (.t 11) (.t 14) (.c (.bool false))⟩, ⟨(some 16), none, .mov (.t 15)⟩, ⟨(some 17), (some (16, true)), .faddr 1 (.t 1)⟩, ⟨(some 18), (some (16, true)), .load false 1 (.t 17)⟩, ⟨(some 19), (some (16, true)), .bin .leq (.t 18) (.c (.int .i64 65535))⟩, ⟨(some 20), none, .pick (.t 16) (.t 19) (.c (.bool false))⟩, ⟨(some 2), none, .mov (.t 20)⟩])
 .ret))⟩
def b85_0 : VCode := (.seq (.ops [⟨(some 55), none, .bin .lss (.t 54) (.t 53)⟩])
 (.seq (.cond (.t 55) .skip (.exit 0))
 (.seq (.block 1 (.seq (.ops [⟨(some 56), none, .mov (.t 54)⟩, ⟨(some 57), none, .iaddr 1 none (.t 52) (.t 54)⟩, ⟨(some 58), none, .load false 1 (.t 57)⟩, ⟨(some 5), none, .mov (.t 56)⟩, ⟨(some 6), none, .mov (.t 58)⟩])
 (.seq (.ops [⟨(some 59), none, .mov (.t 6)⟩, ⟨(some 60), none, .bin .geq (.t 59) (.c (.int .i64 4294967296))⟩, ⟨(some 61), none, .mov (.t 60)⟩, ⟨(some 62), (some (61, false)), .mov (.t 5)⟩, ⟨(some 63), (some (61, false)), .bin .gtr (.t 62) (.c (.int .i64 0))⟩, ⟨(some 64), (some (61, false)), .mov (.t 63)⟩, ⟨(some 65), (some (64, true)), .mov (.t 6)⟩, ⟨(some 66), (some (64, true)), .faddr 1 (.t 2)⟩, ⟨(some 67), (some (64, true)), .load false 1 (.t 66)⟩, ⟨(some 68), (some (64, true)), .mov (.t 5)⟩, ⟨(some 69), (some (64, true)), .bin .sub (.t 68) (.c (.int .i64 1))⟩, ⟨(some 70), (some (64, true)), .iaddr 1 none (.t 67) (.t 69)⟩, ⟨(some 71), (some (64, true)), .load false 1 (.t 70)⟩, ⟨(some 72), (some (64, true)), .bin .leq (.t 65) (.t 71)⟩, ⟨(some 73), (some (61, false)), .pick (.t 64) (.t 72) (.c (.bool false))⟩, ⟨(some 74), none, .pick (.t 61) (.c (.bool true)) (.t 73)⟩, ⟨(some 75), none, .mov (.t 74)⟩, ⟨(some 76), (some (75, false)), .faddr 2 (.t 2)⟩, ⟨(some 77), (some (75, false)), .load false 1 (.t 76)⟩, ⟨(some 78), (some (75, false)), .mov (.t 5)⟩, ⟨(some 79), (some (75, false)), .iaddr 1 none (.t 77) (.t 78)⟩, ⟨(some 80), (some (75, false)), .load false 1 (.t 79)⟩, ⟨(some 81), (some (75, false)), .bin .lss (.t 80) (.c (.int .i64 0))⟩, ⟨(some 82), none, .pick (.t 75) (.c (.bool true)) (.t 81)⟩, ⟨(some 83), none, .mov (.t 82)⟩, ⟨(some 84), (some (83, false)), .faddr 2 (.t 2)⟩, ⟨(some 85), (some (83, false)), .load false 1 (.t 84)⟩, ⟨(some 86), (some (83, false)), .mov (.t 5)⟩, ⟨(some 87), (some (83, false)), .iaddr 1 none (.t 85) (.t 86)⟩, ⟨(some 88), (some (83, false)), .load false 1 (.t 87)⟩, ⟨(some 89), (some (83, false)), .mov (.t 1)⟩, ⟨(some 90), (some (83, false)), .bin .geq (.t 88) (.t 89)⟩, ⟨(some 91), none, .pick (.t 83) (.c (.bool true)) (.t 90)⟩])
 (.cond (.t 91) (.seq (.ops [⟨(some 4), none, .mov (.c (.bool false))⟩])
 .ret) .skip))))
 (.ops [⟨(some 92), none, .bin .add (.t 54) (.c (.int .i64 1))⟩, ⟨(some 54), none, .mov (.t 92)⟩]))))
/-- furlong/smap.May -/
def v85 : VFun := ⟨2, [(.tmp 4)], (.seq (.ops [⟨(some 2), none, .box 26 (.t 0)⟩, ⟨(some 4), none, .mov (.c (.bool false))⟩])
 (.seq (.seq (.ops [⟨(some 7), none, .mov (.t 1)⟩, ⟨(some 8), none, .bin .lss (.t 7) (.c (.int .i64 1))⟩, ⟨(some 9), none, .mov (.t 8)⟩, ⟨(some 10), (some (9, false)), .mov (.t 1)⟩, ⟨(some 11), (some (9, false)), .bin .gtr (.t 10) (.c (.int .i64 8))⟩, ⟨(some 12), none, .pick (.t 9) (.c (.bool true)) (.t 11)⟩, ⟨(some 13), none, .mov (.t 12)⟩, ⟨(some 14), (some (13, false)), .faddr 0 (.t 2)⟩, ⟨(some 15), (some (13, false)), .load false 1 (.t 14)⟩, ⟨(some 16), (some (13, false)), .bin .lss (.t 15) (.c (.int .i64 1))⟩, ⟨(some 17), none, .pick (.t 13) (.c (.bool true)) (.t 16)⟩, ⟨(some 18), none, .mov (.t 17)⟩, ⟨(some 19), (some (18, false)), .faddr 0 (.t 2)⟩, ⟨(some 20), (some (18, false)), .load false 1 (.t 19)⟩, ⟨(some 21), (some (18, false)), .bin .gtr (.t 20) (.c (.int .i64 65535))⟩, ⟨(some 22), none, .pick (.t 18) (.c (.bool true)) (.t 21)⟩, ⟨(some 23), none, .mov (.t 22)⟩, ⟨(some 24), (some (23, false)), .faddr 1 (.t 2)⟩, ⟨(some 25), (some (23, false)), .load false 1 (.t 24)⟩, ⟨(some 26), (some (23, false)), .bi (.len 1) [(.t 25)]⟩, ⟨(some 27), (some (23, false)), .bin .lss (.t 26) (.c (.int .i64 1))⟩, ⟨(some 28), none, .pick (.t 23) (.c (.bool true)) (.t 27)⟩, ⟨(some 29), none, .mov (.t 28)⟩, ⟨(some 30), (some (29, false)), .faddr 1 (.t 2)⟩, ⟨(some 31), (some (29, false)), .load false 1 (.t 30)⟩, ⟨(some 32), (some (29, false)), .bi (.len 1) [(.t 31)]⟩, ⟨(some 33), (some (29, false)), .bin .gtr (.t 32) (.c (.int .i64 32))⟩, ⟨(some 34), none, .pick (.t 29) (.c (.bool true)) (.t 33)⟩, ⟨(some 35), none, .mov (.t 34)⟩, ⟨(some 36), (some (35, false)), .faddr 2 (.t 2)⟩, ⟨(some 37), (some (35, false)), .load false 1 (.t 36)⟩, ⟨(some 38), (some (35, false)), .bi (.len 1) [(.t 37)]⟩, ⟨(some 39), (some (35, false)), .faddr 1 (.t 2)⟩, ⟨(some 40), (some (35, false)), .load false 1 (.t 39)⟩, ⟨(some 41), (some (35, false)), .bi (.len 1) [(.t 40)]⟩, ⟨(some 42), (some (35, false)), .bin .neq (.t 38) (.t 41)⟩, ⟨(some 43), none, .pick (.t 35) (.c (.bool true)) (.t 42)⟩, ⟨(some 44), none, .mov (.t 43)⟩, ⟨(some 45), (some (44, false)), .faddr 1 (.t 2)⟩, ⟨(some 46), (some (44, false)), .load false 1 (.t 45)⟩, ⟨(some 47), (some (44, false)), .iaddr 1 none (.t 46) (.c (.int .i64 0))⟩, ⟨(some 48), (some (44, false)), .load false 1 (.t 47)⟩, ⟨(some 49), (some (44, false)), .bin .neq (.t 48) (.c (.int .i64 0))⟩, ⟨(some 50), none, .pick (.t 44) (.c (.bool true)) (.t 49)⟩])
 (.cond (.t 50) (.seq (.ops [⟨(some 4), none, .mov (.c (.bool false))⟩])
 .ret) .skip))
 (.seq (.seq (.ops [⟨(some 51), none, .faddr 1 (.t 2)⟩, ⟨(some 52), none, .load false 1 (.t 51)⟩, ⟨(some 53), none, .bi (.len 1) [(.t 52)]⟩, ⟨(some 54), none, .mov (.c (.int .i64 0))⟩])
 (.block 0 (.loop b85_0)))
 (.seq (.ops [⟨(some 4), none, .mov (.c (.bool true))⟩])
 .ret))))⟩
/-- furlong/rec.BaseMay -/
def v86 : VFun := ⟨1, [(.tmp 2)], (.seq (.ops [⟨(some 2), none, .mov (.c (.bool false))⟩])
 (.seq (.ops [⟨(some 3), none, .mov (.t 0)⟩, ⟨(some 4), none, .bin .geq (.t 3) (.c (.int .i64 (-1)))⟩, ⟨(some 5), none, .mov (.t 4)⟩, ⟨(some 6), (some (5, true)), .mov (.t 0)⟩, ⟨(some 7), (some (5, true)), .bin .leq (.t 6) (.c (.int .i64 65535))⟩, ⟨(some 8), none, .pick (.t 5) (.t 7) (.c (.bool false))⟩, ⟨(some 2), none, .mov (.t 8)⟩])
 .ret))⟩
def b87_0 : VCode := (.seq (.ops [⟨(some 21), none, .bin .lss (.t 20) (.t 19)⟩])
 (.seq (.cond (.t 21) .skip (.exit 0))
 (.seq (.block 1 (.seq (.ops [⟨(some 22), none, .mov (.t 20)⟩, ⟨(some 6), none, .mov (.t 22)⟩])
 (.seq (.ops [⟨(some 23), none, .mov (.t 0)⟩, ⟨(some 24), none, .mov (.t 6)⟩, ⟨(some 25), none, .iaddr 8 none (.t 23) (.t 24)⟩, ⟨(some 7), none, .mov (.t 25)⟩])
 (.seq (.seq (.ops [⟨(some 26), none, .mov (.t 7)⟩, ⟨(some 27), none, .mov (.t 1)⟩, ⟨(some 28), none, .call 107 [(.t 26), (.t 27)]⟩, ⟨(some 29), none, .un .not (.t 28)⟩, ⟨(some 30), none, .mov (.t 29)⟩, ⟨(some 31), (some (30, false)), .mov (.t 7)⟩, ⟨(some 32), (some (30, false)), .nilck (.t 31)⟩, ⟨(some 33), (some (30, false)), .faddr 0 (.t 32)⟩, ⟨(some 34), (some (30, false)), .load false 1 (.t 33)⟩, ⟨(some 35), (some (30, false)), .bin .eql (.t 34) (.c (.int .i64 2))⟩, ⟨(some 36), (some (30, false)), .mov (.t 35)⟩, ⟨(some 37), (some (36, true)), .mov (.t 6)⟩, ⟨(some 38), (some (36, true)), .bin .gtr (.t 37) (.c (.int .i64 0))⟩, ⟨(some 39), (some (30, false)), .pick (.t 36) (.t 38) (.c (.bool false))⟩, ⟨(some 40), none, .pick (.t 30) (.c (.bool true)) (.t 39)⟩])
 (.cond (.t 40) (.seq (.ops [⟨(some 4), none, .mov (.c (.bool false))⟩])
 .ret) .skip))
 (.seq (.ops [⟨(some 41), none, .mov (.t 7)⟩, ⟨(some 42), none, .call 108 [(.t 41)]⟩, ⟨(some 8), none, .mov (.t 42)⟩])
 (.seq (.ops [⟨(some 43), none, .mov (.t 8)⟩, ⟨(some 44), none, .bin .gtr (.t 43) (.c (.int .i64 0))⟩])
 (.cond (.t 44) (.seq (.seq (.ops [⟨(some 45), none, .mov (.t 5)⟩, ⟨(some 46), none, .mov (.t 8)⟩, ⟨(some 47), none, .lookup .int (.bool false) false (.t 45) (.t 46)⟩])
 (.cond (.t 47) (.seq (.ops [⟨(some 4), none, .mov (.c (.bool false))⟩])
 .ret) .skip))
 (.ops [⟨(some 48), none, .mov (.t 5)⟩, ⟨(some 49), none, .mov (.t 8)⟩, ⟨none, none, .mupd .int (.t 48) (.t 49) (.c (.bool true))⟩])) .skip)))))))
 (.ops [⟨(some 50), none, .bin .add (.t 20) (.c (.int .i64 1))⟩, ⟨(some 20), none, .mov (.t 50)⟩]))))
/-- furlong/rec.OpsMay -/
def v87 : VFun := ⟨2, [(.tmp 4)], (.seq (.ops [⟨(some 4), none, .mov (.c (.bool false))⟩])
 (.seq (.seq (.ops [⟨(some 9), none, .mov (.t 0)⟩, ⟨(some 10), none, .bi (.len 1) [(.t 9)]⟩, ⟨(some 11), none, .bin .lss (.t 10) (.c (.int .i64 1))⟩, ⟨(some 12), none, .mov (.t 11)⟩, ⟨(some 13), (some (12, false)), .mov (.t 0)⟩, ⟨(some 14), (some (12, false)), .bi (.len 1) [(.t 13)]⟩, ⟨(some 15), (some (12, false)), .bin .gtr (.t 14) (.c (.int .i64 32))⟩, ⟨(some 16), none, .pick (.t 12) (.c (.bool true)) (.t 15)⟩])
 (.cond (.t 16) (.seq (.ops [⟨(some 4), none, .mov (.c (.bool false))⟩])
 .ret) .skip))
 (.seq (.ops [⟨(some 17), none, .mkmap⟩, ⟨(some 5), none, .mov (.t 17)⟩])
 (.seq (.seq (.ops [⟨(some 18), none, .mov (.t 0)⟩, ⟨(some 19), none, .bi (.len 1) [(.t 18)]⟩, ⟨(some 20), none, .mov (.c (.int .i64 0))⟩])
 (.block 0 (.loop b87_0)))
 (.seq (.ops [⟨(some 4), none, .mov (.c (.bool true))⟩])
 .ret)))))⟩
/-- furlong/rec.noMap -/
def v88 : VFun := ⟨1, [(.tmp 2)], (.seq (.ops [⟨(some 2), none, .mov (.c (.bool false))⟩])
 (.seq (.ops [⟨(some 3), none, .mov (.t 0)⟩, ⟨(some 4), none, .nilck (.t 3)⟩, ⟨(some 5), none, .faddr 0 (.t 4)⟩, ⟨(some 6), none, .load false 1 (.t 5)⟩, ⟨(some 7), none, .bin .eql (.t 6) (.c (.int .i64 0))⟩, ⟨(some 8), none, .mov (.t 7)⟩, ⟨(some 9), (some (8, true)), .mov (.t 0)⟩, ⟨(some 10), (some (8, true)), .nilck (.t 9)⟩, ⟨(some 11), (some (8, true)), .faddr 1 (.t 10)⟩, ⟨(some 12), (some (8, true)), .load false 1 (.t 11)⟩, ⟨(some 13), (some (8, true)), .bi (.len 1) [(.t 12)]⟩, ⟨(some 14), (some (8, true)), .bin .eql (.t 13) (.c (.int .i64 0))⟩, ⟨(some 15), none, .pick (.t 8) (.t 14) (.c (.bool false))⟩, ⟨(some 16), none, .mov (.t 15)⟩, ⟨(some 17), (some (16, true)), .mov (.t 0)⟩, ⟨(some 18), (some (16, true)), .nilck (.t 17)⟩, ⟨(some 19), (some (16, true)), .faddr 2 (.t 18)⟩, ⟨(some 20), (some (16, true)), .load false 1 (.t 19)⟩, ⟨(some 21), (some (16, true)), .bi (.len 1) [(.t 20)]⟩, ⟨(some 22), (some (16, true)), .bin .eql (.t 21) (.c (.int .i64 0))⟩, ⟨(some 23), none, .pick (.t 16) (.t 22) (.c (.bool false))⟩, ⟨(some 2), none, .mov (.t 23)⟩])
 .ret))⟩
def b89_0 : VCode := (.seq (.ops [⟨(some 12), none, .bin .lss (.t 11) (.t 10)⟩])
 (.seq (.cond (.t 12) .skip (.exit 0))
 (.seq (.block 1 (.seq (.ops [⟨(some 13), none, .mov (.t 11)⟩, ⟨(some 6), none, .mov (.t 13)⟩])
 (.ops [⟨(some 14), none, .mov (.t 5)⟩, ⟨(some 15), none, .mov (.t 6)⟩, ⟨(some 16), none, .mov (.t 0)⟩, ⟨(some 17), none, .mov (.t 1)⟩, ⟨(some 18), none, .bin .sub (.t 17) (.c (.int .i64 1))⟩, ⟨(some 19), none, .mov (.t 6)⟩, ⟨(some 20), none, .bin .sub (.t 18) (.t 19)⟩, ⟨(some 21), none, .bin .mul (.c (.int .i64 8)) (.t 20)⟩, ⟨(some 22), none, .bin .shr (.t 16) (.t 21)⟩, ⟨(some 23), none, .conv (.int .u8) (.t 22)⟩, ⟨(some 24), none, .iaddr 1 none (.t 14) (.t 15)⟩, ⟨none, none, .store 1 (.t 24) (.t 23)⟩])))
 (.ops [⟨(some 25), none, .bin .add (.t 11) (.c (.int .i64 1))⟩, ⟨(some 11), none, .mov (.t 25)⟩]))))
/-- furlong/frame.Num -/
def v89 : VFun := ⟨2, [(.tmp 4)], (.seq (.ops [⟨(some 4), none, .mov (.c (.str []))⟩])
 (.seq (.ops [⟨(some 7), none, .mov (.t 1)⟩, ⟨(some 8), none, .mkslice [(.int .u8 0)] 5 1 (.t 7) (.t 7)⟩, ⟨(some 5), none, .mov (.t 8)⟩])
 (.seq (.seq (.ops [⟨(some 9), none, .mov (.t 5)⟩, ⟨(some 10), none, .bi (.len 1) [(.t 9)]⟩, ⟨(some 11), none, .mov (.c (.int .i64 0))⟩])
 (.block 0 (.loop b89_0)))
 (.seq (.ops [⟨(some 26), none, .mov (.t 5)⟩, ⟨(some 27), none, .conv .text (.t 26)⟩, ⟨(some 4), none, .mov (.t 27)⟩])
 .ret))))⟩
def b90_0 : VCode := (.seq (.seq (.ops [⟨(some 50), none, .mov (.t 5)⟩, ⟨(some 51), none, .faddr 1 (.t 2)⟩, ⟨(some 52), none, .load false 1 (.t 51)⟩, ⟨(some 53), none, .bi (.len 1) [(.t 52)]⟩, ⟨(some 54), none, .bin .lss (.t 50) (.t 53)⟩])
 (.cond (.t 54) .skip (.exit 0)))
 (.seq (.block 1 (.seq (.drawn [⟨(some 57), none, .faddr 1 (.t 2)⟩, ⟨(some 58), none, .load false 1 (.t 57)⟩, ⟨(some 59), none, .mov (.t 5)⟩, ⟨(some 60), none, .iaddr 1 none (.t 58) (.t 59)⟩, ⟨(some 61), none, .load false 1 (.t 60)⟩, ⟨(some 62), none, .bin .geq (.t 61) (.c (.int .i64 4294967296))⟩, ⟨(some 63), none, .mov (.t 62)⟩, ⟨(some 64), (some (63, false)), .faddr 2 (.t 2)⟩, ⟨(some 65), (some (63, false)), .load false 1 (.t 64)⟩, ⟨(some 66), (some (63, false)), .mov (.t 5)⟩, ⟨(some 67), (some (63, false)), .iaddr 1 none (.t 65) (.t 66)⟩, ⟨(some 68), (some (63, false)), .load false 1 (.t 67)⟩, ⟨(some 69), (some (63, false)), .bin .lss (.t 68) (.c (.int .i64 0))⟩, ⟨(some 70), none, .pick (.t 63) (.c (.bool true)) (.t 69)⟩, ⟨(some 71), none, .mov (.t 70)⟩, ⟨(some 72), (some (71, false)), .faddr 2 (.t 2)⟩, ⟨(some 73), (some (71, false)), .load false 1 (.t 72)⟩, ⟨(some 74), (some (71, false)), .mov (.t 5)⟩, ⟨(some 75), (some (71, false)), .iaddr 1 none (.t 73) (.t 74)⟩, ⟨(some 76), (some (71, false)), .load false 1 (.t 75)⟩, ⟨(some 77), (some (71, false)), .mov (.t 1)⟩, ⟨(some 78), (some (71, false)), .bin .geq (.t 76) (.t 77)⟩, ⟨(some 79), none, .pick (.t 71) (.c (.bool true)) (.t 78)⟩, ⟨(some 80), none, .mov (.t 79)⟩, ⟨(some 81), (some (80, false)), .mov (.t 5)⟩, ⟨(some 82), (some (80, false)), .bin .gtr (.t 81) (.c (.int .i64 0))⟩, ⟨(some 83), (some (80, false)), .mov (.t 82)⟩, ⟨(some 84), (some (83, true)), .faddr 1 (.t 2)⟩, ⟨(some 85), (some (83, true)), .load false 1 (.t 84)⟩, ⟨(some 86), (some (83, true)), .mov (.t 5)⟩, ⟨(some 87), (some (83, true)), .bin .sub (.t 86) (.c (.int .i64 1))⟩, ⟨(some 88), (some (83, true)), .iaddr 1 none (.t 85) (.t 87)⟩, ⟨(some 89), (some (83, true)), .load false 1 (.t 88)⟩, ⟨(some 90), (some (83, true)), .faddr 1 (.t 2)⟩, ⟨(some 91), (some (83, true)), .load false 1 (.t 90)⟩, ⟨(some 92), (some (83, true)), .mov (.t 5)⟩, ⟨(some 93), (some (83, true)), .iaddr 1 none (.t 91) (.t 92)⟩, ⟨(some 94), (some (83, true)), .load false 1 (.t 93)⟩, ⟨(some 95), (some (83, true)), .bin .geq (.t 89) (.t 94)⟩, ⟨(some 96), (some (80, false)), .pick (.t 83) (.t 95) (.c (.bool false))⟩, ⟨(some 97), none, .pick (.t 80) (.c (.bool true)) (.t 96)⟩] [])
 (.cond (.t 97) (.seq (.ops [⟨(some 4), none, .mov (.c (.bool false))⟩])
 .ret) .skip)))
 (.ops [⟨(some 55), none, .mov (.t 5)⟩, ⟨(some 56), none, .bin .add (.t 55) (.c (.int .i64 1))⟩, ⟨(some 5), none, .mov (.t 56)⟩])))
/-- furlong/furlongref1.MapMay -/
def v90 : VFun := ⟨2, [(.tmp 4)], (.seq (.ops [⟨(some 2), none, .box 26 (.t 0)⟩, ⟨(some 4), none, .mov (.c (.bool false))⟩])
 (.seq (.seq (.ops [⟨(some 6), none, .mov (.t 1)⟩, ⟨(some 7), none, .bin .lss (.t 6) (.c (.int .i64 1))⟩, ⟨(some 8), none, .mov (.t 7)⟩, ⟨(some 9), (some (8, false)), .mov (.t 1)⟩, ⟨(some 10), (some (8, false)), .bin .gtr (.t 9) (.c (.int .i64 8))⟩, ⟨(some 11), none, .pick (.t 8) (.c (.bool true)) (.t 10)⟩, ⟨(some 12), none, .mov (.t 11)⟩, ⟨(some 13), (some (12, false)), .faddr 0 (.t 2)⟩, ⟨(some 14), (some (12, false)), .load false 1 (.t 13)⟩, ⟨(some 15), (some (12, false)), .bin .lss (.t 14) (.c (.int .i64 1))⟩, ⟨(some 16), none, .pick (.t 12) (.c (.bool true)) (.t 15)⟩, ⟨(some 17), none, .mov (.t 16)⟩, ⟨(some 18), (some (17, false)), .faddr 0 (.t 2)⟩, ⟨(some 19), (some (17, false)), .load false 1 (.t 18)⟩, ⟨(some 20), (some (17, false)), .bin .gtr (.t 19) (.c (.int .i64 65535))⟩, ⟨(some 21), none, .pick (.t 17) (.c (.bool true)) (.t 20)⟩, ⟨(some 22), none, .mov (.t 21)⟩, ⟨(some 23), (some (22, false)), .faddr 1 (.t 2)⟩, ⟨(some 24), (some (22, false)), .load false 1 (.t 23)⟩, ⟨(some 25), (some (22, false)), .bi (.len 1) [(.t 24)]⟩, ⟨(some 26), (some (22, false)), .bin .lss (.t 25) (.c (.int .i64 1))⟩, ⟨(some 27), none, .pick (.t 22) (.c (.bool true)) (.t 26)⟩, ⟨(some 28), none, .mov (.t 27)⟩, ⟨(some 29), (some (28, false)), .faddr 1 (.t 2)⟩, ⟨(some 30), (some (28, false)), .load false 1 (.t 29)⟩, ⟨(some 31), (some (28, false)), .bi (.len 1) [(.t 30)]⟩, ⟨(some 32), (some (28, false)), .bin .gtr (.t 31) (.c (.int .i64 32))⟩, ⟨(some 33), none, .pick (.t 28) (.c (.bool true)) (.t 32)⟩, ⟨(some 34), none, .mov (.t 33)⟩, ⟨(some 35), (some (34, false)), .faddr 2 (.t 2)⟩, ⟨(some 36), (some (34, false)), .load false 1 (.t 35)⟩, ⟨(some 37), (some (34, false)), .bi (.len 1) [(.t 36)]⟩, ⟨(some 38), (some (34, false)), .faddr 1 (.t 2)⟩, ⟨(some 39), (some (34, false)), .load false 1 (.t 38)⟩, ⟨(some 40), (some (34, false)), .bi (.len 1) [(.t 39)]⟩, ⟨(some 41), (some (34, false)), .bin .neq (.t 37) (.t 40)⟩, ⟨(some 42), none, .pick (.t 34) (.c (.bool true)) (.t 41)⟩, ⟨(some 43), none, .mov (.t 42)⟩, ⟨(some 44), (some (43, false)), .faddr 1 (.t 2)⟩, ⟨(some 45), (some (43, false)), .load false 1 (.t 44)⟩, ⟨(some 46), (some (43, false)), .iaddr 1 none (.t 45) (.c (.int .i64 0))⟩, ⟨(some 47), (some (43, false)), .load false 1 (.t 46)⟩, ⟨(some 48), (some (43, false)), .bin .neq (.t 47) (.c (.int .i64 0))⟩, ⟨(some 49), none, .pick (.t 43) (.c (.bool true)) (.t 48)⟩])
 (.cond (.t 49) (.seq (.ops [⟨(some 4), none, .mov (.c (.bool false))⟩])
 .ret) .skip))
 (.seq (.seq (.ops [⟨(some 5), none, .mov (.c (.int .i64 0))⟩])
 (.block 0 (.loop b90_0)))
 (.seq (.ops [⟨(some 4), none, .mov (.c (.bool true))⟩])
 .ret))))⟩
/-- furlong/furlongref8.TxMay -/
def v91 : VFun := ⟨1, [(.tmp 2)], (.seq (.ops [⟨(some 1), none, .box 23 (.t 0)⟩, ⟨(some 2), none, .mov (.c (.bool false))⟩])
 (.seq (.ops [⟨(some 3), none, .faddr 0 (.t 1)⟩, ⟨(some 4), none, .load false 1 (.t 3)⟩, ⟨(some 5), none, .bin .geq (.t 4) (.c (.int .i64 0))⟩, ⟨(some 6), none, .mov (.t 5)⟩, ⟨(some 7), (some (6, true)), .faddr 0 (.t 1)⟩, ⟨(some 8), (some (6, true)), .load false 1 (.t 7)⟩, ⟨(some 9), (some (6, true)), .bin .lss (.t 8) (.c (.int .i64 8))⟩, ⟨(some 10), none, .pick (.t 6) (.t 9) (.c (.bool false))⟩, ⟨(some 11), none, .mov (.t 10)⟩, ⟨(some 12), (some (11, true)), .faddr 1 (.t 1)⟩, ⟨(some 13), (some (11, true)), .load false 1 (.t 12)⟩, ⟨(some 14), (some (11, true)), .bin .geq (.t 13) (.c (.int .i64 1))⟩, ⟨(some 15), none, .pick (.t 11) (.t 14) (.c (.bool false))⟩, ⟨(some 16), none, .mov (.t 15)⟩, ⟨(some 17), (some (16, true)), .faddr 1 (.t 1)⟩, ⟨(some 18), (some (16, true)), .load false 1 (.t 17)⟩, ⟨(some 19), (some (16, true)), .bin .leq (.t 18) (.c (.int .i64 65535))⟩, ⟨(some 20), none, .pick (.t 16) (.t 19) (.c (.bool false))⟩, ⟨(some 2), none, .mov (.t 20)⟩])
 .ret))⟩
/-- furlong/furlongref8.zeroMap -/
def v92 : VFun := ⟨1, [(.tmp 2)], (.seq (.ops [⟨(some 1), none, .box 26 (.t 0)⟩, ⟨(some 2), none, .mov (.c (.bool false))⟩])
 (.seq (.ops [⟨(some 3), none, .faddr 0 (.t 1)⟩, ⟨(some 4), none, .load false 1 (.t 3)⟩, ⟨(some 5), none, .bin .eql (.t 4) (.c (.int .i64 0))⟩, ⟨(some 6), none, .mov (.t 5)⟩, ⟨(some 7), (some (6, true)), .faddr 1 (.t 1)⟩, ⟨(some 8), (some (6, true)), .load false 1 (.t 7)⟩, ⟨(some 9), (some (6, true)), .bi (.len 1) [(.t 8)]⟩, ⟨(some 10), (some (6, true)), .bin .eql (.t 9) (.c (.int .i64 0))⟩, ⟨(some 11), none, .pick (.t 6) (.t 10) (.c (.bool false))⟩, ⟨(some 12), none, .mov (.t 11)⟩, ⟨(some 13), (some (12, true)), .faddr 2 (.t 1)⟩, ⟨(some 14), (some (12, true)), .load false 1 (.t 13)⟩, ⟨(some 15), (some (12, true)), .bi (.len 1) [(.t 14)]⟩, ⟨(some 16), (some (12, true)), .bin .eql (.t 15) (.c (.int .i64 0))⟩, ⟨(some 17), none, .pick (.t 12) (.t 16) (.c (.bool false))⟩, ⟨(some 2), none, .mov (.t 17)⟩])
 .ret))⟩
/-- furlong/furlongref8.BaseMay -/
def v93 : VFun := ⟨1, [(.tmp 2)], (.seq (.ops [⟨(some 2), none, .mov (.c (.bool false))⟩])
 (.seq (.ops [⟨(some 3), none, .mov (.t 0)⟩, ⟨(some 4), none, .bin .geq (.t 3) (.c (.int .i64 (-1)))⟩, ⟨(some 5), none, .mov (.t 4)⟩, ⟨(some 6), (some (5, true)), .mov (.t 0)⟩, ⟨(some 7), (some (5, true)), .bin .leq (.t 6) (.c (.int .i64 65535))⟩, ⟨(some 8), none, .pick (.t 5) (.t 7) (.c (.bool false))⟩, ⟨(some 2), none, .mov (.t 8)⟩])
 .ret))⟩
def b94_0 : VCode := (.seq (.seq (.ops [⟨(some 37), none, .mov (.t 4)⟩, ⟨(some 38), none, .mov (.t 3)⟩, ⟨(some 39), none, .bin .lss (.t 37) (.t 38)⟩])
 (.cond (.t 39) .skip (.exit 2)))
 (.seq (.block 3 (.seq (.drawn [⟨(some 42), none, .mov (.t 0)⟩, ⟨(some 43), none, .mov (.t 3)⟩, ⟨(some 44), none, .iaddr 8 none (.t 42) (.t 43)⟩, ⟨(some 45), none, .load true 8 (.t 44)⟩, ⟨(some 46), none, .call 110 [(.t 45)]⟩, ⟨(some 47), none, .bin .gtr (.t 46) (.c (.int .i64 0))⟩, ⟨(some 48), none, .mov (.t 47)⟩, ⟨(some 49), (some (48, true)), .mov (.t 0)⟩, ⟨(some 50), (some (48, true)), .mov (.t 4)⟩, ⟨(some 51), (some (48, true)), .iaddr 8 none (.t 49) (.t 50)⟩, ⟨(some 52), (some (48, true)), .load true 8 (.t 51)⟩, ⟨(some 53), (some (48, true)), .call 110 [(.t 52)]⟩, ⟨(some 54), (some (48, true)), .mov (.t 0)⟩, ⟨(some 55), (some (48, true)), .mov (.t 3)⟩, ⟨(some 56), (some (48, true)), .iaddr 8 none (.t 54) (.t 55)⟩, ⟨(some 57), (some (48, true)), .load true 8 (.t 56)⟩, ⟨(some 58), (some (48, true)), .call 110 [(.t 57)]⟩, ⟨(some 59), (some (48, true)), .bin .eql (.t 53) (.t 58)⟩, ⟨(some 60), none, .pick (.t 48) (.t 59) (.c (.bool false))⟩] [(15, [5])])
 (.cond (.t 60) (.seq (.ops [⟨(some 2), none, .mov (.c (.bool false))⟩])
 .ret) .skip)))
 (.ops [⟨(some 40), none, .mov (.t 4)⟩, ⟨(some 41), none, .bin .add (.t 40) (.c (.int .i64 1))⟩, ⟨(some 4), none, .mov (.t 41)⟩])))
def b94_1 : VCode := (.seq (.seq (.ops [⟨(some 13), none, .mov (.t 3)⟩, ⟨(some 14), none, .mov (.t 0)⟩, ⟨(some 15), none, .bi (.len 1) [(.t 14)]⟩, ⟨(some 16), none, .bin .lss (.t 13) (.t 15)⟩])
 (.cond (.t 16) .skip (.exit 0)))
 (.seq (.block 1 (.seq (.seq (.ops [⟨(some 19), none, .mov (.t 0)⟩, ⟨(some 20), none, .mov (.t 3)⟩, ⟨(some 21), none, .iaddr 8 none (.t 19) (.t 20)⟩, ⟨(some 22), none, .load true 8 (.t 21)⟩, ⟨(some 23), none, .call 109 [(.t 22)]⟩, ⟨(some 24), none, .un .not (.t 23)⟩, ⟨(some 25), none, .mov (.t 24)⟩, ⟨(some 26), (some (25, false)), .mov (.t 0)⟩, ⟨(some 27), (some (25, false)), .mov (.t 3)⟩, ⟨(some 28), (some (25, false)), .iaddr 8 none (.t 26) (.t 27)⟩, ⟨(some 29), (some (25, false)), .faddr 0 (.t 28)⟩, ⟨(some 30), (some (25, false)), .load false 1 (.t 29)⟩, ⟨(some 31), (some (25, false)), .bin .eql (.t 30) (.c (.int .i64 2))⟩, ⟨(some 32), (some (25, false)), .mov (.t 31)⟩, ⟨(some 33), (some (32, true)), .mov (.t 3)⟩, ⟨(some 34), (some (32, true)), .bin .gtr (.t 33) (.c (.int .i64 0))⟩, ⟨(some 35), (some (25, false)), .pick (.t 32) (.t 34) (.c (.bool false))⟩, ⟨(some 36), none, .pick (.t 25) (.c (.bool true)) (.t 35)⟩])
 (.cond (.t 36) (.seq (.ops [⟨(some 2), none, .mov (.c (.bool false))⟩])
 .ret) .skip))
 (.seq (.ops [⟨(some 4), none, .mov (.c (.int .i64 0))⟩])
 (.block 2 (.loop b94_0)))))
 (.ops [⟨(some 17), none, .mov (.t 3)⟩, ⟨(some 18), none, .bin .add (.t 17) (.c (.int .i64 1))⟩, ⟨(some 3), none, .mov (.t 18)⟩])))
/-- furlong/furlongref8.OpsMay -/
def v94 : VFun := ⟨1, [(.tmp 2)], (.seq (.ops [⟨(some 2), none, .mov (.c (.bool false))⟩])
 (.seq (.seq (.ops [⟨(some 5), none, .mov (.t 0)⟩, ⟨(some 6), none, .bi (.len 1) [(.t 5)]⟩, ⟨(some 7), none, .bin .lss (.t 6) (.c (.int .i64 1))⟩, ⟨(some 8), none, .mov (.t 7)⟩, ⟨(some 9), (some (8, false)), .mov (.t 0)⟩, ⟨(some 10), (some (8, false)), .bi (.len 1) [(.t 9)]⟩, ⟨(some 11), (some (8, false)), .bin .gtr (.t 10) (.c (.int .i64 32))⟩, ⟨(some 12), none, .pick (.t 8) (.c (.bool true)) (.t 11)⟩])
 (.cond (.t 12) (.seq (.ops [⟨(some 2), none, .mov (.c (.bool false))⟩])
 .ret) .skip))
 (.seq (.seq (.ops [⟨(some 3), none, .mov (.c (.int .i64 0))⟩])
 (.block 0 (.loop b94_1)))
 (.seq (.ops [⟨(some 2), none, .mov (.c (.bool true))⟩])
 .ret))))⟩
def b96_0 : VCode := (.seq (.seq (.ops [⟨(some 11), none, .mov (.t 5)⟩, ⟨(some 12), none, .mov (.t 0)⟩, ⟨(some 13), none, .bi (.len 1) [(.t 12)]⟩, ⟨(some 14), none, .bin .lss (.t 11) (.t 13)⟩])
 (.cond (.t 14) .skip (.exit 0)))
 (.seq (.block 1 (.seq (.drawn [⟨(some 17), none, .mov (.t 0)⟩, ⟨(some 18), none, .mov (.t 5)⟩, ⟨(some 19), none, .iaddr 1 none (.t 17) (.t 18)⟩, ⟨(some 20), none, .load false 1 (.t 19)⟩, ⟨(some 21), none, .mov (.t 1)⟩, ⟨(some 22), none, .mov (.t 5)⟩, ⟨(some 23), none, .iaddr 1 none (.t 21) (.t 22)⟩, ⟨(some 24), none, .load false 1 (.t 23)⟩, ⟨(some 25), none, .bin .neq (.t 20) (.t 24)⟩] [])
 (.cond (.t 25) (.seq (.ops [⟨(some 4), none, .mov (.c (.bool false))⟩])
 .ret) .skip)))
 (.ops [⟨(some 15), none, .mov (.t 5)⟩, ⟨(some 16), none, .bin .add (.t 15) (.c (.int .i64 1))⟩, ⟨(some 5), none, .mov (.t 16)⟩])))
/-- furlong/furlonglaw0.SameInts -/
def v96 : VFun := ⟨2, [(.tmp 4)], (.seq (.ops [⟨(some 4), none, .mov (.c (.bool false))⟩])
 (.seq (.seq (.ops [⟨(some 6), none, .mov (.t 0)⟩, ⟨(some 7), none, .bi (.len 1) [(.t 6)]⟩, ⟨(some 8), none, .mov (.t 1)⟩, ⟨(some 9), none, .bi (.len 1) [(.t 8)]⟩, ⟨(some 10), none, .bin .neq (.t 7) (.t 9)⟩])
 (.cond (.t 10) (.seq (.ops [⟨(some 4), none, .mov (.c (.bool false))⟩])
 .ret) .skip))
 (.seq (.seq (.ops [⟨(some 5), none, .mov (.c (.int .i64 0))⟩])
 (.block 0 (.loop b96_0)))
 (.seq (.ops [⟨(some 4), none, .mov (.c (.bool true))⟩])
 .ret))))⟩
def b97_0 : VCode := (.seq (.seq (.ops [⟨(some 48), none, .mov (.t 6)⟩, ⟨(some 49), none, .faddr 2 (.t 2)⟩, ⟨(some 50), none, .load false 1 (.t 49)⟩, ⟨(some 51), none, .mov (.t 5)⟩, ⟨(some 52), none, .iaddr 1 none (.t 50) (.t 51)⟩, ⟨(some 53), none, .load false 1 (.t 52)⟩, ⟨(some 54), none, .bi (.len 1) [(.t 53)]⟩, ⟨(some 55), none, .bin .lss (.t 48) (.t 54)⟩])
 (.cond (.t 55) .skip (.exit 2)))
 (.seq (.block 3 (.seq (.drawn [⟨(some 58), none, .faddr 2 (.t 2)⟩, ⟨(some 59), none, .load false 1 (.t 58)⟩, ⟨(some 60), none, .mov (.t 5)⟩, ⟨(some 61), none, .iaddr 1 none (.t 59) (.t 60)⟩, ⟨(some 62), none, .load false 1 (.t 61)⟩, ⟨(some 63), none, .mov (.t 6)⟩, ⟨(some 64), none, .iaddr 2 none (.t 62) (.t 63)⟩, ⟨(some 65), none, .load true 2 (.t 64)⟩, ⟨(some 66), none, .faddr 2 (.t 3)⟩, ⟨(some 67), none, .load false 1 (.t 66)⟩, ⟨(some 68), none, .mov (.t 5)⟩, ⟨(some 69), none, .iaddr 1 none (.t 67) (.t 68)⟩, ⟨(some 70), none, .load false 1 (.t 69)⟩, ⟨(some 71), none, .mov (.t 6)⟩, ⟨(some 72), none, .iaddr 2 none (.t 70) (.t 71)⟩, ⟨(some 73), none, .load true 2 (.t 72)⟩, ⟨(some 74), none, .eqs (.flat [.int, .int]) true (.t 65) (.t 73)⟩] [])
 (.cond (.t 74) (.seq (.ops [⟨(some 4), none, .mov (.c (.bool false))⟩])
 .ret) .skip)))
 (.ops [⟨(some 56), none, .mov (.t 6)⟩, ⟨(some 57), none, .bin .add (.t 56) (.c (.int .i64 1))⟩, ⟨(some 6), none, .mov (.t 57)⟩])))
def b97_1 : VCode := (.seq (.seq (.ops [⟨(some 28), none, .mov (.t 5)⟩, ⟨(some 29), none, .faddr 2 (.t 2)⟩, ⟨(some 30), none, .load false 1 (.t 29)⟩, ⟨(some 31), none, .bi (.len 1) [(.t 30)]⟩, ⟨(some 32), none, .bin .lss (.t 28) (.t 31)⟩])
 (.cond (.t 32) .skip (.exit 0)))
 (.seq (.block 1 (.seq (.seq (.drawn [⟨(some 35), none, .faddr 2 (.t 2)⟩, ⟨(some 36), none, .load false 1 (.t 35)⟩, ⟨(some 37), none, .mov (.t 5)⟩, ⟨(some 38), none, .iaddr 1 none (.t 36) (.t 37)⟩, ⟨(some 39), none, .load false 1 (.t 38)⟩, ⟨(some 40), none, .bi (.len 1) [(.t 39)]⟩, ⟨(some 41), none, .faddr 2 (.t 3)⟩, ⟨(some 42), none, .load false 1 (.t 41)⟩, ⟨(some 43), none, .mov (.t 5)⟩, ⟨(some 44), none, .iaddr 1 none (.t 42) (.t 43)⟩, ⟨(some 45), none, .load false 1 (.t 44)⟩, ⟨(some 46), none, .bi (.len 1) [(.t 45)]⟩, ⟨(some 47), none, .bin .neq (.t 40) (.t 46)⟩] [])
 (.cond (.t 47) (.seq (.ops [⟨(some 4), none, .mov (.c (.bool false))⟩])
 .ret) .skip))
 (.seq (.ops [⟨(some 6), none, .mov (.c (.int .i64 0))⟩])
 (.block 2 (.loop b97_0)))))
 (.ops [⟨(some 33), none, .mov (.t 5)⟩, ⟨(some 34), none, .bin .add (.t 33) (.c (.int .i64 1))⟩, ⟨(some 5), none, .mov (.t 34)⟩])))
/-- furlong/furlonglaw0.SameFeature -/
def v97 : VFun := ⟨2, [(.tmp 4)], (.seq (.ops [⟨(some 2), none, .box 52 (.t 0)⟩, ⟨(some 3), none, .box 52 (.t 1)⟩, ⟨(some 4), none, .mov (.c (.bool false))⟩])
 (.seq (.seq (.ops [⟨(some 7), none, .faddr 0 (.t 2)⟩, ⟨(some 8), none, .load false 1 (.t 7)⟩, ⟨(some 9), none, .faddr 0 (.t 3)⟩, ⟨(some 10), none, .load false 1 (.t 9)⟩, ⟨(some 11), none, .bin .neq (.t 8) (.t 10)⟩, ⟨(some 12), none, .mov (.t 11)⟩, ⟨(some 13), (some (12, false)), .faddr 1 (.t 2)⟩, ⟨(some 14), (some (12, false)), .load false 1 (.t 13)⟩, ⟨(some 15), (some (12, false)), .faddr 1 (.t 3)⟩, ⟨(some 16), (some (12, false)), .load false 1 (.t 15)⟩, ⟨(some 17), (some (12, false)), .bin .neq (.t 14) (.t 16)⟩, ⟨(some 18), none, .pick (.t 12) (.c (.bool true)) (.t 17)⟩, ⟨(some 19), none, .mov (.t 18)⟩, ⟨(some 20), (some (19, false)), .faddr 2 (.t 2)⟩, ⟨(some 21), (some (19, false)), .load false 1 (.t 20)⟩, ⟨(some 22), (some (19, false)), .bi (.len 1) [(.t 21)]⟩, ⟨(some 23), (some (19, false)), .faddr 2 (.t 3)⟩, ⟨(some 24), (some (19, false)), .load false 1 (.t 23)⟩, ⟨(some 25), (some (19, false)), .bi (.len 1) [(.t 24)]⟩, ⟨(some 26), (some (19, false)), .bin .neq (.t 22) (.t 25)⟩, ⟨(some 27), none, .pick (.t 19) (.c (.bool true)) (.t 26)⟩])
 (.cond (.t 27) (.seq (.ops [⟨(some 4), none, .mov (.c (.bool false))⟩])
 .ret) .skip))
 (.seq (.seq (.ops [⟨(some 5), none, .mov (.c (.int .i64 0))⟩])
 (.block 0 (.loop b97_1)))
 (.seq (.ops [⟨(some 4), none, .mov (.c (.bool true))⟩])
 .ret))))⟩
/-- furlong/msg.node -/
def v98 : VFun := ⟨1, [(.tmp 2)], (.seq (.ops [⟨(some 2), none, .mov (.c (.bool false))⟩])
 (.seq (.ops [⟨(some 3), none, .mov (.t 0)⟩, ⟨(some 4), none, .bin .geq (.t 3) (.c (.int .i64 0))⟩, ⟨(some 5), none, .mov (.t 4)⟩, ⟨(some 6), (some (5, true)), .mov (.t 0)⟩, ⟨(some 7), (some (5, true)), .bin .lss (.t 6) (.c (.int .i64 8))⟩, ⟨(some 8), none, .pick (.t 5) (.t 7) (.c (.bool false))⟩, ⟨(some 2), none, .mov (.t 8)⟩])
 .ret))⟩
/-- (furlong/msg.parts).opsMay -/
def v99 : VFun := ⟨2, [(.tmp 4)], (.seq (.ops [⟨(some 2), none, .box 132 (.t 0)⟩, ⟨(some 4), none, .mov (.c (.bool false))⟩])
 (.seq (.seq (.ops [⟨(some 5), none, .faddr 1 (.t 2)⟩, ⟨(some 6), none, .load false 1 (.t 5)⟩, ⟨(some 7), none, .un .not (.t 6)⟩])
 (.cond (.t 7) (.seq (.ops [⟨(some 8), none, .mov (.t 1)⟩, ⟨(some 9), none, .nilck (.t 8)⟩, ⟨(some 10), none, .faddr 5 (.t 9)⟩, ⟨(some 11), none, .load false 1 (.t 10)⟩, ⟨(some 12), none, .bin .eql (.t 11) (.c (.int .i64 0))⟩, ⟨(some 13), none, .mov (.t 12)⟩, ⟨(some 14), (some (13, true)), .mov (.t 1)⟩, ⟨(some 15), (some (13, true)), .nilck (.t 14)⟩, ⟨(some 16), (some (13, true)), .faddr 14 (.t 15)⟩, ⟨(some 17), (some (13, true)), .load false 1 (.t 16)⟩, ⟨(some 18), (some (13, true)), .bi (.len 1) [(.t 17)]⟩, ⟨(some 19), (some (13, true)), .bin .eql (.t 18) (.c (.int .i64 0))⟩, ⟨(some 20), none, .pick (.t 13) (.t 19) (.c (.bool false))⟩, ⟨(some 4), none, .mov (.t 20)⟩])
 .ret) .skip))
 (.seq (.ops [⟨(some 21), none, .mov (.t 1)⟩, ⟨(some 22), none, .nilck (.t 21)⟩, ⟨(some 23), none, .faddr 5 (.t 22)⟩, ⟨(some 24), none, .load false 1 (.t 23)⟩, ⟨(some 25), none, .call 86 [(.t 24)]⟩, ⟨(some 26), none, .mov (.t 25)⟩, ⟨(some 27), (some (26, true)), .mov (.t 1)⟩, ⟨(some 28), (some (26, true)), .nilck (.t 27)⟩, ⟨(some 29), (some (26, true)), .faddr 14 (.t 28)⟩, ⟨(some 30), (some (26, true)), .load false 1 (.t 29)⟩, ⟨(some 31), (some (26, true)), .call 87 [(.t 30), (.c (.int .i64 8))]⟩, ⟨(some 32), none, .pick (.t 26) (.t 31) (.c (.bool false))⟩, ⟨(some 4), none, .mov (.t 32)⟩])
 .ret)))⟩
/-- (furlong/msg.parts).queryMay -/
def v100 : VFun := ⟨2, [(.tmp 4)], (.seq (.ops [⟨(some 2), none, .box 132 (.t 0)⟩, ⟨(some 4), none, .mov (.c (.bool false))⟩])
 (.seq (.seq (.ops [⟨(some 5), none, .faddr 3 (.t 2)⟩, ⟨(some 6), none, .load false 1 (.t 5)⟩, ⟨(some 7), none, .un .not (.t 6)⟩])
 (.cond (.t 7) (.seq (.ops [⟨(some 8), none, .mov (.t 1)⟩, ⟨(some 9), none, .nilck (.t 8)⟩, ⟨(some 10), none, .faddr 7 (.t 9)⟩, ⟨(some 11), none, .load false 1 (.t 10)⟩, ⟨(some 12), none, .bin .eql (.t 11) (.c (.int .i64 0))⟩, ⟨(some 13), none, .mov (.t 12)⟩, ⟨(some 14), (some (13, true)), .mov (.t 1)⟩, ⟨(some 15), (some (13, true)), .nilck (.t 14)⟩, ⟨(some 16), (some (13, true)), .faddr 10 (.t 15)⟩, ⟨(some 17), (some (13, true)), .load true 4 (.t 16)⟩, ⟨(some 18), (some (13, true)), .build [(.int .i64 0), (.int .i64 0), (.int .i64 0), (.int .i64 0)] []⟩, ⟨(some 19), (some (13, true)), .eqs (.flat [.int, .int, .int, .int]) false (.t 17) (.t 18)⟩, ⟨(some 20), none, .pick (.t 13) (.t 19) (.c (.bool false))⟩, ⟨(some 4), none, .mov (.t 20)⟩])
 .ret) .skip))
 (.seq (.ops [⟨(some 21), none, .mov (.t 1)⟩, ⟨(some 22), none, .nilck (.t 21)⟩, ⟨(some 23), none, .faddr 7 (.t 22)⟩, ⟨(some 24), none, .load false 1 (.t 23)⟩, ⟨(some 25), none, .bin .geq (.t 24) (.c (.int .i64 1))⟩, ⟨(some 26), none, .mov (.t 25)⟩, ⟨(some 27), (some (26, true)), .mov (.t 1)⟩, ⟨(some 28), (some (26, true)), .nilck (.t 27)⟩, ⟨(some 29), (some (26, true)), .faddr 7 (.t 28)⟩, ⟨(some 30), (some (26, true)), .load false 1 (.t 29)⟩, ⟨(some 31), (some (26, true)), .bin .leq (.t 30) (.c (.int .i64 65535))⟩, ⟨(some 32), none, .pick (.t 26) (.t 31) (.c (.bool false))⟩, ⟨(some 33), none, .mov (.t 32)⟩, ⟨(some 34), (some (33, true)), .mov (.t 1)⟩, ⟨(some 35), (some (33, true)), .nilck (.t 34)⟩, ⟨(some 36), (some (33, true)), .faddr 10 (.t 35)⟩, ⟨(some 37), (some (33, true)), .load true 4 (.t 36)⟩, ⟨(some 38), (some (33, true)), .call 111 [(.t 37)]⟩, ⟨(some 39), none, .pick (.t 33) (.t 38) (.c (.bool false))⟩, ⟨(some 4), none, .mov (.t 39)⟩])
 .ret)))⟩
/-- (furlong/msg.parts).partMay -/
def v101 : VFun := ⟨2, [(.tmp 4)], (.seq (.ops [⟨(some 2), none, .box 132 (.t 0)⟩, ⟨(some 4), none, .mov (.c (.bool false))⟩])
 (.seq (.seq (.ops [⟨(some 5), none, .faddr 4 (.t 2)⟩, ⟨(some 6), none, .load false 1 (.t 5)⟩, ⟨(some 7), none, .un .not (.t 6)⟩])
 (.cond (.t 7) (.seq (.ops [⟨(some 8), none, .mov (.t 1)⟩, ⟨(some 9), none, .nilck (.t 8)⟩, ⟨(some 10), none, .faddr 8 (.t 9)⟩, ⟨(some 11), none, .load false 1 (.t 10)⟩, ⟨(some 12), none, .bin .eql (.t 11) (.c (.int .i64 0))⟩, ⟨(some 13), none, .mov (.t 12)⟩, ⟨(some 14), (some (13, true)), .mov (.t 1)⟩, ⟨(some 15), (some (13, true)), .nilck (.t 14)⟩, ⟨(some 16), (some (13, true)), .faddr 9 (.t 15)⟩, ⟨(some 17), (some (13, true)), .load false 1 (.t 16)⟩, ⟨(some 18), (some (13, true)), .un .not (.t 17)⟩, ⟨(some 19), none, .pick (.t 13) (.t 18) (.c (.bool false))⟩, ⟨(some 20), none, .mov (.t 19)⟩, ⟨(some 21), (some (20, true)), .mov (.t 1)⟩, ⟨(some 22), (some (20, true)), .nilck (.t 21)⟩, ⟨(some 23), (some (20, true)), .faddr 15 (.t 22)⟩, ⟨(some 24), (some (20, true)), .load false 1 (.t 23)⟩, ⟨(some 25), (some (20, true)), .bi (.len 1) [(.t 24)]⟩, ⟨(some 26), (some (20, true)), .bin .eql (.t 25) (.c (.int .i64 0))⟩, ⟨(some 27), none, .pick (.t 20) (.t 26) (.c (.bool false))⟩, ⟨(some 4), none, .mov (.t 27)⟩])
 .ret) .skip))
 (.seq (.ops [⟨(some 28), none, .mov (.t 1)⟩, ⟨(some 29), none, .nilck (.t 28)⟩, ⟨(some 30), none, .faddr 8 (.t 29)⟩, ⟨(some 31), none, .load false 1 (.t 30)⟩, ⟨(some 32), none, .bin .geq (.t 31) (.c (.int .i64 0))⟩, ⟨(some 33), none, .mov (.t 32)⟩, ⟨(some 34), (some (33, true)), .mov (.t 1)⟩, ⟨(some 35), (some (33, true)), .nilck (.t 34)⟩, ⟨(some 36), (some (33, true)), .faddr 8 (.t 35)⟩, ⟨(some 37), (some (33, true)), .load false 1 (.t 36)⟩, ⟨(some 38), (some (33, true)), .bin .leq (.t 37) (.c (.int .i64 2147483647))⟩, ⟨(some 39), none, .pick (.t 33) (.t 38) (.c (.bool false))⟩, ⟨(some 40), none, .mov (.t 39)⟩, ⟨(some 41), (some (40, true)), .mov (.t 1)⟩, ⟨(some 42), (some (40, true)), .nilck (.t 41)⟩, ⟨(some 43), (some (40, true)), .faddr 15 (.t 42)⟩, ⟨(some 44), (some (40, true)), .load false 1 (.t 43)⟩, ⟨(some 45), (some (40, true)), .bi (.len 1) [(.t 44)]⟩, ⟨(some 46), (some (40, true)), .bin .leq (.t 45) (.c (.int .i64 256))⟩, ⟨(some 47), none, .pick (.t 40) (.t 46) (.c (.bool false))⟩, ⟨(some 48), none, .mov (.t 47)⟩, ⟨(some 49), (some (48, true)), .mov (.t 1)⟩, ⟨(some 50), (some (48, true)), .nilck (.t 49)⟩, ⟨(some 51), (some (48, true)), .faddr 9 (.t 50)⟩, ⟨(some 52), (some (48, true)), .load false 1 (.t 51)⟩, ⟨(some 53), (some (48, true)), .un .not (.t 52)⟩, ⟨(some 54), (some (48, true)), .mov (.t 53)⟩, ⟨(some 55), (some (54, false)), .mov (.t 1)⟩, ⟨(some 56), (some (54, false)), .nilck (.t 55)⟩, ⟨(some 57), (some (54, false)), .faddr 15 (.t 56)⟩, ⟨(some 58), (some (54, false)), .load false 1 (.t 57)⟩, ⟨(some 59), (some (54, false)), .bi (.len 1) [(.t 58)]⟩, ⟨(some 60), (some (54, false)), .bin .eql (.t 59) (.c (.int .i64 0))⟩, ⟨(some 61), (some (48, true)), .pick (.t 54) (.c (.bool true)) (.t 60)⟩, ⟨(some 62), none, .pick (.t 48) (.t 61) (.c (.bool false))⟩, ⟨(some 63), none, .mov (.t 62)⟩, ⟨(some 64), (some (63, true)), .mov (.t 1)⟩, ⟨(some 65), (some (63, true)), .nilck (.t 64)⟩, ⟨(some 66), (some (63, true)), .faddr 15 (.t 65)⟩, ⟨(some 67), (some (63, true)), .load false 1 (.t 66)⟩, ⟨(some 68), (some (63, true)), .call 112 [(.t 67)]⟩, ⟨(some 69), none, .pick (.t 63) (.t 68) (.c (.bool false))⟩, ⟨(some 4), none, .mov (.t 69)⟩])
 .ret)))⟩
/-- furlong/furlongref12.plain -/
def v102 : VFun := ⟨1, [(.tmp 2)], (.seq (.ops [⟨(some 1), none, .box 63 (.t 0)⟩, ⟨(some 2), none, .mov (.c (.bool false))⟩])
 (.seq (.ops [⟨(some 4), none, .load true 16 (.t 1)⟩, ⟨(some 5), none, .call 113 [(.t 4)]⟩, ⟨(some 3), none, .alloc [(.int .i64 0), (.int .i64 0), (.int .i64 0), (.int .i64 0), (.int .i64 0), (.int .i64 0), (.bool false), (.int .i64 0), (.int .i64 0), (.bool false), (.int .i64 0), (.int .i64 0), (.int .i64 0), (.int .i64 0), .nils, .nils] 63⟩, ⟨none, none, .store 16 (.t 3) (.t 5)⟩])
 (.seq (.ops [⟨(some 6), none, .faddr 3 (.t 1)⟩, ⟨(some 7), none, .load true 2 (.t 6)⟩, ⟨(some 8), none, .faddr 3 (.t 3)⟩, ⟨(some 9), none, .load true 2 (.t 8)⟩, ⟨(some 10), none, .eqs (.flat [.int, .int]) false (.t 7) (.t 9)⟩, ⟨(some 11), none, .mov (.t 10)⟩, ⟨(some 12), (some (11, true)), .faddr 5 (.t 1)⟩, ⟨(some 13), (some (11, true)), .load false 1 (.t 12)⟩, ⟨(some 14), (some (11, true)), .faddr 5 (.t 3)⟩, ⟨(some 15), (some (11, true)), .load false 1 (.t 14)⟩, ⟨(some 16), (some (11, true)), .bin .eql (.t 13) (.t 15)⟩, ⟨(some 17), none, .pick (.t 11) (.t 16) (.c (.bool false))⟩, ⟨(some 18), none, .mov (.t 17)⟩, ⟨(some 19), (some (18, true)), .faddr 6 (.t 1)⟩, ⟨(some 20), (some (18, true)), .load false 1 (.t 19)⟩, ⟨(some 21), (some (18, true)), .faddr 6 (.t 3)⟩, ⟨(some 22), (some (18, true)), .load false 1 (.t 21)⟩, ⟨(some 23), (some (18, true)), .eqs .bool false (.t 20) (.t 22)⟩, ⟨(some 24), none, .pick (.t 18) (.t 23) (.c (.bool false))⟩, ⟨(some 25), none, .mov (.t 24)⟩, ⟨(some 26), (some (25, true)), .faddr 7 (.t 1)⟩, ⟨(some 27), (some (25, true)), .load false 1 (.t 26)⟩, ⟨(some 28), (some (25, true)), .faddr 7 (.t 3)⟩, ⟨(some 29), (some (25, true)), .load false 1 (.t 28)⟩, ⟨(some 30), (some (25, true)), .bin .eql (.t 27) (.t 29)⟩, ⟨(some 31), none, .pick (.t 25) (.t 30) (.c (.bool false))⟩, ⟨(some 32), none, .mov (.t 31)⟩, ⟨(some 33), (some (32, true)), .faddr 8 (.t 1)⟩, ⟨(some 34), (some (32, true)), .load false 1 (.t 33)⟩, ⟨(some 35), (some (32, true)), .faddr 8 (.t 3)⟩, ⟨(some 36), (some (32, true)), .load false 1 (.t 35)⟩, ⟨(some 37), (some (32, true)), .bin .eql (.t 34) (.t 36)⟩, ⟨(some 38), none, .pick (.t 32) (.t 37) (.c (.bool false))⟩, ⟨(some 39), none, .mov (.t 38)⟩, ⟨(some 40), (some (39, true)), .faddr 9 (.t 1)⟩, ⟨(some 41), (some (39, true)), .load false 1 (.t 40)⟩, ⟨(some 42), (some (39, true)), .faddr 9 (.t 3)⟩, ⟨(some 43), (some (39, true)), .load false 1 (.t 42)⟩, ⟨(some 44), (some (39, true)), .eqs .bool false (.t 41) (.t 43)⟩, ⟨(some 45), none, .pick (.t 39) (.t 44) (.c (.bool false))⟩, ⟨(some 46), none, .mov (.t 45)⟩, ⟨(some 47), (some (46, true)), .faddr 10 (.t 1)⟩, ⟨(some 48), (some (46, true)), .load true 4 (.t 47)⟩, ⟨(some 49), (some (46, true)), .faddr 10 (.t 3)⟩, ⟨(some 50), (some (46, true)), .load true 4 (.t 49)⟩, ⟨(some 51), (some (46, true)), .eqs (.flat [.int, .int, .int, .int]) false (.t 48) (.t 50)⟩, ⟨(some 52), none, .pick (.t 46) (.t 51) (.c (.bool false))⟩, ⟨(some 53), none, .mov (.t 52)⟩, ⟨(some 54), (some (53, true)), .faddr 14 (.t 1)⟩, ⟨(some 55), (some (53, true)), .load false 1 (.t 54)⟩, ⟨(some 56), (some (53, true)), .bi (.len 1) [(.t 55)]⟩, ⟨(some 57), (some (53, true)), .faddr 14 (.t 3)⟩, ⟨(some 58), (some (53, true)), .load false 1 (.t 57)⟩, ⟨(some 59), (some (53, true)), .bi (.len 1) [(.t 58)]⟩, ⟨(some 60), (some (53, true)), .bin .eql (.t 56) (.t 59)⟩, ⟨(some 61), none, .pick (.t 53) (.t 60) (.c (.bool false))⟩, ⟨(some 62), none, .mov (.t 61)⟩, ⟨(some 63), (some (62, true)), .faddr 15 (.t 1)⟩, ⟨(some 64), (some (62, true)), .load false 1 (.t 63)⟩, ⟨(some 65), (some (62, true)), .bi (.len 1) [(.t 64)]⟩, ⟨(some 66), (some (62, true)), .faddr 15 (.t 3)⟩, ⟨(some 67), (some (62, true)), .load false 1 (.t 66)⟩, ⟨(some 68), (some (62, true)), .bi (.len 1) [(.t 67)]⟩, ⟨(some 69), (some (62, true)), .bin .eql (.t 65) (.t 68)⟩, ⟨(some 70), none, .pick (.t 62) (.t 69) (.c (.bool false))⟩, ⟨(some 2), none, .mov (.t 70)⟩])
 .ret)))⟩
/-- furlong/furlongref1.BoxMay -/
def v103 : VFun := ⟨1, [(.tmp 2)], (.seq (.ops [⟨(some 1), none, .box 60 (.t 0)⟩, ⟨(some 2), none, .mov (.c (.bool false))⟩])
 (.seq (.ops [⟨(some 3), none, .faddr 0 (.t 1)⟩, ⟨(some 4), none, .load false 1 (.t 3)⟩, ⟨(some 5), none, .faddr 1 (.t 1)⟩, ⟨(some 6), none, .load false 1 (.t 5)⟩, ⟨(some 7), none, .build [(.int .i64 0), (.int .i64 0)] [(0, 1, (.t 4)), (1, 1, (.t 6))]⟩, ⟨(some 8), none, .call 114 [(.t 7)]⟩, ⟨(some 9), none, .mov (.t 8)⟩, ⟨(some 10), (some (9, true)), .faddr 2 (.t 1)⟩, ⟨(some 11), (some (9, true)), .load false 1 (.t 10)⟩, ⟨(some 12), (some (9, true)), .faddr 3 (.t 1)⟩, ⟨(some 13), (some (9, true)), .load false 1 (.t 12)⟩, ⟨(some 14), (some (9, true)), .build [(.int .i64 0), (.int .i64 0)] [(0, 1, (.t 11)), (1, 1, (.t 13))]⟩, ⟨(some 15), (some (9, true)), .call 114 [(.t 14)]⟩, ⟨(some 16), none, .pick (.t 9) (.t 15) (.c (.bool false))⟩, ⟨(some 17), none, .mov (.t 16)⟩, ⟨(some 18), (some (17, true)), .faddr 0 (.t 1)⟩, ⟨(some 19), (some (17, true)), .load false 1 (.t 18)⟩, ⟨(some 20), (some (17, true)), .faddr 2 (.t 1)⟩, ⟨(some 21), (some (17, true)), .load false 1 (.t 20)⟩, ⟨(some 22), (some (17, true)), .bin .leq (.t 19) (.t 21)⟩, ⟨(some 23), none, .pick (.t 17) (.t 22) (.c (.bool false))⟩, ⟨(some 24), none, .mov (.t 23)⟩, ⟨(some 25), (some (24, true)), .faddr 1 (.t 1)⟩, ⟨(some 26), (some (24, true)), .load false 1 (.t 25)⟩, ⟨(some 27), (some (24, true)), .faddr 3 (.t 1)⟩, ⟨(some 28), (some (24, true)), .load false 1 (.t 27)⟩, ⟨(some 29), (some (24, true)), .bin .leq (.t 26) (.t 28)⟩, ⟨(some 30), none, .pick (.t 24) (.t 29) (.c (.bool false))⟩, ⟨(some 2), none, .mov (.t 30)⟩])
 .ret))⟩
def b104_0 : VCode := (.seq (.seq (.ops [⟨(some 4), none, .mov (.t 3)⟩, ⟨(some 5), none, .mov (.t 0)⟩, ⟨(some 6), none, .bi (.len 1) [(.t 5)]⟩, ⟨(some 7), none, .bin .lss (.t 4) (.t 6)⟩])
 (.cond (.t 7) .skip (.exit 0)))
 (.seq (.block 1 (.seq (.drawn [⟨(some 10), none, .mov (.t 0)⟩, ⟨(some 11), none, .mov (.t 3)⟩, ⟨(some 12), none, .iaddr 3 none (.t 10) (.t 11)⟩, ⟨(some 13), none, .load true 3 (.t 12)⟩, ⟨(some 14), none, .call 115 [(.t 13)]⟩, ⟨(some 15), none, .un .not (.t 14)⟩, ⟨(some 16), none, .mov (.t 15)⟩, ⟨(some 17), (some (16, false)), .mov (.t 3)⟩, ⟨(some 18), (some (16, false)), .bin .gtr (.t 17) (.c (.int .i64 0))⟩, ⟨(some 19), (some (16, false)), .mov (.t 18)⟩, ⟨(some 20), (some (19, true)), .mov (.t 0)⟩, ⟨(some 21), (some (19, true)), .mov (.t 3)⟩, ⟨(some 22), (some (19, true)), .bin .sub (.t 21) (.c (.int .i64 1))⟩, ⟨(some 23), (some (19, true)), .iaddr 3 none (.t 20) (.t 22)⟩, ⟨(some 24), (some (19, true)), .faddr 0 (.t 23)⟩, ⟨(some 25), (some (19, true)), .load false 1 (.t 24)⟩, ⟨(some 26), (some (19, true)), .mov (.t 0)⟩, ⟨(some 27), (some (19, true)), .mov (.t 3)⟩, ⟨(some 28), (some (19, true)), .iaddr 3 none (.t 26) (.t 27)⟩, ⟨(some 29), (some (19, true)), .faddr 0 (.t 28)⟩, ⟨(some 30), (some (19, true)), .load false 1 (.t 29)⟩, ⟨(some 31), (some (19, true)), .bin .geq (.t 25) (.t 30)⟩, ⟨(some 32), (some (16, false)), .pick (.t 19) (.t 31) (.c (.bool false))⟩, ⟨(some 33), none, .pick (.t 16) (.c (.bool true)) (.t 32)⟩] [])
 (.cond (.t 33) (.seq (.ops [⟨(some 2), none, .mov (.c (.bool false))⟩])
 .ret) .skip)))
 (.ops [⟨(some 8), none, .mov (.t 3)⟩, ⟨(some 9), none, .bin .add (.t 8) (.c (.int .i64 1))⟩, ⟨(some 3), none, .mov (.t 9)⟩])))
/-- furlong/furlongref12.FeaturesMay -/
def v104 : VFun := ⟨1, [(.tmp 2)], (.seq (.ops [⟨(some 2), none, .mov (.c (.bool false))⟩])
 (.seq (.seq (.ops [⟨(some 3), none, .mov (.c (.int .i64 0))⟩])
 (.block 0 (.loop b104_0)))
 (.seq (.ops [⟨(some 2), none, .mov (.c (.bool true))⟩])
 .ret)))⟩
def b105_0 : VCode := (.seq (.ops [⟨(some 10), none, .bin .lss (.t 9) (.t 8)⟩])
 (.seq (.cond (.t 10) .skip (.exit 0))
 (.seq (.block 1 (.seq (.ops [⟨(some 11), none, .mov (.t 9)⟩, ⟨(some 4), none, .mov (.t 11)⟩])
 (.seq (.seq (.ops [⟨(some 12), none, .mov (.t 3)⟩, ⟨(some 13), none, .mov (.t 4)⟩, ⟨(some 14), none, .iaddr 8 none (.t 12) (.t 13)⟩, ⟨(some 15), none, .faddr 0 (.t 14)⟩, ⟨(some 16), none, .load false 1 (.t 15)⟩, ⟨(some 17), none, .bin .eql (.t 16) (.c (.int .i64 0))⟩])
 (.cond (.t 17) (.ops [⟨(some 18), none, .mov (.t 3)⟩, ⟨(some 19), none, .mov (.t 4)⟩, ⟨(some 20), none, .mov (.t 3)⟩, ⟨(some 21), none, .mov (.t 4)⟩, ⟨(some 22), none, .iaddr 8 none (.t 20) (.t 21)⟩, ⟨(some 23), none, .faddr 1 (.t 22)⟩, ⟨(some 24), none, .load true 3 (.t 23)⟩, ⟨(some 25), none, .call 117 [(.t 24)]⟩, ⟨(some 26), none, .iaddr 8 none (.t 18) (.t 19)⟩, ⟨(some 27), none, .faddr 1 (.t 26)⟩, ⟨none, none, .store 3 (.t 27) (.t 25)⟩]) .skip))
 (.ops [⟨(some 28), none, .mov (.t 3)⟩, ⟨(some 29), none, .mov (.t 4)⟩, ⟨(some 30), none, .mov (.t 3)⟩, ⟨(some 31), none, .mov (.t 4)⟩, ⟨(some 32), none, .iaddr 8 none (.t 30) (.t 31)⟩, ⟨(some 33), none, .faddr 5 (.t 32)⟩, ⟨(some 34), none, .load true 3 (.t 33)⟩, ⟨(some 35), none, .call 118 [(.t 34)]⟩, ⟨(some 36), none, .iaddr 8 none (.t 28) (.t 29)⟩, ⟨(some 37), none, .faddr 5 (.t 36)⟩, ⟨none, none, .store 3 (.t 37) (.t 35)⟩]))))
 (.ops [⟨(some 38), none, .bin .add (.t 9) (.c (.int .i64 1))⟩, ⟨(some 9), none, .mov (.t 38)⟩]))))
/-- furlong/rec.CopyOps -/
def v105 : VFun := ⟨1, [(.tmp 2)], (.seq (.ops [⟨(some 2), none, .mov (.c .nils)⟩])
 (.seq (.ops [⟨(some 5), none, .mov (.t 0)⟩, ⟨(some 6), none, .call 116 [(.t 5)]⟩, ⟨(some 3), none, .mov (.t 6)⟩])
 (.seq (.seq (.ops [⟨(some 7), none, .mov (.t 3)⟩, ⟨(some 8), none, .bi (.len 1) [(.t 7)]⟩, ⟨(some 9), none, .mov (.c (.int .i64 0))⟩])
 (.block 0 (.loop b105_0)))
 (.seq (.ops [⟨(some 39), none, .mov (.t 3)⟩, ⟨(some 2), none, .mov (.t 39)⟩])
 .ret))))⟩
def b106_0 : VCode := (.seq (.ops [⟨(some 9), none, .bin .lss (.t 8) (.t 7)⟩])
 (.seq (.cond (.t 9) .skip (.exit 0))
 (.seq (.block 1 (.seq (.ops [⟨(some 10), none, .iaddr 3 none (.t 6) (.t 8)⟩, ⟨(some 11), none, .load true 3 (.t 10)⟩, ⟨(some 5), none, .alloc [(.int .i64 0), (.int .i64 0), .nils] 52⟩, ⟨none, none, .store 3 (.t 5) (.t 11)⟩])
 (.ops [⟨(some 12), none, .mov (.t 3)⟩, ⟨(some 13), none, .load true 3 (.t 5)⟩, ⟨(some 14), none, .call 117 [(.t 13)]⟩, ⟨(some 15), none, .bslice [(.int .i64 0), (.int .i64 0), .nils] 52 1 [(0, 3, (.t 14))]⟩, ⟨(some 16), none, .bi (.append 3 40 52) [(.t 12), (.t 15)]⟩, ⟨(some 3), none, .mov (.t 16)⟩])))
 (.ops [⟨(some 17), none, .bin .add (.t 8) (.c (.int .i64 1))⟩, ⟨(some 8), none, .mov (.t 17)⟩]))))
/-- furlong/shape.CopyAll -/
def v106 : VFun := ⟨1, [(.tmp 2)], (.seq (.ops [⟨(some 2), none, .mov (.c .nils)⟩])
 (.seq (.ops [⟨(some 3), none, .mov (.c .nils)⟩])
 (.seq (.seq (.ops [⟨(some 6), none, .mov (.t 0)⟩, ⟨(some 7), none, .bi (.len 1) [(.t 6)]⟩, ⟨(some 8), none, .mov (.c (.int .i64 0))⟩])
 (.block 0 (.loop b106_0)))
 (.seq (.ops [⟨(some 18), none, .mov (.t 3)⟩, ⟨(some 2), none, .mov (.t 18)⟩])
 .ret))))⟩
/-- furlong/rec.opMay -/
def v107 : VFun := ⟨2, [(.tmp 4)], (.seq (.ops [⟨(some 4), none, .mov (.c (.bool false))⟩])
 (.seq (.seq (.ops [⟨(some 5), none, .mov (.t 0)⟩, ⟨(some 6), none, .nilck (.t 5)⟩, ⟨(some 7), none, .faddr 0 (.t 6)⟩, ⟨(some 8), none, .load false 1 (.t 7)⟩])
 (.block 0 (.seq (.ops [⟨(some 10), none, .bin .eql (.t 8) (.c (.int .i64 0))⟩, ⟨(some 9), none, .mov (.t 10)⟩])
 (.cond (.t 9) (.seq (.ops [⟨(some 11), none, .mov (.t 0)⟩, ⟨(some 12), none, .nilck (.t 11)⟩, ⟨(some 13), none, .faddr 1 (.t 12)⟩, ⟨(some 14), none, .load true 3 (.t 13)⟩, ⟨(some 15), none, .call 119 [(.t 14)]⟩, ⟨(some 16), none, .mov (.t 15)⟩, ⟨(some 17), (some (16, true)), .mov (.t 0)⟩, ⟨(some 18), (some (16, true)), .nilck (.t 17)⟩, ⟨(some 19), (some (16, true)), .faddr 4 (.t 18)⟩, ⟨(some 20), (some (16, true)), .load false 1 (.t 19)⟩, ⟨(some 21), (some (16, true)), .bin .eql (.t 20) (.c (.int .i64 0))⟩, ⟨(some 22), none, .pick (.t 16) (.t 21) (.c (.bool false))⟩, ⟨(some 23), none, .mov (.t 22)⟩, ⟨(some 24), (some (23, true)), .mov (.t 0)⟩, ⟨(some 25), (some (23, true)), .nilck (.t 24)⟩, ⟨(some 26), (some (23, true)), .faddr 5 (.t 25)⟩, ⟨(some 27), (some (23, true)), .call 88 [(.t 26)]⟩, ⟨(some 28), none, .pick (.t 23) (.t 27) (.c (.bool false))⟩, ⟨(some 4), none, .mov (.t 28)⟩])
 .ret) (.seq (.ops [⟨(some 30), none, .bin .eql (.t 8) (.c (.int .i64 1))⟩, ⟨(some 29), none, .mov (.t 30)⟩])
 (.cond (.t 29) (.seq (.ops [⟨(some 31), none, .mov (.t 0)⟩, ⟨(some 32), none, .nilck (.t 31)⟩, ⟨(some 33), none, .faddr 4 (.t 32)⟩, ⟨(some 34), none, .load false 1 (.t 33)⟩, ⟨(some 35), none, .bin .geq (.t 34) (.c (.int .i64 1))⟩, ⟨(some 36), none, .mov (.t 35)⟩, ⟨(some 37), (some (36, true)), .mov (.t 0)⟩, ⟨(some 38), (some (36, true)), .nilck (.t 37)⟩, ⟨(some 39), (some (36, true)), .faddr 4 (.t 38)⟩, ⟨(some 40), (some (36, true)), .load false 1 (.t 39)⟩, ⟨(some 41), (some (36, true)), .bin .leq (.t 40) (.c (.int .i64 65535))⟩, ⟨(some 42), none, .pick (.t 36) (.t 41) (.c (.bool false))⟩, ⟨(some 43), none, .mov (.t 42)⟩, ⟨(some 44), (some (43, true)), .mov (.t 0)⟩, ⟨(some 45), (some (43, true)), .nilck (.t 44)⟩, ⟨(some 46), (some (43, true)), .faddr 1 (.t 45)⟩, ⟨(some 47), (some (43, true)), .call 120 [(.t 46)]⟩, ⟨(some 48), none, .pick (.t 43) (.t 47) (.c (.bool false))⟩, ⟨(some 49), none, .mov (.t 48)⟩, ⟨(some 50), (some (49, true)), .mov (.t 0)⟩, ⟨(some 51), (some (49, true)), .nilck (.t 50)⟩, ⟨(some 52), (some (49, true)), .faddr 5 (.t 51)⟩, ⟨(some 53), (some (49, true)), .call 88 [(.t 52)]⟩, ⟨(some 54), none, .pick (.t 49) (.t 53) (.c (.bool false))⟩, ⟨(some 4), none, .mov (.t 54)⟩])
 .ret) (.seq (.ops [⟨(some 56), none, .bin .eql (.t 8) (.c (.int .i64 2))⟩, ⟨(some 55), none, .mov (.t 56)⟩])
 (.cond (.t 55) (.seq (.ops [⟨(some 57), none, .mov (.t 0)⟩, ⟨(some 58), none, .nilck (.t 57)⟩, ⟨(some 59), none, .faddr 5 (.t 58)⟩, ⟨(some 60), none, .load true 3 (.t 59)⟩, ⟨(some 61), none, .mov (.t 1)⟩, ⟨(some 62), none, .call 85 [(.t 60), (.t 61)]⟩, ⟨(some 63), none, .mov (.t 62)⟩, ⟨(some 64), (some (63, true)), .mov (.t 0)⟩, ⟨(some 65), (some (63, true)), .nilck (.t 64)⟩, ⟨(some 66), (some (63, true)), .faddr 4 (.t 65)⟩, ⟨(some 67), (some (63, true)), .load false 1 (.t 66)⟩, ⟨(some 68), (some (63, true)), .bin .eql (.t 67) (.c (.int .i64 0))⟩, ⟨(some 69), none, .pick (.t 63) (.t 68) (.c (.bool false))⟩, ⟨(some 70), none, .mov (.t 69)⟩, ⟨(some 71), (some (70, true)), .mov (.t 0)⟩, ⟨(some 72), (some (70, true)), .nilck (.t 71)⟩, ⟨(some 73), (some (70, true)), .faddr 1 (.t 72)⟩, ⟨(some 74), (some (70, true)), .call 120 [(.t 73)]⟩, ⟨(some 75), none, .pick (.t 70) (.t 74) (.c (.bool false))⟩, ⟨(some 4), none, .mov (.t 75)⟩])
 .ret) .skip))))))))
 (.seq (.ops [⟨(some 4), none, .mov (.c (.bool false))⟩])
 .ret)))⟩
/-- furlong/rec.Id -/
def v108 : VFun := ⟨1, [(.tmp 2)], (.seq (.ops [⟨(some 2), none, .mov (.c (.int .i64 0))⟩])
 (.seq (.seq (.ops [⟨(some 3), none, .mov (.t 0)⟩, ⟨(some 4), none, .nilck (.t 3)⟩, ⟨(some 5), none, .faddr 0 (.t 4)⟩, ⟨(some 6), none, .load false 1 (.t 5)⟩, ⟨(some 7), none, .bin .eql (.t 6) (.c (.int .i64 0))⟩])
 (.cond (.t 7) (.seq (.ops [⟨(some 8), none, .mov (.t 0)⟩, ⟨(some 9), none, .nilck (.t 8)⟩, ⟨(some 10), none, .faddr 1 (.t 9)⟩, ⟨(some 11), none, .faddr 0 (.t 10)⟩, ⟨(some 12), none, .load false 1 (.t 11)⟩, ⟨(some 2), none, .mov (.t 12)⟩])
 .ret) .skip))
 (.seq (.ops [⟨(some 13), none, .mov (.t 0)⟩, ⟨(some 14), none, .nilck (.t 13)⟩, ⟨(some 15), none, .faddr 4 (.t 14)⟩, ⟨(some 16), none, .load false 1 (.t 15)⟩, ⟨(some 2), none, .mov (.t 16)⟩])
 .ret)))⟩
/-- furlong/furlongref8.opMay -/
def v109 : VFun := ⟨1, [(.tmp 2)], (.seq (.ops [⟨(some 1), none, .box 54 (.t 0)⟩, ⟨(some 2), none, .mov (.c (.bool false))⟩])
 (.seq (.seq (.ops [⟨(some 3), none, .faddr 0 (.t 1)⟩, ⟨(some 4), none, .load false 1 (.t 3)⟩])
 (.block 0 (.seq (.ops [⟨(some 6), none, .bin .eql (.t 4) (.c (.int .i64 0))⟩, ⟨(some 5), none, .mov (.t 6)⟩])
 (.cond (.t 5) (.seq (.ops [⟨(some 7), none, .faddr 1 (.t 1)⟩, ⟨(some 8), none, .load true 3 (.t 7)⟩, ⟨(some 9), none, .call 115 [(.t 8)]⟩, ⟨(some 10), none, .mov (.t 9)⟩, ⟨(some 11), (some (10, true)), .faddr 4 (.t 1)⟩, ⟨(some 12), (some (10, true)), .load false 1 (.t 11)⟩, ⟨(some 13), (some (10, true)), .bin .eql (.t 12) (.c (.int .i64 0))⟩, ⟨(some 14), none, .pick (.t 10) (.t 13) (.c (.bool false))⟩, ⟨(some 15), none, .mov (.t 14)⟩, ⟨(some 16), (some (15, true)), .faddr 5 (.t 1)⟩, ⟨(some 17), (some (15, true)), .load true 3 (.t 16)⟩, ⟨(some 18), (some (15, true)), .call 92 [(.t 17)]⟩, ⟨(some 19), none, .pick (.t 15) (.t 18) (.c (.bool false))⟩, ⟨(some 2), none, .mov (.t 19)⟩])
 .ret) (.seq (.ops [⟨(some 21), none, .bin .eql (.t 4) (.c (.int .i64 1))⟩, ⟨(some 20), none, .mov (.t 21)⟩])
 (.cond (.t 20) (.seq (.ops [⟨(some 22), none, .faddr 4 (.t 1)⟩, ⟨(some 23), none, .load false 1 (.t 22)⟩, ⟨(some 24), none, .bin .geq (.t 23) (.c (.int .i64 1))⟩, ⟨(some 25), none, .mov (.t 24)⟩, ⟨(some 26), (some (25, true)), .faddr 4 (.t 1)⟩, ⟨(some 27), (some (25, true)), .load false 1 (.t 26)⟩, ⟨(some 28), (some (25, true)), .bin .leq (.t 27) (.c (.int .i64 65535))⟩, ⟨(some 29), none, .pick (.t 25) (.t 28) (.c (.bool false))⟩, ⟨(some 30), none, .mov (.t 29)⟩, ⟨(some 31), (some (30, true)), .faddr 1 (.t 1)⟩, ⟨(some 32), (some (30, true)), .load true 3 (.t 31)⟩, ⟨(some 33), (some (30, true)), .call 121 [(.t 32)]⟩, ⟨(some 34), none, .pick (.t 30) (.t 33) (.c (.bool false))⟩, ⟨(some 35), none, .mov (.t 34)⟩, ⟨(some 36), (some (35, true)), .faddr 5 (.t 1)⟩, ⟨(some 37), (some (35, true)), .load true 3 (.t 36)⟩, ⟨(some 38), (some (35, true)), .call 92 [(.t 37)]⟩, ⟨(some 39), none, .pick (.t 35) (.t 38) (.c (.bool false))⟩, ⟨(some 2), none, .mov (.t 39)⟩])
 .ret) (.seq (.ops [⟨(some 41), none, .bin .eql (.t 4) (.c (.int .i64 2))⟩, ⟨(some 40), none, .mov (.t 41)⟩])
 (.cond (.t 40) (.seq (.ops [⟨(some 42), none, .faddr 5 (.t 1)⟩, ⟨(some 43), none, .load true 3 (.t 42)⟩, ⟨(some 44), none, .call 90 [(.t 43), (.c (.int .i64 8))]⟩, ⟨(some 45), none, .mov (.t 44)⟩, ⟨(some 46), (some (45, true)), .faddr 1 (.t 1)⟩, ⟨(some 47), (some (45, true)), .load true 3 (.t 46)⟩, ⟨(some 48), (some (45, true)), .call 121 [(.t 47)]⟩, ⟨(some 49), none, .pick (.t 45) (.t 48) (.c (.bool false))⟩, ⟨(some 50), none, .mov (.t 49)⟩, ⟨(some 51), (some (50, true)), .faddr 4 (.t 1)⟩, ⟨(some 52), (some (50, true)), .load false 1 (.t 51)⟩, ⟨(some 53), (some (50, true)), .bin .eql (.t 52) (.c (.int .i64 0))⟩, ⟨(some 54), none, .pick (.t 50) (.t 53) (.c (.bool false))⟩, ⟨(some 2), none, .mov (.t 54)⟩])
 .ret) .skip))))))))
 (.seq (.ops [⟨(some 2), none, .mov (.c (.bool false))⟩])
 .ret)))⟩
/-- furlong/furlongref8.IdOf -/
def v110 : VFun := ⟨1, [(.tmp 2)], (.seq (.ops [⟨(some 1), none, .box 54 (.t 0)⟩, ⟨(some 2), none, .mov (.c (.int .i64 0))⟩])
 (.seq (.seq (.ops [⟨(some 3), none, .faddr 0 (.t 1)⟩, ⟨(some 4), none, .load false 1 (.t 3)⟩])
 (.block 0 (.seq (.ops [⟨(some 6), none, .bin .eql (.t 4) (.c (.int .i64 0))⟩, ⟨(some 5), none, .mov (.t 6)⟩])
 (.cond (.t 5) (.seq (.ops [⟨(some 7), none, .faddr 1 (.t 1)⟩, ⟨(some 8), none, .faddr 0 (.t 7)⟩, ⟨(some 9), none, .load false 1 (.t 8)⟩, ⟨(some 2), none, .mov (.t 9)⟩])
 .ret) (.seq (.ops [⟨(some 11), none, .bin .eql (.t 4) (.c (.int .i64 1))⟩, ⟨(some 10), none, .mov (.t 11)⟩])
 (.cond (.t 10) (.seq (.ops [⟨(some 12), none, .faddr 4 (.t 1)⟩, ⟨(some 13), none, .load false 1 (.t 12)⟩, ⟨(some 2), none, .mov (.t 13)⟩])
 .ret) .skip))))))
 (.seq (.ops [⟨(some 2), none, .mov (.c (.int .i64 0))⟩])
 .ret)))⟩
/-- furlong/geom.BoxMay -/
def v111 : VFun := ⟨1, [(.tmp 2)], (.seq (.ops [⟨(some 1), none, .box 60 (.t 0)⟩, ⟨(some 2), none, .mov (.c (.bool false))⟩])
 (.seq (.ops [⟨(some 3), none, .faddr 0 (.t 1)⟩, ⟨(some 4), none, .load false 1 (.t 3)⟩, ⟨(some 5), none, .call 122 [(.t 4)]⟩, ⟨(some 6), none, .mov (.t 5)⟩, ⟨(some 7), (some (6, true)), .faddr 1 (.t 1)⟩, ⟨(some 8), (some (6, true)), .load false 1 (.t 7)⟩, ⟨(some 9), (some (6, true)), .call 122 [(.t 8)]⟩, ⟨(some 10), none, .pick (.t 6) (.t 9) (.c (.bool false))⟩, ⟨(some 11), none, .mov (.t 10)⟩, ⟨(some 12), (some (11, true)), .faddr 2 (.t 1)⟩, ⟨(some 13), (some (11, true)), .load false 1 (.t 12)⟩, ⟨(some 14), (some (11, true)), .call 122 [(.t 13)]⟩, ⟨(some 15), none, .pick (.t 11) (.t 14) (.c (.bool false))⟩, ⟨(some 16), none, .mov (.t 15)⟩, ⟨(some 17), (some (16, true)), .faddr 3 (.t 1)⟩, ⟨(some 18), (some (16, true)), .load false 1 (.t 17)⟩, ⟨(some 19), (some (16, true)), .call 122 [(.t 18)]⟩, ⟨(some 20), none, .pick (.t 16) (.t 19) (.c (.bool false))⟩, ⟨(some 21), none, .mov (.t 20)⟩, ⟨(some 22), (some (21, true)), .faddr 0 (.t 1)⟩, ⟨(some 23), (some (21, true)), .load false 1 (.t 22)⟩, ⟨(some 24), (some (21, true)), .faddr 2 (.t 1)⟩, ⟨(some 25), (some (21, true)), .load false 1 (.t 24)⟩, ⟨(some 26), (some (21, true)), .bin .leq (.t 23) (.t 25)⟩, ⟨(some 27), none, .pick (.t 21) (.t 26) (.c (.bool false))⟩, ⟨(some 28), none, .mov (.t 27)⟩, ⟨(some 29), (some (28, true)), .faddr 1 (.t 1)⟩, ⟨(some 30), (some (28, true)), .load false 1 (.t 29)⟩, ⟨(some 31), (some (28, true)), .faddr 3 (.t 1)⟩, ⟨(some 32), (some (28, true)), .load false 1 (.t 31)⟩, ⟨(some 33), (some (28, true)), .bin .leq (.t 30) (.t 32)⟩, ⟨(some 34), none, .pick (.t 28) (.t 33) (.c (.bool false))⟩, ⟨(some 2), none, .mov (.t 34)⟩])
 .ret))⟩
def b112_0 : VCode := (.seq (.ops [⟨(some 8), none, .bin .lss (.t 7) (.t 6)⟩])
 (.seq (.cond (.t 8) .skip (.exit 0))
 (.seq (.block 1 (.seq (.ops [⟨(some 9), none, .mov (.t 7)⟩, ⟨(some 10), none, .iaddr 3 none (.t 5) (.t 7)⟩, ⟨(some 11), none, .load true 3 (.t 10)⟩, ⟨(some 4), none, .alloc [(.int .i64 0), (.int .i64 0), .nils] 52⟩, ⟨(some 3), none, .mov (.t 9)⟩, ⟨none, none, .store 3 (.t 4) (.t 11)⟩])
 (.seq (.drawn [⟨(some 12), none, .load true 3 (.t 4)⟩, ⟨(some 13), none, .call 119 [(.t 12)]⟩, ⟨(some 14), none, .un .not (.t 13)⟩, ⟨(some 15), none, .mov (.t 14)⟩, ⟨(some 16), (some (15, false)), .mov (.t 3)⟩, ⟨(some 17), (some (15, false)), .bin .gtr (.t 16) (.c (.int .i64 0))⟩, ⟨(some 18), (some (15, false)), .mov (.t 17)⟩, ⟨(some 19), (some (18, true)), .mov (.t 0)⟩, ⟨(some 20), (some (18, true)), .mov (.t 3)⟩, ⟨(some 21), (some (18, true)), .bin .sub (.t 20) (.c (.int .i64 1))⟩, ⟨(some 22), (some (18, true)), .iaddr 3 none (.t 19) (.t 21)⟩, ⟨(some 23), (some (18, true)), .faddr 0 (.t 22)⟩, ⟨(some 24), (some (18, true)), .load false 1 (.t 23)⟩, ⟨(some 25), (some (18, true)), .faddr 0 (.t 4)⟩, ⟨(some 26), (some (18, true)), .load false 1 (.t 25)⟩, ⟨(some 27), (some (18, true)), .bin .geq (.t 24) (.t 26)⟩, ⟨(some 28), (some (15, false)), .pick (.t 18) (.t 27) (.c (.bool false))⟩, ⟨(some 29), none, .pick (.t 15) (.c (.bool true)) (.t 28)⟩] [])
 (.cond (.t 29) (.seq (.ops [⟨(some 2), none, .mov (.c (.bool false))⟩])
 .ret) .skip))))
 (.ops [⟨(some 30), none, .bin .add (.t 7) (.c (.int .i64 1))⟩, ⟨(some 7), none, .mov (.t 30)⟩]))))
/-- furlong/shape.Rising -/
def v112 : VFun := ⟨1, [(.tmp 2)], (.seq (.ops [⟨(some 2), none, .mov (.c (.bool false))⟩])
 (.seq (.seq (.ops [⟨(some 5), none, .mov (.t 0)⟩, ⟨(some 6), none, .bi (.len 1) [(.t 5)]⟩, ⟨(some 7), none, .mov (.c (.int .i64 0))⟩])
 (.block 0 (.loop b112_0)))
 (.seq (.ops [⟨(some 2), none, .mov (.c (.bool true))⟩])
 .ret)))⟩
/-- furlong/furlongref12.zeroed -/
def v113 : VFun := ⟨1, [(.cell 2 true 16)], (.seq (.ops [⟨(some 1), none, .box 63 (.t 0)⟩, ⟨(some 2), none, .alloc [(.int .i64 0), (.int .i64 0), (.int .i64 0), (.int .i64 0), (.int .i64 0), (.int .i64 0), (.bool false), (.int .i64 0), (.int .i64 0), (.bool false), (.int .i64 0), (.int .i64 0), (.int .i64 0), (.int .i64 0), .nils, .nils] 63⟩])
 (.seq (.ops [⟨(some 4), none, .faddr 0 (.t 1)⟩, ⟨(some 5), none, .load false 1 (.t 4)⟩, ⟨(some 6), none, .faddr 1 (.t 1)⟩, ⟨(some 7), none, .load false 1 (.t 6)⟩, ⟨(some 8), none, .faddr 2 (.t 1)⟩, ⟨(some 9), none, .load false 1 (.t 8)⟩, ⟨(some 10), none, .build [(.int .i64 0), (.int .i64 0), (.int .i64 0), (.int .i64 0), (.int .i64 0), (.int .i64 0), (.bool false), (.int .i64 0), (.int .i64 0), (.bool false), (.int .i64 0), (.int .i64 0), (.int .i64 0), (.int .i64 0), .nils, .nils] [(0, 1, (.t 5)), (1, 1, (.t 7)), (2, 1, (.t 9))]⟩, ⟨(some 3), none, .alloc [(.int .i64 0), (.int .i64 0), (.int .i64 0), (.int .i64 0), (.int .i64 0), (.int .i64 0), (.bool false), (.int .i64 0), (.int .i64 0), (.bool false), (.int .i64 0), (.int .i64 0), (.int .i64 0), (.int .i64 0), .nils, .nils] 63⟩, ⟨none, none, .store 16 (.t 3) (.t 10)⟩])
 (.seq (.seq (.ops [⟨(some 11), none, .faddr 0 (.t 1)⟩, ⟨(some 12), none, .load false 1 (.t 11)⟩])
 (.block 0 (.seq (.ops [⟨(some 17), none, .bin .eql (.t 12) (.c (.int .i64 5))⟩, ⟨(some 16), none, .mov (.t 17)⟩])
 (.cond (.t 16) (.seq (.ops [⟨(some 18), none, .faddr 7 (.t 1)⟩, ⟨(some 19), none, .load false 1 (.t 18)⟩, ⟨(some 20), none, .faddr 7 (.t 3)⟩, ⟨none, none, .store 1 (.t 20) (.t 19)⟩])
 (.ops [⟨(some 21), none, .faddr 10 (.t 1)⟩, ⟨(some 22), none, .load true 4 (.t 21)⟩, ⟨(some 23), none, .faddr 10 (.t 3)⟩, ⟨none, none, .store 4 (.t 23) (.t 22)⟩])) (.seq (.ops [⟨(some 25), none, .bin .eql (.t 12) (.c (.int .i64 6))⟩, ⟨(some 24), none, .mov (.t 25)⟩])
 (.cond (.t 24) (.seq (.ops [⟨(some 26), none, .faddr 7 (.t 1)⟩, ⟨(some 27), none, .load false 1 (.t 26)⟩, ⟨(some 28), none, .faddr 7 (.t 3)⟩, ⟨none, none, .store 1 (.t 28) (.t 27)⟩])
 (.seq (.ops [⟨(some 29), none, .faddr 10 (.t 1)⟩, ⟨(some 30), none, .load true 4 (.t 29)⟩, ⟨(some 31), none, .faddr 10 (.t 3)⟩, ⟨none, none, .store 4 (.t 31) (.t 30)⟩])
 (.seq (.ops [⟨(some 32), none, .faddr 8 (.t 1)⟩, ⟨(some 33), none, .load false 1 (.t 32)⟩, ⟨(some 34), none, .faddr 8 (.t 3)⟩, ⟨none, none, .store 1 (.t 34) (.t 33)⟩])
 (.seq (.ops [⟨(some 35), none, .faddr 9 (.t 1)⟩, ⟨(some 36), none, .load false 1 (.t 35)⟩, ⟨(some 37), none, .faddr 9 (.t 3)⟩, ⟨none, none, .store 1 (.t 37) (.t 36)⟩])
 (.ops [⟨(some 38), none, .faddr 15 (.t 1)⟩, ⟨(some 39), none, .load false 1 (.t 38)⟩, ⟨(some 40), none, .faddr 15 (.t 3)⟩, ⟨none, none, .store 1 (.t 40) (.t 39)⟩]))))) (.seq (.ops [⟨(some 42), none, .bin .eql (.t 12) (.c (.int .i64 0))⟩, ⟨(some 41), none, .mov (.t 42)⟩])
 (.cond (.t 41) (.seq (.ops [⟨(some 43), none, .faddr 3 (.t 1)⟩, ⟨(some 44), none, .load true 2 (.t 43)⟩, ⟨(some 45), none, .faddr 3 (.t 3)⟩, ⟨none, none, .store 2 (.t 45) (.t 44)⟩])
 (.seq (.ops [⟨(some 46), none, .faddr 5 (.t 1)⟩, ⟨(some 47), none, .load false 1 (.t 46)⟩, ⟨(some 48), none, .faddr 5 (.t 3)⟩, ⟨none, none, .store 1 (.t 48) (.t 47)⟩])
 (.ops [⟨(some 49), none, .faddr 14 (.t 1)⟩, ⟨(some 50), none, .load false 1 (.t 49)⟩, ⟨(some 51), none, .faddr 14 (.t 3)⟩, ⟨none, none, .store 1 (.t 51) (.t 50)⟩]))) (.seq (.seq (.ops [⟨(some 53), none, .bin .eql (.t 12) (.c (.int .i64 1))⟩, ⟨(some 52), none, .mov (.t 53)⟩])
 (.cond (.t 52) .skip (.ops [⟨(some 54), none, .bin .eql (.t 12) (.c (.int .i64 2))⟩, ⟨(some 52), none, .mov (.t 54)⟩])))
 (.cond (.t 52) (.seq (.ops [⟨(some 55), none, .faddr 3 (.t 1)⟩, ⟨(some 56), none, .load true 2 (.t 55)⟩, ⟨(some 57), none, .faddr 3 (.t 3)⟩, ⟨none, none, .store 2 (.t 57) (.t 56)⟩])
 (.ops [⟨(some 58), none, .faddr 6 (.t 1)⟩, ⟨(some 59), none, .load false 1 (.t 58)⟩, ⟨(some 60), none, .faddr 6 (.t 3)⟩, ⟨none, none, .store 1 (.t 60) (.t 59)⟩])) (.ops [⟨(some 13), none, .faddr 3 (.t 1)⟩, ⟨(some 14), none, .load true 2 (.t 13)⟩, ⟨(some 15), none, .faddr 3 (.t 3)⟩, ⟨none, none, .store 2 (.t 15) (.t 14)⟩])))))))))))
 (.seq (.ops [⟨(some 61), none, .load true 16 (.t 3)⟩, ⟨none, none, .store 16 (.t 2) (.t 61)⟩])
 .ret))))⟩
/-- furlong/furlongref1.PointMay -/
def v114 : VFun := ⟨1, [(.tmp 2)], (.seq (.ops [⟨(some 1), none, .box 48 (.t 0)⟩, ⟨(some 2), none, .mov (.c (.bool false))⟩])
 (.seq (.ops [⟨(some 3), none, .faddr 0 (.t 1)⟩, ⟨(some 4), none, .load false 1 (.t 3)⟩, ⟨(some 5), none, .bin .geq (.t 4) (.c (.int .i64 0))⟩, ⟨(some 6), none, .mov (.t 5)⟩, ⟨(some 7), (some (6, true)), .faddr 0 (.t 1)⟩, ⟨(some 8), (some (6, true)), .load false 1 (.t 7)⟩, ⟨(some 9), (some (6, true)), .bin .leq (.t 8) (.c (.int .i64 4294967295))⟩, ⟨(some 10), none, .pick (.t 6) (.t 9) (.c (.bool false))⟩, ⟨(some 11), none, .mov (.t 10)⟩, ⟨(some 12), (some (11, true)), .faddr 1 (.t 1)⟩, ⟨(some 13), (some (11, true)), .load false 1 (.t 12)⟩, ⟨(some 14), (some (11, true)), .bin .geq (.t 13) (.c (.int .i64 0))⟩, ⟨(some 15), none, .pick (.t 11) (.t 14) (.c (.bool false))⟩, ⟨(some 16), none, .mov (.t 15)⟩, ⟨(some 17), (some (16, true)), .faddr 1 (.t 1)⟩, ⟨(some 18), (some (16, true)), .load false 1 (.t 17)⟩, ⟨(some 19), (some (16, true)), .bin .leq (.t 18) (.c (.int .i64 4294967295))⟩, ⟨(some 20), none, .pick (.t 16) (.t 19) (.c (.bool false))⟩, ⟨(some 2), none, .mov (.t 20)⟩])
 .ret))⟩
def b115_0 : VCode := (.seq (.seq (.ops [⟨(some 35), none, .mov (.t 3)⟩, ⟨(some 36), none, .faddr 2 (.t 1)⟩, ⟨(some 37), none, .load false 1 (.t 36)⟩, ⟨(some 38), none, .bi (.len 1) [(.t 37)]⟩, ⟨(some 39), none, .bin .lss (.t 35) (.t 38)⟩])
 (.cond (.t 39) .skip (.exit 0)))
 (.seq (.block 1 (.seq (.drawn [⟨(some 42), none, .faddr 1 (.t 1)⟩, ⟨(some 43), none, .load false 1 (.t 42)⟩, ⟨(some 44), none, .faddr 2 (.t 1)⟩, ⟨(some 45), none, .load false 1 (.t 44)⟩, ⟨(some 46), none, .mov (.t 3)⟩, ⟨(some 47), none, .iaddr 1 none (.t 45) (.t 46)⟩, ⟨(some 48), none, .load false 1 (.t 47)⟩, ⟨(some 49), none, .call 123 [(.t 43), (.t 48)]⟩, ⟨(some 50), none, .un .not (.t 49)⟩] [])
 (.cond (.t 50) (.seq (.ops [⟨(some 2), none, .mov (.c (.bool false))⟩])
 .ret) .skip)))
 (.ops [⟨(some 40), none, .mov (.t 3)⟩, ⟨(some 41), none, .bin .add (.t 40) (.c (.int .i64 1))⟩, ⟨(some 3), none, .mov (.t 41)⟩])))
/-- furlong/furlongref1.ShapeMay -/
def v115 : VFun := ⟨1, [(.tmp 2)], (.seq (.ops [⟨(some 1), none, .box 52 (.t 0)⟩, ⟨(some 2), none, .mov (.c (.bool false))⟩])
 (.seq (.seq (.ops [⟨(some 4), none, .faddr 0 (.t 1)⟩, ⟨(some 5), none, .load false 1 (.t 4)⟩, ⟨(some 6), none, .bin .lss (.t 5) (.c (.int .i64 1))⟩, ⟨(some 7), none, .mov (.t 6)⟩, ⟨(some 8), (some (7, false)), .faddr 0 (.t 1)⟩, ⟨(some 9), (some (7, false)), .load false 1 (.t 8)⟩, ⟨(some 10), (some (7, false)), .bin .gtr (.t 9) (.c (.int .i64 65535))⟩, ⟨(some 11), none, .pick (.t 7) (.c (.bool true)) (.t 10)⟩, ⟨(some 12), none, .mov (.t 11)⟩, ⟨(some 13), (some (12, false)), .faddr 2 (.t 1)⟩, ⟨(some 14), (some (12, false)), .load false 1 (.t 13)⟩, ⟨(some 15), (some (12, false)), .bi (.len 1) [(.t 14)]⟩, ⟨(some 16), (some (12, false)), .bin .lss (.t 15) (.c (.int .i64 1))⟩, ⟨(some 17), none, .pick (.t 12) (.c (.bool true)) (.t 16)⟩, ⟨(some 18), none, .mov (.t 17)⟩, ⟨(some 19), (some (18, false)), .faddr 2 (.t 1)⟩, ⟨(some 20), (some (18, false)), .load false 1 (.t 19)⟩, ⟨(some 21), (some (18, false)), .bi (.len 1) [(.t 20)]⟩, ⟨(some 22), (some (18, false)), .bin .gtr (.t 21) (.c (.int .i64 4))⟩, ⟨(some 23), none, .pick (.t 18) (.c (.bool true)) (.t 22)⟩, ⟨(some 24), none, .mov (.t 23)⟩, ⟨(some 25), (some (24, false)), .faddr 1 (.t 1)⟩, ⟨(some 26), (some (24, false)), .load false 1 (.t 25)⟩, ⟨(some 27), (some (24, false)), .bin .neq (.t 26) (.c (.int .i64 2))⟩, ⟨(some 28), (some (24, false)), .mov (.t 27)⟩, ⟨(some 29), (some (28, true)), .faddr 2 (.t 1)⟩, ⟨(some 30), (some (28, true)), .load false 1 (.t 29)⟩, ⟨(some 31), (some (28, true)), .bi (.len 1) [(.t 30)]⟩, ⟨(some 32), (some (28, true)), .bin .neq (.t 31) (.c (.int .i64 1))⟩, ⟨(some 33), (some (24, false)), .pick (.t 28) (.t 32) (.c (.bool false))⟩, ⟨(some 34), none, .pick (.t 24) (.c (.bool true)) (.t 33)⟩])
 (.cond (.t 34) (.seq (.ops [⟨(some 2), none, .mov (.c (.bool false))⟩])
 .ret) .skip))
 (.seq (.seq (.ops [⟨(some 3), none, .mov (.c (.int .i64 0))⟩])
 (.block 0 (.loop b115_0)))
 (.seq (.ops [⟨(some 2), none, .mov (.c (.bool true))⟩])
 .ret))))⟩
/-- slices.Clone[[]furlong/api.Op,furlong/api.Op] -/
def v116 : VFun := ⟨1, [(.tmp 2)], (.seq (.ops [⟨(some 2), none, .mov (.c .nils)⟩])
 (.seq (.seq (.ops [⟨(some 3), none, .mov (.t 0)⟩, ⟨(some 4), none, .eqs .sl false (.t 3) (.c .nils)⟩])
 (.cond (.t 4) (.seq (.ops [⟨(some 2), none, .mov (.c .nils)⟩])
 .ret) .skip))
 (.seq (.ops [⟨(some 5), none, .bslice [(.int .i64 0), (.int .i64 0), (.int .i64 0), .nils, (.int .i64 0), (.int .i64 0), .nils, .nils] 54 0 []⟩, ⟨(some 6), none, .mov (.t 0)⟩, ⟨(some 7), none, .bi (.append 8 112 54) [(.t 5), (.t 6)]⟩, ⟨(some 2), none, .mov (.t 7)⟩])
 .ret)))⟩
def b117_0 : VCode := (.seq (.ops [⟨(some 14), none, .bin .lss (.t 13) (.t 12)⟩])
 (.seq (.cond (.t 14) .skip (.exit 0))
 (.seq (.block 1 (.seq (.ops [⟨(some 15), none, .mov (.t 13)⟩, ⟨(some 16), none, .iaddr 1 none (.t 11) (.t 13)⟩, ⟨(some 17), none, .load false 1 (.t 16)⟩, ⟨(some 4), none, .mov (.t 15)⟩, ⟨(some 5), none, .mov (.t 17)⟩])
 (.ops [⟨(some 18), none, .mov (.t 3)⟩, ⟨(some 19), none, .mov (.t 4)⟩, ⟨(some 20), none, .mov (.t 5)⟩, ⟨(some 21), none, .call 124 [(.t 20)]⟩, ⟨(some 22), none, .iaddr 1 none (.t 18) (.t 19)⟩, ⟨none, none, .store 1 (.t 22) (.t 21)⟩])))
 (.ops [⟨(some 23), none, .bin .add (.t 13) (.c (.int .i64 1))⟩, ⟨(some 13), none, .mov (.t 23)⟩]))))
/-- furlong/shape.Copy -/
def v117 : VFun := ⟨1, [(.cell 2 true 3)], (.seq (.ops [⟨(some 1), none, .box 52 (.t 0)⟩, ⟨(some 2), none, .alloc [(.int .i64 0), (.int .i64 0), .nils] 52⟩])
 (.seq (.ops [⟨(some 6), none, .faddr 2 (.t 1)⟩, ⟨(some 7), none, .load false 1 (.t 6)⟩, ⟨(some 8), none, .bi (.len 1) [(.t 7)]⟩, ⟨(some 9), none, .mkslice [.nils] 49 24 (.t 8) (.t 8)⟩, ⟨(some 3), none, .mov (.t 9)⟩])
 (.seq (.seq (.ops [⟨(some 10), none, .faddr 2 (.t 1)⟩, ⟨(some 11), none, .load false 1 (.t 10)⟩, ⟨(some 12), none, .bi (.len 1) [(.t 11)]⟩, ⟨(some 13), none, .mov (.c (.int .i64 0))⟩])
 (.block 0 (.loop b117_0)))
 (.seq (.ops [⟨(some 24), none, .mov (.t 3)⟩, ⟨(some 25), none, .faddr 2 (.t 1)⟩, ⟨none, none, .store 1 (.t 25) (.t 24)⟩])
 (.seq (.ops [⟨(some 26), none, .load true 3 (.t 1)⟩, ⟨none, none, .store 3 (.t 2) (.t 26)⟩])
 .ret)))))⟩
/-- furlong/smap.Copy -/
def v118 : VFun := ⟨1, [(.cell 2 true 3)], (.seq (.ops [⟨(some 1), none, .box 26 (.t 0)⟩, ⟨(some 2), none, .alloc [(.int .i64 0), .nils, .nils] 26⟩])
 (.seq (.drawn [⟨(some 3), none, .faddr 1 (.t 1)⟩, ⟨(some 4), none, .load false 1 (.t 3)⟩, ⟨(some 5), none, .call 125 [(.t 4)]⟩, ⟨(some 6), none, .faddr 2 (.t 1)⟩, ⟨(some 7), none, .load false 1 (.t 6)⟩, ⟨(some 8), none, .call 125 [(.t 7)]⟩, ⟨(some 9), none, .faddr 1 (.t 1)⟩, ⟨none, none, .store 1 (.t 9) (.t 5)⟩, ⟨(some 10), none, .faddr 2 (.t 1)⟩, ⟨none, none, .store 1 (.t 10) (.t 8)⟩] [(4, [0])])
 (.seq (.ops [⟨(some 11), none, .load true 3 (.t 1)⟩, ⟨none, none, .store 3 (.t 2) (.t 11)⟩])
 .ret)))⟩
/-- furlong/shape.May -/
def v119 : VFun := ⟨1, [(.tmp 2)], (.seq (.ops [⟨(some 1), none, .box 52 (.t 0)⟩, ⟨(some 2), none, .mov (.c (.bool false))⟩])
 (.seq (.seq (.ops [⟨(some 3), none, .faddr 0 (.t 1)⟩, ⟨(some 4), none, .load false 1 (.t 3)⟩, ⟨(some 5), none, .bin .lss (.t 4) (.c (.int .i64 1))⟩, ⟨(some 6), none, .mov (.t 5)⟩, ⟨(some 7), (some (6, false)), .faddr 0 (.t 1)⟩, ⟨(some 8), (some (6, false)), .load false 1 (.t 7)⟩, ⟨(some 9), (some (6, false)), .bin .gtr (.t 8) (.c (.int .i64 65535))⟩, ⟨(some 10), none, .pick (.t 6) (.c (.bool true)) (.t 9)⟩, ⟨(some 11), none, .mov (.t 10)⟩, ⟨(some 12), (some (11, false)), .faddr 2 (.t 1)⟩, ⟨(some 13), (some (11, false)), .load false 1 (.t 12)⟩, ⟨(some 14), (some (11, false)), .bi (.len 1) [(.t 13)]⟩, ⟨(some 15), (some (11, false)), .bin .lss (.t 14) (.c (.int .i64 1))⟩, ⟨(some 16), none, .pick (.t 11) (.c (.bool true)) (.t 15)⟩, ⟨(some 17), none, .mov (.t 16)⟩, ⟨(some 18), (some (17, false)), .faddr 2 (.t 1)⟩, ⟨(some 19), (some (17, false)), .load false 1 (.t 18)⟩, ⟨(some 20), (some (17, false)), .bi (.len 1) [(.t 19)]⟩, ⟨(some 21), (some (17, false)), .bin .gtr (.t 20) (.c (.int .i64 4))⟩, ⟨(some 22), none, .pick (.t 17) (.c (.bool true)) (.t 21)⟩])
 (.cond (.t 22) (.seq (.ops [⟨(some 2), none, .mov (.c (.bool false))⟩])
 .ret) .skip))
 (.seq (.seq (.ops [⟨(some 23), none, .faddr 1 (.t 1)⟩, ⟨(some 24), none, .load false 1 (.t 23)⟩])
 (.block 0 (.seq (.ops [⟨(some 26), none, .bin .eql (.t 24) (.c (.int .i64 0))⟩, ⟨(some 25), none, .mov (.t 26)⟩])
 (.cond (.t 25) (.seq (.ops [⟨(some 27), none, .faddr 2 (.t 1)⟩, ⟨(some 28), none, .load false 1 (.t 27)⟩, ⟨(some 29), none, .bi (.len 1) [(.t 28)]⟩, ⟨(some 30), none, .bin .eql (.t 29) (.c (.int .i64 1))⟩, ⟨(some 31), none, .mov (.t 30)⟩, ⟨(some 32), (some (31, true)), .faddr 2 (.t 1)⟩, ⟨(some 33), (some (31, true)), .load false 1 (.t 32)⟩, ⟨(some 34), (some (31, true)), .iaddr 1 none (.t 33) (.c (.int .i64 0))⟩, ⟨(some 35), (some (31, true)), .load false 1 (.t 34)⟩, ⟨(some 36), (some (31, true)), .bi (.len 1) [(.t 35)]⟩, ⟨(some 37), (some (31, true)), .bin .eql (.t 36) (.c (.int .i64 1))⟩, ⟨(some 38), none, .pick (.t 31) (.t 37) (.c (.bool false))⟩, ⟨(some 39), none, .mov (.t 38)⟩, ⟨(some 40), (some (39, true)), .faddr 2 (.t 1)⟩, ⟨(some 41), (some (39, true)), .load false 1 (.t 40)⟩, ⟨(some 42), (some (39, true)), .iaddr 1 none (.t 41) (.c (.int .i64 0))⟩, ⟨(some 43), (some (39, true)), .load false 1 (.t 42)⟩, ⟨(some 44), (some (39, true)), .iaddr 2 none (.t 43) (.c (.int .i64 0))⟩, ⟨(some 45), (some (39, true)), .load true 2 (.t 44)⟩, ⟨(some 46), (some (39, true)), .call 126 [(.t 45)]⟩, ⟨(some 47), none, .pick (.t 39) (.t 46) (.c (.bool false))⟩, ⟨(some 2), none, .mov (.t 47)⟩])
 .ret) (.seq (.ops [⟨(some 49), none, .bin .eql (.t 24) (.c (.int .i64 1))⟩, ⟨(some 48), none, .mov (.t 49)⟩])
 (.cond (.t 48) (.seq (.ops [⟨(some 50), none, .faddr 2 (.t 1)⟩, ⟨(some 51), none, .load false 1 (.t 50)⟩, ⟨(some 52), none, .bi (.len 1) [(.t 51)]⟩, ⟨(some 53), none, .bin .eql (.t 52) (.c (.int .i64 1))⟩, ⟨(some 54), none, .mov (.t 53)⟩, ⟨(some 55), (some (54, true)), .faddr 2 (.t 1)⟩, ⟨(some 56), (some (54, true)), .load false 1 (.t 55)⟩, ⟨(some 57), (some (54, true)), .iaddr 1 none (.t 56) (.c (.int .i64 0))⟩, ⟨(some 58), (some (54, true)), .load false 1 (.t 57)⟩, ⟨(some 59), (some (54, true)), .call 127 [(.t 58), (.c (.int .i64 2)), (.c (.bool false))]⟩, ⟨(some 60), none, .pick (.t 54) (.t 59) (.c (.bool false))⟩, ⟨(some 2), none, .mov (.t 60)⟩])
 .ret) (.seq (.ops [⟨(some 62), none, .bin .eql (.t 24) (.c (.int .i64 2))⟩, ⟨(some 61), none, .mov (.t 62)⟩])
 (.cond (.t 61) (.seq (.ops [⟨(some 63), none, .faddr 2 (.t 1)⟩, ⟨(some 64), none, .load false 1 (.t 63)⟩, ⟨(some 65), none, .call 128 [(.t 64), (.c (.fn 129 []))]⟩, ⟨(some 66), none, .un .not (.t 65)⟩, ⟨(some 2), none, .mov (.t 66)⟩])
 .ret) .skip))))))))
 (.seq (.ops [⟨(some 2), none, .mov (.c (.bool false))⟩])
 .ret))))⟩
/-- furlong/rec.noFeature -/
def v120 : VFun := ⟨1, [(.tmp 2)], (.seq (.ops [⟨(some 2), none, .mov (.c (.bool false))⟩])
 (.seq (.ops [⟨(some 3), none, .mov (.t 0)⟩, ⟨(some 4), none, .nilck (.t 3)⟩, ⟨(some 5), none, .faddr 0 (.t 4)⟩, ⟨(some 6), none, .load false 1 (.t 5)⟩, ⟨(some 7), none, .bin .eql (.t 6) (.c (.int .i64 0))⟩, ⟨(some 8), none, .mov (.t 7)⟩, ⟨(some 9), (some (8, true)), .mov (.t 0)⟩, ⟨(some 10), (some (8, true)), .nilck (.t 9)⟩, ⟨(some 11), (some (8, true)), .faddr 1 (.t 10)⟩, ⟨(some 12), (some (8, true)), .load false 1 (.t 11)⟩, ⟨(some 13), (some (8, true)), .bin .eql (.t 12) (.c (.int .i64 0))⟩, ⟨(some 14), none, .pick (.t 8) (.t 13) (.c (.bool false))⟩, ⟨(some 15), none, .mov (.t 14)⟩, ⟨(some 16), (some (15, true)), .mov (.t 0)⟩, ⟨(some 17), (some (15, true)), .nilck (.t 16)⟩, ⟨(some 18), (some (15, true)), .faddr 2 (.t 17)⟩, ⟨(some 19), (some (15, true)), .load false 1 (.t 18)⟩, ⟨(some 20), (some (15, true)), .bi (.len 1) [(.t 19)]⟩, ⟨(some 21), (some (15, true)), .bin .eql (.t 20) (.c (.int .i64 0))⟩, ⟨(some 22), none, .pick (.t 15) (.t 21) (.c (.bool false))⟩, ⟨(some 2), none, .mov (.t 22)⟩])
 .ret))⟩
/-- furlong/furlongref8.zeroFeature -/
def v121 : VFun := ⟨1, [(.tmp 2)], (.seq (.ops [⟨(some 1), none, .box 52 (.t 0)⟩, ⟨(some 2), none, .mov (.c (.bool false))⟩])
 (.seq (.ops [⟨(some 3), none, .faddr 0 (.t 1)⟩, ⟨(some 4), none, .load false 1 (.t 3)⟩, ⟨(some 5), none, .bin .eql (.t 4) (.c (.int .i64 0))⟩, ⟨(some 6), none, .mov (.t 5)⟩, ⟨(some 7), (some (6, true)), .faddr 1 (.t 1)⟩, ⟨(some 8), (some (6, true)), .load false 1 (.t 7)⟩, ⟨(some 9), (some (6, true)), .bin .eql (.t 8) (.c (.int .i64 0))⟩, ⟨(some 10), none, .pick (.t 6) (.t 9) (.c (.bool false))⟩, ⟨(some 11), none, .mov (.t 10)⟩, ⟨(some 12), (some (11, true)), .faddr 2 (.t 1)⟩, ⟨(some 13), (some (11, true)), .load false 1 (.t 12)⟩, ⟨(some 14), (some (11, true)), .bi (.len 1) [(.t 13)]⟩, ⟨(some 15), (some (11, true)), .bin .eql (.t 14) (.c (.int .i64 0))⟩, ⟨(some 16), none, .pick (.t 11) (.t 15) (.c (.bool false))⟩, ⟨(some 2), none, .mov (.t 16)⟩])
 .ret))⟩
/-- furlong/geom.coord -/
def v122 : VFun := ⟨1, [(.tmp 2)], (.seq (.ops [⟨(some 2), none, .mov (.c (.bool false))⟩])
 (.seq (.ops [⟨(some 3), none, .mov (.t 0)⟩, ⟨(some 4), none, .bin .geq (.t 3) (.c (.int .i64 0))⟩, ⟨(some 5), none, .mov (.t 4)⟩, ⟨(some 6), (some (5, true)), .mov (.t 0)⟩, ⟨(some 7), (some (5, true)), .bin .leq (.t 6) (.c (.int .i64 4294967295))⟩, ⟨(some 8), none, .pick (.t 5) (.t 7) (.c (.bool false))⟩, ⟨(some 2), none, .mov (.t 8)⟩])
 .ret))⟩
def b123_0 : VCode := (.seq (.seq (.ops [⟨(some 9), none, .mov (.t 5)⟩, ⟨(some 10), none, .mov (.t 1)⟩, ⟨(some 11), none, .bi (.len 1) [(.t 10)]⟩, ⟨(some 12), none, .bin .lss (.t 9) (.t 11)⟩])
 (.cond (.t 12) .skip (.exit 0)))
 (.seq (.block 1 (.seq (.drawn [⟨(some 15), none, .mov (.t 1)⟩, ⟨(some 16), none, .mov (.t 5)⟩, ⟨(some 17), none, .iaddr 2 none (.t 15) (.t 16)⟩, ⟨(some 18), none, .load true 2 (.t 17)⟩, ⟨(some 19), none, .call 114 [(.t 18)]⟩, ⟨(some 20), none, .un .not (.t 19)⟩, ⟨(some 21), none, .mov (.t 20)⟩, ⟨(some 22), (some (21, false)), .mov (.t 5)⟩, ⟨(some 23), (some (21, false)), .bin .gtr (.t 22) (.c (.int .i64 0))⟩, ⟨(some 24), (some (21, false)), .mov (.t 23)⟩, ⟨(some 25), (some (24, true)), .mov (.t 1)⟩, ⟨(some 26), (some (24, true)), .mov (.t 5)⟩, ⟨(some 27), (some (24, true)), .iaddr 2 none (.t 25) (.t 26)⟩, ⟨(some 28), (some (24, true)), .load true 2 (.t 27)⟩, ⟨(some 29), (some (24, true)), .mov (.t 1)⟩, ⟨(some 30), (some (24, true)), .mov (.t 5)⟩, ⟨(some 31), (some (24, true)), .bin .sub (.t 30) (.c (.int .i64 1))⟩, ⟨(some 32), (some (24, true)), .iaddr 2 none (.t 29) (.t 31)⟩, ⟨(some 33), (some (24, true)), .load true 2 (.t 32)⟩, ⟨(some 34), (some (24, true)), .eqs (.flat [.int, .int]) false (.t 28) (.t 33)⟩, ⟨(some 35), (some (21, false)), .pick (.t 24) (.t 34) (.c (.bool false))⟩, ⟨(some 36), none, .pick (.t 21) (.c (.bool true)) (.t 35)⟩] [])
 (.cond (.t 36) (.seq (.ops [⟨(some 4), none, .mov (.c (.bool false))⟩])
 .ret) .skip)))
 (.ops [⟨(some 13), none, .mov (.t 5)⟩, ⟨(some 14), none, .bin .add (.t 13) (.c (.int .i64 1))⟩, ⟨(some 5), none, .mov (.t 14)⟩])))
/-- furlong/furlongref1.ringMay -/
def v123 : VFun := ⟨2, [(.tmp 4)], (.seq (.ops [⟨(some 4), none, .mov (.c (.bool false))⟩])
 (.seq (.seq (.ops [⟨(some 6), none, .mov (.t 1)⟩, ⟨(some 7), none, .bi (.len 1) [(.t 6)]⟩, ⟨(some 8), none, .bin .gtr (.t 7) (.c (.int .i64 16))⟩])
 (.cond (.t 8) (.seq (.ops [⟨(some 4), none, .mov (.c (.bool false))⟩])
 .ret) .skip))
 (.seq (.seq (.ops [⟨(some 5), none, .mov (.c (.int .i64 0))⟩])
 (.block 0 (.loop b123_0)))
 (.seq (.seq (.ops [⟨(some 37), none, .mov (.t 0)⟩])
 (.block 2 (.seq (.ops [⟨(some 39), none, .bin .eql (.t 37) (.c (.int .i64 0))⟩, ⟨(some 38), none, .mov (.t 39)⟩])
 (.cond (.t 38) (.seq (.ops [⟨(some 40), none, .mov (.t 1)⟩, ⟨(some 41), none, .bi (.len 1) [(.t 40)]⟩, ⟨(some 42), none, .bin .eql (.t 41) (.c (.int .i64 1))⟩, ⟨(some 4), none, .mov (.t 42)⟩])
 .ret) (.seq (.ops [⟨(some 44), none, .bin .eql (.t 37) (.c (.int .i64 1))⟩, ⟨(some 43), none, .mov (.t 44)⟩])
 (.cond (.t 43) (.seq (.ops [⟨(some 45), none, .mov (.t 1)⟩, ⟨(some 46), none, .bi (.len 1) [(.t 45)]⟩, ⟨(some 47), none, .bin .geq (.t 46) (.c (.int .i64 2))⟩, ⟨(some 4), none, .mov (.t 47)⟩])
 .ret) (.seq (.ops [⟨(some 49), none, .bin .eql (.t 37) (.c (.int .i64 2))⟩, ⟨(some 48), none, .mov (.t 49)⟩])
 (.cond (.t 48) (.seq (.drawn [⟨(some 50), none, .mov (.t 1)⟩, ⟨(some 51), none, .bi (.len 1) [(.t 50)]⟩, ⟨(some 52), none, .bin .geq (.t 51) (.c (.int .i64 3))⟩, ⟨(some 53), none, .mov (.t 52)⟩, ⟨(some 54), (some (53, true)), .mov (.t 1)⟩, ⟨(some 55), (some (53, true)), .iaddr 2 none (.t 54) (.c (.int .i64 0))⟩, ⟨(some 56), (some (53, true)), .load true 2 (.t 55)⟩, ⟨(some 57), (some (53, true)), .mov (.t 1)⟩, ⟨(some 58), (some (53, true)), .mov (.t 1)⟩, ⟨(some 59), (some (53, true)), .bi (.len 1) [(.t 58)]⟩, ⟨(some 60), (some (53, true)), .bin .sub (.t 59) (.c (.int .i64 1))⟩, ⟨(some 61), (some (53, true)), .iaddr 2 none (.t 57) (.t 60)⟩, ⟨(some 62), (some (53, true)), .load true 2 (.t 61)⟩, ⟨(some 63), (some (53, true)), .eqs (.flat [.int, .int]) true (.t 56) (.t 62)⟩, ⟨(some 64), none, .pick (.t 53) (.t 63) (.c (.bool false))⟩, ⟨(some 4), none, .mov (.t 64)⟩] [])
 .ret) .skip))))))))
 (.seq (.ops [⟨(some 4), none, .mov (.c (.bool false))⟩])
 .ret)))))⟩
/-- slices.Clone[[]furlong/api.Point,furlong/api.Point] -/
def v124 : VFun := ⟨1, [(.tmp 2)], (.seq (.ops [⟨(some 2), none, .mov (.c .nils)⟩])
 (.seq (.seq (.ops [⟨(some 3), none, .mov (.t 0)⟩, ⟨(some 4), none, .eqs .sl false (.t 3) (.c .nils)⟩])
 (.cond (.t 4) (.seq (.ops [⟨(some 2), none, .mov (.c .nils)⟩])
 .ret) .skip))
 (.seq (.ops [⟨(some 5), none, .bslice [(.int .i64 0), (.int .i64 0)] 48 0 []⟩, ⟨(some 6), none, .mov (.t 0)⟩, ⟨(some 7), none, .bi (.append 2 16 48) [(.t 5), (.t 6)]⟩, ⟨(some 2), none, .mov (.t 7)⟩])
 .ret)))⟩
/-- slices.Clone[[]int,int] -/
def v125 : VFun := ⟨1, [(.tmp 2)], (.seq (.ops [⟨(some 2), none, .mov (.c .nils)⟩])
 (.seq (.seq (.ops [⟨(some 3), none, .mov (.t 0)⟩, ⟨(some 4), none, .eqs .sl false (.t 3) (.c .nils)⟩])
 (.cond (.t 4) (.seq (.ops [⟨(some 2), none, .mov (.c .nils)⟩])
 .ret) .skip))
 (.seq (.ops [⟨(some 5), none, .bslice [(.int .i64 0)] 3 0 []⟩, ⟨(some 6), none, .mov (.t 0)⟩, ⟨(some 7), none, .bi (.append 1 8 3) [(.t 5), (.t 6)]⟩, ⟨(some 2), none, .mov (.t 7)⟩])
 .ret)))⟩
/-- furlong/geom.PointMay -/
def v126 : VFun := ⟨1, [(.tmp 2)], (.seq (.ops [⟨(some 1), none, .box 48 (.t 0)⟩, ⟨(some 2), none, .mov (.c (.bool false))⟩])
 (.seq (.ops [⟨(some 3), none, .faddr 0 (.t 1)⟩, ⟨(some 4), none, .load false 1 (.t 3)⟩, ⟨(some 5), none, .call 122 [(.t 4)]⟩, ⟨(some 6), none, .mov (.t 5)⟩, ⟨(some 7), (some (6, true)), .faddr 1 (.t 1)⟩, ⟨(some 8), (some (6, true)), .load false 1 (.t 7)⟩, ⟨(some 9), (some (6, true)), .call 122 [(.t 8)]⟩, ⟨(some 10), none, .pick (.t 6) (.t 9) (.c (.bool false))⟩, ⟨(some 2), none, .mov (.t 10)⟩])
 .ret))⟩
def b127_0 : VCode := (.seq (.ops [⟨(some 22), none, .bin .lss (.t 21) (.t 20)⟩])
 (.seq (.cond (.t 22) .skip (.exit 0))
 (.seq (.block 1 (.seq (.ops [⟨(some 23), none, .mov (.t 21)⟩, ⟨(some 24), none, .iaddr 2 none (.t 19) (.t 21)⟩, ⟨(some 25), none, .load true 2 (.t 24)⟩, ⟨(some 8), none, .alloc [(.int .i64 0), (.int .i64 0)] 48⟩, ⟨(some 7), none, .mov (.t 23)⟩, ⟨none, none, .store 2 (.t 8) (.t 25)⟩])
 (.seq (.ops [⟨(some 26), none, .mov (.t 7)⟩, ⟨(some 27), none, .bin .add (.t 26) (.c (.int .i64 1))⟩, ⟨(some 9), none, .mov (.t 27)⟩])
 (.seq (.seq (.ops [⟨(some 28), none, .mov (.t 9)⟩, ⟨(some 29), none, .mov (.t 0)⟩, ⟨(some 30), none, .bi (.len 1) [(.t 29)]⟩, ⟨(some 31), none, .bin .eql (.t 28) (.t 30)⟩])
 (.cond (.t 31) (.ops [⟨(some 9), none, .mov (.c (.int .i64 0))⟩]) .skip))
 (.seq (.drawn [⟨(some 32), none, .load true 2 (.t 8)⟩, ⟨(some 33), none, .call 126 [(.t 32)]⟩, ⟨(some 34), none, .un .not (.t 33)⟩, ⟨(some 35), none, .mov (.t 34)⟩, ⟨(some 36), (some (35, false)), .mov (.t 9)⟩, ⟨(some 37), (some (35, false)), .bin .gtr (.t 36) (.c (.int .i64 0))⟩, ⟨(some 38), (some (35, false)), .mov (.t 37)⟩, ⟨(some 39), (some (38, false)), .mov (.t 2)⟩, ⟨(some 40), (some (35, false)), .pick (.t 38) (.c (.bool true)) (.t 39)⟩, ⟨(some 41), (some (35, false)), .mov (.t 40)⟩, ⟨(some 42), (some (41, true)), .load true 2 (.t 8)⟩, ⟨(some 43), (some (41, true)), .mov (.t 0)⟩, ⟨(some 44), (some (41, true)), .mov (.t 9)⟩, ⟨(some 45), (some (41, true)), .iaddr 2 none (.t 43) (.t 44)⟩, ⟨(some 46), (some (41, true)), .load true 2 (.t 45)⟩, ⟨(some 47), (some (41, true)), .eqs (.flat [.int, .int]) false (.t 42) (.t 46)⟩, ⟨(some 48), (some (35, false)), .pick (.t 41) (.t 47) (.c (.bool false))⟩, ⟨(some 49), none, .pick (.t 35) (.c (.bool true)) (.t 48)⟩] [])
 (.cond (.t 49) (.seq (.ops [⟨(some 6), none, .mov (.c (.bool false))⟩])
 .ret) .skip))))))
 (.ops [⟨(some 50), none, .bin .add (.t 21) (.c (.int .i64 1))⟩, ⟨(some 21), none, .mov (.t 50)⟩]))))
/-- furlong/shape.ring -/
def v127 : VFun := ⟨3, [(.tmp 6)], (.seq (.ops [⟨(some 6), none, .mov (.c (.bool false))⟩])
 (.seq (.seq (.ops [⟨(some 10), none, .mov (.t 0)⟩, ⟨(some 11), none, .bi (.len 1) [(.t 10)]⟩, ⟨(some 12), none, .mov (.t 1)⟩, ⟨(some 13), none, .bin .lss (.t 11) (.t 12)⟩, ⟨(some 14), none, .mov (.t 13)⟩, ⟨(some 15), (some (14, false)), .mov (.t 0)⟩, ⟨(some 16), (some (14, false)), .bi (.len 1) [(.t 15)]⟩, ⟨(some 17), (some (14, false)), .bin .gtr (.t 16) (.c (.int .i64 16))⟩, ⟨(some 18), none, .pick (.t 14) (.c (.bool true)) (.t 17)⟩])
 (.cond (.t 18) (.seq (.ops [⟨(some 6), none, .mov (.c (.bool false))⟩])
 .ret) .skip))
 (.seq (.seq (.ops [⟨(some 19), none, .mov (.t 0)⟩, ⟨(some 20), none, .bi (.len 1) [(.t 19)]⟩, ⟨(some 21), none, .mov (.c (.int .i64 0))⟩])
 (.block 0 (.loop b127_0)))
 (.seq (.ops [⟨(some 6), none, .mov (.c (.bool true))⟩])
 .ret))))⟩
/-- slices.ContainsFunc[[][]furlong/api.Point,[]furlong/api.Point] -/
def v128 : VFun := ⟨2, [(.tmp 4)], (.seq (.ops [⟨(some 4), none, .mov (.c (.bool false))⟩])
 (.seq (.ops [⟨(some 5), none, .mov (.t 0)⟩, ⟨(some 6), none, .mov (.t 1)⟩, ⟨(some 7), none, .call 130 [(.t 5), (.t 6)]⟩, ⟨(some 8), none, .bin .geq (.t 7) (.c (.int .i64 0))⟩, ⟨(some 4), none, .mov (.t 8)⟩])
 .ret))⟩
/-- furlong/shape.May$1 -/
def v129 : VFun := ⟨1, [(.tmp 2)], (.seq (.ops [⟨(some 2), none, .mov (.c (.bool false))⟩])
 (.seq (.ops [⟨(some 3), none, .mov (.t 0)⟩, ⟨(some 4), none, .call 127 [(.t 3), (.c (.int .i64 3)), (.c (.bool true))]⟩, ⟨(some 5), none, .un .not (.t 4)⟩, ⟨(some 2), none, .mov (.t 5)⟩])
 .ret))⟩
def b130_0 : VCode := (.seq (.ops [⟨(some 9), none, .bin .lss (.t 8) (.t 7)⟩])
 (.seq (.cond (.t 9) .skip (.exit 0))
 (.seq (.block 1 (.seq (.ops [⟨(some 10), none, .mov (.t 8)⟩, ⟨(some 5), none, .mov (.t 10)⟩])
 (.seq (.ops [⟨(some 11), none, .mov (.t 1)⟩, ⟨(some 12), none, .mov (.t 0)⟩, ⟨(some 13), none, .mov (.t 5)⟩, ⟨(some 14), none, .iaddr 1 none (.t 12) (.t 13)⟩, ⟨(some 15), none, .load false 1 (.t 14)⟩, ⟨(some 16), none, .callv (.t 11) [(.t 15)]⟩])
 (.cond (.t 16) (.seq (.ops [⟨(some 17), none, .mov (.t 5)⟩, ⟨(some 4), none, .mov (.t 17)⟩])
 .ret) .skip))))
 (.ops [⟨(some 18), none, .bin .add (.t 8) (.c (.int .i64 1))⟩, ⟨(some 8), none, .mov (.t 18)⟩]))))
/-- slices.IndexFunc[[][]furlong/api.Point,[]furlong/api.Point] -/
def v130 : VFun := ⟨2, [(.tmp 4)], (.seq (.ops [⟨(some 4), none, .mov (.c (.int .i64 0))⟩])
 (.seq (.seq (.ops [⟨(some 6), none, .mov (.t 0)⟩, ⟨(some 7), none, .bi (.len 1) [(.t 6)]⟩, ⟨(some 8), none, .mov (.c (.int .i64 0))⟩])
 (.block 0 (.loop b130_0)))
 (.seq (.ops [⟨(some 4), none, .mov (.c (.int .i64 (-1)))⟩])
 .ret)))⟩
def tab : Nat → Option VFun := tableOf [(10, v10), (13, v13), (14, v14), (19, v19), (21, v21), (22, v22), (25, v25), (26, v26), (29, v29), (30, v30), (32, v32), (33, v33), (34, v34), (35, v35), (36, v36), (37, v37), (38, v38), (39, v39), (40, v40), (41, v41), (42, v42), (43, v43), (44, v44), (46, v46), (47, v47), (48, v48), (49, v49), (50, v50), (52, v52), (53, v53), (54, v54), (55, v55), (56, v56), (67, v67), (68, v68), (69, v69), (70, v70), (71, v71), (72, v72), (73, v73), (74, v74), (75, v75), (76, v76), (77, v77), (81, v81), (82, v82), (83, v83), (84, v84), (85, v85), (86, v86), (87, v87), (88, v88), (89, v89), (90, v90), (91, v91), (92, v92), (93, v93), (94, v94), (96, v96), (97, v97), (98, v98), (99, v99), (100, v100), (101, v101), (102, v102), (103, v103), (104, v104), (105, v105), (106, v106), (107, v107), (108, v108), (109, v109), (110, v110), (111, v111), (112, v112), (113, v113), (114, v114), (115, v115), (116, v116), (117, v117), (118, v118), (119, v119), (120, v120), (121, v121), (122, v122), (123, v123), (124, v124), (125, v125), (126, v126), (127, v127), (128, v128), (129, v129), (130, v130)]
end Go.Proofs.Ytinonmcnofjeeaa.VM
namespace Go.Proofs.Ytinonmcnofjeeaa.VM
open Go.RowKit
section
variable {φ φ' : Env} {w : World}
mutual
theorem VR.down (hx : ∀ b p, φ b = some p → φ' b = some p) : ∀ {x : AV} {u : Value}, x.told = true → VR φ' w x u → VR φ w x u
  | _, _, _, .undef => .undef
  | _, _, _, .bool b => .bool b
  | _, _, _, .int k n => .int k n
  | _, _, _, .str s => .str s
  | _, _, e, .ptr _ => by simp [AV.told] at e
  | _, _, _, .nilp => .nilp
  | _, _, e, .sl .. => by simp [AV.told] at e
  | _, _, e, .sl0 _ => by simp [AV.told] at e
  | _, _, _, .nils => .nils
  | _, _, e, .map _ => by simp [AV.told] at e
  | _, _, _, .nilm => .nilm
  | _, _, e, .fn hf h => .fn hf (VRs.down hx (by simpa [AV.told] using e) h)
  | _, _, _, .nilf => .nilf
  | _, _, e, .agg h => .agg (VRs.down hx (by simpa [AV.told] using e) h)
  | _, _, e, .tup h => .tup (VRs.down hx (by simpa [AV.told] using e) h)
  | _, _, e, .rs hl hB hlt h => .rs hl (fun b p hb => hB b p (hx b p hb)) hlt (VRm.down hx (by simpa [AV.told] using e) h)
  | _, _, _, .rs0 a c => .rs0 a c
  | _, _, e, .yld _ => by simp [AV.told] at e
  | _, _, e, .rp hB hlt h => .rp (fun b p hb => hB b p (hx b p hb)) hlt (VRm.down hx (by simpa [AV.told] using e) h)
theorem VRs.down (hx : ∀ b p, φ b = some p → φ' b = some p) : ∀ {x : List AV} {u : List Value}, AV.tolds x = true → VRs φ' w x u → VRs φ w x u
  | _, _, _, .nil => .nil
  | _, _, e, .cons h t => by
    simp only [AV.tolds, Bool.and_eq_true] at e
    exact .cons (VR.down hx e.1 h) (VRs.down hx e.2 t)
theorem VRm.down (hx : ∀ b p, φ b = some p → φ' b = some p) : ∀ {x : List AV} {B o : Nat}, AV.tolds x = true → VRm φ' w x B o → VRm φ w x B o
  | _, _, _, _, .nil => .nil
  | _, _, _, e, .cons hc h t => by
    simp only [AV.tolds, Bool.and_eq_true] at e
    exact .cons hc (VR.down hx e.1 h) (VRm.down hx e.2 t)
end
variable {h : Heap}
mutual
theorem Fd.vrD (hr : HR φ' w h) (hx : ∀ b p, φ b = some p → φ' b = some p) (hn : ∀ b B o, live (h.get b) = true → φ' b = some (B, o) → ∀ c p, φ c = some p → p.1 ≠ B) : ∀ {x y : AV} {D : List Nat} {u : Value}, Fd h x y D → VR φ' w x u → VR φ w y u
  | _, _, _, _, .told e, v => v.down hx e
  | _, _, _, _, .sl hl _ hg hc t, .sl hb hcap hlen hs hsz => by
    obtain ⟨B', o', e', n, q1, q2, q3, q4, q5⟩ := hr.cells hg
    rw [hb] at q1
    cases q1
    exact .rs (by omega) (hn _ _ _ (by rw [hg]; rfl) hb) (hr.lt _ _ hb) (Fds.vrmD hr hx hn t (q3.cut hc))
  | _, _, _, _, .sl hl _ _ _ _, .sl0 a => absurd hl (by omega)
  | _, _, _, _, .sl0, .sl _ _ _ _ _ => .rs0 _ _
  | _, _, _, _, .sl0, .sl0 a => .rs0 _ _
  | _, _, _, _, .ptr _ hg t, .ptr hb => by
    obtain ⟨B', o', e', n, q1, q2, q3, q4, q5⟩ := hr.cells hg
    rw [hb] at q1
    cases q1
    exact .rp (hn _ _ _ (by rw [hg]; rfl) hb) (hr.lt _ _ hb) (Fds.vrmD hr hx hn t (q3.drop _))
  | _, _, _, _, .agg t, .agg hv => .agg (Fds.vrsD hr hx hn t hv)
  | _, _, _, _, .tup t, .tup hv => .tup (Fds.vrsD hr hx hn t hv)
theorem Fds.vrsD (hr : HR φ' w h) (hx : ∀ b p, φ b = some p → φ' b = some p) (hn : ∀ b B o, live (h.get b) = true → φ' b = some (B, o) → ∀ c p, φ c = some p → p.1 ≠ B) : ∀ {x y : List AV} {D : List Nat} {u : List Value}, Fds h x y D → VRs φ' w x u → VRs φ w y u
  | _, _, _, _, .nil, .nil => .nil
  | _, _, _, _, .cons f t, .cons hv tv => .cons (Fd.vrD hr hx hn f hv) (Fds.vrsD hr hx hn t tv)
theorem Fds.vrmD (hr : HR φ' w h) (hx : ∀ b p, φ b = some p → φ' b = some p) (hn : ∀ b B o, live (h.get b) = true → φ' b = some (B, o) → ∀ c p, φ c = some p → p.1 ≠ B) : ∀ {x y : List AV} {D : List Nat} {B o : Nat}, Fds h x y D → VRm φ' w x B o → VRm φ w y B o
  | _, _, _, _, _, .nil, .nil => .nil
  | _, _, _, _, _, .cons f t, .cons hc hv tv => .cons hc (Fd.vrD hr hx hn f hv) (Fds.vrmD hr hx hn t tv)
end
end
/-- memory of which nothing is known -/
def deadT : Nat → T Blk
  | 0 => .e
  | n + 1 => (deadT n).set n .dead
theorem deadT_get (b : Nat) : ∀ n, (deadT n).get b = if b < n then some .dead else none
  | 0 => by rw [if_neg (by omega)]; rfl
  | n + 1 => by
    rw [deadT, T.get_set, deadT_get b n]
    by_cases e : b = n
    · rw [if_pos e, if_pos (by omega)]
    · rw [if_neg e]
      by_cases l : b < n
      · rw [if_pos l, if_pos (by omega)]
      · rw [if_neg l, if_neg (by omega)]
def deadH (n : Nat) : Heap := ⟨n, deadT n⟩
theorem deadH_get (n b : Nat) : (deadH n).get b = if b < n then some .dead else none := deadT_get b n
theorem deadH_not (n b : Nat) : live ((deadH n).get b) = false := by
  rw [deadH_get]
  split <;> rfl
section
variable {P : Program} {φ : Env} {w : World} {h : Heap}
theorem hr_dead (hr : HR φ w h) : HR φ w (deadH h.next) := by
  refine ⟨fun b => ?_, hr.lt, fun b b' p p' hl => ?_, fun b hb => ?_⟩
  · rw [deadH_get]
    by_cases l : b < h.next
    · rw [if_pos l]; trivial
    · rw [if_neg l]
      have := hr.blk b
      rw [hr.next b (by omega)] at this
      exact this
  · rw [deadH_not] at hl; cases hl
  · rw [deadH_get, if_neg (by have : (deadH h.next).next = h.next := rfl; omega)]
theorem OK.freeze {f : Nat} {args : List AV} {v v' : AV} {h2 : Heap} {D : List Nat} (o : OK P f args (deadH h.next) v h2) (fd : Fd h2 v v' D) : OK P f args h v' h := by
  obtain ⟨hly, he, o⟩ := o.old (.inl fun r e => by rw [deadH_get] at e; split at e <;> cases e)
  refine .inl ⟨hly, he, fun φ w us hr hus => ?_⟩
  refine Calls.mono (o φ w us (hr_dead hr) hus) ?_
  rintro e w' ⟨φ', u, rfl, hvu, hr', hu⟩
  have keep : ∀ B, B < w.heap.size → w'.heap[B]? = w.heap[B]? := fun B hB => hu.keepL B hB fun b p hl => by rw [deadH_not] at hl; cases hl
  have hU : Upd φ w φ w' := ⟨hu.os, hu.tape, hu.output, hu.size, fun _ _ e => e, fun _ _ _ e => .inl ⟨_, _, e⟩, fun B hB _ => keep B hB, hu.shape, hu.drawn⟩
  refine ⟨φ, u, rfl, fd.vrD hr' hu.ext (fun b B o hl hb c p hc e => ?_) hvu, ⟨fun b => ?_, fun b p e => Nat.lt_of_lt_of_le (hr.lt b p e) hu.size, hr.inj, hr.next⟩, UpdH.same _ _ hU keep⟩
  · rcases hu.newL b B o hl hb with ⟨b0, o0, h0, _⟩ | h0
    · rw [deadH_not] at h0; cases h0
    · have := hr.lt c p hc
      omega
  · cases hl : live (h.get b) with
    | true => exact BR.upd hr hU hl fun p hp => keep _ (hr.lt _ _ hp)
    | false =>
      have := hr.blk b
      cases hg : h.get b with
      | none => rw [hg] at this; exact this
      | some o =>
        cases o with
        | dead => trivial
        | _ => rw [hg] at hl; cases hl
end
end Go.Proofs.Ytinonmcnofjeeaa.VM
namespace Go.Proofs.Ytinonmcnofjeeaa.VM
section
variable {α : Type} {R : α → List AV → Prop} {z : Nat} {h h' : Heap} {v : AV} {l : List α}
/-- elements of so many cells, told -/
structure Tr (R : α → List AV → Prop) (z : Nat) : Prop where
  len : ∀ a c, R a c → c.length = z
  one : ∀ a c, R a c → c.all AV.one = true
  told : ∀ a c, R a c → AV.tolds c = true
end
end Go.Proofs.Ytinonmcnofjeeaa.VM
namespace Go.Proofs.Ytinonmcnofjeeaa.VM
attribute [local irreducible] Af Nx EvO Ev Un Gd Cd EvR EvQ EvC Nc Gc Lp EvM NxM AfM GdM EvMR EvMQ EvMD EvMC Nm Gm
section
variable {P : Program}
theorem nameMay_pu (g : Pg P tab) (a b : Int) : Pu P 84 [.agg [.int .i64 a, .int .i64 b]] (fun v => v = .bool (decide (0 ≤ a ∧ a < 8 ∧ 1 ≤ b ∧ b ≤ 65535))) := by
  refine g.pu (vf := v84) rfl rfl ?_
  simp +contextual (maxSteps := 2000000) (disch := omega) only [v84, RX, VOp.fresh, bxC, bsC, un, most, callsOf, seval, Int.reducePow, ↓reduceIte, Nat.reduceEqDiff, reduceCtorEq]
theorem baseMay_pu (g : Pg P tab) (a : Int) : Pu P 86 [.int .i64 a] (fun v => v = .bool (decide (-1 ≤ a ∧ a ≤ 65535))) := by
  refine g.pu (vf := v86) rfl rfl ?_
  simp +contextual (maxSteps := 2000000) (disch := omega) only [v86, RX, VOp.fresh, bxC, bsC, un, most, callsOf, seval, Int.reducePow, ↓reduceIte, Nat.reduceEqDiff, reduceCtorEq]
def coordOk (x : Int) : Prop := 0 ≤ x ∧ x ≤ 4294967295
instance (x : Int) : Decidable (coordOk x) := by unfold coordOk; infer_instance
def ptOk (p : Pt) : Prop := coordOk p.x ∧ coordOk p.y
instance (p : Pt) : Decidable (ptOk p) := by unfold ptOk; infer_instance
theorem coord_pu (g : Pg P tab) (a : Int) : Pu P 122 [.int .i64 a] (fun v => v = .bool (decide (coordOk a))) := by
  refine g.pu (vf := v122) rfl rfl ?_
  simp +contextual (maxSteps := 2000000) (disch := omega) only [v122, coordOk, RX, VOp.fresh, bxC, bsC, un, most, callsOf, seval, Int.reducePow, ↓reduceIte, Nat.reduceEqDiff, reduceCtorEq]
theorem pointMay_pu (g : Pg P tab) (p : Pt) : Pu P 126 [.agg [.int .i64 p.x, .int .i64 p.y]] (fun v => v = .bool (decide (ptOk p))) := by
  refine g.pu (vf := v126) rfl rfl ?_
  simp +contextual (maxSteps := 2000000) (disch := omega) only [v126, RX, VOp.fresh, bxC, bsC, un, most, callsOf, seval, Int.reducePow, ↓reduceIte, Nat.reduceEqDiff, reduceCtorEq]
  refine (coord_pu g _).go rfl ?_
  rintro v rfl
  simp +contextual (maxSteps := 2000000) (disch := omega) only [RX, VOp.fresh, bxC, bsC, un, most, callsOf, seval, Int.reducePow, ↓reduceIte, Nat.reduceEqDiff, reduceCtorEq]
  refine ⟨fun h1 => ?_, fun h1 => ?_⟩
  · refine (coord_pu g _).go rfl ?_
    rintro v rfl
    simp +contextual (maxSteps := 2000000) (disch := omega) only [h1, ptOk, RX, VOp.fresh, bxC, bsC, un, most, callsOf, seval, Int.reducePow, ↓reduceIte, Nat.reduceEqDiff, reduceCtorEq]
  · simp +contextual (maxSteps := 2000000) (disch := omega) only [h1, ptOk, RX, VOp.fresh, bxC, bsC, un, most, callsOf, seval, Int.reducePow, ↓reduceIte, Nat.reduceEqDiff, reduceCtorEq]
def mpZero (m : Mp) : Prop := m.epoch = 0 ∧ m.starts = [] ∧ m.owners = []
theorem len0 {α : Type} {l : List α} : ((l.length : Int) = 0) = (l = []) := by
  rw [eq_iff_iff]; cases l <;> simp <;> omega
theorem noMap_pu (g : Pg P tab) {m : Mp} {v u : AV} (hv : IsL 8 RInt v m.starts) (hu : IsL 8 RInt u m.owners) (r : List AV) : Pu P 88 [.rp (.int .i64 m.epoch :: v :: u :: r)] (IsB (mpZero m)) := by
  refine g.pu (vf := v88) rfl rfl ?_
  simp +contextual (maxSteps := 2000000) (disch := omega) only [v88, hv.len, hu.len, mpZero, len0, RX, VOp.fresh, bxC, bsC, un, most, callsOf, seval, Int.reducePow, ↓reduceIte, Nat.reduceEqDiff, reduceCtorEq]
def ftZero (f : Feat) : Prop := f.id = 0 ∧ f.shape = 0 ∧ f.rings = []
theorem noFeature_pu (g : Pg P tab) {f : Feat} {v : AV} (hv : IsL 24 RRing v f.rings) (r : List AV) : Pu P 120 [.rp (.int .i64 f.id :: .int .i64 f.shape :: v :: r)] (IsB (ftZero f)) := by
  refine g.pu (vf := v120) rfl rfl ?_
  simp +contextual (maxSteps := 2000000) (disch := omega) only [v120, hv.len, ftZero, len0, RX, VOp.fresh, bxC, bsC, un, most, callsOf, seval, Int.reducePow, ↓reduceIte, Nat.reduceEqDiff, reduceCtorEq]
def mpAt (nodes : Int) (m : Mp) (i : Nat) : Prop := m.starts.getD i 0 < 4294967296 ∧ (i = 0 ∨ m.starts.getD (i - 1) 0 < m.starts.getD i 0) ∧ 0 ≤ m.owners.getD i 0 ∧ m.owners.getD i 0 < nodes
def mpOk (nodes : Int) (m : Mp) : Prop := 1 ≤ nodes ∧ nodes ≤ 8 ∧ 1 ≤ m.epoch ∧ m.epoch ≤ 65535 ∧ 1 ≤ m.starts.length ∧ m.starts.length ≤ 32 ∧ m.owners.length = m.starts.length ∧ m.starts.getD 0 0 = 0 ∧ ∀ i, i < m.starts.length → mpAt nodes m i
theorem getInt {v : AV} {l : List Int} (h : IsL 8 RInt v l) (i : Nat) (hi : i < l.length) : ∃ r, AV.tolds r = true ∧ ∀ (hh : Heap) (kk : IntKind), iaV hh 1 none v (.int kk (i : Int)) = .val (.rp (.int .i64 (l.getD i 0) :: r)) hh := by
  obtain ⟨ci, r, ⟨e, _⟩, ht, hia⟩ := h.get zInt tInt i hi
  have : l.getD i 0 = l[i] := by simp [List.getD_eq_getElem?_getD, List.getElem?_eq_getElem hi]
  refine ⟨r, ?_, fun hh kk => ?_⟩
  · rw [e] at ht; exact ht
  · rw [hia, e, this]; rfl
theorem mapMay_loop (g : Pg P tab) {nodes : Int} {m : Mp} {v u : AV} (hv : IsL 8 RInt v m.starts) (hu : IsL 8 RInt u m.owners) (hl : m.owners.length = m.starts.length) (hh : Heap) {e : TypeId} {ver : Nat} (hg : hh.get 0 = some (.cells [.int .i64 m.epoch, v, u] e ver)) (n : Nat) :
    ∀ (i : Nat) (s : T AV) (k : List Fr) (Q : Ex → T AV → Heap → Prop), i + n = m.starts.length → sg s 1 = .int .i64 nodes → sg s 2 = .ptr 0 0 → sg s 52 = v → sg s 53 = .int .i64 m.starts.length → sg s 54 = .int .i64 i →
      ((∀ j, i ≤ j → j < m.starts.length → mpAt nodes m j) → ∀ s', Un P k Q (.exit 0) s' hh) → ((¬ ∀ j, i ≤ j → j < m.starts.length → mpAt nodes m j) → ∀ s', sg s' 4 = .bool false → Un P k Q .ret s' hh) → Lp P b85_0 s hh (Un P k Q) := by
  have hb := hv.bound (by decide)
  induction n with
  | zero =>
    intro i s k Q hi h1 h2 h52 h53 h54 hK hR
    refine g.lpe b85_0.eq_1 ?_
    have c1 : ¬ ((i : Int) < (m.starts.length : Int)) := by omega
    simp only [h54, h53, c1, RX, VOp.fresh, bxC, bsC, un, most, callsOf, seval, Int.reducePow, ↓reduceIte, Nat.reduceEqDiff, reduceCtorEq]
    exact hK (fun j h1 h2 => by omega) _
  | succ n ih =>
    intro i s k Q hi h1 h2 h52 h53 h54 hK hR
    refine g.lpe b85_0.eq_1 ?_
    have c1 : (i : Int) < (m.starts.length : Int) := by omega
    obtain ⟨r1, _, g1⟩ := getInt hv i (by omega)
    obtain ⟨r2, _, g2⟩ := getInt hu i (by omega)
    have w1 : IntKind.i64.wrap ((i : Int) + 1) = ((i + 1 : Nat) : Int) := by rw [w64 (by omega) (by omega)]; push_cast; rfl
    have next : mpAt nodes m i → ∀ s' : T AV, sg s' 1 = .int .i64 nodes → sg s' 2 = .ptr 0 0 → sg s' 52 = v → sg s' 53 = .int .i64 m.starts.length → sg s' 54 = .int .i64 ((i + 1 : Nat) : Int) → Lp P b85_0 s' hh (Un P k Q) := by
      intro hok s' a1 a2 a3 a4 a5
      refine ih (i + 1) s' k Q (by omega) a1 a2 a3 a4 a5 (fun hall => hK fun j h1 h2 => ?_) (fun hn => hR fun hall => hn fun j h1 h2 => hall j (by omega) h2)
      rcases Nat.lt_or_ge i j with h | h
      · exact hall j h h2
      · have : j = i := by omega
        subst this; exact hok
    have stop : ¬ mpAt nodes m i → ∀ s' : T AV, sg s' 4 = .bool false → Un P k Q .ret s' hh := fun hn => hR fun hall => hn (hall i (Nat.le_refl _) (by omega))
    by_cases hi0 : i = 0
    · have c2 : ¬ ((0 : Int) < (i : Int)) := by omega
      simp +contextual (maxSteps := 2000000) only [h1, h2, h52, h53, h54, c1, g1, g2, hg, w1, c2, RX, VOp.fresh, bxC, bsC, un, most, callsOf, seval, Int.reducePow, ↓reduceIte, Nat.reduceEqDiff, reduceCtorEq]
      repeat' (first | apply And.intro | intro _)
      all_goals first
        | (refine next ⟨by omega, by omega, by omega, by omega⟩ _ ?_ ?_ ?_ ?_ ?_ <;> simp only [h1, h2, h52, h53, sg_set, Nat.reduceEqDiff, ↓reduceIte]; done)
        | (refine stop (fun hok => ?_) _ (by simp only [sg_set, Nat.reduceEqDiff, ↓reduceIte]); obtain ⟨a1, a2, a3, a4⟩ := hok; omega)
    · have c2 : (0 : Int) < (i : Int) := by omega
      obtain ⟨r3, _, g3⟩ := getInt hv (i - 1) (by omega)
      have w2 : IntKind.i64.wrap ((i : Int) - 1) = ((i - 1 : Nat) : Int) := by rw [w64 (by omega) (by omega)]; omega
      simp +contextual (maxSteps := 2000000) only [h1, h2, h52, h53, h54, c1, g1, g2, g3, hg, w1, w2, c2, RX, VOp.fresh, bxC, bsC, un, most, callsOf, seval, Int.reducePow, ↓reduceIte, Nat.reduceEqDiff, reduceCtorEq]
      repeat' (first | apply And.intro | intro _)
      all_goals first
        | (refine next ⟨by omega, by omega, by omega, by omega⟩ _ ?_ ?_ ?_ ?_ ?_ <;> simp only [h1, h2, h52, h53, sg_set, Nat.reduceEqDiff, ↓reduceIte]; done)
        | (refine stop (fun hok => ?_) _ (by simp only [sg_set, Nat.reduceEqDiff, ↓reduceIte]); obtain ⟨a1, a2, a3, a4⟩ := hok; omega)
theorem mapMay_pu (g : Pg P tab) {nodes : Int} {m : Mp} {v u : AV} (hv : IsL 8 RInt v m.starts) (hu : IsL 8 RInt u m.owners) : Pu P 85 [.agg [.int .i64 m.epoch, v, u], .int .i64 nodes] (IsB (mpOk nodes m)) := by
  refine g.pu (vf := v85) rfl rfl ?_
  have hb := hv.bound (by decide)
  by_cases h0 : 0 < m.starts.length
  · obtain ⟨r1, _, g1⟩ := getInt hv 0 h0
    simp only [Int.natCast_zero, Int.ofNat_zero, Int.ofNat_eq_natCast] at g1
    simp +contextual (maxSteps := 2000000) only [v85, hv.len, hu.len, g1, RX, VOp.fresh, bxC, bsC, un, most, callsOf, seval, Int.reducePow, ↓reduceIte, Nat.reduceEqDiff, reduceCtorEq]
    repeat' (first | apply And.intro | intro _)
    all_goals first
      | (rename_i hok; unfold mpOk at hok; omega)
      | skip
    refine mapMay_loop (nodes := nodes) g hv hu (by omega) _ (e := 26) (ver := 0) ?_ m.starts.length 0 _ _ _ (by omega) ?_ ?_ ?_ ?_ ?_ ?_ ?_
    · rw [Heap.get_mk, if_pos rfl]
    · simp only [sg_set, Nat.reduceEqDiff, ↓reduceIte]
    · simp only [sg_set, Nat.reduceEqDiff, ↓reduceIte]
    · simp only [sg_set, Nat.reduceEqDiff, ↓reduceIte]
    · simp only [sg_set, Nat.reduceEqDiff, ↓reduceIte]
    · simp only [sg_set, Nat.reduceEqDiff, ↓reduceIte]
      rfl
    · intro hall s'
      simp +contextual (maxSteps := 2000000) only [RX, VOp.fresh, bxC, bsC, un, most, callsOf, seval, Int.reducePow, ↓reduceIte, Nat.reduceEqDiff, reduceCtorEq]
      unfold mpOk
      exact ⟨by omega, by omega, by omega, by omega, by omega, by omega, by omega, by omega, fun i hi => hall i (by omega) hi⟩
    · intro hn s' h4
      simp +contextual (maxSteps := 2000000) only [h4, RX, VOp.fresh, bxC, bsC, un, most, callsOf, seval, Int.reducePow, ↓reduceIte, Nat.reduceEqDiff, reduceCtorEq]
      intro hok
      exact hn fun j _ hj => hok.2.2.2.2.2.2.2.2 j hj
  · have e0 : m.starts.length = 0 := by omega
    have c1 : ((m.starts.length : Int) < 1) := by omega
    simp +contextual (maxSteps := 2000000) only [v85, hv.len, hu.len, c1, RX, VOp.fresh, bxC, bsC, un, most, callsOf, seval, Int.reducePow, ↓reduceIte, Nat.reduceEqDiff, reduceCtorEq]
    repeat' (first | apply And.intro | intro _)
    all_goals (rename_i hok; unfold mpOk at hok; omega)
def nxt (n i : Nat) : Nat := if i + 1 = n then 0 else i + 1
def ringAt (closed : Bool) (r : List Pt) (i : Nat) : Prop := ptOk (r.getD i ⟨0, 0⟩) ∧ ((0 < nxt r.length i ∨ closed = true) → r.getD i ⟨0, 0⟩ ≠ r.getD (nxt r.length i) ⟨0, 0⟩)
def ringOk (least : Int) (closed : Bool) (r : List Pt) : Prop := least ≤ r.length ∧ r.length ≤ 16 ∧ ∀ i, i < r.length → ringAt closed r i
theorem getPt {v : AV} {l : List Pt} (h : IsL 16 RPt v l) (i : Nat) (hi : i < l.length) : ∃ r, AV.tolds r = true ∧ ∀ (hh : Heap) (kk : IntKind), iaV hh 2 none v (.int kk (i : Int)) = .val (.rp (.int .i64 (l.getD i ⟨0, 0⟩).x :: .int .i64 (l.getD i ⟨0, 0⟩).y :: r)) hh := by
  obtain ⟨ci, r, ⟨e, _⟩, ht, hia⟩ := h.get zPt tPt i hi
  have : l.getD i ⟨0, 0⟩ = l[i] := by simp [List.getD_eq_getElem?_getD, List.getElem?_eq_getElem hi]
  refine ⟨r, ?_, fun hh kk => ?_⟩
  · rw [e] at ht; exact ht
  · rw [hia, e, this]; rfl
theorem flat2 {a b c d : Int} : eqv (.flat [.int, .int]) (.agg [.int .i64 a, .int .i64 b]) (.agg [.int .i64 c, .int .i64 d]) = some (decide (a = c ∧ b = d)) := by
  simp only [eqv, List.length_cons, List.length_nil, and_self, if_true, sameCells, sameK]
  by_cases h : a = c <;> by_cases h' : b = d <;> simp [h, h', sameCells, sameK]
theorem pt_eq {p q : Pt} : (p.x = q.x ∧ p.y = q.y) = (p = q) := by
  rw [eq_iff_iff]; constructor
  · intro h; cases p; cases q; simp_all
  · rintro rfl; exact ⟨rfl, rfl⟩
theorem ring_loop (g : Pg P tab) {least : Int} {closed : Bool} {r : List Pt} {v : AV} (hv : IsL 16 RPt v r) (hr : r.length ≤ 16) (n : Nat) :
    ∀ (i : Nat) (s : T AV) (hh : Heap) (k : List Fr) (Q : Ex → T AV → Heap → Prop), i + n = r.length → sg s 0 = v → sg s 2 = .bool closed → sg s 19 = v → sg s 20 = .int .i64 r.length → sg s 21 = .int .i64 i →
      ((∀ j, i ≤ j → j < r.length → ringAt closed r j) → ∀ s' h', Un P k Q (.exit 0) s' h') → ((¬ ∀ j, i ≤ j → j < r.length → ringAt closed r j) → ∀ s' h', sg s' 6 = .bool false → Un P k Q .ret s' h') → Lp P b127_0 s hh (Un P k Q) := by
  induction n with
  | zero =>
    intro i s hh k Q hi h0 h2 h19 h20 h21 hK hR
    refine g.lpe b127_0.eq_1 ?_
    have c1 : ¬ ((i : Int) < (r.length : Int)) := by omega
    simp only [h21, h20, c1, RX, VOp.fresh, bxC, bsC, un, most, callsOf, seval, Int.reducePow, ↓reduceIte, Nat.reduceEqDiff, reduceCtorEq]
    exact hK (fun j h1 h2 => by omega) _ _
  | succ n ih =>
    intro i s hh k Q hi h0 h2 h19 h20 h21 hK hR
    refine g.lpe b127_0.eq_1 ?_
    have c1 : (i : Int) < (r.length : Int) := by omega
    obtain ⟨r1, _, g1⟩ := getPt hv i (by omega)
    have w1 : IntKind.i64.wrap ((i : Int) + 1) = ((i + 1 : Nat) : Int) := by rw [w64 (by omega) (by omega)]; push_cast; rfl
    have next : ringAt closed r i → ∀ (s' : T AV) (h' : Heap), sg s' 0 = v → sg s' 2 = .bool closed → sg s' 19 = v → sg s' 20 = .int .i64 r.length → sg s' 21 = .int .i64 ((i + 1 : Nat) : Int) → Lp P b127_0 s' h' (Un P k Q) := by
      intro hok s' h' a1 a2 a3 a4 a5
      refine ih (i + 1) s' h' k Q (by omega) a1 a2 a3 a4 a5 (fun hall => hK fun j h1 h2 => ?_) (fun hn => hR fun hall => hn fun j h1 h2 => hall j (by omega) h2)
      rcases Nat.lt_or_ge i j with h | h
      · exact hall j h h2
      · have : j = i := by omega
        subst this; exact hok
    have stop : ¬ ringAt closed r i → ∀ (s' : T AV) (h' : Heap), sg s' 6 = .bool false → Un P k Q .ret s' h' := fun hn => hR fun hall => hn (hall i (Nat.le_refl _) (by omega))
    have hpt := pointMay_pu g (r.getD i ⟨0, 0⟩)
    have hn : nxt r.length i = if i + 1 = r.length then 0 else i + 1 := rfl
    by_cases hl : i + 1 = r.length
    · have c2 : ((i + 1 : Nat) : Int) = (r.length : Int) := by omega
      rw [if_pos hl] at hn
      obtain ⟨r2, _, g2⟩ := getPt hv 0 (by omega)
      simp only [Int.natCast_zero, Int.ofNat_zero, Int.ofNat_eq_natCast] at g2
      simp +contextual (maxSteps := 2000000) only [RW, Bool.and_self, h0, h2, h19, h20, h21, c1, g1, hv.len, w1, c2, RX, VOp.fresh, bxC, bsC, un, most, callsOf, seval, Int.reducePow, ↓reduceIte, Nat.reduceEqDiff, reduceCtorEq]
      refine hpt.go rfl ?_
      rintro x rfl
      cases closed
      all_goals simp +contextual (maxSteps := 2000000) only [RW, Bool.and_self, h0, h2, h19, h20, h21, g2, w1, flat2, pt_eq, RX, VOp.fresh, bxC, bsC, un, most, callsOf, seval, Int.reducePow, ↓reduceIte, Nat.reduceEqDiff, reduceCtorEq]
      all_goals repeat' (first | apply And.intro | intro _)
      all_goals first
        | (refine next ⟨by assumption, ?_⟩ _ _ ?_ ?_ ?_ ?_ ?_ <;> first | (simp only [h0, h2, h19, h20, sg_set, Nat.reduceEqDiff, ↓reduceIte]; done) | (rw [hn]; simp_all; done))
        | (refine stop ?_ _ _ ?_ <;> first | (simp only [sg_set, Nat.reduceEqDiff, ↓reduceIte]; done) | (rintro ⟨a1, a2⟩; rw [hn] at a2; simp_all; done))
        | trace_state
    · have c2 : ¬ ((i + 1 : Nat) : Int) = (r.length : Int) := by omega
      rw [if_neg hl] at hn
      obtain ⟨r2, _, g2⟩ := getPt hv (i + 1) (by omega)
      have c3 : (0 : Int) < ((i + 1 : Nat) : Int) := by omega
      simp +contextual (maxSteps := 2000000) only [RW, Bool.and_self, h0, h2, h19, h20, h21, c1, g1, hv.len, w1, c2, RX, VOp.fresh, bxC, bsC, un, most, callsOf, seval, Int.reducePow, ↓reduceIte, Nat.reduceEqDiff, reduceCtorEq]
      refine hpt.go rfl ?_
      rintro x rfl
      cases closed
      all_goals simp +contextual (maxSteps := 2000000) only [RW, Bool.and_self, h0, h2, h19, h20, h21, g2, w1, flat2, pt_eq, c3, RX, VOp.fresh, bxC, bsC, un, most, callsOf, seval, Int.reducePow, ↓reduceIte, Nat.reduceEqDiff, reduceCtorEq]
      all_goals repeat' (first | apply And.intro | intro _)
      all_goals first
        | (refine next ⟨by assumption, ?_⟩ _ _ ?_ ?_ ?_ ?_ ?_ <;> first | (simp only [h0, h2, h19, h20, sg_set, Nat.reduceEqDiff, ↓reduceIte]; done) | (rw [hn]; simp_all; done))
        | (refine stop ?_ _ _ ?_ <;> first | (simp only [sg_set, Nat.reduceEqDiff, ↓reduceIte]; done) | (rintro ⟨a1, a2⟩; rw [hn] at a2; simp_all; done))
        | trace_state
theorem ring_pu (g : Pg P tab) {least : Int} {closed : Bool} {r : List Pt} {v : AV} (hv : IsL 16 RPt v r) : Pu P 127 [v, .int .i64 least, .bool closed] (IsB (ringOk least closed r)) := by
  refine g.pu (vf := v127) rfl rfl ?_
  simp +contextual (maxSteps := 2000000) only [v127, hv.len, RX, VOp.fresh, bxC, bsC, un, most, callsOf, seval, Int.reducePow, ↓reduceIte, Nat.reduceEqDiff, reduceCtorEq]
  repeat' (first | apply And.intro | intro _)
  all_goals first
    | (rename_i hok; unfold ringOk at hok; omega)
    | skip
  refine ring_loop g hv (least := least) (closed := closed) (by omega) r.length 0 _ _ _ _ (by omega) ?_ ?_ ?_ ?_ ?_ ?_ ?_
  · simp only [sg_set, Nat.reduceEqDiff, ↓reduceIte]
  · simp only [sg_set, Nat.reduceEqDiff, ↓reduceIte]
  · simp only [sg_set, Nat.reduceEqDiff, ↓reduceIte]
  · simp only [sg_set, Nat.reduceEqDiff, ↓reduceIte]
  · simp only [sg_set, Nat.reduceEqDiff, ↓reduceIte]
    rfl
  · intro hall s' h'
    simp +contextual (maxSteps := 2000000) only [RX, VOp.fresh, bxC, bsC, un, most, callsOf, seval, Int.reducePow, ↓reduceIte, Nat.reduceEqDiff, reduceCtorEq]
    exact ⟨by omega, by omega, fun i hi => hall i (by omega) hi⟩
  · intro hn s' h' h4
    simp +contextual (maxSteps := 2000000) only [h4, RX, VOp.fresh, bxC, bsC, un, most, callsOf, seval, Int.reducePow, ↓reduceIte, Nat.reduceEqDiff, reduceCtorEq]
    intro hok
    exact hn fun j _ hj => hok.2.2 j hj
theorem getRing {v : AV} {l : List (List Pt)} (h : IsL 24 RRing v l) (i : Nat) (hi : i < l.length) : ∃ rv r, IsL 16 RPt rv (l.getD i []) ∧ AV.tolds r = true ∧ ∀ (hh : Heap) (kk : IntKind), iaV hh 1 none v (.int kk (i : Int)) = .val (.rp (rv :: r)) hh := by
  obtain ⟨ci, r, ⟨rv, e, hr⟩, ht, hia⟩ := h.get zRing tRing i hi
  have : l.getD i [] = l[i] := by simp [List.getD_eq_getElem?_getD, List.getElem?_eq_getElem hi]
  refine ⟨rv, r, by rw [this]; exact hr, ?_, fun hh kk => ?_⟩
  · rw [e] at ht
    simp only [AV.tolds, List.cons_append, List.nil_append, Bool.and_eq_true] at ht
    exact ht.2
  · rw [hia, e]; rfl
theorem tolds1 {b : Nat} {α : Type} {R : α → List AV → Prop} {v : AV} {l : List α} (h : IsL b R v l) (ht : ∀ a c, R a c → AV.tolds c = true) : AV.tolds [v] = true := by
  simp [AV.tolds, h.told ht]
theorem mayRing_pu (g : Pg P tab) {r : List Pt} {v : AV} (hv : IsL 16 RPt v r) : Pu P 129 [v] (IsB (¬ ringOk 3 true r)) := by
  refine g.pu (vf := v129) rfl rfl ?_
  simp +contextual (maxSteps := 2000000) only [v129, RX, VOp.fresh, bxC, bsC, un, most, callsOf, seval, Int.reducePow, ↓reduceIte, Nat.reduceEqDiff, reduceCtorEq]
  refine (ring_pu g hv).go (by simp [AV.tolds, AV.told, hv.told tPt]) ?_
  rintro x ⟨b, rfl, hb⟩
  cases b <;> simp +contextual (maxSteps := 2000000) only [RX, VOp.fresh, bxC, bsC, un, most, callsOf, seval, Int.reducePow, ↓reduceIte, Nat.reduceEqDiff, reduceCtorEq] <;> simpa using hb
theorem indexFunc_loop (g : Pg P tab) {l : List (List Pt)} {v : AV} (hv : IsL 24 RRing v l) (n : Nat) :
    ∀ (i : Nat) (s : T AV) (hh : Heap) (k : List Fr) (Q : Ex → T AV → Heap → Prop), i + n = l.length → sg s 0 = v → sg s 1 = .fn 129 [] → sg s 7 = .int .i64 l.length → sg s 8 = .int .i64 i →
      ((∀ j, i ≤ j → j < l.length → ringOk 3 true (l.getD j [])) → ∀ s', Un P k Q (.exit 0) s' hh) → (∀ j, i ≤ j → j < l.length → ¬ ringOk 3 true (l.getD j []) → ∀ s', sg s' 4 = .int .i64 j → Un P k Q .ret s' hh) → Lp P b130_0 s hh (Un P k Q) := by
  have hb := hv.bound (by decide)
  induction n with
  | zero =>
    intro i s hh k Q hi h0 h1 h7 h8 hK hR
    refine g.lpe b130_0.eq_1 ?_
    have c1 : ¬ ((i : Int) < (l.length : Int)) := by omega
    simp only [h7, h8, c1, RX, VOp.fresh, bxC, bsC, un, most, callsOf, seval, Int.reducePow, ↓reduceIte, Nat.reduceEqDiff, reduceCtorEq]
    exact hK (fun j h1 h2 => by omega) _
  | succ n ih =>
    intro i s hh k Q hi h0 h1 h7 h8 hK hR
    refine g.lpe b130_0.eq_1 ?_
    have c1 : (i : Int) < (l.length : Int) := by omega
    obtain ⟨rv, r1, hrv, _, g1⟩ := getRing hv i (by omega)
    have w1 : IntKind.i64.wrap ((i : Int) + 1) = ((i + 1 : Nat) : Int) := by rw [w64 (by omega) (by omega)]; push_cast; rfl
    simp only [h0, h1, h7, h8, c1, g1, RX, VOp.fresh, bxC, bsC, un, most, callsOf, seval, Int.reducePow, ↓reduceIte, Nat.reduceEqDiff, reduceCtorEq]
    refine (mayRing_pu g hrv).go (tolds1 hrv tPt) ?_
    rintro x ⟨b, rfl, hbb⟩
    cases b
    · simp only [h8, w1, RX, VOp.fresh, bxC, bsC, un, most, callsOf, seval, Int.reducePow, ↓reduceIte, Nat.reduceEqDiff, reduceCtorEq]
      have hok : ringOk 3 true (l.getD i []) := by
        apply Classical.byContradiction
        intro hn
        exact absurd (hbb.2 hn) (by simp)
      refine ih (i + 1) _ hh k Q (by omega) ?_ ?_ ?_ ?_ (fun hall => hK fun j h1 h2 => ?_) (fun j h1 h2 => hR j (by omega) h2)
      · simp only [h0, sg_set, Nat.reduceEqDiff, ↓reduceIte]
      · simp only [h1, sg_set, Nat.reduceEqDiff, ↓reduceIte]
      · simp only [h7, sg_set, Nat.reduceEqDiff, ↓reduceIte]
      · simp only [sg_set, Nat.reduceEqDiff, ↓reduceIte]
      · rcases Nat.lt_or_ge i j with h | h
        · exact hall j h h2
        · have : j = i := by omega
          subst this; exact hok
    · simp only [h8, RX, VOp.fresh, bxC, bsC, un, most, callsOf, seval, Int.reducePow, ↓reduceIte, Nat.reduceEqDiff, reduceCtorEq]
      exact hR i (Nat.le_refl _) (by omega) (hbb.1 rfl) _ (by simp only [sg_set, Nat.reduceEqDiff, ↓reduceIte])
theorem indexFunc_pu (g : Pg P tab) {l : List (List Pt)} {v : AV} (hv : IsL 24 RRing v l) : Pu P 130 [v, .fn 129 []] (fun x => ∃ n : Int, x = .int .i64 n ∧ (0 ≤ n ↔ ¬ ∀ i, i < l.length → ringOk 3 true (l.getD i []))) := by
  refine g.pu (vf := v130) rfl rfl ?_
  simp only [v130, hv.len, RX, VOp.fresh, bxC, bsC, un, most, callsOf, seval, Int.reducePow, ↓reduceIte, Nat.reduceEqDiff, reduceCtorEq]
  refine indexFunc_loop g hv l.length 0 _ _ _ _ (by omega) ?_ ?_ ?_ ?_ ?_ ?_
  · simp only [sg_set, Nat.reduceEqDiff, ↓reduceIte]
  · simp only [sg_set, Nat.reduceEqDiff, ↓reduceIte]
  · simp only [sg_set, Nat.reduceEqDiff, ↓reduceIte]
  · simp only [sg_set, Nat.reduceEqDiff, ↓reduceIte]
    rfl
  · intro hall s'
    simp only [RX, VOp.fresh, bxC, bsC, un, most, callsOf, seval, Int.reducePow, ↓reduceIte, Nat.reduceEqDiff, reduceCtorEq]
    exact ⟨-1, rfl, by simp; exact fun i hi => hall i (by omega) hi⟩
  · intro j _ hj hn s' h4
    simp only [h4, RX, VOp.fresh, bxC, bsC, un, most, callsOf, seval, Int.reducePow, ↓reduceIte, Nat.reduceEqDiff, reduceCtorEq]
    exact ⟨j, rfl, ⟨fun _ h => hn (h j hj), fun _ => by omega⟩⟩
theorem containsFunc_pu (g : Pg P tab) {l : List (List Pt)} {v : AV} (hv : IsL 24 RRing v l) : Pu P 128 [v, .fn 129 []] (IsB (¬ ∀ i, i < l.length → ringOk 3 true (l.getD i []))) := by
  refine g.pu (vf := v128) rfl rfl ?_
  simp only [v128, RX, VOp.fresh, bxC, bsC, un, most, callsOf, seval, Int.reducePow, ↓reduceIte, Nat.reduceEqDiff, reduceCtorEq]
  refine (indexFunc_pu g hv).go (by simp [AV.tolds, AV.told, hv.told tRing]) ?_
  rintro x ⟨n, rfl, hn⟩
  simp only [RX, VOp.fresh, bxC, bsC, un, most, callsOf, seval, Int.reducePow, ↓reduceIte, Nat.reduceEqDiff, reduceCtorEq]
  exact hn
def featOk (f : Feat) : Prop := 1 ≤ f.id ∧ f.id ≤ 65535 ∧ 1 ≤ f.rings.length ∧ f.rings.length ≤ 4 ∧
  ((f.shape = 0 ∧ f.rings.length = 1 ∧ (f.rings.getD 0 []).length = 1 ∧ ptOk ((f.rings.getD 0 []).getD 0 ⟨0, 0⟩)) ∨ (f.shape = 1 ∧ f.rings.length = 1 ∧ ringOk 2 false (f.rings.getD 0 [])) ∨ (f.shape = 2 ∧ ∀ i, i < f.rings.length → ringOk 3 true (f.rings.getD i [])))
theorem shapeMay_pu (g : Pg P tab) {f : Feat} {v : AV} (hv : IsL 24 RRing v f.rings) : Pu P 119 [.agg [.int .i64 f.id, .int .i64 f.shape, v]] (IsB (featOk f)) := by
  refine g.pu (vf := v119) rfl rfl ?_
  have hb := hv.bound (by decide)
  by_cases h0 : 0 < f.rings.length
  · obtain ⟨rv, r1, hrv, t1, g1⟩ := getRing hv 0 h0
    simp only [Int.natCast_zero, Int.ofNat_zero, Int.ofNat_eq_natCast] at g1
    by_cases h1 : 0 < (f.rings.getD 0 []).length
    · obtain ⟨r2, t2, g2⟩ := getPt hrv 0 h1
      simp only [Int.natCast_zero, Int.ofNat_zero, Int.ofNat_eq_natCast] at g2
      simp +contextual (maxSteps := 2000000) only [v119, hv.len, hrv.len, g1, g2, RX, VOp.fresh, bxC, bsC, un, most, callsOf, seval, Int.reducePow, ↓reduceIte, Nat.reduceEqDiff, reduceCtorEq]
      repeat' (first | apply And.intro | intro _)
      all_goals first
        | (rename_i hok; obtain ⟨a1, a2, a3, a4, ⟨b1, b2, b3, b4⟩ | ⟨b1, b2, b3⟩ | ⟨b1, b2⟩⟩ := hok <;> omega)
        | (refine (pointMay_pu g _).go rfl ?_
           rintro x rfl
           simp +contextual (maxSteps := 2000000) only [RX, VOp.fresh, bxC, bsC, un, most, callsOf, seval, Int.reducePow, ↓reduceIte, Nat.reduceEqDiff, reduceCtorEq]
           exact ⟨fun h => ⟨by omega, by omega, by omega, by omega, .inl ⟨by omega, by omega, by omega, h⟩⟩, fun hok => by obtain ⟨a1, a2, a3, a4, ⟨b1, b2, b3, b4⟩ | ⟨b1, b2, b3⟩ | ⟨b1, b2⟩⟩ := hok <;> first | assumption | omega⟩)
        | (refine (ring_pu g hrv).go (by simp [AV.tolds, AV.told, hrv.told tPt]) ?_
           rintro x ⟨b, rfl, hbb⟩
           simp +contextual (maxSteps := 2000000) only [RX, VOp.fresh, bxC, bsC, un, most, callsOf, seval, Int.reducePow, ↓reduceIte, Nat.reduceEqDiff, reduceCtorEq]
           rw [hbb]
           exact ⟨fun h => ⟨by omega, by omega, by omega, by omega, .inr (.inl ⟨by omega, by omega, h⟩)⟩, fun hok => by obtain ⟨a1, a2, a3, a4, ⟨b1, b2, b3, b4⟩ | ⟨b1, b2, b3⟩ | ⟨b1, b2⟩⟩ := hok <;> first | assumption | omega⟩)
        | (refine (containsFunc_pu g hv).go (by simp [AV.tolds, AV.told, hv.told tRing]) ?_
           rintro x ⟨b, rfl, hbb⟩
           cases b <;> simp +contextual (maxSteps := 2000000) only [RX, VOp.fresh, bxC, bsC, un, most, callsOf, seval, Int.reducePow, ↓reduceIte, Nat.reduceEqDiff, reduceCtorEq]
           · exact ⟨by omega, by omega, by omega, by omega, .inr (.inr ⟨by omega, Classical.byContradiction fun hn => absurd (hbb.2 hn) (by simp)⟩)⟩
           · intro hok; obtain ⟨a1, a2, a3, a4, ⟨b1, b2, b3, b4⟩ | ⟨b1, b2, b3⟩ | ⟨b1, b2⟩⟩ := hok <;> first | exact hbb.1 rfl b2 | omega)
        | trace_state
    · have e1 : (f.rings.getD 0 []).length = 0 := by omega
      simp +contextual (maxSteps := 2000000) only [v119, hv.len, hrv.len, g1, e1, RX, VOp.fresh, bxC, bsC, un, most, callsOf, seval, Int.reducePow, ↓reduceIte, Nat.reduceEqDiff, reduceCtorEq]
      repeat' (first | apply And.intro | intro _)
      all_goals first
        | (rename_i hok; obtain ⟨a1, a2, a3, a4, ⟨b1, b2, b3, b4⟩ | ⟨b1, b2, b3⟩ | ⟨b1, b2⟩⟩ := hok <;> omega)
        | (refine (ring_pu g hrv).go (by simp [AV.tolds, AV.told, hrv.told tPt]) ?_
           rintro x ⟨b, rfl, hbb⟩
           simp +contextual (maxSteps := 2000000) only [RX, VOp.fresh, bxC, bsC, un, most, callsOf, seval, Int.reducePow, ↓reduceIte, Nat.reduceEqDiff, reduceCtorEq]
           rw [hbb]
           exact ⟨fun h => ⟨by omega, by omega, by omega, by omega, .inr (.inl ⟨by omega, by omega, h⟩)⟩, fun hok => by obtain ⟨a1, a2, a3, a4, ⟨b1, b2, b3, b4⟩ | ⟨b1, b2, b3⟩ | ⟨b1, b2⟩⟩ := hok <;> first | assumption | omega⟩)
        | (refine (containsFunc_pu g hv).go (by simp [AV.tolds, AV.told, hv.told tRing]) ?_
           rintro x ⟨b, rfl, hbb⟩
           cases b <;> simp +contextual (maxSteps := 2000000) only [RX, VOp.fresh, bxC, bsC, un, most, callsOf, seval, Int.reducePow, ↓reduceIte, Nat.reduceEqDiff, reduceCtorEq]
           · exact ⟨by omega, by omega, by omega, by omega, .inr (.inr ⟨by omega, Classical.byContradiction fun hn => absurd (hbb.2 hn) (by simp)⟩)⟩
           · intro hok; obtain ⟨a1, a2, a3, a4, ⟨b1, b2, b3, b4⟩ | ⟨b1, b2, b3⟩ | ⟨b1, b2⟩⟩ := hok <;> first | exact hbb.1 rfl b2 | omega)
        | trace_state
  · have e0 : f.rings.length = 0 := by omega
    have c1 : (f.rings.length : Int) < 1 := by omega
    simp +contextual (maxSteps := 2000000) only [v119, hv.len, c1, RX, VOp.fresh, bxC, bsC, un, most, callsOf, seval, Int.reducePow, ↓reduceIte, Nat.reduceEqDiff, reduceCtorEq]
    repeat' (first | apply And.intro | intro _)
    all_goals (rename_i hok; obtain ⟨a1, a2, a3, a4, _⟩ := hok; omega)
end
end Go.Proofs.Ytinonmcnofjeeaa.VM
namespace Go.Proofs.Ytinonmcnofjeeaa.VM
attribute [local irreducible] Af Nx EvO Ev Un Gd Cd EvR EvQ EvC Nc Gc Lp EvM NxM AfM GdM EvMR EvMQ EvMD EvMC Nm Gm
def opOk (nodes : Int) (o : Op) : Prop := (o.kind = 0 ∧ featOk o.f ∧ o.id = 0 ∧ mpZero o.m) ∨ (o.kind = 1 ∧ 1 ≤ o.id ∧ o.id ≤ 65535 ∧ ftZero o.f ∧ mpZero o.m) ∨ (o.kind = 2 ∧ mpOk nodes o.m ∧ o.id = 0 ∧ ftZero o.f)
def opId (o : Op) : Int := if o.kind = 0 then o.f.id else o.id
def op0 : Op := ⟨0, ⟨0, 0, []⟩, 0, ⟨0, [], []⟩⟩
section
variable {P : Program}
theorem opMay_pu (g : Pg P tab) {nodes : Int} {o : Op} {c r : List AV} (hc : ROp o c) (hr : AV.tolds r = true) : Pu P 107 [.rp (c ++ r), .int .i64 nodes] (IsB (opOk nodes o)) := by
  refine g.pu (vf := v107) rfl rfl ?_
  obtain ⟨v, a, u, rfl, _, _, _, hv, _, _, ha, hu⟩ := hc
  have tv := hv.told tRing
  have ta := ha.told tInt
  have tu := hu.told tInt
  simp +contextual (maxSteps := 2000000) only [v107, RX, VOp.fresh, bxC, bsC, un, most, callsOf, seval, Int.reducePow, ↓reduceIte, Nat.reduceEqDiff, reduceCtorEq]
  repeat' (first | apply And.intro | intro _)
  · -- a put
    refine (shapeMay_pu g hv).go (by simp [AV.tolds, AV.told, tv]) ?_
    rintro x ⟨b, rfl, hb⟩
    cases b
    · simp +contextual (maxSteps := 2000000) only [RX, VOp.fresh, bxC, bsC, un, most, callsOf, seval, Int.reducePow, ↓reduceIte, Nat.reduceEqDiff, reduceCtorEq]
      rintro (⟨h1, h2, h3, h4⟩ | ⟨h1, _⟩ | ⟨h1, _⟩)
      · exact absurd (hb.2 h2) (by simp)
      · omega
      · omega
    · simp +contextual (maxSteps := 2000000) only [RX, VOp.fresh, bxC, bsC, un, most, callsOf, seval, Int.reducePow, ↓reduceIte, Nat.reduceEqDiff, reduceCtorEq]
      repeat' (first | apply And.intro | intro _)
      · refine (noMap_pu g ha hu _).go (by simp [AV.tolds, AV.told, ta, tu, hr]) ?_
        rintro x ⟨b, rfl, hb2⟩
        simp +contextual (maxSteps := 2000000) only [RX, VOp.fresh, bxC, bsC, un, most, callsOf, seval, Int.reducePow, ↓reduceIte, Nat.reduceEqDiff, reduceCtorEq]
        rw [hb2]
        exact ⟨fun h => .inl ⟨by assumption, hb.1 rfl, by assumption, h⟩, fun h => by rcases h with ⟨_, _, _, h4⟩ | ⟨h1, _⟩ | ⟨h1, _⟩ <;> first | exact h4 | omega⟩
      · rename_i hok
        rcases hok with ⟨_, _, h3, _⟩ | ⟨h1, _⟩ | ⟨h1, _⟩ <;> first | contradiction | omega
  · -- a delete
    refine (noFeature_pu g hv _).go (by simp [AV.tolds, AV.told, tv, ta, tu, hr]) ?_
    rintro x ⟨b, rfl, hb⟩
    cases b
    · simp +contextual (maxSteps := 2000000) only [RX, VOp.fresh, bxC, bsC, un, most, callsOf, seval, Int.reducePow, ↓reduceIte, Nat.reduceEqDiff, reduceCtorEq]
      rintro (⟨h1, _⟩ | ⟨h1, h2, h3, h4, h5⟩ | ⟨h1, _⟩)
      · omega
      · exact absurd (hb.2 h4) (by simp)
      · omega
    · simp +contextual (maxSteps := 2000000) only [RX, VOp.fresh, bxC, bsC, un, most, callsOf, seval, Int.reducePow, ↓reduceIte, Nat.reduceEqDiff, reduceCtorEq]
      refine (noMap_pu g ha hu _).go (by simp [AV.tolds, AV.told, ta, tu, hr]) ?_
      rintro x ⟨b, rfl, hb2⟩
      simp +contextual (maxSteps := 2000000) only [RX, VOp.fresh, bxC, bsC, un, most, callsOf, seval, Int.reducePow, ↓reduceIte, Nat.reduceEqDiff, reduceCtorEq]
      rw [hb2]
      exact ⟨fun h => .inr (.inl ⟨by assumption, by omega, by omega, hb.1 rfl, h⟩), fun h => by rcases h with ⟨h1, _⟩ | ⟨_, _, _, _, h4⟩ | ⟨h1, _⟩ <;> first | exact h4 | omega⟩
  · rename_i hok
    rcases hok with ⟨h1, _⟩ | ⟨h1, _⟩ | ⟨h1, _⟩ <;> omega
  · rename_i hok
    rcases hok with ⟨h1, _⟩ | ⟨h1, _⟩ | ⟨h1, _⟩ <;> omega
  · -- a map
    refine (mapMay_pu g ha hu).go (by simp [AV.tolds, AV.told, ta, tu]) ?_
    rintro x ⟨b, rfl, hb⟩
    cases b
    · simp +contextual (maxSteps := 2000000) only [RX, VOp.fresh, bxC, bsC, un, most, callsOf, seval, Int.reducePow, ↓reduceIte, Nat.reduceEqDiff, reduceCtorEq]
      rintro (⟨h1, _⟩ | ⟨h1, _⟩ | ⟨h1, h2, h3, h4⟩)
      · omega
      · omega
      · exact absurd (hb.2 h2) (by simp)
    · simp +contextual (maxSteps := 2000000) only [RX, VOp.fresh, bxC, bsC, un, most, callsOf, seval, Int.reducePow, ↓reduceIte, Nat.reduceEqDiff, reduceCtorEq]
      repeat' (first | apply And.intro | intro _)
      · refine (noFeature_pu g hv _).go (by simp [AV.tolds, AV.told, tv, ta, tu, hr]) ?_
        rintro x ⟨b, rfl, hb2⟩
        simp +contextual (maxSteps := 2000000) only [RX, VOp.fresh, bxC, bsC, un, most, callsOf, seval, Int.reducePow, ↓reduceIte, Nat.reduceEqDiff, reduceCtorEq]
        rw [hb2]
        exact ⟨fun h => .inr (.inr ⟨by assumption, hb.1 rfl, by assumption, h⟩), fun h => by rcases h with ⟨h1, _⟩ | ⟨h1, _⟩ | ⟨_, _, _, h4⟩ <;> first | exact h4 | omega⟩
      · rename_i hok
        rcases hok with ⟨h1, _⟩ | ⟨h1, _⟩ | ⟨_, _, h3, _⟩ <;> first | contradiction | omega
  · rename_i hok
    rcases hok with ⟨h1, _⟩ | ⟨h1, _⟩ | ⟨h1, _⟩ <;> contradiction
theorem opId_pu (g : Pg P tab) {o : Op} {c r : List AV} (hc : ROp o c) : Pu P 108 [.rp (c ++ r)] (fun x => x = .int .i64 (opId o)) := by
  refine g.pu (vf := v108) rfl rfl ?_
  obtain ⟨v, a, u, rfl, _⟩ := hc
  simp +contextual (maxSteps := 2000000) only [v108, opId, RX, VOp.fresh, bxC, bsC, un, most, callsOf, seval, Int.reducePow, ↓reduceIte, Nat.reduceEqDiff, reduceCtorEq]
theorem getOp {v : AV} {l : List Op} (h : IsL 112 ROp v l) (i : Nat) (hi : i < l.length) : ∃ c r, ROp (l.getD i op0) c ∧ AV.tolds c = true ∧ AV.tolds r = true ∧ ∀ (hh : Heap) (kk : IntKind), iaV hh 8 none v (.int kk (i : Int)) = .val (.rp (c ++ r)) hh := by
  obtain ⟨ci, r, hr, ht, hia⟩ := h.get zOp tOp i hi
  have : l.getD i op0 = l[i] := by simp [List.getD_eq_getElem?_getD, List.getElem?_eq_getElem hi]
  rw [Cat.told.tolds_append, Bool.and_eq_true] at ht
  exact ⟨ci, r, by rw [this]; exact hr, ht.1, ht.2, hia⟩
def opsAt (nodes : Int) (l : List Op) (i : Nat) : Prop := opOk nodes (l.getD i op0) ∧ ((l.getD i op0).kind = 2 → i = 0) ∧ (0 < opId (l.getD i op0) → ∀ j, j < i → opId (l.getD j op0) ≠ opId (l.getD i op0))
def opsOk (nodes : Int) (l : List Op) : Prop := 1 ≤ l.length ∧ l.length ≤ 32 ∧ ∀ i, i < l.length → opsAt nodes l i
/-- the ids that were seen -/
def idsTo (l : List Op) : Nat → List Int
  | 0 => []
  | i + 1 => if 0 < opId (l.getD i op0) then idsTo l i ++ [opId (l.getD i op0)] else idsTo l i
theorem idsTo_mem (l : List Op) (x : Int) : ∀ i, x ∈ idsTo l i ↔ 0 < x ∧ ∃ j, j < i ∧ opId (l.getD j op0) = x
  | 0 => by simp [idsTo]
  | i + 1 => by
    unfold idsTo
    have ih := idsTo_mem l x i
    split
    · rename_i h
      rw [List.mem_append, ih, List.mem_singleton]
      constructor
      · rintro (⟨a, j, b, c⟩ | rfl)
        · exact ⟨a, j, by omega, c⟩
        · exact ⟨h, i, by omega, rfl⟩
      · rintro ⟨a, j, b, c⟩
        rcases Nat.lt_or_ge j i with h' | h'
        · exact .inl ⟨a, j, h', c⟩
        · have : j = i := by omega
          subst this; exact .inr c.symm
    · rename_i h
      rw [ih]
      constructor
      · rintro ⟨a, j, b, c⟩; exact ⟨a, j, by omega, c⟩
      · rintro ⟨a, j, b, c⟩
        refine ⟨a, j, ?_, c⟩
        rcases Nat.lt_or_ge j i with h' | h'
        · exact h'
        · have : j = i := by omega
          subst this; omega
def seenE (ids : List Int) : List (AV × AV) := ids.map fun x => (.int .i64 x, .bool true)
theorem findE_seen (x : Int) : ∀ ids : List Int, findE .int (.int .i64 x) (seenE ids) = some (if x ∈ ids then some (.bool true) else none)
  | [] => rfl
  | y :: ids => by
    show (match sameK .int (.int .i64 x) (.int .i64 y) with | some true => some (some (AV.bool true)) | some false => findE .int (.int .i64 x) (seenE ids) | none => none) = _
    have : sameK .int (.int .i64 x) (.int .i64 y) = some (decide (x = y)) := by simp [sameK]
    rw [this]
    by_cases e : x = y
    · simp [e]
    · simp [e, findE_seen x ids]
theorem updE_seen {x : Int} : ∀ {ids : List Int}, x ∉ ids → updE .int (.int .i64 x) (.bool true) (seenE ids) = seenE (ids ++ [x])
  | [], _ => rfl
  | y :: ids, h => by
    have hne : x ≠ y := fun e => h (by rw [e]; exact .head _)
    have : sameK .int (.int .i64 x) (.int .i64 y) = some (decide (x = y)) := by simp [sameK]
    show (match sameK .int (.int .i64 x) (.int .i64 y) with | some true => (AV.int .i64 x, AV.bool true) :: seenE ids | _ => (AV.int .i64 y, AV.bool true) :: updE .int (.int .i64 x) (.bool true) (seenE ids)) = _
    rw [this, decide_eq_false hne]
    simp only [updE_seen (fun hm => h (.tail _ hm))]
    rfl
theorem lkB_seen {hh : Heap} {x : Int} {ids : List Int} {ver : Nat} : lkB .int (.bool false) false hh (.int .i64 x) (some (.map (seenE ids) ver)) = .val (.bool (decide (x ∈ ids))) hh := by
  simp only [lkB, findE_seen]
  by_cases h : x ∈ ids <;> simp [h]
theorem muB_seen {hh : Heap} {b : Nat} {x : Int} {ids : List Int} {ver : Nat} (h : x ∉ ids) : muB .int hh b (.int .i64 x) (.bool true) (some (.map (seenE ids) ver)) = .val .undef (hh.put b (.map (seenE (ids ++ [x])) (ver + 1))) := by
  simp only [muB, findE_seen, updE_seen h]
theorem opsMay_loop (g : Pg P tab) {nodes : Int} {l : List Op} {v : AV} (hv : IsL 112 ROp v l) (hl : l.length ≤ 32) (b : Nat) (n : Nat) :
    ∀ (i : Nat) (s : T AV) (hh : Heap) (ver : Nat) (k : List Fr) (Q : Ex → T AV → Heap → Prop), i + n = l.length → sg s 0 = v → sg s 1 = .int .i64 nodes → sg s 5 = .map b → sg s 19 = .int .i64 l.length → sg s 20 = .int .i64 i →
      hh.get b = some (.map (seenE (idsTo l i)) ver) →
      ((∀ j, i ≤ j → j < l.length → opsAt nodes l j) → ∀ s' h', Un P k Q (.exit 0) s' h') → ((¬ ∀ j, i ≤ j → j < l.length → opsAt nodes l j) → ∀ s' h', sg s' 4 = .bool false → Un P k Q .ret s' h') → Lp P b87_0 s hh (Un P k Q) := by
  induction n with
  | zero =>
    intro i s hh ver k Q hi h0 h1 h5 h19 h20 hg hK hR
    refine g.lpe b87_0.eq_1 ?_
    have c1 : ¬ ((i : Int) < (l.length : Int)) := by omega
    simp only [h19, h20, c1, RX, VOp.fresh, bxC, bsC, un, most, callsOf, seval, Int.reducePow, ↓reduceIte, Nat.reduceEqDiff, reduceCtorEq]
    exact hK (fun j h1 h2 => by omega) _ _
  | succ n ih =>
    intro i s hh ver k Q hi h0 h1 h5 h19 h20 hg hK hR
    refine g.lpe b87_0.eq_1 ?_
    have c1 : (i : Int) < (l.length : Int) := by omega
    obtain ⟨c, r, hc, tc, tr, g1⟩ := getOp hv i (by omega)
    have w1 : IntKind.i64.wrap ((i : Int) + 1) = ((i + 1 : Nat) : Int) := by rw [w64 (by omega) (by omega)]; push_cast; rfl
    have next : opsAt nodes l i → ∀ (s' : T AV) (h' : Heap) (ver' : Nat), sg s' 0 = v → sg s' 1 = .int .i64 nodes → sg s' 5 = .map b → sg s' 19 = .int .i64 l.length → sg s' 20 = .int .i64 ((i + 1 : Nat) : Int) →
        h'.get b = some (.map (seenE (idsTo l (i + 1))) ver') → Lp P b87_0 s' h' (Un P k Q) := by
      intro hok s' h' ver' a1 a2 a3 a4 a5 a6
      refine ih (i + 1) s' h' ver' k Q (by omega) a1 a2 a3 a4 a5 a6 (fun hall => hK fun j h1 h2 => ?_) (fun hn => hR fun hall => hn fun j h1 h2 => hall j (by omega) h2)
      rcases Nat.lt_or_ge i j with h | h
      · exact hall j h h2
      · have : j = i := by omega
        subst this; exact hok
    have stop : ¬ opsAt nodes l i → ∀ (s' : T AV) (h' : Heap), sg s' 4 = .bool false → Un P k Q .ret s' h' := fun hn => hR fun hall => hn (hall i (Nat.le_refl _) (by omega))
    simp only [h0, h1, h5, h19, h20, c1, g1, RX, VOp.fresh, bxC, bsC, un, most, callsOf, seval, Int.reducePow, ↓reduceIte, Nat.reduceEqDiff, reduceCtorEq]
    refine (opMay_pu g hc tr).go (by simp [AV.tolds, AV.told, Cat.told.tolds_append, tc, tr]) ?_
    rintro x ⟨ob, rfl, hob⟩
    have hid := opId_pu g (r := r) hc
    have hkind : ∃ c', c = .int .i64 (l.getD i op0).kind :: c' := by
      obtain ⟨v', a, u, rfl, _⟩ := hc
      exact ⟨_, rfl⟩
    obtain ⟨c', rfl⟩ := hkind
    cases ob
    · simp only [RX, VOp.fresh, bxC, bsC, un, most, callsOf, seval, Int.reducePow, ↓reduceIte, Nat.reduceEqDiff, reduceCtorEq]
      exact stop (fun hok => absurd (hob.2 hok.1) (by simp)) _ _ (by simp only [sg_set, Nat.reduceEqDiff, ↓reduceIte])
    · have hok := hob.1 rfl
      generalize hx : opId (l.getD i op0) = x0 at *
      have hids : idsTo l (i + 1) = if 0 < x0 then idsTo l i ++ [x0] else idsTo l i := by rw [idsTo, hx]
      by_cases hk : (l.getD i op0).kind = 2
      · rw [hk] at hid tc
        by_cases hi0 : (0 : Int) < (i : Int)
        · simp only [h0, h1, h5, h19, h20, hk, hi0, RX, VOp.fresh, bxC, bsC, un, most, callsOf, seval, Int.reducePow, ↓reduceIte, Nat.reduceEqDiff, reduceCtorEq]
          exact stop (fun hok => absurd (hok.2.1 hk) (by omega)) _ _ (by simp only [sg_set, Nat.reduceEqDiff, ↓reduceIte])
        · simp only [h0, h1, h5, h19, h20, hk, hi0, RX, VOp.fresh, bxC, bsC, un, most, callsOf, seval, Int.reducePow, ↓reduceIte, Nat.reduceEqDiff, reduceCtorEq]
          refine hid.go (by simp [AV.tolds, AV.told, Cat.told.tolds_append, tc, tr]; simpa [AV.tolds, AV.told] using tc) ?_
          rintro x rfl
          by_cases hp : 0 < x0
          · by_cases hm : x0 ∈ idsTo l i
            · simp only [h0, h1, h5, h19, h20, hp, hm, hg, lkB_seen, RX, VOp.fresh, bxC, bsC, un, most, callsOf, seval, Int.reducePow, ↓reduceIte, Nat.reduceEqDiff, reduceCtorEq]
              refine stop (fun hok => ?_) _ _ (by simp only [sg_set, Nat.reduceEqDiff, ↓reduceIte])
              obtain ⟨_, j, h1, h2⟩ := (idsTo_mem l _ i).1 hm
              exact hok.2.2 (by rw [hx]; exact hp) j h1 (by rw [hx]; exact h2)
            · simp only [h0, h1, h5, h19, h20, hp, hm, hg, lkB_seen, muB_seen hm, w1, RX, VOp.fresh, bxC, bsC, un, most, callsOf, seval, Int.reducePow, ↓reduceIte, Nat.reduceEqDiff, reduceCtorEq]
              refine next ⟨hok, fun _ => by omega, fun _ j h1 h2 => hm ((idsTo_mem l _ i).2 ⟨hp, j, h1, by rw [h2, hx]⟩)⟩ _ _ (ver + 1) ?_ ?_ ?_ ?_ ?_ ?_
              · simp only [h0, sg_set, Nat.reduceEqDiff, ↓reduceIte]
              · simp only [h1, sg_set, Nat.reduceEqDiff, ↓reduceIte]
              · simp only [h5, sg_set, Nat.reduceEqDiff, ↓reduceIte]
              · simp only [h19, sg_set, Nat.reduceEqDiff, ↓reduceIte]
              · simp only [sg_set, Nat.reduceEqDiff, ↓reduceIte]
              · rw [Heap.get_put, if_pos rfl, hids, if_pos hp]
          · simp only [h0, h1, h5, h19, h20, hp, w1, RX, VOp.fresh, bxC, bsC, un, most, callsOf, seval, Int.reducePow, ↓reduceIte, Nat.reduceEqDiff, reduceCtorEq]
            refine next ⟨hok, fun _ => by omega, fun h => absurd (by rw [hx] at h; exact h) hp⟩ _ _ ver ?_ ?_ ?_ ?_ ?_ ?_
            · simp only [h0, sg_set, Nat.reduceEqDiff, ↓reduceIte]
            · simp only [h1, sg_set, Nat.reduceEqDiff, ↓reduceIte]
            · simp only [h5, sg_set, Nat.reduceEqDiff, ↓reduceIte]
            · simp only [h19, sg_set, Nat.reduceEqDiff, ↓reduceIte]
            · simp only [sg_set, Nat.reduceEqDiff, ↓reduceIte]
            · rw [hg, hids, if_neg hp]
      · simp only [h0, h1, h5, h19, h20, hk, RX, VOp.fresh, bxC, bsC, un, most, callsOf, seval, Int.reducePow, ↓reduceIte, Nat.reduceEqDiff, reduceCtorEq]
        refine hid.go (by simp [AV.tolds, AV.told, Cat.told.tolds_append, tc, tr]; simpa [AV.tolds, AV.told] using tc) ?_
        rintro x rfl
        by_cases hp : 0 < x0
        · by_cases hm : x0 ∈ idsTo l i
          · simp only [h0, h1, h5, h19, h20, hp, hm, hg, lkB_seen, RX, VOp.fresh, bxC, bsC, un, most, callsOf, seval, Int.reducePow, ↓reduceIte, Nat.reduceEqDiff, reduceCtorEq]
            refine stop (fun hok => ?_) _ _ (by simp only [sg_set, Nat.reduceEqDiff, ↓reduceIte])
            obtain ⟨_, j, h1, h2⟩ := (idsTo_mem l _ i).1 hm
            exact hok.2.2 (by rw [hx]; exact hp) j h1 (by rw [hx]; exact h2)
          · simp only [h0, h1, h5, h19, h20, hp, hm, hg, lkB_seen, muB_seen hm, w1, RX, VOp.fresh, bxC, bsC, un, most, callsOf, seval, Int.reducePow, ↓reduceIte, Nat.reduceEqDiff, reduceCtorEq]
            refine next ⟨hok, fun h => absurd h hk, fun _ j h1 h2 => hm ((idsTo_mem l _ i).2 ⟨hp, j, h1, by rw [h2, hx]⟩)⟩ _ _ (ver + 1) ?_ ?_ ?_ ?_ ?_ ?_
            · simp only [h0, sg_set, Nat.reduceEqDiff, ↓reduceIte]
            · simp only [h1, sg_set, Nat.reduceEqDiff, ↓reduceIte]
            · simp only [h5, sg_set, Nat.reduceEqDiff, ↓reduceIte]
            · simp only [h19, sg_set, Nat.reduceEqDiff, ↓reduceIte]
            · simp only [sg_set, Nat.reduceEqDiff, ↓reduceIte]
            · rw [Heap.get_put, if_pos rfl, hids, if_pos hp]
        · simp only [h0, h1, h5, h19, h20, hp, w1, RX, VOp.fresh, bxC, bsC, un, most, callsOf, seval, Int.reducePow, ↓reduceIte, Nat.reduceEqDiff, reduceCtorEq]
          refine next ⟨hok, fun h => absurd h hk, fun h => absurd (by rw [hx] at h; exact h) hp⟩ _ _ ver ?_ ?_ ?_ ?_ ?_ ?_
          · simp only [h0, sg_set, Nat.reduceEqDiff, ↓reduceIte]
          · simp only [h1, sg_set, Nat.reduceEqDiff, ↓reduceIte]
          · simp only [h5, sg_set, Nat.reduceEqDiff, ↓reduceIte]
          · simp only [h19, sg_set, Nat.reduceEqDiff, ↓reduceIte]
          · simp only [sg_set, Nat.reduceEqDiff, ↓reduceIte]
          · rw [hg, hids, if_neg hp]
theorem opsMay_pu (g : Pg P tab) {nodes : Int} {l : List Op} {v : AV} (hv : IsL 112 ROp v l) : Pu P 87 [v, .int .i64 nodes] (IsB (opsOk nodes l)) := by
  refine g.pu (vf := v87) rfl rfl ?_
  have hb := hv.bound (by decide)
  simp +contextual (maxSteps := 2000000) only [v87, hv.len, RX, VOp.fresh, bxC, bsC, un, most, callsOf, seval, Int.reducePow, ↓reduceIte, Nat.reduceEqDiff, reduceCtorEq]
  repeat' (first | apply And.intro | intro _)
  all_goals first
    | (rename_i hok; unfold opsOk at hok; omega)
    | skip
  refine opsMay_loop (nodes := nodes) g hv (by omega) 0 l.length 0 _ _ 0 _ _ (by omega) ?_ ?_ ?_ ?_ ?_ ?_ ?_ ?_
  · simp only [sg_set, Nat.reduceEqDiff, ↓reduceIte]
  · simp only [sg_set, Nat.reduceEqDiff, ↓reduceIte]
  · simp only [sg_set, Nat.reduceEqDiff, ↓reduceIte]
  · simp only [sg_set, Nat.reduceEqDiff, ↓reduceIte]
  · simp only [sg_set, Nat.reduceEqDiff, ↓reduceIte]
    rfl
  · rw [Heap.get_mk, if_pos rfl]; rfl
  · intro hall s' h'
    simp +contextual (maxSteps := 2000000) only [RX, VOp.fresh, bxC, bsC, un, most, callsOf, seval, Int.reducePow, ↓reduceIte, Nat.reduceEqDiff, reduceCtorEq]
    exact ⟨by omega, by omega, fun i hi => hall i (by omega) hi⟩
  · intro hn s' h' h4
    simp +contextual (maxSteps := 2000000) only [h4, RX, VOp.fresh, bxC, bsC, un, most, callsOf, seval, Int.reducePow, ↓reduceIte, Nat.reduceEqDiff, reduceCtorEq]
    intro hok
    exact hn fun j _ hj => hok.2.2 j hj
end
end Go.Proofs.Ytinonmcnofjeeaa.VM
namespace Go.Proofs.Ytinonmcnofjeeaa.VM
attribute [local irreducible] Af Nx EvO Ev Un Gd Cd EvR EvQ EvC Nc Gc Lp EvM NxM AfM GdM EvMR EvMQ EvMD EvMC Nm Gm
def txOk (a b : Int) : Prop := 0 ≤ a ∧ a < 8 ∧ 1 ≤ b ∧ b ≤ 65535
end Go.Proofs.Ytinonmcnofjeeaa.VM
namespace Go.Proofs.Ytinonmcnofjeeaa.VM
attribute [local irreducible] Af Nx EvO Ev Un Gd Cd EvR EvQ EvC Nc Gc Lp EvM NxM AfM GdM EvMR EvMQ EvMD EvMC Nm Gm
section
variable {P : Program}
theorem num_pu (g : Pg P tab) (n : Int) : Pu P 19 [.int .i64 n] (fun v => v = .int .i64 n) := by
  refine g.pu (vf := v19) rfl rfl ?_
  simp +contextual (maxSteps := 2000000) (disch := omega) only [v19, RX, VOp.fresh, bxC, bsC, un, most, callsOf, seval, Int.reducePow, ↓reduceIte, Nat.reduceEqDiff, reduceCtorEq]
def f5 : Feat := ⟨5, 0, [[⟨6, 7⟩]]⟩
def m0 : Mp := ⟨0, [], []⟩
theorem i64c {n : Int} (a : -1000000 ≤ n) (b : n ≤ 1000000) : I64 n := ⟨by omega, by omega⟩
theorem i0 : I64 0 := i64c (by decide) (by decide)
theorem i1 : I64 1 := i64c (by decide) (by decide)
theorem i5 : I64 5 := i64c (by decide) (by decide)
end
end Go.Proofs.Ytinonmcnofjeeaa.VM
