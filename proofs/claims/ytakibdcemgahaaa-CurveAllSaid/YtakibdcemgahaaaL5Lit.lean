/- Functions of the program, compiled. No claim stands here: definitions alone, printed by a program. -/
import Derived.Test.YtakibdcemgahaaaSE4
namespace Go.Proofs.Ytakibdcemgahaaa.VM
set_option linter.unusedSimpArgs false
set_option linter.unusedVariables false
set_option linter.defProp false
set_option maxHeartbeats 1000000
def b5_0 : VCode := (.seq (.seq (.ops [⟨(some 66), none, .mov (.t 15)⟩, ⟨(some 67), none, .bin .lss (.t 66) (.c (.int .i64 4))⟩])
 (.cond (.t 67) .skip (.exit 0)))
 (.seq (.block 1 (.seq (.ops [⟨(some 71), none, .mov (.t 8)⟩, ⟨(some 72), none, .bin .andNot (.t 71) (.c (.int .i64 1))⟩, ⟨(some 73), none, .mov (.t 15)⟩, ⟨(some 74), none, .bin .and (.t 73) (.c (.int .i64 1))⟩, ⟨(some 75), none, .bin .add (.t 72) (.t 74)⟩, ⟨(some 76), none, .mov (.t 9)⟩, ⟨(some 77), none, .bin .andNot (.t 76) (.c (.int .i64 1))⟩, ⟨(some 78), none, .mov (.t 15)⟩, ⟨(some 79), none, .bin .shr (.t 78) (.c (.int .u64 1))⟩, ⟨(some 80), none, .bin .add (.t 77) (.t 79)⟩, ⟨(some 81), none, .mov (.t 7)⟩, ⟨(some 82), none, .call 12 [(.t 75), (.t 80), (.t 81)]⟩, ⟨(some 70), none, .mov (.t 82)⟩, ⟨(some 83), none, .extract (.t 70) 0⟩, ⟨(some 84), none, .extract (.t 70) 1⟩, ⟨(some 16), none, .mov (.t 83)⟩, ⟨(some 17), none, .mov (.t 84)⟩])
 (.seq (.seq (.ops [⟨(some 85), none, .mov (.t 17)⟩, ⟨(some 86), none, .call 14 [(.t 85)]⟩, ⟨(some 87), none, .bin .neq (.t 86) (.c (.int .i64 0))⟩, ⟨(some 88), none, .mov (.t 87)⟩, ⟨(some 89), (some (88, false)), .mov (.t 16)⟩, ⟨(some 90), (some (88, false)), .bin .shr (.t 89) (.c (.int .u64 2))⟩, ⟨(some 91), (some (88, false)), .mov (.t 12)⟩, ⟨(some 92), (some (88, false)), .bin .neq (.t 90) (.t 91)⟩, ⟨(some 93), none, .pick (.t 88) (.c (.bool true)) (.t 92)⟩, ⟨(some 94), none, .mov (.t 93)⟩, ⟨(some 95), (some (94, false)), .mov (.t 16)⟩, ⟨(some 96), (some (94, false)), .bin .and (.t 95) (.c (.int .i64 3))⟩, ⟨(some 97), (some (94, false)), .iaddr 1 (some 4) (.t 14) (.t 96)⟩, ⟨(some 98), (some (94, false)), .load false 1 (.t 97)⟩, ⟨(some 99), none, .pick (.t 94) (.c (.bool true)) (.t 98)⟩])
 (.cond (.t 99) (.seq (.ops [⟨(some 6), none, .mov (.c (.bool false))⟩])
 .ret) .skip))
 (.ops [⟨(some 100), none, .mov (.t 16)⟩, ⟨(some 101), none, .bin .and (.t 100) (.c (.int .i64 3))⟩, ⟨(some 102), none, .iaddr 1 (some 4) (.t 14) (.t 101)⟩, ⟨none, none, .store 1 (.t 102) (.c (.bool true))⟩]))))
 (.ops [⟨(some 68), none, .mov (.t 15)⟩, ⟨(some 69), none, .bin .add (.t 68) (.c (.int .i64 1))⟩, ⟨(some 15), none, .mov (.t 69)⟩])))
/-- furlong/furlonglaw5.CurveLevels -/
def v5 : VFun := ⟨3, [(.tmp 6)], (.seq (.ops [⟨(some 6), none, .mov (.c (.bool false))⟩])
 (.seq (.seq (.ops [⟨(some 18), none, .call 15 []⟩, ⟨(some 19), none, .un .not (.t 18)⟩])
 (.cond (.t 19) (.seq (.ops [⟨(some 6), none, .mov (.c (.bool false))⟩])
 .ret) .skip))
 (.seq (.ops [⟨(some 20), none, .mov (.t 2)⟩, ⟨(some 21), none, .conv (.int .u64) (.t 20)⟩, ⟨(some 22), none, .bin .rem (.t 21) (.c (.int .u64 15))⟩, ⟨(some 23), none, .conv (.int .i64) (.t 22)⟩, ⟨(some 24), none, .bin .add (.c (.int .i64 2)) (.t 23)⟩, ⟨(some 7), none, .mov (.t 24)⟩])
 (.seq (.drawn [⟨(some 25), none, .mov (.t 0)⟩, ⟨(some 26), none, .mov (.t 7)⟩, ⟨(some 27), none, .bin .shl (.c (.int .i64 1)) (.t 26)⟩, ⟨(some 28), none, .bin .sub (.t 27) (.c (.int .i64 1))⟩, ⟨(some 29), none, .bin .and (.t 25) (.t 28)⟩, ⟨(some 30), none, .mov (.t 1)⟩, ⟨(some 31), none, .mov (.t 7)⟩, ⟨(some 32), none, .bin .shl (.c (.int .i64 1)) (.t 31)⟩, ⟨(some 33), none, .bin .sub (.t 32) (.c (.int .i64 1))⟩, ⟨(some 34), none, .bin .and (.t 30) (.t 33)⟩, ⟨(some 8), none, .mov (.t 29)⟩, ⟨(some 9), none, .mov (.t 34)⟩] [])
 (.seq (.ops [⟨(some 36), none, .mov (.t 8)⟩, ⟨(some 37), none, .mov (.t 9)⟩, ⟨(some 38), none, .mov (.t 7)⟩, ⟨(some 39), none, .call 12 [(.t 36), (.t 37), (.t 38)]⟩, ⟨(some 35), none, .mov (.t 39)⟩, ⟨(some 40), none, .extract (.t 35) 0⟩, ⟨(some 41), none, .extract (.t 35) 1⟩, ⟨(some 10), none, .mov (.t 40)⟩, ⟨(some 11), none, .mov (.t 41)⟩])
 (.seq (.ops [⟨(some 43), none, .mov (.t 8)⟩, ⟨(some 44), none, .bin .shr (.t 43) (.c (.int .u64 1))⟩, ⟨(some 45), none, .mov (.t 9)⟩, ⟨(some 46), none, .bin .shr (.t 45) (.c (.int .u64 1))⟩, ⟨(some 47), none, .mov (.t 7)⟩, ⟨(some 48), none, .bin .sub (.t 47) (.c (.int .i64 1))⟩, ⟨(some 49), none, .call 12 [(.t 44), (.t 46), (.t 48)]⟩, ⟨(some 42), none, .mov (.t 49)⟩, ⟨(some 50), none, .extract (.t 42) 0⟩, ⟨(some 51), none, .extract (.t 42) 1⟩, ⟨(some 12), none, .mov (.t 50)⟩, ⟨(some 13), none, .mov (.t 51)⟩])
 (.seq (.seq (.ops [⟨(some 52), none, .mov (.t 11)⟩, ⟨(some 53), none, .call 14 [(.t 52)]⟩, ⟨(some 54), none, .bin .neq (.t 53) (.c (.int .i64 0))⟩, ⟨(some 55), none, .mov (.t 54)⟩, ⟨(some 56), (some (55, false)), .mov (.t 13)⟩, ⟨(some 57), (some (55, false)), .call 14 [(.t 56)]⟩, ⟨(some 58), (some (55, false)), .bin .neq (.t 57) (.c (.int .i64 0))⟩, ⟨(some 59), none, .pick (.t 55) (.c (.bool true)) (.t 58)⟩, ⟨(some 60), none, .mov (.t 59)⟩, ⟨(some 61), (some (60, false)), .mov (.t 10)⟩, ⟨(some 62), (some (60, false)), .bin .shr (.t 61) (.c (.int .u64 2))⟩, ⟨(some 63), (some (60, false)), .mov (.t 12)⟩, ⟨(some 64), (some (60, false)), .bin .neq (.t 62) (.t 63)⟩, ⟨(some 65), none, .pick (.t 60) (.c (.bool true)) (.t 64)⟩])
 (.cond (.t 65) (.seq (.ops [⟨(some 6), none, .mov (.c (.bool false))⟩])
 .ret) .skip))
 (.seq (.ops [⟨(some 14), none, .alloc [(.bool false), (.bool false), (.bool false), (.bool false)] 40⟩])
 (.seq (.seq (.ops [⟨(some 15), none, .mov (.c (.int .i64 0))⟩])
 (.block 0 (.loop b5_0)))
 (.seq (.ops [⟨(some 6), none, .mov (.c (.bool true))⟩])
 .ret))))))))))⟩
def b7_0 : VCode := (.seq (.seq (.ops [⟨(some 27), none, .mov (.t 9)⟩, ⟨(some 28), none, .mov (.t 4)⟩, ⟨(some 29), none, .bin .lss (.t 27) (.t 28)⟩])
 (.cond (.t 29) .skip (.exit 2)))
 (.seq (.block 3 (.seq (.ops [⟨(some 33), none, .mov (.t 8)⟩, ⟨(some 34), none, .mov (.t 9)⟩, ⟨(some 35), none, .mov (.t 3)⟩, ⟨(some 36), none, .call 12 [(.t 33), (.t 34), (.t 35)]⟩, ⟨(some 32), none, .mov (.t 36)⟩, ⟨(some 37), none, .extract (.t 32) 0⟩, ⟨(some 38), none, .extract (.t 32) 1⟩, ⟨(some 10), none, .mov (.t 37)⟩, ⟨(some 11), none, .mov (.t 38)⟩])
 (.seq (.seq (.ops [⟨(some 39), none, .mov (.t 11)⟩, ⟨(some 40), none, .call 14 [(.t 39)]⟩, ⟨(some 41), none, .bin .neq (.t 40) (.c (.int .i64 0))⟩, ⟨(some 42), none, .mov (.t 41)⟩, ⟨(some 43), (some (42, false)), .mov (.t 10)⟩, ⟨(some 44), (some (42, false)), .bin .lss (.t 43) (.c (.int .i64 0))⟩, ⟨(some 45), none, .pick (.t 42) (.c (.bool true)) (.t 44)⟩, ⟨(some 46), none, .mov (.t 45)⟩, ⟨(some 47), (some (46, false)), .mov (.t 10)⟩, ⟨(some 48), (some (46, false)), .mov (.t 4)⟩, ⟨(some 49), (some (46, false)), .mov (.t 4)⟩, ⟨(some 50), (some (46, false)), .bin .mul (.t 48) (.t 49)⟩, ⟨(some 51), (some (46, false)), .bin .geq (.t 47) (.t 50)⟩, ⟨(some 52), none, .pick (.t 46) (.c (.bool true)) (.t 51)⟩, ⟨(some 53), none, .mov (.t 52)⟩, ⟨(some 54), (some (53, false)), .mov (.t 10)⟩, ⟨(some 55), (some (53, false)), .iaddr 1 (some 256) (.t 7) (.t 54)⟩, ⟨(some 56), (some (53, false)), .load false 1 (.t 55)⟩, ⟨(some 57), none, .pick (.t 53) (.c (.bool true)) (.t 56)⟩])
 (.cond (.t 57) (.seq (.ops [⟨(some 2), none, .mov (.c (.bool false))⟩])
 .ret) .skip))
 (.seq (.ops [⟨(some 58), none, .mov (.t 10)⟩, ⟨(some 59), none, .iaddr 1 (some 256) (.t 7) (.t 58)⟩, ⟨none, none, .store 1 (.t 59) (.c (.bool true))⟩])
 (.seq (.ops [⟨(some 60), none, .mov (.t 10)⟩, ⟨(some 61), none, .mov (.t 8)⟩, ⟨(some 62), none, .iaddr 1 (some 256) (.t 5) (.t 60)⟩, ⟨none, none, .store 1 (.t 62) (.t 61)⟩])
 (.ops [⟨(some 63), none, .mov (.t 10)⟩, ⟨(some 64), none, .mov (.t 9)⟩, ⟨(some 65), none, .iaddr 1 (some 256) (.t 6) (.t 63)⟩, ⟨none, none, .store 1 (.t 65) (.t 64)⟩]))))))
 (.ops [⟨(some 30), none, .mov (.t 9)⟩, ⟨(some 31), none, .bin .add (.t 30) (.c (.int .i64 1))⟩, ⟨(some 9), none, .mov (.t 31)⟩])))
def b7_1 : VCode := (.seq (.seq (.ops [⟨(some 22), none, .mov (.t 8)⟩, ⟨(some 23), none, .mov (.t 4)⟩, ⟨(some 24), none, .bin .lss (.t 22) (.t 23)⟩])
 (.cond (.t 24) .skip (.exit 0)))
 (.seq (.block 1 (.seq (.ops [⟨(some 9), none, .mov (.c (.int .i64 0))⟩])
 (.block 2 (.loop b7_0))))
 (.ops [⟨(some 25), none, .mov (.t 8)⟩, ⟨(some 26), none, .bin .add (.t 25) (.c (.int .i64 1))⟩, ⟨(some 8), none, .mov (.t 26)⟩])))
def b7_2 : VCode := (.seq (.seq (.ops [⟨(some 66), none, .mov (.t 12)⟩, ⟨(some 67), none, .mov (.t 4)⟩, ⟨(some 68), none, .mov (.t 4)⟩, ⟨(some 69), none, .bin .mul (.t 67) (.t 68)⟩, ⟨(some 70), none, .bin .lss (.t 66) (.t 69)⟩])
 (.cond (.t 70) .skip (.exit 4)))
 (.seq (.block 5 (.seq (.drawn [⟨(some 73), none, .mov (.t 12)⟩, ⟨(some 74), none, .iaddr 1 (some 256) (.t 5) (.t 73)⟩, ⟨(some 75), none, .load false 1 (.t 74)⟩, ⟨(some 76), none, .mov (.t 12)⟩, ⟨(some 77), none, .bin .sub (.t 76) (.c (.int .i64 1))⟩, ⟨(some 78), none, .iaddr 1 (some 256) (.t 5) (.t 77)⟩, ⟨(some 79), none, .load false 1 (.t 78)⟩, ⟨(some 80), none, .bin .sub (.t 75) (.t 79)⟩, ⟨(some 81), none, .mov (.t 12)⟩, ⟨(some 82), none, .iaddr 1 (some 256) (.t 6) (.t 81)⟩, ⟨(some 83), none, .load false 1 (.t 82)⟩, ⟨(some 84), none, .mov (.t 12)⟩, ⟨(some 85), none, .bin .sub (.t 84) (.c (.int .i64 1))⟩, ⟨(some 86), none, .iaddr 1 (some 256) (.t 6) (.t 85)⟩, ⟨(some 87), none, .load false 1 (.t 86)⟩, ⟨(some 88), none, .bin .sub (.t 83) (.t 87)⟩, ⟨(some 13), none, .mov (.t 80)⟩, ⟨(some 14), none, .mov (.t 88)⟩] [])
 (.seq (.ops [⟨(some 89), none, .mov (.t 13)⟩, ⟨(some 90), none, .mov (.t 13)⟩, ⟨(some 91), none, .bin .mul (.t 89) (.t 90)⟩, ⟨(some 92), none, .mov (.t 14)⟩, ⟨(some 93), none, .mov (.t 14)⟩, ⟨(some 94), none, .bin .mul (.t 92) (.t 93)⟩, ⟨(some 95), none, .bin .add (.t 91) (.t 94)⟩, ⟨(some 96), none, .bin .neq (.t 95) (.c (.int .i64 1))⟩])
 (.cond (.t 96) (.seq (.ops [⟨(some 2), none, .mov (.c (.bool false))⟩])
 .ret) .skip))))
 (.ops [⟨(some 71), none, .mov (.t 12)⟩, ⟨(some 72), none, .bin .add (.t 71) (.c (.int .i64 1))⟩, ⟨(some 12), none, .mov (.t 72)⟩])))
/-- furlong/furlonglaw5.CurveAll -/
def v7 : VFun := ⟨1, [(.tmp 2)], (.seq (.ops [⟨(some 2), none, .mov (.c (.bool false))⟩])
 (.seq (.seq (.ops [⟨(some 15), none, .call 15 []⟩, ⟨(some 16), none, .un .not (.t 15)⟩])
 (.cond (.t 16) (.seq (.ops [⟨(some 2), none, .mov (.c (.bool false))⟩])
 .ret) .skip))
 (.seq (.ops [⟨(some 17), none, .mov (.t 0)⟩, ⟨(some 18), none, .bin .and (.t 17) (.c (.int .i64 3))⟩, ⟨(some 19), none, .bin .add (.c (.int .i64 1)) (.t 18)⟩, ⟨(some 3), none, .mov (.t 19)⟩])
 (.seq (.ops [⟨(some 20), none, .mov (.t 3)⟩, ⟨(some 21), none, .bin .shl (.c (.int .i64 1)) (.t 20)⟩, ⟨(some 4), none, .mov (.t 21)⟩])
 (.seq (.ops [⟨(some 5), none, .alloc (List.replicate 256 (.int .i64 0)) 42⟩, ⟨(some 6), none, .alloc (List.replicate 256 (.int .i64 0)) 42⟩])
 (.seq (.ops [⟨(some 7), none, .alloc (List.replicate 256 (.bool false)) 43⟩])
 (.seq (.seq (.ops [⟨(some 8), none, .mov (.c (.int .i64 0))⟩])
 (.block 0 (.loop b7_1)))
 (.seq (.seq (.ops [⟨(some 12), none, .mov (.c (.int .i64 1))⟩])
 (.block 4 (.loop b7_2)))
 (.seq (.ops [⟨(some 97), none, .iaddr 1 (some 256) (.t 5) (.c (.int .i64 0))⟩, ⟨(some 98), none, .load false 1 (.t 97)⟩, ⟨(some 99), none, .bin .eql (.t 98) (.c (.int .i64 0))⟩, ⟨(some 100), none, .mov (.t 99)⟩, ⟨(some 101), (some (100, true)), .iaddr 1 (some 256) (.t 6) (.c (.int .i64 0))⟩, ⟨(some 102), (some (100, true)), .load false 1 (.t 101)⟩, ⟨(some 103), (some (100, true)), .bin .eql (.t 102) (.c (.int .i64 0))⟩, ⟨(some 104), none, .pick (.t 100) (.t 103) (.c (.bool false))⟩, ⟨(some 105), none, .mov (.t 104)⟩, ⟨(some 106), (some (105, true)), .mov (.t 4)⟩, ⟨(some 107), (some (105, true)), .mov (.t 4)⟩, ⟨(some 108), (some (105, true)), .bin .mul (.t 106) (.t 107)⟩, ⟨(some 109), (some (105, true)), .bin .sub (.t 108) (.c (.int .i64 1))⟩, ⟨(some 110), (some (105, true)), .iaddr 1 (some 256) (.t 6) (.t 109)⟩, ⟨(some 111), (some (105, true)), .load false 1 (.t 110)⟩, ⟨(some 112), (some (105, true)), .bin .eql (.t 111) (.c (.int .i64 0))⟩, ⟨(some 113), none, .pick (.t 105) (.t 112) (.c (.bool false))⟩, ⟨(some 114), none, .mov (.t 113)⟩, ⟨(some 115), (some (114, true)), .mov (.t 4)⟩, ⟨(some 116), (some (114, true)), .mov (.t 4)⟩, ⟨(some 117), (some (114, true)), .bin .mul (.t 115) (.t 116)⟩, ⟨(some 118), (some (114, true)), .bin .sub (.t 117) (.c (.int .i64 1))⟩, ⟨(some 119), (some (114, true)), .iaddr 1 (some 256) (.t 5) (.t 118)⟩, ⟨(some 120), (some (114, true)), .load false 1 (.t 119)⟩, ⟨(some 121), (some (114, true)), .mov (.t 4)⟩, ⟨(some 122), (some (114, true)), .bin .sub (.t 121) (.c (.int .i64 1))⟩, ⟨(some 123), (some (114, true)), .bin .eql (.t 120) (.t 122)⟩, ⟨(some 124), none, .pick (.t 114) (.t 123) (.c (.bool false))⟩, ⟨(some 2), none, .mov (.t 124)⟩])
 .ret)))))))))⟩
def b12_0 : VCode := (.seq (.seq (.ops [⟨(some 41), none, .mov (.t 9)⟩, ⟨(some 42), none, .bin .geq (.t 41) (.c (.int .i64 0))⟩])
 (.cond (.t 42) .skip (.exit 0)))
 (.seq (.block 1 (.seq (.drawn [⟨(some 45), none, .mov (.t 0)⟩, ⟨(some 46), none, .mov (.t 9)⟩, ⟨(some 47), none, .bin .shr (.t 45) (.t 46)⟩, ⟨(some 48), none, .bin .and (.t 47) (.c (.int .i64 1))⟩, ⟨(some 49), none, .mov (.t 1)⟩, ⟨(some 50), none, .mov (.t 9)⟩, ⟨(some 51), none, .bin .shr (.t 49) (.t 50)⟩, ⟨(some 52), none, .bin .and (.t 51) (.c (.int .i64 1))⟩, ⟨(some 53), none, .mov (.t 9)⟩, ⟨(some 54), none, .bin .shl (.c (.int .i64 1)) (.t 53)⟩, ⟨(some 10), none, .mov (.t 48)⟩, ⟨(some 11), none, .mov (.t 52)⟩, ⟨(some 12), none, .mov (.t 54)⟩] [])
 (.seq (.ops [⟨(some 55), none, .mov (.t 8)⟩, ⟨(some 56), none, .mov (.t 12)⟩, ⟨(some 57), none, .mov (.t 12)⟩, ⟨(some 58), none, .bin .mul (.t 56) (.t 57)⟩, ⟨(some 59), none, .mov (.t 10)⟩, ⟨(some 60), none, .bin .mul (.c (.int .i64 3)) (.t 59)⟩, ⟨(some 61), none, .mov (.t 11)⟩, ⟨(some 62), none, .bin .xor (.t 60) (.t 61)⟩, ⟨(some 63), none, .bin .mul (.t 58) (.t 62)⟩, ⟨(some 64), none, .bin .add (.t 55) (.t 63)⟩, ⟨(some 8), none, .mov (.t 64)⟩])
 (.ops [⟨(some 66), none, .mov (.t 0)⟩, ⟨(some 67), none, .mov (.t 12)⟩, ⟨(some 68), none, .bin .sub (.t 67) (.c (.int .i64 1))⟩, ⟨(some 69), none, .bin .and (.t 66) (.t 68)⟩, ⟨(some 70), none, .mov (.t 1)⟩, ⟨(some 71), none, .mov (.t 12)⟩, ⟨(some 72), none, .bin .sub (.t 71) (.c (.int .i64 1))⟩, ⟨(some 73), none, .bin .and (.t 70) (.t 72)⟩, ⟨(some 74), none, .mov (.t 12)⟩, ⟨(some 75), none, .mov (.t 10)⟩, ⟨(some 76), none, .mov (.t 11)⟩, ⟨(some 77), none, .call 18 [(.t 69), (.t 73), (.t 74), (.t 75), (.t 76)]⟩, ⟨(some 65), none, .mov (.t 77)⟩, ⟨(some 78), none, .extract (.t 65) 0⟩, ⟨(some 79), none, .extract (.t 65) 1⟩, ⟨(some 0), none, .mov (.t 78)⟩, ⟨(some 1), none, .mov (.t 79)⟩]))))
 (.ops [⟨(some 43), none, .mov (.t 9)⟩, ⟨(some 44), none, .bin .sub (.t 43) (.c (.int .i64 1))⟩, ⟨(some 9), none, .mov (.t 44)⟩])))
/-- furlong/hilbert.Cell -/
def v12 : VFun := ⟨3, [(.tmp 6), (.tmp 7)], (.seq (.ops [⟨(some 6), none, .mov (.c (.int .i64 0))⟩, ⟨(some 7), none, .mov (.c (.int .i64 0))⟩])
 (.seq (.seq (.ops [⟨(some 13), none, .mov (.t 2)⟩, ⟨(some 14), none, .bin .lss (.t 13) (.c (.int .i64 1))⟩, ⟨(some 15), none, .mov (.t 14)⟩, ⟨(some 16), (some (15, false)), .mov (.t 2)⟩, ⟨(some 17), (some (15, false)), .bin .gtr (.t 16) (.c (.int .i64 16))⟩, ⟨(some 18), none, .pick (.t 15) (.c (.bool true)) (.t 17)⟩, ⟨(some 19), none, .mov (.t 18)⟩, ⟨(some 20), (some (19, false)), .mov (.t 0)⟩, ⟨(some 21), (some (19, false)), .bin .lss (.t 20) (.c (.int .i64 0))⟩, ⟨(some 22), none, .pick (.t 19) (.c (.bool true)) (.t 21)⟩, ⟨(some 23), none, .mov (.t 22)⟩, ⟨(some 24), (some (23, false)), .mov (.t 1)⟩, ⟨(some 25), (some (23, false)), .bin .lss (.t 24) (.c (.int .i64 0))⟩, ⟨(some 26), none, .pick (.t 23) (.c (.bool true)) (.t 25)⟩, ⟨(some 27), none, .mov (.t 26)⟩, ⟨(some 28), (some (27, false)), .mov (.t 0)⟩, ⟨(some 29), (some (27, false)), .mov (.t 2)⟩, ⟨(some 30), (some (27, false)), .bin .shl (.c (.int .i64 1)) (.t 29)⟩, ⟨(some 31), (some (27, false)), .bin .geq (.t 28) (.t 30)⟩, ⟨(some 32), none, .pick (.t 27) (.c (.bool true)) (.t 31)⟩, ⟨(some 33), none, .mov (.t 32)⟩, ⟨(some 34), (some (33, false)), .mov (.t 1)⟩, ⟨(some 35), (some (33, false)), .mov (.t 2)⟩, ⟨(some 36), (some (33, false)), .bin .shl (.c (.int .i64 1)) (.t 35)⟩, ⟨(some 37), (some (33, false)), .bin .geq (.t 34) (.t 36)⟩, ⟨(some 38), none, .pick (.t 33) (.c (.bool true)) (.t 37)⟩])
 (.cond (.t 38) (.seq (.ops [⟨(some 6), none, .mov (.c (.int .i64 0))⟩, ⟨(some 7), none, .mov (.c (.int .i64 500))⟩])
 .ret) .skip))
 (.seq (.ops [⟨(some 8), none, .mov (.c (.int .i64 0))⟩])
 (.seq (.seq (.ops [⟨(some 39), none, .mov (.t 2)⟩, ⟨(some 40), none, .bin .sub (.t 39) (.c (.int .i64 1))⟩, ⟨(some 9), none, .mov (.t 40)⟩])
 (.block 0 (.loop b12_0)))
 (.seq (.ops [⟨(some 80), none, .mov (.t 8)⟩, ⟨(some 6), none, .mov (.t 80)⟩, ⟨(some 7), none, .mov (.c (.int .i64 0))⟩])
 .ret)))))⟩
/-- furlong/furlonglaw0.Num -/
def v14 : VFun := ⟨1, [(.tmp 2)], (.seq (.ops [⟨(some 2), none, .mov (.c (.int .i64 0))⟩])
 (.seq (.ops [⟨(some 3), none, .mov (.t 0)⟩, ⟨(some 2), none, .mov (.t 3)⟩])
 .ret))⟩
/-- furlong/furlonglaw5.awake -/
def v15 : VFun := ⟨0, [(.tmp 0)], (.seq (.ops [⟨(some 0), none, .mov (.c (.bool false))⟩])
 (.seq (.ops [⟨(some 14), none, .call 12 [(.c (.int .i64 0)), (.c (.int .i64 1)), (.c (.int .i64 1))]⟩, ⟨(some 13), none, .mov (.t 14)⟩, ⟨(some 15), none, .extract (.t 13) 0⟩, ⟨(some 16), none, .extract (.t 13) 1⟩, ⟨(some 1), none, .mov (.t 15)⟩, ⟨(some 2), none, .mov (.t 16)⟩])
 (.seq (.ops [⟨(some 18), none, .call 12 [(.c (.int .i64 1)), (.c (.int .i64 0)), (.c (.int .i64 1))]⟩, ⟨(some 17), none, .mov (.t 18)⟩, ⟨(some 19), none, .extract (.t 17) 0⟩, ⟨(some 20), none, .extract (.t 17) 1⟩, ⟨(some 3), none, .mov (.t 19)⟩, ⟨(some 4), none, .mov (.t 20)⟩])
 (.seq (.ops [⟨(some 22), none, .call 12 [(.c (.int .i64 2)), (.c (.int .i64 0)), (.c (.int .i64 1))]⟩, ⟨(some 21), none, .mov (.t 22)⟩, ⟨(some 23), none, .extract (.t 21) 0⟩, ⟨(some 24), none, .extract (.t 21) 1⟩, ⟨(some 5), none, .mov (.t 23)⟩, ⟨(some 6), none, .mov (.t 24)⟩])
 (.seq (.ops [⟨(some 26), none, .build [(.int .i64 0), (.int .i64 0)] [(0, 1, (.c (.int .i64 4294967295)))]⟩, ⟨(some 27), none, .call 8 [(.t 26)]⟩, ⟨(some 25), none, .mov (.t 27)⟩, ⟨(some 28), none, .extract (.t 25) 0⟩, ⟨(some 29), none, .extract (.t 25) 1⟩, ⟨(some 7), none, .mov (.t 28)⟩, ⟨(some 8), none, .mov (.t 29)⟩])
 (.seq (.ops [⟨(some 31), none, .call 10 [(.c (.int .i64 4294967295))]⟩, ⟨(some 30), none, .mov (.t 31)⟩, ⟨(some 32), none, .extract (.t 30) 0⟩, ⟨(some 33), none, .extract (.t 30) 1⟩, ⟨(some 9), none, .alloc [(.int .i64 0), (.int .i64 0)] 23⟩, ⟨none, none, .store 2 (.t 9) (.t 32)⟩, ⟨(some 10), none, .mov (.t 33)⟩])
 (.seq (.ops [⟨(some 35), none, .call 10 [(.c (.int .i64 (-1)))]⟩, ⟨(some 34), none, .mov (.t 35)⟩, ⟨(some 36), none, .extract (.t 34) 0⟩, ⟨(some 37), none, .extract (.t 34) 1⟩, ⟨(some 11), none, .alloc [(.int .i64 0), (.int .i64 0)] 23⟩, ⟨none, none, .store 2 (.t 11) (.t 36)⟩, ⟨(some 12), none, .mov (.t 37)⟩])
 (.seq (.ops [⟨(some 38), none, .mov (.t 1)⟩, ⟨(some 39), none, .bin .eql (.t 38) (.c (.int .i64 1))⟩, ⟨(some 40), none, .mov (.t 39)⟩, ⟨(some 41), (some (40, true)), .mov (.t 2)⟩, ⟨(some 42), (some (40, true)), .call 14 [(.t 41)]⟩, ⟨(some 43), (some (40, true)), .bin .eql (.t 42) (.c (.int .i64 0))⟩, ⟨(some 44), none, .pick (.t 40) (.t 43) (.c (.bool false))⟩, ⟨(some 45), none, .mov (.t 44)⟩, ⟨(some 46), (some (45, true)), .mov (.t 3)⟩, ⟨(some 47), (some (45, true)), .bin .eql (.t 46) (.c (.int .i64 3))⟩, ⟨(some 48), none, .pick (.t 45) (.t 47) (.c (.bool false))⟩, ⟨(some 49), none, .mov (.t 48)⟩, ⟨(some 50), (some (49, true)), .mov (.t 4)⟩, ⟨(some 51), (some (49, true)), .call 14 [(.t 50)]⟩, ⟨(some 52), (some (49, true)), .bin .eql (.t 51) (.c (.int .i64 0))⟩, ⟨(some 53), none, .pick (.t 49) (.t 52) (.c (.bool false))⟩, ⟨(some 54), none, .mov (.t 53)⟩, ⟨(some 55), (some (54, true)), .mov (.t 6)⟩, ⟨(some 56), (some (54, true)), .call 14 [(.t 55)]⟩, ⟨(some 57), (some (54, true)), .bin .eql (.t 56) (.c (.int .i64 500))⟩, ⟨(some 58), none, .pick (.t 54) (.t 57) (.c (.bool false))⟩, ⟨(some 59), none, .mov (.t 58)⟩, ⟨(some 60), (some (59, true)), .mov (.t 7)⟩, ⟨(some 61), (some (59, true)), .bin .eql (.t 60) (.c (.int .i64 4294967295))⟩, ⟨(some 62), none, .pick (.t 59) (.t 61) (.c (.bool false))⟩, ⟨(some 63), none, .mov (.t 62)⟩, ⟨(some 64), (some (63, true)), .mov (.t 8)⟩, ⟨(some 65), (some (63, true)), .call 14 [(.t 64)]⟩, ⟨(some 66), (some (63, true)), .bin .eql (.t 65) (.c (.int .i64 0))⟩, ⟨(some 67), none, .pick (.t 63) (.t 66) (.c (.bool false))⟩, ⟨(some 68), none, .mov (.t 67)⟩, ⟨(some 69), (some (68, true)), .load true 2 (.t 9)⟩, ⟨(some 70), (some (68, true)), .build [(.int .i64 0), (.int .i64 0)] [(0, 1, (.c (.int .i64 4294901760)))]⟩, ⟨(some 71), (some (68, true)), .eqs (.flat [.int, .int]) false (.t 69) (.t 70)⟩, ⟨(some 72), none, .pick (.t 68) (.t 71) (.c (.bool false))⟩, ⟨(some 73), none, .mov (.t 72)⟩, ⟨(some 74), (some (73, true)), .mov (.t 10)⟩, ⟨(some 75), (some (73, true)), .call 14 [(.t 74)]⟩, ⟨(some 76), (some (73, true)), .bin .eql (.t 75) (.c (.int .i64 0))⟩, ⟨(some 77), none, .pick (.t 73) (.t 76) (.c (.bool false))⟩, ⟨(some 78), none, .mov (.t 77)⟩, ⟨(some 79), (some (78, true)), .mov (.t 12)⟩, ⟨(some 80), (some (78, true)), .call 14 [(.t 79)]⟩, ⟨(some 81), (some (78, true)), .bin .eql (.t 80) (.c (.int .i64 500))⟩, ⟨(some 82), none, .pick (.t 78) (.t 81) (.c (.bool false))⟩, ⟨(some 0), none, .mov (.t 82)⟩])
 .ret))))))))⟩
/-- furlong/hilbert.Encode -/
def v8 : VFun := ⟨1, [(.tmp 2), (.tmp 3)], (.seq (.ops [⟨(some 1), none, .box 23 (.t 0)⟩, ⟨(some 2), none, .mov (.c (.int .i64 0))⟩, ⟨(some 3), none, .mov (.c (.int .i64 0))⟩])
 (.seq (.seq (.ops [⟨(some 6), none, .load true 2 (.t 1)⟩, ⟨(some 7), none, .call 16 [(.t 6)]⟩, ⟨(some 8), none, .un .not (.t 7)⟩])
 (.cond (.t 8) (.seq (.ops [⟨(some 2), none, .mov (.c (.int .i64 0))⟩, ⟨(some 3), none, .mov (.c (.int .i64 500))⟩])
 .ret) .skip))
 (.seq (.ops [⟨(some 10), none, .faddr 0 (.t 1)⟩, ⟨(some 11), none, .load false 1 (.t 10)⟩, ⟨(some 12), none, .bin .shr (.t 11) (.c (.int .u64 16))⟩, ⟨(some 13), none, .faddr 1 (.t 1)⟩, ⟨(some 14), none, .load false 1 (.t 13)⟩, ⟨(some 15), none, .bin .shr (.t 14) (.c (.int .u64 16))⟩, ⟨(some 16), none, .call 12 [(.t 12), (.t 15), (.c (.int .i64 16))]⟩, ⟨(some 9), none, .mov (.t 16)⟩, ⟨(some 17), none, .extract (.t 9) 0⟩, ⟨(some 18), none, .extract (.t 9) 1⟩, ⟨(some 4), none, .mov (.t 17)⟩, ⟨(some 5), none, .mov (.t 18)⟩])
 (.seq (.ops [⟨(some 19), none, .mov (.t 4)⟩, ⟨(some 2), none, .mov (.t 19)⟩, ⟨(some 3), none, .mov (.c (.int .i64 0))⟩])
 .ret))))⟩
def b10_0 : VCode := (.seq (.ops [⟨(some 18), none, .bin .lss (.t 17) (.c (.int .i64 16))⟩])
 (.seq (.cond (.t 18) .skip (.exit 0))
 (.seq (.block 1 (.seq (.ops [⟨(some 19), none, .mov (.t 17)⟩, ⟨(some 6), none, .mov (.t 19)⟩])
 (.seq (.ops [⟨(some 20), none, .mov (.t 0)⟩, ⟨(some 21), none, .mov (.t 6)⟩, ⟨(some 22), none, .bin .mul (.c (.int .i64 2)) (.t 21)⟩, ⟨(some 23), none, .bin .shr (.t 20) (.t 22)⟩, ⟨(some 24), none, .bin .and (.t 23) (.c (.int .i64 3))⟩, ⟨(some 7), none, .mov (.t 24)⟩])
 (.seq (.ops [⟨(some 25), none, .mov (.t 7)⟩, ⟨(some 26), none, .bin .shr (.t 25) (.c (.int .u64 1))⟩, ⟨(some 8), none, .mov (.t 26)⟩])
 (.seq (.ops [⟨(some 27), none, .mov (.t 7)⟩, ⟨(some 28), none, .mov (.t 8)⟩, ⟨(some 29), none, .bin .xor (.t 27) (.t 28)⟩, ⟨(some 30), none, .bin .and (.t 29) (.c (.int .i64 1))⟩, ⟨(some 9), none, .mov (.t 30)⟩])
 (.seq (.ops [⟨(some 32), none, .mov (.t 4)⟩, ⟨(some 33), none, .mov (.t 5)⟩, ⟨(some 34), none, .mov (.t 6)⟩, ⟨(some 35), none, .bin .shl (.c (.int .i64 1)) (.t 34)⟩, ⟨(some 36), none, .mov (.t 8)⟩, ⟨(some 37), none, .mov (.t 9)⟩, ⟨(some 38), none, .call 18 [(.t 32), (.t 33), (.t 35), (.t 36), (.t 37)]⟩, ⟨(some 31), none, .mov (.t 38)⟩, ⟨(some 39), none, .extract (.t 31) 0⟩, ⟨(some 40), none, .extract (.t 31) 1⟩, ⟨(some 4), none, .mov (.t 39)⟩, ⟨(some 5), none, .mov (.t 40)⟩])
 (.seq (.ops [⟨(some 41), none, .mov (.t 4)⟩, ⟨(some 42), none, .mov (.t 8)⟩, ⟨(some 43), none, .mov (.t 6)⟩, ⟨(some 44), none, .bin .shl (.t 42) (.t 43)⟩, ⟨(some 45), none, .bin .or (.t 41) (.t 44)⟩, ⟨(some 4), none, .mov (.t 45)⟩])
 (.ops [⟨(some 46), none, .mov (.t 5)⟩, ⟨(some 47), none, .mov (.t 9)⟩, ⟨(some 48), none, .mov (.t 6)⟩, ⟨(some 49), none, .bin .shl (.t 47) (.t 48)⟩, ⟨(some 50), none, .bin .or (.t 46) (.t 49)⟩, ⟨(some 5), none, .mov (.t 50)⟩]))))))))
 (.ops [⟨(some 51), none, .bin .add (.t 17) (.c (.int .i64 1))⟩, ⟨(some 17), none, .mov (.t 51)⟩]))))
/-- furlong/hilbert.Decode -/
def v10 : VFun := ⟨1, [(.cell 2 true 2), (.tmp 3)], (.seq (.ops [⟨(some 2), none, .alloc [(.int .i64 0), (.int .i64 0)] 23⟩, ⟨(some 3), none, .mov (.c (.int .i64 0))⟩])
 (.seq (.seq (.ops [⟨(some 10), none, .mov (.t 0)⟩, ⟨(some 11), none, .bin .lss (.t 10) (.c (.int .i64 0))⟩, ⟨(some 12), none, .mov (.t 11)⟩, ⟨(some 13), (some (12, false)), .mov (.t 0)⟩, ⟨(some 14), (some (12, false)), .bin .geq (.t 13) (.c (.int .i64 4294967296))⟩, ⟨(some 15), none, .pick (.t 12) (.c (.bool true)) (.t 14)⟩])
 (.cond (.t 15) (.seq (.ops [⟨(some 16), none, .build [(.int .i64 0), (.int .i64 0)] []⟩, ⟨none, none, .store 2 (.t 2) (.t 16)⟩, ⟨(some 3), none, .mov (.c (.int .i64 500))⟩])
 .ret) .skip))
 (.seq (.ops [⟨(some 4), none, .mov (.c (.int .i64 0))⟩, ⟨(some 5), none, .mov (.c (.int .i64 0))⟩])
 (.seq (.seq (.ops [⟨(some 17), none, .mov (.c (.int .i64 0))⟩])
 (.block 0 (.loop b10_0)))
 (.seq (.ops [⟨(some 52), none, .mov (.t 4)⟩, ⟨(some 53), none, .bin .shl (.t 52) (.c (.int .u64 16))⟩, ⟨(some 54), none, .mov (.t 5)⟩, ⟨(some 55), none, .bin .shl (.t 54) (.c (.int .u64 16))⟩, ⟨(some 56), none, .build [(.int .i64 0), (.int .i64 0)] [(0, 1, (.t 53)), (1, 1, (.t 55))]⟩, ⟨none, none, .store 2 (.t 2) (.t 56)⟩, ⟨(some 3), none, .mov (.c (.int .i64 0))⟩])
 .ret)))))⟩
/-- furlong/geom.PointMay -/
def v16 : VFun := ⟨1, [(.tmp 2)], (.seq (.ops [⟨(some 1), none, .box 23 (.t 0)⟩, ⟨(some 2), none, .mov (.c (.bool false))⟩])
 (.seq (.ops [⟨(some 3), none, .faddr 0 (.t 1)⟩, ⟨(some 4), none, .load false 1 (.t 3)⟩, ⟨(some 5), none, .call 19 [(.t 4)]⟩, ⟨(some 6), none, .mov (.t 5)⟩, ⟨(some 7), (some (6, true)), .faddr 1 (.t 1)⟩, ⟨(some 8), (some (6, true)), .load false 1 (.t 7)⟩, ⟨(some 9), (some (6, true)), .call 19 [(.t 8)]⟩, ⟨(some 10), none, .pick (.t 6) (.t 9) (.c (.bool false))⟩, ⟨(some 2), none, .mov (.t 10)⟩])
 .ret))⟩
/-- furlong/hilbert.turned -/
def v18 : VFun := ⟨5, [(.tmp 10), (.tmp 11)], (.seq (.ops [⟨(some 10), none, .mov (.c (.int .i64 0))⟩, ⟨(some 11), none, .mov (.c (.int .i64 0))⟩])
 (.seq (.seq (.ops [⟨(some 12), none, .mov (.t 4)⟩, ⟨(some 13), none, .bin .eql (.t 12) (.c (.int .i64 1))⟩])
 (.cond (.t 13) (.seq (.ops [⟨(some 14), none, .mov (.t 0)⟩, ⟨(some 15), none, .mov (.t 1)⟩, ⟨(some 10), none, .mov (.t 14)⟩, ⟨(some 11), none, .mov (.t 15)⟩])
 .ret) .skip))
 (.seq (.seq (.ops [⟨(some 16), none, .mov (.t 3)⟩, ⟨(some 17), none, .bin .eql (.t 16) (.c (.int .i64 1))⟩])
 (.cond (.t 17) (.ops [⟨(some 18), none, .mov (.t 2)⟩, ⟨(some 19), none, .bin .sub (.t 18) (.c (.int .i64 1))⟩, ⟨(some 20), none, .mov (.t 0)⟩, ⟨(some 21), none, .bin .sub (.t 19) (.t 20)⟩, ⟨(some 22), none, .mov (.t 2)⟩, ⟨(some 23), none, .bin .sub (.t 22) (.c (.int .i64 1))⟩, ⟨(some 24), none, .mov (.t 1)⟩, ⟨(some 25), none, .bin .sub (.t 23) (.t 24)⟩, ⟨(some 0), none, .mov (.t 21)⟩, ⟨(some 1), none, .mov (.t 25)⟩]) .skip))
 (.seq (.ops [⟨(some 26), none, .mov (.t 1)⟩, ⟨(some 27), none, .mov (.t 0)⟩, ⟨(some 10), none, .mov (.t 26)⟩, ⟨(some 11), none, .mov (.t 27)⟩])
 .ret))))⟩
/-- furlong/geom.coord -/
def v19 : VFun := ⟨1, [(.tmp 2)], (.seq (.ops [⟨(some 2), none, .mov (.c (.bool false))⟩])
 (.seq (.ops [⟨(some 3), none, .mov (.t 0)⟩, ⟨(some 4), none, .bin .geq (.t 3) (.c (.int .i64 0))⟩, ⟨(some 5), none, .mov (.t 4)⟩, ⟨(some 6), (some (5, true)), .mov (.t 0)⟩, ⟨(some 7), (some (5, true)), .bin .leq (.t 6) (.c (.int .i64 4294967295))⟩, ⟨(some 8), none, .pick (.t 5) (.t 7) (.c (.bool false))⟩, ⟨(some 2), none, .mov (.t 8)⟩])
 .ret))⟩
def tab : Nat → Option VFun := tableOf [(5, v5), (7, v7), (12, v12), (14, v14), (15, v15), (8, v8), (10, v10), (16, v16), (18, v18), (19, v19)]
end Go.Proofs.Ytakibdcemgahaaa.VM
