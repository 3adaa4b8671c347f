/- Part of a proof: contracts and lemmas; no condition. -/
import Derived.Test.YtpacfelhjjmmkaaDoorGlc
import Derived.Test.YtpacfelhjjmmkaaDoorProg
import Derived.KernelRfl
section
namespace Go.Proofs.YtpacfelhjjmmkaaDoor
open Go Go.Sy
def c_cadencelaw8_CardLoads : AF :=
  ⟨109, (.seq (.reg [⟨(some 10), none, (.mv (.c (.b false)))⟩])
    (.seq (.seq (.reg [⟨(some 22), none, (.call 6 [])⟩,
    ⟨(some 23), none, (.un .not (.t 22))⟩])
    (.cond (.t 23)
    (.seq (.reg [⟨(some 10), none, (.mv (.c (.b false)))⟩])
    .ret)
    .skip))
    (.seq (.seq (.reg [⟨(some 24), none, (.mv (.t 4))⟩,
    ⟨(some 25), none, (.bls (.t 24))⟩,
    ⟨(some 26), none, (.bin .gtr .other (.t 25) (.c (.i .i64 300)))⟩])
    (.cond (.t 26)
    (.seq (.reg [⟨(some 10), none, (.mv (.c (.b true)))⟩])
    .ret)
    .skip))
    (.seq (.reg [⟨(some 27), none, (.mv (.t 0))⟩,
    ⟨(some 28), none, (.call 7 [(.t 27)])⟩,
    ⟨(some 11), none, (.mv (.t 28))⟩])
    (.seq (.reg [⟨(some 29), none, (.mv (.t 1))⟩,
    ⟨(some 30), none, (.mv (.t 11))⟩,
    ⟨(some 31), none, (.bls (.t 30))⟩,
    ⟨(some 32), none, (.bin .add .other (.t 31) (.c (.i .i64 1)))⟩,
    ⟨(some 33), none, (.call 8 [(.t 29), (.t 32)])⟩,
    ⟨(some 12), none, (.mv (.t 33))⟩])
    (.seq (.reg [⟨(some 34), none, (.mv (.t 11))⟩,
    ⟨(some 35), none, (.cbs 5 (.t 34))⟩,
    ⟨(some 13), none, (.mv (.t 35))⟩])
    (.seq (.seq (.reg [⟨(some 36), none, (.mv (.t 13))⟩,
    ⟨(some 37), none, (.bll (.t 36))⟩,
    ⟨(some 38), none, (.bin .gtr .other (.t 37) (.c (.i .i64 0)))⟩])
    (.cond (.t 38)
    (.reg [⟨(some 39), none, (.mv (.t 13))⟩,
    ⟨(some 40), none, (.mv (.t 1))⟩,
    ⟨(some 41), none, (.mv (.t 13))⟩,
    ⟨(some 42), none, (.bll (.t 41))⟩,
    ⟨(some 43), none, (.call 8 [(.t 40), (.t 42)])⟩,
    ⟨(some 44), none, (.ia 1 (.t 39) (.t 43))⟩,
    ⟨(some 45), none, (.ld1 (.t 44))⟩,
    ⟨(some 46), none, (.mv (.t 2))⟩,
    ⟨(some 47), none, (.bin .add .other (.t 45) (.t 46))⟩,
    ⟨(some 48), none, (.ia 1 (.t 39) (.t 43))⟩,
    ⟨none, none, (.st 1 (.t 48) (.t 47))⟩])
    .skip))
    (.seq (.dreg [⟨⟨(some 49), none, (.mv (.t 11))⟩, 0⟩,
    ⟨⟨(some 50), none, (.mv (.t 11))⟩, 0⟩,
    ⟨⟨(some 51), none, (.mv (.t 12))⟩, 0⟩,
    ⟨⟨(some 52), none, (.sls (.t 50) none (some (.t 51)))⟩, 6⟩,
    ⟨⟨(some 53), none, (.mv (.t 11))⟩, 0⟩,
    ⟨⟨(some 54), none, (.mv (.t 12))⟩, 0⟩,
    ⟨⟨(some 55), none, (.sls (.t 53) none (some (.t 54)))⟩, 48⟩,
    ⟨⟨(some 56), none, (.mv (.t 3))⟩, 0⟩,
    ⟨⟨(some 57), none, (.call 9 [(.t 56)])⟩, 128⟩,
    ⟨⟨(some 58), none, (.bin .add .other (.t 55) (.t 57))⟩, 496⟩,
    ⟨⟨(some 59), none, (.mv (.t 11))⟩, 0⟩,
    ⟨⟨(some 60), none, (.mv (.t 12))⟩, 0⟩,
    ⟨⟨(some 61), none, (.sls (.t 59) (some (.t 60)) none)⟩, 3072⟩,
    ⟨⟨(some 62), none, (.bin .add .other (.t 58) (.t 61))⟩, 8176⟩,
    ⟨⟨(some 63), none, (.mv (.t 13))⟩, 0⟩,
    ⟨⟨(some 64), none, (.csb (.t 63))⟩, 16384⟩,
    ⟨⟨(some 65), none, (.mv (.t 4))⟩, 0⟩,
    ⟨⟨(some 66), none, (.mv (.t 11))⟩, 0⟩,
    ⟨⟨(some 67), none, (.mv (.t 1))⟩, 0⟩,
    ⟨⟨(some 68), none, (.call 9 [(.t 67)])⟩, 262528⟩,
    ⟨⟨(some 69), none, (.bin .add .other (.t 66) (.t 68))⟩, 917888⟩,
    ⟨⟨(some 70), none, (.bsl 9 1 6 [(.s [])] [(0, (1, (.t 49))), (1, (1, (.t 52))), (2, (1, (.t 62))), (3, (1, (.t 64))), (4, (1, (.t 65))), (5, (1, (.t 69)))])⟩, 2097151⟩,
    ⟨⟨(some 14), none, (.mv (.t 70))⟩, 4194303⟩])
    (.seq (.seq (.reg [⟨(some 15), none, (.mv (.c (.i .i64 0)))⟩])
    (.blk 0 (.loop (.seq (.seq (.reg [⟨(some 71), none, (.mv (.t 15))⟩,
    ⟨(some 72), none, (.mv (.t 14))⟩,
    ⟨(some 73), none, (.bll (.t 72))⟩,
    ⟨(some 74), none, (.bin .lss .other (.t 71) (.t 73))⟩])
    (.cond (.t 74)
    .skip
    (.exit 0)))
    (.seq (.blk 1 (.seq (.reg [⟨(some 78), none, (.mv (.t 14))⟩,
    ⟨(some 79), none, (.mv (.t 15))⟩,
    ⟨(some 80), none, (.ia 1 (.t 78) (.t 79))⟩,
    ⟨(some 81), none, (.ld1 (.t 80))⟩,
    ⟨(some 82), none, (.call 10 [(.t 81)])⟩,
    ⟨(some 77), none, (.mv (.t 82))⟩,
    ⟨(some 83), none, (.ext (.t 77) 0)⟩,
    ⟨(some 84), none, (.ext (.t 77) 1)⟩,
    ⟨(some 85), none, (.ext (.t 77) 2)⟩,
    ⟨(some 16), none, (.mv (.t 83))⟩,
    ⟨(some 17), none, (.mv (.t 84))⟩,
    ⟨(some 18), none, (.mv (.t 85))⟩])
    (.seq (.reg [⟨(some 87), none, (.mv (.t 14))⟩,
    ⟨(some 88), none, (.mv (.t 15))⟩,
    ⟨(some 89), none, (.ia 1 (.t 87) (.t 88))⟩,
    ⟨(some 90), none, (.ld1 (.t 89))⟩,
    ⟨(some 91), none, (.call 11 [(.t 90)])⟩,
    ⟨(some 86), none, (.mv (.t 91))⟩,
    ⟨(some 92), none, (.ext (.t 86) 0)⟩,
    ⟨(some 93), none, (.ext (.t 86) 1)⟩,
    ⟨(some 94), none, (.ext (.t 86) 2)⟩,
    ⟨(some 19), none, (.mv (.t 92))⟩,
    ⟨(some 20), none, (.mv (.t 93))⟩,
    ⟨(some 21), none, (.mv (.t 94))⟩])
    (.seq (.reg [⟨(some 95), none, (.mv (.t 16))⟩,
    ⟨(some 96), none, (.mv (.t 19))⟩,
    ⟨(some 97), none, (.call 12 [(.t 95), (.t 96)])⟩,
    ⟨(some 98), none, (.un .not (.t 97))⟩,
    ⟨(some 99), none, (.mv (.t 98))⟩,
    ⟨(some 100), (some (99, false)), (.mv (.t 17))⟩,
    ⟨(some 101), (some (99, false)), (.mv (.t 20))⟩,
    ⟨(some 102), (some (99, false)), (.bin .neq .other (.t 100) (.t 101))⟩,
    ⟨(some 103), none, (.pick (.t 99) (.c (.b true)) (.t 102))⟩,
    ⟨(some 104), none, (.mv (.t 103))⟩,
    ⟨(some 105), (some (104, false)), (.mv (.t 18))⟩,
    ⟨(some 106), (some (104, false)), (.mv (.t 21))⟩,
    ⟨(some 107), (some (104, false)), (.bin .neq .other (.t 105) (.t 106))⟩,
    ⟨(some 108), none, (.pick (.t 104) (.c (.b true)) (.t 107))⟩])
    (.cond (.t 108)
    (.seq (.reg [⟨(some 10), none, (.mv (.c (.b false)))⟩])
    .ret)
    .skip)))))
    (.reg [⟨(some 75), none, (.mv (.t 15))⟩,
    ⟨(some 76), none, (.bin .add .other (.t 75) (.c (.i .i64 1)))⟩,
    ⟨(some 15), none, (.mv (.t 76))⟩]))))))
    (.seq (.reg [⟨(some 10), none, (.mv (.c (.b true)))⟩])
    .ret)))))))))), [(.tmp 10)]⟩
theorem cc_cadencelaw8_CardLoads : compF Tryd.prog 3 = some c_cadencelaw8_CardLoads := by kernel_rfl
def c_cadencelaw8_known : AF :=
  ⟨16, (.seq (.reg [⟨(some 0), none, (.mv (.c (.b false)))⟩])
    (.seq (.reg [⟨(some 5), none, (.call 10 [(.c (.s [66, 69, 71, 73, 78, 58, 67, 65, 82, 68, 10, 73, 68, 58, 120, 10, 69, 78, 68, 58, 67, 65, 82, 68, 10]))])⟩,
    ⟨(some 4), none, (.mv (.t 5))⟩,
    ⟨(some 6), none, (.ext (.t 4) 0)⟩,
    ⟨(some 7), none, (.ext (.t 4) 1)⟩,
    ⟨(some 8), none, (.ext (.t 4) 2)⟩,
    ⟨(some 1), none, (.mv (.t 6))⟩,
    ⟨(some 2), none, (.mv (.t 7))⟩,
    ⟨(some 3), none, (.mv (.t 8))⟩])
    (.seq (.reg [⟨(some 9), none, (.mv (.t 3))⟩,
    ⟨(some 10), none, (.bin .eql .other (.t 9) (.c (.i .i64 0)))⟩,
    ⟨(some 11), none, (.mv (.t 10))⟩,
    ⟨(some 12), (some (11, true)), (.mv (.t 1))⟩,
    ⟨(some 13), (some (11, true)), (.call 13 [(.t 12)])⟩,
    ⟨(some 14), (some (11, true)), (.bin .eql .other (.t 13) (.c (.s [123, 34, 67, 65, 82, 68, 34, 58, 32, 123, 34, 120, 34, 58, 32, 123, 34, 98, 108, 111, 99, 107, 115, 34, 58, 32, 123, 125, 44, 32, 34, 112, 114, 111, 112, 115, 34, 58, 32, 123, 125, 125, 125, 125])))⟩,
    ⟨(some 15), none, (.pick (.t 11) (.t 14) (.c (.b false)))⟩,
    ⟨(some 0), none, (.mv (.t 15))⟩])
    .ret))), [(.tmp 0)]⟩
theorem cc_cadencelaw8_known : compF Tryd.prog 6 = some c_cadencelaw8_known := by kernel_rfl
def c_cadencelaw8_File : AF :=
  ⟨191, (.seq (.reg [⟨(some 2), none, (.mv (.c (.s [])))⟩])
    (.seq (.reg [⟨(some 3), none, (.mv (.c (.s [])))⟩])
    (.seq (.reg [⟨(some 4), none, (.mv (.c (.i .i64 0)))⟩])
    (.seq (.reg [⟨(some 5), none, (.alc 47 [(.s []), (.s []), (.s []), (.s []), (.s []), (.s []), (.s []), (.s [])])⟩])
    (.seq (.seq (.reg [⟨(some 6), none, (.mv (.c (.i .i64 0)))⟩])
    (.blk 0 (.loop (.seq (.seq (.reg [⟨(some 11), none, (.mv (.t 6))⟩,
    ⟨(some 12), none, (.mv (.t 0))⟩,
    ⟨(some 13), none, (.bll (.t 12))⟩,
    ⟨(some 14), none, (.bin .lss .other (.t 11) (.t 13))⟩,
    ⟨(some 15), none, (.mv (.t 14))⟩,
    ⟨(some 16), (some (15, true)), (.mv (.t 6))⟩,
    ⟨(some 17), (some (15, true)), (.bin .lss .other (.t 16) (.c (.i .i64 40)))⟩,
    ⟨(some 18), none, (.pick (.t 15) (.t 17) (.c (.b false)))⟩])
    (.cond (.t 18)
    .skip
    (.exit 0)))
    (.seq (.blk 1 (.seq (.reg [⟨(some 21), none, (.mv (.t 0))⟩,
    ⟨(some 22), none, (.mv (.t 6))⟩,
    ⟨(some 23), none, (.ia 1 (.t 21) (.t 22))⟩,
    ⟨(some 24), none, (.ld1 (.t 23))⟩,
    ⟨(some 7), none, (.mv (.t 24))⟩])
    (.seq (.reg [⟨(some 25), none, (.bsl 9 1 4 [(.s [])] [(0, (1, (.c (.s [10])))), (1, (1, (.c (.s [10])))), (2, (1, (.c (.s [10])))), (3, (1, (.c (.s [13, 10]))))])⟩,
    ⟨(some 26), none, (.mv (.t 7))⟩,
    ⟨(some 27), none, (.bin .quo .other (.t 26) (.c (.i .i64 7)))⟩,
    ⟨(some 28), none, (.call 8 [(.t 27), (.c (.i .i64 4))])⟩,
    ⟨(some 29), none, (.ia 1 (.t 25) (.t 28))⟩,
    ⟨(some 30), none, (.ld1 (.t 29))⟩,
    ⟨(some 8), none, (.mv (.t 30))⟩])
    (.seq (.reg [⟨(some 31), none, (.mv (.t 7))⟩,
    ⟨(some 32), none, (.call 8 [(.t 31), (.c (.i .i64 12))])⟩,
    ⟨(some 9), none, (.mv (.t 32))⟩])
    (.blk 2 (.seq (.reg [⟨(some 34), none, (.mv (.t 9))⟩,
    ⟨(some 35), none, (.bin .lss .other (.t 34) (.c (.i .i64 3)))⟩,
    ⟨(some 36), none, (.mv (.t 35))⟩,
    ⟨(some 37), (some (36, true)), (.mv (.t 4))⟩,
    ⟨(some 38), (some (36, true)), (.bin .lss .other (.t 37) (.c (.i .i64 3)))⟩,
    ⟨(some 39), none, (.pick (.t 36) (.t 38) (.c (.b false)))⟩,
    ⟨(some 40), none, (.mv (.t 39))⟩,
    ⟨(some 41), (some (40, false)), (.mv (.t 4))⟩,
    ⟨(some 42), (some (40, false)), (.bin .eql .other (.t 41) (.c (.i .i64 0)))⟩,
    ⟨(some 43), (some (40, false)), (.mv (.t 42))⟩,
    ⟨(some 44), (some (43, true)), (.mv (.t 9))⟩,
    ⟨(some 45), (some (43, true)), (.bin .gtr .other (.t 44) (.c (.i .i64 4)))⟩,
    ⟨(some 46), (some (40, false)), (.pick (.t 43) (.t 45) (.c (.b false)))⟩,
    ⟨(some 47), none, (.pick (.t 40) (.c (.b true)) (.t 46))⟩,
    ⟨(some 33), none, (.mv (.t 47))⟩])
    (.cond (.t 33)
    (.seq (.reg [⟨(some 48), none, (.mv (.t 4))⟩,
    ⟨(some 49), none, (.bsl 9 1 3 [(.s [])] [(0, (1, (.c (.s [67, 65, 82, 68])))), (1, (1, (.c (.s [88, 45, 49])))), (2, (1, (.c (.s [69, 86, 69, 78, 84]))))])⟩,
    ⟨(some 50), none, (.mv (.t 7))⟩,
    ⟨(some 51), none, (.bin .quo .other (.t 50) (.c (.i .i64 12)))⟩,
    ⟨(some 52), none, (.call 8 [(.t 51), (.c (.i .i64 3))])⟩,
    ⟨(some 53), none, (.ia 1 (.t 49) (.t 52))⟩,
    ⟨(some 54), none, (.ld1 (.t 53))⟩,
    ⟨(some 55), none, (.iaa 8 1 (.t 5) (.t 48))⟩,
    ⟨none, none, (.st 1 (.t 55) (.t 54))⟩])
    (.seq (.reg [⟨(some 56), none, (.mv (.t 6))⟩,
    ⟨(some 57), none, (.bin .rem .other (.t 56) (.c (.i .i64 26)))⟩,
    ⟨(some 58), none, (.bin .add .other (.c (.i .i64 97)) (.t 57))⟩,
    ⟨(some 59), none, (.cvi .u8 (.t 58))⟩,
    ⟨(some 60), none, (.bsl 5 1 1 [(.i .u8 0)] [(0, (1, (.t 59)))])⟩,
    ⟨(some 61), none, (.csb (.t 60))⟩,
    ⟨(some 62), none, (.bin .add .other (.c (.s [105])) (.t 61))⟩,
    ⟨(some 10), none, (.mv (.t 62))⟩])
    (.seq (.seq (.reg [⟨(some 63), none, (.mv (.t 7))⟩,
    ⟨(some 64), none, (.bin .quo .other (.t 63) (.c (.i .i64 5)))⟩,
    ⟨(some 65), none, (.call 8 [(.t 64), (.c (.i .i64 3))])⟩,
    ⟨(some 66), none, (.bin .eql .other (.t 65) (.c (.i .i64 0)))⟩])
    (.cond (.t 66)
    (.reg [⟨(some 67), none, (.mv (.t 3))⟩,
    ⟨(some 68), none, (.bin .add .other (.t 67) (.c (.s [66, 69, 71, 73, 78, 58])))⟩,
    ⟨(some 69), none, (.mv (.t 4))⟩,
    ⟨(some 70), none, (.iaa 8 1 (.t 5) (.t 69))⟩,
    ⟨(some 71), none, (.ld1 (.t 70))⟩,
    ⟨(some 72), none, (.bin .add .other (.t 68) (.t 71))⟩,
    ⟨(some 73), none, (.mv (.t 8))⟩,
    ⟨(some 74), none, (.bin .add .other (.t 72) (.t 73))⟩,
    ⟨(some 75), none, (.bin .add .other (.t 74) (.c (.s [78, 58, 102, 105, 114, 115, 116])))⟩,
    ⟨(some 76), none, (.mv (.t 8))⟩,
    ⟨(some 77), none, (.bin .add .other (.t 75) (.t 76))⟩,
    ⟨(some 78), none, (.bin .add .other (.t 77) (.c (.s [73, 68, 58])))⟩,
    ⟨(some 79), none, (.mv (.t 10))⟩,
    ⟨(some 80), none, (.bin .add .other (.t 78) (.t 79))⟩,
    ⟨(some 81), none, (.bin .add .other (.t 80) (.c (.s [92, 92])))⟩,
    ⟨(some 82), none, (.mv (.t 8))⟩,
    ⟨(some 83), none, (.bin .add .other (.t 81) (.t 82))⟩,
    ⟨(some 3), none, (.mv (.t 83))⟩])
    (.reg [⟨(some 84), none, (.mv (.t 3))⟩,
    ⟨(some 85), none, (.bin .add .other (.t 84) (.c (.s [66, 69, 71, 73, 78, 58])))⟩,
    ⟨(some 86), none, (.mv (.t 4))⟩,
    ⟨(some 87), none, (.iaa 8 1 (.t 5) (.t 86))⟩,
    ⟨(some 88), none, (.ld1 (.t 87))⟩,
    ⟨(some 89), none, (.bin .add .other (.t 85) (.t 88))⟩,
    ⟨(some 90), none, (.mv (.t 8))⟩,
    ⟨(some 91), none, (.bin .add .other (.t 89) (.t 90))⟩,
    ⟨(some 92), none, (.bin .add .other (.t 91) (.c (.s [73, 68, 58])))⟩,
    ⟨(some 93), none, (.mv (.t 10))⟩,
    ⟨(some 94), none, (.bin .add .other (.t 92) (.t 93))⟩,
    ⟨(some 95), none, (.mv (.t 8))⟩,
    ⟨(some 96), none, (.bin .add .other (.t 94) (.t 95))⟩,
    ⟨(some 3), none, (.mv (.t 96))⟩])))
    (.reg [⟨(some 97), none, (.mv (.t 4))⟩,
    ⟨(some 98), none, (.bin .add .other (.t 97) (.c (.i .i64 1)))⟩,
    ⟨(some 4), none, (.mv (.t 98))⟩]))))
    (.seq (.reg [⟨(some 100), none, (.mv (.t 9))⟩,
    ⟨(some 101), none, (.bin .lss .other (.t 100) (.c (.i .i64 5)))⟩,
    ⟨(some 102), none, (.mv (.t 101))⟩,
    ⟨(some 103), (some (102, true)), (.mv (.t 4))⟩,
    ⟨(some 104), (some (102, true)), (.bin .gtr .other (.t 103) (.c (.i .i64 0)))⟩,
    ⟨(some 105), none, (.pick (.t 102) (.t 104) (.c (.b false)))⟩,
    ⟨(some 99), none, (.mv (.t 105))⟩])
    (.cond (.t 99)
    (.seq (.reg [⟨(some 106), none, (.mv (.t 4))⟩,
    ⟨(some 107), none, (.bin .sub .other (.t 106) (.c (.i .i64 1)))⟩,
    ⟨(some 4), none, (.mv (.t 107))⟩])
    (.reg [⟨(some 108), none, (.mv (.t 3))⟩,
    ⟨(some 109), none, (.bin .add .other (.t 108) (.c (.s [69, 78, 68, 58])))⟩,
    ⟨(some 110), none, (.mv (.t 4))⟩,
    ⟨(some 111), none, (.iaa 8 1 (.t 5) (.t 110))⟩,
    ⟨(some 112), none, (.ld1 (.t 111))⟩,
    ⟨(some 113), none, (.bin .add .other (.t 109) (.t 112))⟩,
    ⟨(some 114), none, (.mv (.t 8))⟩,
    ⟨(some 115), none, (.bin .add .other (.t 113) (.t 114))⟩,
    ⟨(some 3), none, (.mv (.t 115))⟩]))
    (.seq (.reg [⟨(some 117), none, (.mv (.t 9))⟩,
    ⟨(some 118), none, (.bin .lss .other (.t 117) (.c (.i .i64 6)))⟩,
    ⟨(some 116), none, (.mv (.t 118))⟩])
    (.cond (.t 116)
    (.reg [⟨(some 119), none, (.mv (.t 3))⟩,
    ⟨(some 120), none, (.bin .add .other (.t 119) (.c (.s [32, 9])))⟩,
    ⟨(some 121), none, (.mv (.t 8))⟩,
    ⟨(some 122), none, (.bin .add .other (.t 120) (.t 121))⟩,
    ⟨(some 3), none, (.mv (.t 122))⟩])
    (.seq (.reg [⟨(some 124), none, (.mv (.t 4))⟩,
    ⟨(some 125), none, (.bin .gtr .other (.t 124) (.c (.i .i64 0)))⟩,
    ⟨(some 123), none, (.mv (.t 125))⟩])
    (.cond (.t 123)
    (.dreg [⟨⟨(some 126), none, (.mv (.t 3))⟩, 0⟩,
    ⟨⟨(some 127), none, (.bsl 9 1 4 [(.s [])] [(0, (1, (.c (.s [78])))), (1, (1, (.c (.s [84, 69, 76])))), (2, (1, (.c (.s [78, 79, 84, 69])))), (3, (1, (.c (.s [88, 45, 89]))))])⟩, 0⟩,
    ⟨⟨(some 128), none, (.mv (.t 7))⟩, 0⟩,
    ⟨⟨(some 129), none, (.bin .quo .other (.t 128) (.c (.i .i64 12)))⟩, 4⟩,
    ⟨⟨(some 130), none, (.call 8 [(.t 129), (.c (.i .i64 4))])⟩, 12⟩,
    ⟨⟨(some 131), none, (.ia 1 (.t 127) (.t 130))⟩, 30⟩,
    ⟨⟨(some 132), none, (.ld1 (.t 131))⟩, 62⟩,
    ⟨⟨(some 133), none, (.bin .add .other (.t 126) (.t 132))⟩, 127⟩,
    ⟨⟨(some 134), none, (.bin .add .other (.t 133) (.c (.s [58])))⟩, 255⟩,
    ⟨⟨(some 135), none, (.bsl 9 1 5 [(.s [])] [(0, (1, (.c (.s [])))), (1, (1, (.c (.s [97])))), (2, (1, (.c (.s [98, 32, 99, 32])))), (3, (1, (.c (.s [92, 110, 92, 114])))), (4, (1, (.c (.s [112, 58, 113]))))])⟩, 0⟩,
    ⟨⟨(some 136), none, (.mv (.t 7))⟩, 0⟩,
    ⟨⟨(some 137), none, (.bin .quo .other (.t 136) (.c (.i .i64 48)))⟩, 1024⟩,
    ⟨⟨(some 138), none, (.call 8 [(.t 137), (.c (.i .i64 5))])⟩, 3100⟩,
    ⟨⟨(some 139), none, (.ia 1 (.t 135) (.t 138))⟩, 7708⟩,
    ⟨⟨(some 140), none, (.ld1 (.t 139))⟩, 15900⟩,
    ⟨⟨(some 141), none, (.bin .add .other (.t 134) (.t 140))⟩, 32767⟩,
    ⟨⟨(some 142), none, (.mv (.t 6))⟩, 0⟩,
    ⟨⟨(some 143), none, (.bin .rem .other (.t 142) (.c (.i .i64 26)))⟩, 65536⟩,
    ⟨⟨(some 144), none, (.bin .add .other (.c (.i .i64 97)) (.t 143))⟩, 196608⟩,
    ⟨⟨(some 145), none, (.cvi .u8 (.t 144))⟩, 458752⟩,
    ⟨⟨(some 146), none, (.bsl 5 1 1 [(.i .u8 0)] [(0, (1, (.t 145)))])⟩, 983040⟩,
    ⟨⟨(some 147), none, (.csb (.t 146))⟩, 2031616⟩,
    ⟨⟨(some 148), none, (.bin .add .other (.t 141) (.t 147))⟩, 4194303⟩,
    ⟨⟨(some 149), none, (.mv (.t 8))⟩, 0⟩,
    ⟨⟨(some 150), none, (.bin .add .other (.t 148) (.t 149))⟩, 16777215⟩,
    ⟨⟨(some 3), none, (.mv (.t 150))⟩, 33554431⟩])
    .skip)))))))))))))
    (.reg [⟨(some 19), none, (.mv (.t 6))⟩,
    ⟨(some 20), none, (.bin .add .other (.t 19) (.c (.i .i64 1)))⟩,
    ⟨(some 6), none, (.mv (.t 20))⟩]))))))
    (.seq (.blk 3 (.loop (.seq (.seq (.reg [⟨(some 151), none, (.mv (.t 4))⟩,
    ⟨(some 152), none, (.bin .gtr .other (.t 151) (.c (.i .i64 0)))⟩])
    (.cond (.t 152)
    .skip
    (.exit 3)))
    (.blk 4 (.seq (.reg [⟨(some 153), none, (.mv (.t 4))⟩,
    ⟨(some 154), none, (.bin .sub .other (.t 153) (.c (.i .i64 1)))⟩,
    ⟨(some 4), none, (.mv (.t 154))⟩])
    (.reg [⟨(some 155), none, (.mv (.t 3))⟩,
    ⟨(some 156), none, (.bin .add .other (.t 155) (.c (.s [69, 78, 68, 58])))⟩,
    ⟨(some 157), none, (.mv (.t 4))⟩,
    ⟨(some 158), none, (.iaa 8 1 (.t 5) (.t 157))⟩,
    ⟨(some 159), none, (.ld1 (.t 158))⟩,
    ⟨(some 160), none, (.bin .add .other (.t 156) (.t 159))⟩,
    ⟨(some 161), none, (.bin .add .other (.t 160) (.c (.s [10])))⟩,
    ⟨(some 3), none, (.mv (.t 161))⟩]))))))
    (.seq (.seq (.reg [⟨(some 162), none, (.mv (.t 0))⟩,
    ⟨(some 163), none, (.bll (.t 162))⟩,
    ⟨(some 164), none, (.bin .gtr .other (.t 163) (.c (.i .i64 0)))⟩,
    ⟨(some 165), none, (.mv (.t 164))⟩,
    ⟨(some 166), (some (165, true)), (.mv (.t 0))⟩,
    ⟨(some 167), (some (165, true)), (.ia 1 (.t 166) (.c (.i .i64 0)))⟩,
    ⟨(some 168), (some (165, true)), (.ld1 (.t 167))⟩,
    ⟨(some 169), (some (165, true)), (.call 8 [(.t 168), (.c (.i .i64 5))])⟩,
    ⟨(some 170), (some (165, true)), (.bin .eql .other (.t 169) (.c (.i .i64 0)))⟩,
    ⟨(some 171), none, (.pick (.t 165) (.t 170) (.c (.b false)))⟩,
    ⟨(some 172), none, (.mv (.t 171))⟩,
    ⟨(some 173), (some (172, true)), (.mv (.t 3))⟩,
    ⟨(some 174), (some (172, true)), (.bls (.t 173))⟩,
    ⟨(some 175), (some (172, true)), (.bin .gtr .other (.t 174) (.c (.i .i64 1)))⟩,
    ⟨(some 176), none, (.pick (.t 172) (.t 175) (.c (.b false)))⟩,
    ⟨(some 177), none, (.mv (.t 176))⟩,
    ⟨(some 178), (some (177, true)), (.mv (.t 3))⟩,
    ⟨(some 179), (some (177, true)), (.mv (.t 3))⟩,
    ⟨(some 180), (some (177, true)), (.bls (.t 179))⟩,
    ⟨(some 181), (some (177, true)), (.bin .sub .other (.t 180) (.c (.i .i64 2)))⟩,
    ⟨(some 182), (some (177, true)), (.ixs (.t 178) (.t 181))⟩,
    ⟨(some 183), (some (177, true)), (.bin .neq .other (.t 182) (.c (.i .u8 13)))⟩,
    ⟨(some 184), none, (.pick (.t 177) (.t 183) (.c (.b false)))⟩])
    (.cond (.t 184)
    (.reg [⟨(some 185), none, (.mv (.t 3))⟩,
    ⟨(some 186), none, (.mv (.t 3))⟩,
    ⟨(some 187), none, (.bls (.t 186))⟩,
    ⟨(some 188), none, (.bin .sub .other (.t 187) (.c (.i .i64 1)))⟩,
    ⟨(some 189), none, (.sls (.t 185) none (some (.t 188)))⟩,
    ⟨(some 3), none, (.mv (.t 189))⟩])
    .skip))
    (.seq (.reg [⟨(some 190), none, (.mv (.t 3))⟩,
    ⟨(some 2), none, (.mv (.t 190))⟩])
    .ret)))))))), [(.tmp 2)]⟩
theorem cc_cadencelaw8_File : compF Tryd.prog 7 = some c_cadencelaw8_File := by kernel_rfl
def c_cadencelaw8_within : AF :=
  ⟨15, (.seq (.reg [⟨(some 4), none, (.mv (.c (.i .i64 0)))⟩])
    (.seq (.reg [⟨(some 6), none, (.mv (.t 0))⟩,
    ⟨(some 7), none, (.mv (.t 1))⟩,
    ⟨(some 8), none, (.bin .rem .other (.t 6) (.t 7))⟩,
    ⟨(some 5), none, (.mv (.t 8))⟩])
    (.seq (.seq (.reg [⟨(some 9), none, (.mv (.t 5))⟩,
    ⟨(some 10), none, (.bin .lss .other (.t 9) (.c (.i .i64 0)))⟩])
    (.cond (.t 10)
    (.reg [⟨(some 11), none, (.mv (.t 5))⟩,
    ⟨(some 12), none, (.mv (.t 1))⟩,
    ⟨(some 13), none, (.bin .add .other (.t 11) (.t 12))⟩,
    ⟨(some 5), none, (.mv (.t 13))⟩])
    .skip))
    (.seq (.reg [⟨(some 14), none, (.mv (.t 5))⟩,
    ⟨(some 4), none, (.mv (.t 14))⟩])
    .ret)))), [(.tmp 4)]⟩
theorem cc_cadencelaw8_within : compF Tryd.prog 8 = some c_cadencelaw8_within := by kernel_rfl
def c_cadencelaw8_Odd : AF :=
  ⟨8, (.seq (.reg [⟨(some 2), none, (.mv (.c (.s [])))⟩])
    (.seq (.reg [⟨(some 3), none, (.bsl 9 1 14 [(.s [])] [(0, (1, (.c (.s [66, 69, 71, 73, 78, 58, 67, 65, 82, 68, 10])))), (1, (1, (.c (.s [69, 78, 68, 58, 67, 65, 82, 68, 10])))), (2, (1, (.c (.s [73, 68, 58, 120, 10])))), (3, (1, (.c (.s [73, 68, 58, 10])))), (4, (1, (.c (.s [78, 58, 97, 10])))), (5, (1, (.c (.s [110, 58, 97, 10])))), (6, (1, (.c (.s [13])))), (7, (1, (.c (.s [88, 10])))), (8, (1, (.c (.s [58, 97, 10])))), (9, (1, (.c (.s [78, 58, 92, 113, 10])))), (10, (1, (.c (.s [78, 58, 92])))), (11, (1, (.c (.s [66, 69, 71, 73, 78, 58, 97, 10])))), (12, (1, (.c (.s [10])))), (13, (1, (.c (.s [32, 66, 69, 71, 73, 78, 58, 67, 65, 82, 68, 10]))))])⟩,
    ⟨(some 4), none, (.mv (.t 0))⟩,
    ⟨(some 5), none, (.call 8 [(.t 4), (.c (.i .i64 14))])⟩,
    ⟨(some 6), none, (.ia 1 (.t 3) (.t 5))⟩,
    ⟨(some 7), none, (.ld1 (.t 6))⟩,
    ⟨(some 2), none, (.mv (.t 7))⟩])
    .ret)), [(.tmp 2)]⟩
theorem cc_cadencelaw8_Odd : compF Tryd.prog 9 = some c_cadencelaw8_Odd := by kernel_rfl
def c_card_Load : AF :=
  ⟨26, (.seq (.reg [⟨(some 2), none, (.mv (.c .nils))⟩,
    ⟨(some 3), none, (.mv (.c (.i .i64 0)))⟩,
    ⟨(some 4), none, (.mv (.c (.i .i64 0)))⟩])
    (.seq (.reg [⟨(some 8), none, (.mv (.t 0))⟩,
    ⟨(some 9), none, (.call 18 [(.t 8)])⟩,
    ⟨(some 7), none, (.mv (.t 9))⟩,
    ⟨(some 10), none, (.ext (.t 7) 0)⟩,
    ⟨(some 11), none, (.ext (.t 7) 1)⟩,
    ⟨(some 12), none, (.ext (.t 7) 2)⟩,
    ⟨(some 5), none, (.mv (.t 10))⟩,
    ⟨(some 6), none, (.mv (.t 11))⟩,
    ⟨(some 4), none, (.mv (.t 12))⟩])
    (.seq (.seq (.reg [⟨(some 13), none, (.mv (.t 4))⟩,
    ⟨(some 14), none, (.bin .neq .other (.t 13) (.c (.i .i64 0)))⟩])
    (.cond (.t 14)
    (.seq (.reg [⟨(some 15), none, (.mv (.t 6))⟩,
    ⟨(some 16), none, (.mv (.t 4))⟩,
    ⟨(some 2), none, (.mv (.c .nils))⟩,
    ⟨(some 3), none, (.mv (.t 15))⟩,
    ⟨(some 4), none, (.mv (.t 16))⟩])
    .ret)
    .skip))
    (.seq (.reg [⟨(some 18), none, (.mv (.t 5))⟩,
    ⟨(some 19), none, (.nilc (.t 18))⟩,
    ⟨(some 20), none, (.fa 2 (.t 19))⟩,
    ⟨(some 21), none, (.ld1 (.t 20))⟩,
    ⟨(some 22), none, (.call 19 [(.t 21), (.c .nils)])⟩,
    ⟨(some 17), none, (.mv (.t 22))⟩,
    ⟨(some 23), none, (.ext (.t 17) 0)⟩,
    ⟨(some 24), none, (.ext (.t 17) 1)⟩,
    ⟨(some 2), none, (.mv (.t 23))⟩])
    (.seq (.reg [⟨(some 25), none, (.mv (.t 2))⟩,
    ⟨(some 2), none, (.mv (.t 25))⟩,
    ⟨(some 3), none, (.mv (.c (.i .i64 0)))⟩,
    ⟨(some 4), none, (.mv (.c (.i .i64 0)))⟩])
    .ret))))), [(.tmp 2), (.tmp 3), (.tmp 4)]⟩
theorem cc_card_Load : compF Tryd.prog 10 = some c_card_Load := by kernel_rfl
def c_cadenceref8_Load : AF :=
  ⟨31, (.seq (.reg [⟨(some 2), none, (.mv (.c .nils))⟩,
    ⟨(some 3), none, (.mv (.c (.i .i64 0)))⟩,
    ⟨(some 4), none, (.mv (.c (.i .i64 0)))⟩])
    (.seq (.seq (.reg [⟨(some 9), none, (.mv (.t 0))⟩,
    ⟨(some 10), none, (.bls (.t 9))⟩,
    ⟨(some 11), none, (.bin .gtr .other (.t 10) (.c (.i .i64 4000)))⟩])
    (.cond (.t 11)
    (.seq (.reg [⟨(some 2), none, (.mv (.c .nils))⟩,
    ⟨(some 3), none, (.mv (.c (.i .i64 0)))⟩,
    ⟨(some 4), none, (.mv (.c (.i .i64 5)))⟩])
    .ret)
    .skip))
    (.seq (.reg [⟨(some 13), none, (.mv (.t 0))⟩,
    ⟨(some 14), none, (.call 21 [(.t 13)])⟩,
    ⟨(some 15), none, (.call 20 [(.t 14)])⟩,
    ⟨(some 12), none, (.mv (.t 15))⟩,
    ⟨(some 16), none, (.ext (.t 12) 0)⟩,
    ⟨(some 17), none, (.ext (.t 12) 1)⟩,
    ⟨(some 18), none, (.ext (.t 12) 2)⟩,
    ⟨(some 5), none, (.mv (.t 16))⟩,
    ⟨(some 6), none, (.mv (.t 17))⟩,
    ⟨(some 7), none, (.mv (.t 18))⟩])
    (.seq (.seq (.reg [⟨(some 19), none, (.mv (.t 7))⟩,
    ⟨(some 20), none, (.bin .neq .other (.t 19) (.c (.i .i64 0)))⟩])
    (.cond (.t 20)
    (.seq (.reg [⟨(some 21), none, (.mv (.t 6))⟩,
    ⟨(some 22), none, (.mv (.t 7))⟩,
    ⟨(some 2), none, (.mv (.c .nils))⟩,
    ⟨(some 3), none, (.mv (.t 21))⟩,
    ⟨(some 4), none, (.mv (.t 22))⟩])
    .ret)
    .skip))
    (.seq (.reg [⟨(some 23), none, (.mv (.t 5))⟩,
    ⟨(some 24), none, (.call 22 [(.t 23)])⟩,
    ⟨(some 8), none, (.mv (.t 24))⟩])
    (.seq (.reg [⟨(some 25), none, (.mv (.t 8))⟩,
    ⟨(some 26), none, (.call 23 [(.t 25)])⟩,
    ⟨(some 7), none, (.mv (.t 26))⟩])
    (.seq (.seq (.reg [⟨(some 27), none, (.mv (.t 7))⟩,
    ⟨(some 28), none, (.bin .neq .other (.t 27) (.c (.i .i64 0)))⟩])
    (.cond (.t 28)
    (.seq (.reg [⟨(some 29), none, (.mv (.t 7))⟩,
    ⟨(some 2), none, (.mv (.c .nils))⟩,
    ⟨(some 3), none, (.mv (.c (.i .i64 0)))⟩,
    ⟨(some 4), none, (.mv (.t 29))⟩])
    .ret)
    .skip))
    (.seq (.reg [⟨(some 30), none, (.mv (.t 8))⟩,
    ⟨(some 2), none, (.mv (.t 30))⟩,
    ⟨(some 3), none, (.mv (.c (.i .i64 0)))⟩,
    ⟨(some 4), none, (.mv (.c (.i .i64 0)))⟩])
    .ret)))))))), [(.tmp 2), (.tmp 3), (.tmp 4)]⟩
theorem cc_cadenceref8_Load : compF Tryd.prog 11 = some c_cadenceref8_Load := by kernel_rfl
def c_cadenceref2_Same : AF :=
  ⟨42, (.seq (.reg [⟨(some 4), none, (.mv (.c (.b false)))⟩])
    (.seq (.seq (.reg [⟨(some 6), none, (.mv (.t 0))⟩,
    ⟨(some 7), none, (.bll (.t 6))⟩,
    ⟨(some 8), none, (.mv (.t 1))⟩,
    ⟨(some 9), none, (.bll (.t 8))⟩,
    ⟨(some 10), none, (.bin .neq .other (.t 7) (.t 9))⟩])
    (.cond (.t 10)
    (.seq (.reg [⟨(some 4), none, (.mv (.c (.b false)))⟩])
    .ret)
    .skip))
    (.seq (.seq (.reg [⟨(some 5), none, (.mv (.c (.i .i64 0)))⟩])
    (.blk 0 (.loop (.seq (.seq (.reg [⟨(some 11), none, (.mv (.t 5))⟩,
    ⟨(some 12), none, (.mv (.t 0))⟩,
    ⟨(some 13), none, (.bll (.t 12))⟩,
    ⟨(some 14), none, (.bin .lss .other (.t 11) (.t 13))⟩])
    (.cond (.t 14)
    .skip
    (.exit 0)))
    (.seq (.blk 1 (.seq (.dreg [⟨⟨(some 17), none, (.mv (.t 0))⟩, 0⟩,
    ⟨⟨(some 18), none, (.mv (.t 5))⟩, 0⟩,
    ⟨⟨(some 19), none, (.ia 2 (.t 17) (.t 18))⟩, 3⟩,
    ⟨⟨(some 20), none, (.fa 0 (.t 19))⟩, 7⟩,
    ⟨⟨(some 21), none, (.ld1 (.t 20))⟩, 15⟩,
    ⟨⟨(some 22), none, (.mv (.t 1))⟩, 0⟩,
    ⟨⟨(some 23), none, (.mv (.t 5))⟩, 0⟩,
    ⟨⟨(some 24), none, (.ia 2 (.t 22) (.t 23))⟩, 96⟩,
    ⟨⟨(some 25), none, (.fa 0 (.t 24))⟩, 224⟩,
    ⟨⟨(some 26), none, (.ld1 (.t 25))⟩, 480⟩,
    ⟨⟨(some 27), none, (.bin .neq .other (.t 21) (.t 26))⟩, 1023⟩,
    ⟨⟨(some 28), none, (.mv (.t 27))⟩, 2047⟩,
    ⟨⟨(some 29), (some (28, false)), (.mv (.t 0))⟩, 4095⟩,
    ⟨⟨(some 30), (some (28, false)), (.mv (.t 5))⟩, 4095⟩,
    ⟨⟨(some 31), (some (28, false)), (.ia 2 (.t 29) (.t 30))⟩, 16383⟩,
    ⟨⟨(some 32), (some (28, false)), (.fa 1 (.t 31))⟩, 32767⟩,
    ⟨⟨(some 33), (some (28, false)), (.ld1 (.t 32))⟩, 65535⟩,
    ⟨⟨(some 34), (some (28, false)), (.mv (.t 1))⟩, 4095⟩,
    ⟨⟨(some 35), (some (28, false)), (.mv (.t 5))⟩, 4095⟩,
    ⟨⟨(some 36), (some (28, false)), (.ia 2 (.t 34) (.t 35))⟩, 397311⟩,
    ⟨⟨(some 37), (some (28, false)), (.fa 1 (.t 36))⟩, 921599⟩,
    ⟨⟨(some 38), (some (28, false)), (.ld1 (.t 37))⟩, 1970175⟩,
    ⟨⟨(some 39), (some (28, false)), (.call 12 [(.t 33), (.t 38)])⟩, 4194303⟩,
    ⟨⟨(some 40), (some (28, false)), (.un .not (.t 39))⟩, 8388607⟩,
    ⟨⟨(some 41), none, (.pick (.t 28) (.c (.b true)) (.t 40))⟩, 16777215⟩])
    (.cond (.t 41)
    (.seq (.reg [⟨(some 4), none, (.mv (.c (.b false)))⟩])
    .ret)
    .skip)))
    (.reg [⟨(some 15), none, (.mv (.t 5))⟩,
    ⟨(some 16), none, (.bin .add .other (.t 15) (.c (.i .i64 1)))⟩,
    ⟨(some 5), none, (.mv (.t 16))⟩]))))))
    (.seq (.reg [⟨(some 4), none, (.mv (.c (.b true)))⟩])
    .ret)))), [(.tmp 4)]⟩
theorem cc_cadenceref2_Same : compF Tryd.prog 12 = some c_cadenceref2_Same := by kernel_rfl
def c_cadenceref2_Text : AF :=
  ⟨33, (.seq (.reg [⟨(some 2), none, (.mv (.c (.s [])))⟩])
    (.seq (.reg [⟨(some 3), none, (.mv (.c (.s [123])))⟩])
    (.seq (.seq (.reg [⟨(some 4), none, (.mv (.c (.i .i64 0)))⟩])
    (.blk 0 (.loop (.seq (.seq (.reg [⟨(some 5), none, (.mv (.t 4))⟩,
    ⟨(some 6), none, (.mv (.t 0))⟩,
    ⟨(some 7), none, (.bll (.t 6))⟩,
    ⟨(some 8), none, (.bin .lss .other (.t 5) (.t 7))⟩])
    (.cond (.t 8)
    .skip
    (.exit 0)))
    (.seq (.blk 1 (.seq (.seq (.reg [⟨(some 11), none, (.mv (.t 4))⟩,
    ⟨(some 12), none, (.bin .gtr .other (.t 11) (.c (.i .i64 0)))⟩])
    (.cond (.t 12)
    (.reg [⟨(some 13), none, (.mv (.t 3))⟩,
    ⟨(some 14), none, (.bin .add .other (.t 13) (.c (.s [44, 32])))⟩,
    ⟨(some 3), none, (.mv (.t 14))⟩])
    .skip))
    (.dreg [⟨⟨(some 15), none, (.mv (.t 3))⟩, 0⟩,
    ⟨⟨(some 16), none, (.mv (.t 0))⟩, 0⟩,
    ⟨⟨(some 17), none, (.mv (.t 4))⟩, 0⟩,
    ⟨⟨(some 18), none, (.ia 2 (.t 16) (.t 17))⟩, 6⟩,
    ⟨⟨(some 19), none, (.fa 0 (.t 18))⟩, 14⟩,
    ⟨⟨(some 20), none, (.ld1 (.t 19))⟩, 30⟩,
    ⟨⟨(some 21), none, (.call 24 [(.t 20)])⟩, 62⟩,
    ⟨⟨(some 22), none, (.bin .add .other (.t 15) (.t 21))⟩, 127⟩,
    ⟨⟨(some 23), none, (.bin .add .other (.t 22) (.c (.s [58, 32])))⟩, 255⟩,
    ⟨⟨(some 24), none, (.mv (.t 0))⟩, 0⟩,
    ⟨⟨(some 25), none, (.mv (.t 4))⟩, 0⟩,
    ⟨⟨(some 26), none, (.ia 2 (.t 24) (.t 25))⟩, 1536⟩,
    ⟨⟨(some 27), none, (.fa 1 (.t 26))⟩, 3584⟩,
    ⟨⟨(some 28), none, (.ld1 (.t 27))⟩, 7680⟩,
    ⟨⟨(some 29), none, (.call 13 [(.t 28)])⟩, 15998⟩,
    ⟨⟨(some 30), none, (.bin .add .other (.t 23) (.t 29))⟩, 32767⟩,
    ⟨⟨(some 3), none, (.mv (.t 30))⟩, 65535⟩])))
    (.reg [⟨(some 9), none, (.mv (.t 4))⟩,
    ⟨(some 10), none, (.bin .add .other (.t 9) (.c (.i .i64 1)))⟩,
    ⟨(some 4), none, (.mv (.t 10))⟩]))))))
    (.seq (.reg [⟨(some 31), none, (.mv (.t 3))⟩,
    ⟨(some 32), none, (.bin .add .other (.t 31) (.c (.s [125])))⟩,
    ⟨(some 2), none, (.mv (.t 32))⟩])
    .ret)))), [(.tmp 2)]⟩
theorem cc_cadenceref2_Text : compF Tryd.prog 13 = some c_cadenceref2_Text := by kernel_rfl
def c_card_load : AF :=
  ⟨55, (.seq (.reg [⟨(some 2), none, (.mv (.c .nilp))⟩,
    ⟨(some 3), none, (.mv (.c (.i .i64 0)))⟩,
    ⟨(some 4), none, (.mv (.c (.i .i64 0)))⟩])
    (.seq (.seq (.reg [⟨(some 10), none, (.mv (.t 0))⟩,
    ⟨(some 11), none, (.bls (.t 10))⟩,
    ⟨(some 12), none, (.bin .gtr .other (.t 11) (.c (.i .i64 4000)))⟩])
    (.cond (.t 12)
    (.seq (.reg [⟨(some 2), none, (.mv (.c .nilp))⟩,
    ⟨(some 3), none, (.mv (.c (.i .i64 0)))⟩,
    ⟨(some 4), none, (.mv (.c (.i .i64 5)))⟩])
    .ret)
    .skip))
    (.seq (.reg [⟨(some 13), none, (.bld [.nils, .nilp, .nils] [])⟩,
    ⟨(some 14), none, (.box 56 (.t 13))⟩,
    ⟨(some 2), none, (.mv (.t 14))⟩])
    (.seq (.reg [⟨(some 15), none, (.mv (.t 0))⟩,
    ⟨(some 16), none, (.call 27 [(.t 15)])⟩,
    ⟨(some 5), none, (.mv (.t 16))⟩])
    (.seq (.seq (.reg [⟨(some 17), none, (.mv (.t 5))⟩,
    ⟨(some 18), none, (.bll (.t 17))⟩,
    ⟨(some 19), none, (.mv (.c (.i .i64 0)))⟩])
    (.blk 0 (.loop (.seq (.reg [⟨(some 20), none, (.bin .lss .other (.t 19) (.t 18))⟩])
    (.seq (.cond (.t 20)
    .skip
    (.exit 0))
    (.seq (.blk 1 (.seq (.reg [⟨(some 21), none, (.mv (.t 19))⟩,
    ⟨(some 22), none, (.ia 2 (.t 17) (.t 19))⟩,
    ⟨(some 23), none, (.ldn 2 (.t 22))⟩,
    ⟨(some 7), none, (.alc 67 [(.s []), (.s [])])⟩,
    ⟨(some 6), none, (.mv (.t 21))⟩,
    ⟨none, none, (.st 2 (.t 7) (.t 23))⟩])
    (.seq (.seq (.reg [⟨(some 24), none, (.fa 0 (.t 7))⟩,
    ⟨(some 25), none, (.ld1 (.t 24))⟩,
    ⟨(some 26), none, (.call 28 [(.t 25), (.c (.s [13]))])⟩])
    (.cond (.t 26)
    (.seq (.reg [⟨(some 27), none, (.mv (.t 6))⟩,
    ⟨(some 28), none, (.bin .add .other (.t 27) (.c (.i .i64 1)))⟩,
    ⟨(some 2), none, (.mv (.c .nilp))⟩,
    ⟨(some 3), none, (.mv (.t 28))⟩,
    ⟨(some 4), none, (.mv (.c (.i .i64 6)))⟩])
    .ret)
    .skip))
    (.seq (.reg [⟨(some 29), none, (.mv (.t 2))⟩,
    ⟨(some 30), none, (.ldn 2 (.t 7))⟩,
    ⟨(some 31), none, (.bld [(.s []), (.s []), .nilp, (.s []), (.s [])] [(0, (2, (.t 30)))])⟩,
    ⟨(some 32), none, (.call 29 [(.t 29), (.t 31)])⟩,
    ⟨(some 8), none, (.mv (.t 32))⟩])
    (.seq (.reg [⟨(some 33), none, (.mv (.t 8))⟩,
    ⟨(some 34), none, (.bin .neq .other (.t 33) (.c (.i .i64 0)))⟩])
    (.cond (.t 34)
    (.seq (.reg [⟨(some 35), none, (.mv (.t 6))⟩,
    ⟨(some 36), none, (.bin .add .other (.t 35) (.c (.i .i64 1)))⟩,
    ⟨(some 37), none, (.mv (.t 8))⟩,
    ⟨(some 2), none, (.mv (.c .nilp))⟩,
    ⟨(some 3), none, (.mv (.t 36))⟩,
    ⟨(some 4), none, (.mv (.t 37))⟩])
    .ret)
    .skip))))))
    (.reg [⟨(some 38), none, (.bin .add .other (.t 19) (.c (.i .i64 1)))⟩,
    ⟨(some 19), none, (.mv (.t 38))⟩])))))))
    (.seq (.seq (.reg [⟨(some 39), none, (.mv (.t 2))⟩,
    ⟨(some 40), none, (.nilc (.t 39))⟩,
    ⟨(some 41), none, (.fa 1 (.t 40))⟩,
    ⟨(some 42), none, (.ld1 (.t 41))⟩,
    ⟨(some 43), none, (.bin .neq .ptr (.t 42) (.c .nilp))⟩])
    (.cond (.t 43)
    (.seq (.reg [⟨(some 44), none, (.mv (.t 5))⟩,
    ⟨(some 45), none, (.bll (.t 44))⟩,
    ⟨(some 2), none, (.mv (.c .nilp))⟩,
    ⟨(some 3), none, (.mv (.t 45))⟩,
    ⟨(some 4), none, (.mv (.c (.i .i64 6)))⟩])
    .ret)
    .skip))
    (.seq (.seq (.reg [⟨(some 46), none, (.mv (.t 2))⟩,
    ⟨(some 47), none, (.nilc (.t 46))⟩,
    ⟨(some 48), none, (.fa 2 (.t 47))⟩,
    ⟨(some 49), none, (.ld1 (.t 48))⟩,
    ⟨(some 50), none, (.call 25 [(.t 49)])⟩,
    ⟨(some 9), none, (.mv (.t 50))⟩])
    (.seq (.reg [⟨(some 51), none, (.mv (.t 9))⟩,
    ⟨(some 52), none, (.bin .neq .other (.t 51) (.c (.i .i64 0)))⟩])
    (.cond (.t 52)
    (.seq (.reg [⟨(some 53), none, (.mv (.t 9))⟩,
    ⟨(some 2), none, (.mv (.c .nilp))⟩,
    ⟨(some 3), none, (.mv (.c (.i .i64 0)))⟩,
    ⟨(some 4), none, (.mv (.t 53))⟩])
    .ret)
    .skip)))
    (.seq (.reg [⟨(some 54), none, (.mv (.t 2))⟩,
    ⟨(some 2), none, (.mv (.t 54))⟩,
    ⟨(some 3), none, (.mv (.c (.i .i64 0)))⟩,
    ⟨(some 4), none, (.mv (.c (.i .i64 0)))⟩])
    .ret)))))))), [(.tmp 2), (.tmp 3), (.tmp 4)]⟩
theorem cc_card_load : compF Tryd.prog 18 = some c_card_load := by kernel_rfl
def c_cadenceref8_blocks : AF :=
  ⟨157, (.seq (.reg [⟨(some 2), none, (.mv (.c .nilp))⟩,
    ⟨(some 3), none, (.mv (.c (.i .i64 0)))⟩,
    ⟨(some 4), none, (.mv (.c (.i .i64 0)))⟩])
    (.seq (.reg [⟨(some 12), none, (.bld [(.s []), (.s []), (.i .i64 0), (.i .i64 0), (.i .i64 0), .nils, .nils, .nils] [])⟩,
    ⟨(some 13), none, (.box 78 (.t 12))⟩,
    ⟨(some 5), none, (.mv (.t 13))⟩])
    (.seq (.reg [⟨(some 14), none, (.mv (.t 5))⟩,
    ⟨(some 15), none, (.bsl 57 1 1 [.nilp] [(0, (1, (.t 14)))])⟩,
    ⟨(some 6), none, (.mv (.t 15))⟩])
    (.seq (.seq (.reg [⟨(some 7), none, (.mv (.c (.i .i64 0)))⟩])
    (.blk 0 (.loop (.seq (.seq (.reg [⟨(some 16), none, (.mv (.t 7))⟩,
    ⟨(some 17), none, (.mv (.t 0))⟩,
    ⟨(some 18), none, (.bll (.t 17))⟩,
    ⟨(some 19), none, (.bin .lss .other (.t 16) (.t 18))⟩])
    (.cond (.t 19)
    .skip
    (.exit 0)))
    (.seq (.blk 1 (.seq (.reg [⟨(some 22), none, (.mv (.t 0))⟩,
    ⟨(some 23), none, (.mv (.t 7))⟩,
    ⟨(some 24), none, (.ia 2 (.t 22) (.t 23))⟩,
    ⟨(some 25), none, (.fa 0 (.t 24))⟩,
    ⟨(some 26), none, (.ld1 (.t 25))⟩,
    ⟨(some 27), none, (.call 32 [(.t 26)])⟩,
    ⟨(some 8), none, (.alc 80 [(.i .i64 0), (.s []), (.s [])])⟩,
    ⟨none, none, (.st 3 (.t 8) (.t 27))⟩])
    (.seq (.reg [⟨(some 28), none, (.mv (.t 6))⟩,
    ⟨(some 29), none, (.mv (.t 6))⟩,
    ⟨(some 30), none, (.bll (.t 29))⟩,
    ⟨(some 31), none, (.bin .sub .other (.t 30) (.c (.i .i64 1)))⟩,
    ⟨(some 32), none, (.ia 1 (.t 28) (.t 31))⟩,
    ⟨(some 33), none, (.ld1 (.t 32))⟩,
    ⟨(some 9), none, (.mv (.t 33))⟩])
    (.blk 2 (.seq (.reg [⟨(some 35), none, (.fa 0 (.t 8))⟩,
    ⟨(some 36), none, (.ld1 (.t 35))⟩,
    ⟨(some 37), none, (.bin .eql .other (.t 36) (.c (.i .i64 4)))⟩,
    ⟨(some 34), none, (.mv (.t 37))⟩])
    (.cond (.t 34)
    (.seq (.reg [⟨(some 38), none, (.mv (.t 7))⟩,
    ⟨(some 39), none, (.bin .add .other (.t 38) (.c (.i .i64 1)))⟩,
    ⟨(some 2), none, (.mv (.c .nilp))⟩,
    ⟨(some 3), none, (.mv (.t 39))⟩,
    ⟨(some 4), none, (.mv (.c (.i .i64 6)))⟩])
    .ret)
    (.seq (.reg [⟨(some 41), none, (.fa 0 (.t 8))⟩,
    ⟨(some 42), none, (.ld1 (.t 41))⟩,
    ⟨(some 43), none, (.bin .eql .other (.t 42) (.c (.i .i64 1)))⟩,
    ⟨(some 44), none, (.mv (.t 43))⟩,
    ⟨(some 45), (some (44, true)), (.mv (.t 6))⟩,
    ⟨(some 46), (some (44, true)), (.bll (.t 45))⟩,
    ⟨(some 47), (some (44, true)), (.bin .gtr .other (.t 46) (.c (.i .i64 3)))⟩,
    ⟨(some 48), none, (.pick (.t 44) (.t 47) (.c (.b false)))⟩,
    ⟨(some 40), none, (.mv (.t 48))⟩])
    (.cond (.t 40)
    (.seq (.reg [⟨(some 49), none, (.mv (.t 7))⟩,
    ⟨(some 50), none, (.bin .add .other (.t 49) (.c (.i .i64 1)))⟩,
    ⟨(some 2), none, (.mv (.c .nilp))⟩,
    ⟨(some 3), none, (.mv (.t 50))⟩,
    ⟨(some 4), none, (.mv (.c (.i .i64 11)))⟩])
    .ret)
    (.seq (.reg [⟨(some 52), none, (.fa 0 (.t 8))⟩,
    ⟨(some 53), none, (.ld1 (.t 52))⟩,
    ⟨(some 54), none, (.bin .eql .other (.t 53) (.c (.i .i64 1)))⟩,
    ⟨(some 51), none, (.mv (.t 54))⟩])
    (.cond (.t 51)
    (.seq (.reg [⟨(some 55), none, (.fa 2 (.t 8))⟩,
    ⟨(some 56), none, (.ld1 (.t 55))⟩,
    ⟨(some 57), none, (.mv (.t 7))⟩,
    ⟨(some 58), none, (.bld [(.s []), (.s []), (.i .i64 0), (.i .i64 0), (.i .i64 0), .nils, .nils, .nils] [(0, (1, (.t 56))), (2, (1, (.t 57)))])⟩,
    ⟨(some 59), none, (.box 78 (.t 58))⟩,
    ⟨(some 10), none, (.mv (.t 59))⟩])
    (.seq (.reg [⟨(some 60), none, (.mv (.t 9))⟩,
    ⟨(some 61), none, (.mv (.t 9))⟩,
    ⟨(some 62), none, (.nilc (.t 61))⟩,
    ⟨(some 63), none, (.fa 7 (.t 62))⟩,
    ⟨(some 64), none, (.ld1 (.t 63))⟩,
    ⟨(some 65), none, (.mv (.t 10))⟩,
    ⟨(some 66), none, (.bsl 57 1 1 [.nilp] [(0, (1, (.t 65)))])⟩,
    ⟨(some 67), none, (.app 57 1 8 false (.t 64) (.t 66))⟩,
    ⟨(some 68), none, (.nilc (.t 60))⟩,
    ⟨(some 69), none, (.fa 7 (.t 68))⟩,
    ⟨none, none, (.st 1 (.t 69) (.t 67))⟩])
    (.reg [⟨(some 70), none, (.mv (.t 6))⟩,
    ⟨(some 71), none, (.mv (.t 10))⟩,
    ⟨(some 72), none, (.bsl 57 1 1 [.nilp] [(0, (1, (.t 71)))])⟩,
    ⟨(some 73), none, (.app 57 1 8 false (.t 70) (.t 72))⟩,
    ⟨(some 6), none, (.mv (.t 73))⟩])))
    (.seq (.dreg [⟨⟨(some 75), none, (.fa 0 (.t 8))⟩, 0⟩,
    ⟨⟨(some 76), none, (.ld1 (.t 75))⟩, 1⟩,
    ⟨⟨(some 77), none, (.bin .eql .other (.t 76) (.c (.i .i64 2)))⟩, 3⟩,
    ⟨⟨(some 78), none, (.mv (.t 77))⟩, 7⟩,
    ⟨⟨(some 79), (some (78, true)), (.mv (.t 9))⟩, 15⟩,
    ⟨⟨(some 80), (some (78, true)), (.mv (.t 5))⟩, 15⟩,
    ⟨⟨(some 81), (some (78, true)), (.bin .eql .ptr (.t 79) (.t 80))⟩, 63⟩,
    ⟨⟨(some 82), (some (78, true)), (.mv (.t 81))⟩, 127⟩,
    ⟨⟨(some 83), (some (82, false)), (.mv (.t 9))⟩, 255⟩,
    ⟨⟨(some 84), (some (82, false)), (.nilc (.t 83))⟩, 511⟩,
    ⟨⟨(some 85), (some (82, false)), (.fa 0 (.t 84))⟩, 1023⟩,
    ⟨⟨(some 86), (some (82, false)), (.ld1 (.t 85))⟩, 2047⟩,
    ⟨⟨(some 87), (some (82, false)), (.fa 2 (.t 8))⟩, 255⟩,
    ⟨⟨(some 88), (some (82, false)), (.ld1 (.t 87))⟩, 4351⟩,
    ⟨⟨(some 89), (some (82, false)), (.bin .neq .other (.t 86) (.t 88))⟩, 16383⟩,
    ⟨⟨(some 90), (some (78, true)), (.pick (.t 82) (.c (.b true)) (.t 89))⟩, 32767⟩,
    ⟨⟨(some 91), (some (78, true)), (.mv (.t 90))⟩, 65535⟩,
    ⟨⟨(some 92), (some (91, false)), (.mv (.t 9))⟩, 131071⟩,
    ⟨⟨(some 93), (some (91, false)), (.nilc (.t 92))⟩, 262143⟩,
    ⟨⟨(some 94), (some (91, false)), (.fa 4 (.t 93))⟩, 524287⟩,
    ⟨⟨(some 95), (some (91, false)), (.ld1 (.t 94))⟩, 1048575⟩,
    ⟨⟨(some 96), (some (91, false)), (.bin .eql .other (.t 95) (.c (.i .i64 0)))⟩, 2097151⟩,
    ⟨⟨(some 97), (some (78, true)), (.pick (.t 91) (.c (.b true)) (.t 96))⟩, 4194303⟩,
    ⟨⟨(some 98), none, (.pick (.t 78) (.t 97) (.c (.b false)))⟩, 8388607⟩,
    ⟨⟨(some 74), none, (.mv (.t 98))⟩, 16777215⟩])
    (.cond (.t 74)
    (.seq (.reg [⟨(some 99), none, (.mv (.t 7))⟩,
    ⟨(some 100), none, (.bin .add .other (.t 99) (.c (.i .i64 1)))⟩,
    ⟨(some 2), none, (.mv (.c .nilp))⟩,
    ⟨(some 3), none, (.mv (.t 100))⟩,
    ⟨(some 4), none, (.mv (.c (.i .i64 6)))⟩])
    .ret)
    (.seq (.reg [⟨(some 102), none, (.fa 0 (.t 8))⟩,
    ⟨(some 103), none, (.ld1 (.t 102))⟩,
    ⟨(some 104), none, (.bin .eql .other (.t 103) (.c (.i .i64 2)))⟩,
    ⟨(some 101), none, (.mv (.t 104))⟩])
    (.cond (.t 101)
    (.seq (.reg [⟨(some 105), none, (.mv (.t 9))⟩,
    ⟨(some 106), none, (.mv (.t 7))⟩,
    ⟨(some 107), none, (.nilc (.t 105))⟩,
    ⟨(some 108), none, (.fa 3 (.t 107))⟩,
    ⟨none, none, (.st 1 (.t 108) (.t 106))⟩])
    (.seq (.reg [⟨(some 109), none, (.mv (.t 6))⟩,
    ⟨(some 110), none, (.mv (.t 6))⟩,
    ⟨(some 111), none, (.bll (.t 110))⟩,
    ⟨(some 112), none, (.bin .sub .other (.t 111) (.c (.i .i64 1)))⟩,
    ⟨(some 113), none, (.sll 1 (.t 109) none (some (.t 112)) none)⟩,
    ⟨(some 6), none, (.mv (.t 113))⟩])
    (.seq (.reg [⟨(some 114), none, (.mv (.t 6))⟩,
    ⟨(some 115), none, (.mv (.t 6))⟩,
    ⟨(some 116), none, (.bll (.t 115))⟩,
    ⟨(some 117), none, (.bin .sub .other (.t 116) (.c (.i .i64 1)))⟩,
    ⟨(some 118), none, (.ia 1 (.t 114) (.t 117))⟩,
    ⟨(some 119), none, (.ld1 (.t 118))⟩,
    ⟨(some 120), none, (.nilc (.t 119))⟩,
    ⟨(some 121), none, (.fa 7 (.t 120))⟩,
    ⟨(some 122), none, (.ld1 (.t 121))⟩,
    ⟨(some 123), none, (.mv (.t 9))⟩,
    ⟨(some 124), none, (.call 33 [(.t 122), (.t 123)])⟩])
    (.cond (.t 124)
    (.seq (.reg [⟨(some 125), none, (.mv (.t 7))⟩,
    ⟨(some 126), none, (.bin .add .other (.t 125) (.c (.i .i64 1)))⟩,
    ⟨(some 2), none, (.mv (.c .nilp))⟩,
    ⟨(some 3), none, (.mv (.t 126))⟩,
    ⟨(some 4), none, (.mv (.c (.i .i64 7)))⟩])
    .ret)
    .skip))))
    (.seq (.reg [⟨(some 128), none, (.fa 0 (.t 8))⟩,
    ⟨(some 129), none, (.ld1 (.t 128))⟩,
    ⟨(some 130), none, (.bin .eql .other (.t 129) (.c (.i .i64 3)))⟩,
    ⟨(some 131), none, (.mv (.t 130))⟩,
    ⟨(some 132), (some (131, true)), (.mv (.t 9))⟩,
    ⟨(some 133), (some (131, true)), (.mv (.t 5))⟩,
    ⟨(some 134), (some (131, true)), (.bin .eql .ptr (.t 132) (.t 133))⟩,
    ⟨(some 135), none, (.pick (.t 131) (.t 134) (.c (.b false)))⟩,
    ⟨(some 127), none, (.mv (.t 135))⟩])
    (.cond (.t 127)
    (.seq (.reg [⟨(some 136), none, (.mv (.t 7))⟩,
    ⟨(some 137), none, (.bin .add .other (.t 136) (.c (.i .i64 1)))⟩,
    ⟨(some 2), none, (.mv (.c .nilp))⟩,
    ⟨(some 3), none, (.mv (.t 137))⟩,
    ⟨(some 4), none, (.mv (.c (.i .i64 6)))⟩])
    .ret)
    (.seq (.reg [⟨(some 139), none, (.fa 0 (.t 8))⟩,
    ⟨(some 140), none, (.ld1 (.t 139))⟩,
    ⟨(some 141), none, (.bin .eql .other (.t 140) (.c (.i .i64 3)))⟩,
    ⟨(some 138), none, (.mv (.t 141))⟩])
    (.cond (.t 138)
    (.seq (.reg [⟨(some 142), none, (.mv (.t 9))⟩,
    ⟨(some 143), none, (.ldn 3 (.t 8))⟩,
    ⟨(some 144), none, (.mv (.t 7))⟩,
    ⟨(some 145), none, (.call 34 [(.t 142), (.t 143), (.t 144)])⟩,
    ⟨(some 11), none, (.mv (.t 145))⟩])
    (.seq (.reg [⟨(some 146), none, (.mv (.t 11))⟩,
    ⟨(some 147), none, (.bin .neq .other (.t 146) (.c (.i .i64 0)))⟩])
    (.cond (.t 147)
    (.seq (.reg [⟨(some 148), none, (.mv (.t 7))⟩,
    ⟨(some 149), none, (.bin .add .other (.t 148) (.c (.i .i64 1)))⟩,
    ⟨(some 150), none, (.mv (.t 11))⟩,
    ⟨(some 2), none, (.mv (.c .nilp))⟩,
    ⟨(some 3), none, (.mv (.t 149))⟩,
    ⟨(some 4), none, (.mv (.t 150))⟩])
    .ret)
    .skip)))
    .skip))))))))))))))))))
    (.reg [⟨(some 20), none, (.mv (.t 7))⟩,
    ⟨(some 21), none, (.bin .add .other (.t 20) (.c (.i .i64 1)))⟩,
    ⟨(some 7), none, (.mv (.t 21))⟩]))))))
    (.seq (.seq (.reg [⟨(some 151), none, (.mv (.t 6))⟩,
    ⟨(some 152), none, (.bll (.t 151))⟩,
    ⟨(some 153), none, (.bin .gtr .other (.t 152) (.c (.i .i64 1)))⟩])
    (.cond (.t 153)
    (.seq (.reg [⟨(some 154), none, (.mv (.t 0))⟩,
    ⟨(some 155), none, (.bll (.t 154))⟩,
    ⟨(some 2), none, (.mv (.c .nilp))⟩,
    ⟨(some 3), none, (.mv (.t 155))⟩,
    ⟨(some 4), none, (.mv (.c (.i .i64 6)))⟩])
    .ret)
    .skip))
    (.seq (.reg [⟨(some 156), none, (.mv (.t 5))⟩,
    ⟨(some 2), none, (.mv (.t 156))⟩,
    ⟨(some 3), none, (.mv (.c (.i .i64 0)))⟩,
    ⟨(some 4), none, (.mv (.c (.i .i64 0)))⟩])
    .ret)))))), [(.tmp 2), (.tmp 3), (.tmp 4)]⟩
theorem cc_cadenceref8_blocks : compF Tryd.prog 20 = some c_cadenceref8_blocks := by kernel_rfl
def c_cadenceref5_Split : AF :=
  ⟨57, (.seq (.reg [⟨(some 2), none, (.mv (.c .nils))⟩])
    (.seq (.reg [⟨(some 3), none, (.mv (.c .nils))⟩])
    (.seq (.reg [⟨(some 4), none, (.mv (.c (.i .i64 0)))⟩])
    (.seq (.seq (.reg [⟨(some 5), none, (.mv (.c (.i .i64 0)))⟩])
    (.blk 0 (.loop (.seq (.seq (.reg [⟨(some 7), none, (.mv (.t 5))⟩,
    ⟨(some 8), none, (.mv (.t 0))⟩,
    ⟨(some 9), none, (.bls (.t 8))⟩,
    ⟨(some 10), none, (.bin .lss .other (.t 7) (.t 9))⟩])
    (.cond (.t 10)
    .skip
    (.exit 0)))
    (.seq (.blk 1 (.seq (.seq (.reg [⟨(some 13), none, (.mv (.t 0))⟩,
    ⟨(some 14), none, (.mv (.t 5))⟩,
    ⟨(some 15), none, (.ixs (.t 13) (.t 14))⟩,
    ⟨(some 16), none, (.bin .neq .other (.t 15) (.c (.i .u8 10)))⟩])
    (.cond (.t 16)
    (.exit 1)
    .skip))
    (.seq (.reg [⟨(some 17), none, (.mv (.t 5))⟩,
    ⟨(some 6), none, (.mv (.t 17))⟩])
    (.seq (.seq (.reg [⟨(some 18), none, (.mv (.t 6))⟩,
    ⟨(some 19), none, (.mv (.t 4))⟩,
    ⟨(some 20), none, (.bin .gtr .other (.t 18) (.t 19))⟩,
    ⟨(some 21), none, (.mv (.t 20))⟩,
    ⟨(some 22), (some (21, true)), (.mv (.t 0))⟩,
    ⟨(some 23), (some (21, true)), (.mv (.t 6))⟩,
    ⟨(some 24), (some (21, true)), (.bin .sub .other (.t 23) (.c (.i .i64 1)))⟩,
    ⟨(some 25), (some (21, true)), (.ixs (.t 22) (.t 24))⟩,
    ⟨(some 26), (some (21, true)), (.bin .eql .other (.t 25) (.c (.i .u8 13)))⟩,
    ⟨(some 27), none, (.pick (.t 21) (.t 26) (.c (.b false)))⟩])
    (.cond (.t 27)
    (.reg [⟨(some 28), none, (.mv (.t 6))⟩,
    ⟨(some 29), none, (.bin .sub .other (.t 28) (.c (.i .i64 1)))⟩,
    ⟨(some 6), none, (.mv (.t 29))⟩])
    .skip))
    (.seq (.dreg [⟨⟨(some 30), none, (.mv (.t 3))⟩, 0⟩,
    ⟨⟨(some 31), none, (.mv (.t 0))⟩, 0⟩,
    ⟨⟨(some 32), none, (.mv (.t 4))⟩, 0⟩,
    ⟨⟨(some 33), none, (.mv (.t 6))⟩, 0⟩,
    ⟨⟨(some 34), none, (.sls (.t 31) (some (.t 32)) (some (.t 33)))⟩, 14⟩,
    ⟨⟨(some 35), none, (.mv (.t 0))⟩, 0⟩,
    ⟨⟨(some 36), none, (.mv (.t 6))⟩, 0⟩,
    ⟨⟨(some 37), none, (.mv (.t 5))⟩, 0⟩,
    ⟨⟨(some 38), none, (.bin .add .other (.t 37) (.c (.i .i64 1)))⟩, 128⟩,
    ⟨⟨(some 39), none, (.sls (.t 35) (some (.t 36)) (some (.t 38)))⟩, 480⟩,
    ⟨⟨(some 40), none, (.bld [(.s []), (.s [])] [(0, (1, (.t 34))), (1, (1, (.t 39)))])⟩, 1022⟩,
    ⟨⟨(some 41), none, (.bsl 67 2 1 [(.s []), (.s [])] [(0, (2, (.t 40)))])⟩, 2046⟩,
    ⟨⟨(some 42), none, (.app 67 2 32 false (.t 30) (.t 41))⟩, 4095⟩,
    ⟨⟨(some 3), none, (.mv (.t 42))⟩, 8191⟩])
    (.reg [⟨(some 43), none, (.mv (.t 5))⟩,
    ⟨(some 44), none, (.bin .add .other (.t 43) (.c (.i .i64 1)))⟩,
    ⟨(some 4), none, (.mv (.t 44))⟩]))))))
    (.reg [⟨(some 11), none, (.mv (.t 5))⟩,
    ⟨(some 12), none, (.bin .add .other (.t 11) (.c (.i .i64 1)))⟩,
    ⟨(some 5), none, (.mv (.t 12))⟩]))))))
    (.seq (.seq (.reg [⟨(some 45), none, (.mv (.t 4))⟩,
    ⟨(some 46), none, (.mv (.t 0))⟩,
    ⟨(some 47), none, (.bls (.t 46))⟩,
    ⟨(some 48), none, (.bin .lss .other (.t 45) (.t 47))⟩])
    (.cond (.t 48)
    (.reg [⟨(some 49), none, (.mv (.t 3))⟩,
    ⟨(some 50), none, (.mv (.t 0))⟩,
    ⟨(some 51), none, (.mv (.t 4))⟩,
    ⟨(some 52), none, (.sls (.t 50) (some (.t 51)) none)⟩,
    ⟨(some 53), none, (.bld [(.s []), (.s [])] [(0, (1, (.t 52)))])⟩,
    ⟨(some 54), none, (.bsl 67 2 1 [(.s []), (.s [])] [(0, (2, (.t 53)))])⟩,
    ⟨(some 55), none, (.app 67 2 32 false (.t 49) (.t 54))⟩,
    ⟨(some 3), none, (.mv (.t 55))⟩])
    .skip))
    (.seq (.reg [⟨(some 56), none, (.mv (.t 3))⟩,
    ⟨(some 2), none, (.mv (.t 56))⟩])
    .ret)))))), [(.tmp 2)]⟩
theorem cc_cadenceref5_Split : compF Tryd.prog 21 = some c_cadenceref5_Split := by kernel_rfl
def c_cadenceref8_Block_kids : AF :=
  ⟨64, (.seq (.reg [⟨(some 2), none, (.mv (.c .nils))⟩])
    (.seq (.reg [⟨(some 3), none, (.mv (.c .nils))⟩])
    (.seq (.seq (.reg [⟨(some 4), none, (.mv (.c (.i .i64 0)))⟩])
    (.blk 0 (.loop (.seq (.seq (.reg [⟨(some 7), none, (.mv (.t 4))⟩,
    ⟨(some 8), none, (.mv (.t 0))⟩,
    ⟨(some 9), none, (.nilc (.t 8))⟩,
    ⟨(some 10), none, (.fa 7 (.t 9))⟩,
    ⟨(some 11), none, (.ld1 (.t 10))⟩,
    ⟨(some 12), none, (.bll (.t 11))⟩,
    ⟨(some 13), none, (.bin .lss .other (.t 7) (.t 12))⟩])
    (.cond (.t 13)
    .skip
    (.exit 0)))
    (.seq (.blk 1 (.seq (.reg [⟨(some 17), none, (.mv (.t 3))⟩,
    ⟨(some 18), none, (.mv (.t 0))⟩,
    ⟨(some 19), none, (.nilc (.t 18))⟩,
    ⟨(some 20), none, (.fa 7 (.t 19))⟩,
    ⟨(some 21), none, (.ld1 (.t 20))⟩,
    ⟨(some 22), none, (.mv (.t 4))⟩,
    ⟨(some 23), none, (.ia 1 (.t 21) (.t 22))⟩,
    ⟨(some 24), none, (.ld1 (.t 23))⟩,
    ⟨(some 25), none, (.nilc (.t 24))⟩,
    ⟨(some 26), none, (.fa 0 (.t 25))⟩,
    ⟨(some 27), none, (.ld1 (.t 26))⟩,
    ⟨(some 28), none, (.call 35 [(.t 17), (.t 27)])⟩,
    ⟨(some 16), none, (.mv (.t 28))⟩,
    ⟨(some 29), none, (.ext (.t 16) 0)⟩,
    ⟨(some 30), none, (.ext (.t 16) 1)⟩,
    ⟨(some 5), none, (.mv (.t 29))⟩,
    ⟨(some 6), none, (.mv (.t 30))⟩])
    (.dreg [⟨⟨(some 31), none, (.mv (.t 3))⟩, 0⟩,
    ⟨⟨(some 32), none, (.mv (.t 0))⟩, 0⟩,
    ⟨⟨(some 33), none, (.nilc (.t 32))⟩, 2⟩,
    ⟨⟨(some 34), none, (.fa 7 (.t 33))⟩, 6⟩,
    ⟨⟨(some 35), none, (.ld1 (.t 34))⟩, 14⟩,
    ⟨⟨(some 36), none, (.mv (.t 4))⟩, 0⟩,
    ⟨⟨(some 37), none, (.ia 1 (.t 35) (.t 36))⟩, 62⟩,
    ⟨⟨(some 38), none, (.ld1 (.t 37))⟩, 126⟩,
    ⟨⟨(some 39), none, (.nilc (.t 38))⟩, 254⟩,
    ⟨⟨(some 40), none, (.fa 0 (.t 39))⟩, 510⟩,
    ⟨⟨(some 41), none, (.ld1 (.t 40))⟩, 1022⟩,
    ⟨⟨(some 42), none, (.mv (.t 5))⟩, 0⟩,
    ⟨⟨(some 43), none, (.mv (.t 0))⟩, 0⟩,
    ⟨⟨(some 44), none, (.nilc (.t 43))⟩, 4096⟩,
    ⟨⟨(some 45), none, (.fa 7 (.t 44))⟩, 12288⟩,
    ⟨⟨(some 46), none, (.ld1 (.t 45))⟩, 28672⟩,
    ⟨⟨(some 47), none, (.mv (.t 4))⟩, 0⟩,
    ⟨⟨(some 48), none, (.ia 1 (.t 46) (.t 47))⟩, 126976⟩,
    ⟨⟨(some 49), none, (.ld1 (.t 48))⟩, 258048⟩,
    ⟨⟨(some 50), none, (.nilc (.t 49))⟩, 520192⟩,
    ⟨⟨(some 51), none, (.fa 1 (.t 50))⟩, 1044480⟩,
    ⟨⟨(some 52), none, (.ld1 (.t 51))⟩, 2093056⟩,
    ⟨⟨(some 53), none, (.mv (.t 0))⟩, 0⟩,
    ⟨⟨(some 54), none, (.nilc (.t 53))⟩, 4194304⟩,
    ⟨⟨(some 55), none, (.fa 7 (.t 54))⟩, 12582912⟩,
    ⟨⟨(some 56), none, (.ld1 (.t 55))⟩, 29360128⟩,
    ⟨⟨(some 57), none, (.mv (.t 4))⟩, 0⟩,
    ⟨⟨(some 58), none, (.ia 1 (.t 56) (.t 57))⟩, 130023424⟩,
    ⟨⟨(some 59), none, (.ld1 (.t 58))⟩, 264241152⟩,
    ⟨⟨(some 60), none, (.call 37 [(.t 59)])⟩, 532676608⟩,
    ⟨⟨(some 61), none, (.call 36 [(.t 42), (.t 52), (.t 60)])⟩, 1073739776⟩,
    ⟨⟨(some 62), none, (.call 36 [(.t 31), (.t 41), (.t 61)])⟩, 2147483647⟩,
    ⟨⟨(some 3), none, (.mv (.t 62))⟩, 4294967295⟩])))
    (.reg [⟨(some 14), none, (.mv (.t 4))⟩,
    ⟨(some 15), none, (.bin .add .other (.t 14) (.c (.i .i64 1)))⟩,
    ⟨(some 4), none, (.mv (.t 15))⟩]))))))
    (.seq (.reg [⟨(some 63), none, (.mv (.t 3))⟩,
    ⟨(some 2), none, (.mv (.t 63))⟩])
    .ret)))), [(.tmp 2)]⟩
theorem cc_cadenceref8_Block_kids : compF Tryd.prog 22 = some c_cadenceref8_Block_kids := by kernel_rfl
def c_cadenceref2_Check : AF :=
  ⟨13, (.seq (.reg [⟨(some 2), none, (.mv (.c (.i .i64 0)))⟩])
    (.seq (.reg [⟨(some 4), none, (.bld [(.i .i64 0), (.i .i64 0)] [])⟩,
    ⟨(some 5), none, (.box 88 (.t 4))⟩,
    ⟨(some 3), none, (.mv (.t 5))⟩])
    (.seq (.reg [⟨(some 6), none, (.mv (.t 3))⟩,
    ⟨(some 7), none, (.mv (.t 0))⟩,
    ⟨(some 8), none, (.call 38 [(.t 6), (.t 7), (.c (.i .i64 1))])⟩])
    (.seq (.reg [⟨(some 9), none, (.mv (.t 3))⟩,
    ⟨(some 10), none, (.nilc (.t 9))⟩,
    ⟨(some 11), none, (.fa 1 (.t 10))⟩,
    ⟨(some 12), none, (.ld1 (.t 11))⟩,
    ⟨(some 2), none, (.mv (.t 12))⟩])
    .ret)))), [(.tmp 2)]⟩
theorem cc_cadenceref2_Check : compF Tryd.prog 23 = some c_cadenceref2_Check := by kernel_rfl
def c_cadenceref2_Quoted : AF :=
  ⟨65, (.seq (.reg [⟨(some 2), none, (.mv (.c (.s [])))⟩])
    (.seq (.reg [⟨(some 3), none, (.mv (.c (.s [48, 49, 50, 51, 52, 53, 54, 55, 56, 57, 97, 98, 99, 100, 101, 102])))⟩])
    (.seq (.reg [⟨(some 4), none, (.mv (.c (.s [34])))⟩])
    (.seq (.seq (.reg [⟨(some 5), none, (.mv (.c (.i .i64 0)))⟩])
    (.blk 0 (.loop (.seq (.seq (.reg [⟨(some 7), none, (.mv (.t 5))⟩,
    ⟨(some 8), none, (.mv (.t 0))⟩,
    ⟨(some 9), none, (.bls (.t 8))⟩,
    ⟨(some 10), none, (.bin .lss .other (.t 7) (.t 9))⟩])
    (.cond (.t 10)
    .skip
    (.exit 0)))
    (.seq (.blk 1 (.seq (.reg [⟨(some 13), none, (.mv (.t 0))⟩,
    ⟨(some 14), none, (.mv (.t 5))⟩,
    ⟨(some 15), none, (.ixs (.t 13) (.t 14))⟩,
    ⟨(some 6), none, (.mv (.t 15))⟩])
    (.blk 2 (.seq (.reg [⟨(some 24), none, (.mv (.t 6))⟩,
    ⟨(some 25), none, (.bin .eql .other (.t 24) (.c (.i .u8 34)))⟩,
    ⟨(some 26), none, (.mv (.t 25))⟩,
    ⟨(some 27), (some (26, false)), (.mv (.t 6))⟩,
    ⟨(some 28), (some (26, false)), (.bin .eql .other (.t 27) (.c (.i .u8 92)))⟩,
    ⟨(some 29), none, (.pick (.t 26) (.c (.b true)) (.t 28))⟩,
    ⟨(some 23), none, (.mv (.t 29))⟩])
    (.cond (.t 23)
    (.reg [⟨(some 30), none, (.mv (.t 4))⟩,
    ⟨(some 31), none, (.bin .add .other (.t 30) (.c (.s [92])))⟩,
    ⟨(some 32), none, (.mv (.t 0))⟩,
    ⟨(some 33), none, (.mv (.t 5))⟩,
    ⟨(some 34), none, (.mv (.t 5))⟩,
    ⟨(some 35), none, (.bin .add .other (.t 34) (.c (.i .i64 1)))⟩,
    ⟨(some 36), none, (.sls (.t 32) (some (.t 33)) (some (.t 35)))⟩,
    ⟨(some 37), none, (.bin .add .other (.t 31) (.t 36))⟩,
    ⟨(some 4), none, (.mv (.t 37))⟩])
    (.seq (.reg [⟨(some 39), none, (.mv (.t 6))⟩,
    ⟨(some 40), none, (.bin .lss .other (.t 39) (.c (.i .u8 32)))⟩,
    ⟨(some 41), none, (.mv (.t 40))⟩,
    ⟨(some 42), (some (41, false)), (.mv (.t 6))⟩,
    ⟨(some 43), (some (41, false)), (.bin .gtr .other (.t 42) (.c (.i .u8 126)))⟩,
    ⟨(some 44), none, (.pick (.t 41) (.c (.b true)) (.t 43))⟩,
    ⟨(some 38), none, (.mv (.t 44))⟩])
    (.cond (.t 38)
    (.dreg [⟨⟨(some 45), none, (.mv (.t 4))⟩, 0⟩,
    ⟨⟨(some 46), none, (.bin .add .other (.t 45) (.c (.s [92, 120])))⟩, 1⟩,
    ⟨⟨(some 47), none, (.mv (.t 3))⟩, 0⟩,
    ⟨⟨(some 48), none, (.mv (.t 6))⟩, 0⟩,
    ⟨⟨(some 49), none, (.bin .quo .other (.t 48) (.c (.i .u8 16)))⟩, 8⟩,
    ⟨⟨(some 50), none, (.mv (.t 6))⟩, 0⟩,
    ⟨⟨(some 51), none, (.bin .quo .other (.t 50) (.c (.i .u8 16)))⟩, 32⟩,
    ⟨⟨(some 52), none, (.bin .add .other (.t 51) (.c (.i .u8 1)))⟩, 96⟩,
    ⟨⟨(some 53), none, (.sls (.t 47) (some (.t 49)) (some (.t 52)))⟩, 252⟩,
    ⟨⟨(some 54), none, (.bin .add .other (.t 46) (.t 53))⟩, 511⟩,
    ⟨⟨(some 55), none, (.mv (.t 3))⟩, 0⟩,
    ⟨⟨(some 56), none, (.mv (.t 6))⟩, 0⟩,
    ⟨⟨(some 57), none, (.bin .rem .other (.t 56) (.c (.i .u8 16)))⟩, 2048⟩,
    ⟨⟨(some 58), none, (.mv (.t 6))⟩, 0⟩,
    ⟨⟨(some 59), none, (.bin .rem .other (.t 58) (.c (.i .u8 16)))⟩, 8192⟩,
    ⟨⟨(some 60), none, (.bin .add .other (.t 59) (.c (.i .u8 1)))⟩, 24576⟩,
    ⟨⟨(some 61), none, (.sls (.t 55) (some (.t 57)) (some (.t 60)))⟩, 64512⟩,
    ⟨⟨(some 62), none, (.bin .add .other (.t 54) (.t 61))⟩, 131071⟩,
    ⟨⟨(some 4), none, (.mv (.t 62))⟩, 262143⟩])
    (.reg [⟨(some 16), none, (.mv (.t 4))⟩,
    ⟨(some 17), none, (.mv (.t 0))⟩,
    ⟨(some 18), none, (.mv (.t 5))⟩,
    ⟨(some 19), none, (.mv (.t 5))⟩,
    ⟨(some 20), none, (.bin .add .other (.t 19) (.c (.i .i64 1)))⟩,
    ⟨(some 21), none, (.sls (.t 17) (some (.t 18)) (some (.t 20)))⟩,
    ⟨(some 22), none, (.bin .add .other (.t 16) (.t 21))⟩,
    ⟨(some 4), none, (.mv (.t 22))⟩]))))))))
    (.reg [⟨(some 11), none, (.mv (.t 5))⟩,
    ⟨(some 12), none, (.bin .add .other (.t 11) (.c (.i .i64 1)))⟩,
    ⟨(some 5), none, (.mv (.t 12))⟩]))))))
    (.seq (.reg [⟨(some 63), none, (.mv (.t 4))⟩,
    ⟨(some 64), none, (.bin .add .other (.t 63) (.c (.s [34])))⟩,
    ⟨(some 2), none, (.mv (.t 64))⟩])
    .ret))))), [(.tmp 2)]⟩
theorem cc_cadenceref2_Quoted : compF Tryd.prog 24 = some c_cadenceref2_Quoted := by kernel_rfl
def c_lines_Split : AF :=
  ⟨50, (.seq (.reg [⟨(some 2), none, (.mv (.c .nils))⟩])
    (.scope (.seq (.reg [⟨(some 3), none, (.mv (.c .nils))⟩])
    (.seq (.lbl 0)
    (.seq (.reg [⟨(some 7), none, (.mv (.t 0))⟩,
    ⟨(some 8), none, (.call 46 [(.t 7), (.c (.i .u8 10))])⟩,
    ⟨(some 4), none, (.mv (.t 8))⟩])
    (.seq (.seq (.reg [⟨(some 9), none, (.mv (.t 4))⟩,
    ⟨(some 10), none, (.bin .lss .other (.t 9) (.c (.i .i64 0)))⟩])
    (.cond (.t 10)
    (.seq (.seq (.reg [⟨(some 11), none, (.mv (.t 0))⟩,
    ⟨(some 12), none, (.bin .neq .other (.t 11) (.c (.s [])))⟩])
    (.cond (.t 12)
    (.reg [⟨(some 13), none, (.mv (.t 3))⟩,
    ⟨(some 14), none, (.mv (.t 0))⟩,
    ⟨(some 15), none, (.bld [(.s []), (.s [])] [(0, (1, (.t 14)))])⟩,
    ⟨(some 16), none, (.bsl 67 2 1 [(.s []), (.s [])] [(0, (2, (.t 15)))])⟩,
    ⟨(some 17), none, (.app 67 2 32 false (.t 13) (.t 16))⟩,
    ⟨(some 3), none, (.mv (.t 17))⟩])
    .skip))
    (.seq (.reg [⟨(some 18), none, (.mv (.t 3))⟩,
    ⟨(some 19), none, (.call 47 [(.t 18)])⟩,
    ⟨(some 2), none, (.mv (.t 19))⟩])
    .ret))
    .skip))
    (.seq (.dreg [⟨⟨(some 20), none, (.mv (.t 0))⟩, 0⟩,
    ⟨⟨(some 21), none, (.mv (.t 4))⟩, 0⟩,
    ⟨⟨(some 22), none, (.sls (.t 20) none (some (.t 21)))⟩, 3⟩,
    ⟨⟨(some 23), none, (.mv (.t 0))⟩, 0⟩,
    ⟨⟨(some 24), none, (.mv (.t 4))⟩, 0⟩,
    ⟨⟨(some 25), none, (.mv (.t 4))⟩, 0⟩,
    ⟨⟨(some 26), none, (.bin .add .other (.t 25) (.c (.i .i64 1)))⟩, 32⟩,
    ⟨⟨(some 27), none, (.sls (.t 23) (some (.t 24)) (some (.t 26)))⟩, 120⟩,
    ⟨⟨(some 5), none, (.mv (.t 22))⟩, 7⟩,
    ⟨⟨(some 6), none, (.mv (.t 27))⟩, 511⟩])
    (.seq (.seq (.reg [⟨(some 28), none, (.mv (.t 5))⟩,
    ⟨(some 29), none, (.call 48 [(.t 28), (.c (.s [13]))])⟩])
    (.cond (.t 29)
    (.dreg [⟨⟨(some 30), none, (.mv (.t 0))⟩, 0⟩,
    ⟨⟨(some 31), none, (.mv (.t 4))⟩, 0⟩,
    ⟨⟨(some 32), none, (.bin .sub .other (.t 31) (.c (.i .i64 1)))⟩, 2⟩,
    ⟨⟨(some 33), none, (.sls (.t 30) none (some (.t 32)))⟩, 7⟩,
    ⟨⟨(some 34), none, (.mv (.t 0))⟩, 0⟩,
    ⟨⟨(some 35), none, (.mv (.t 4))⟩, 0⟩,
    ⟨⟨(some 36), none, (.bin .sub .other (.t 35) (.c (.i .i64 1)))⟩, 32⟩,
    ⟨⟨(some 37), none, (.mv (.t 4))⟩, 0⟩,
    ⟨⟨(some 38), none, (.bin .add .other (.t 37) (.c (.i .i64 1)))⟩, 128⟩,
    ⟨⟨(some 39), none, (.sls (.t 34) (some (.t 36)) (some (.t 38)))⟩, 496⟩,
    ⟨⟨(some 5), none, (.mv (.t 33))⟩, 15⟩,
    ⟨⟨(some 6), none, (.mv (.t 39))⟩, 2047⟩])
    .skip))
    (.seq (.dreg [⟨⟨(some 40), none, (.mv (.t 3))⟩, 0⟩,
    ⟨⟨(some 41), none, (.mv (.t 5))⟩, 0⟩,
    ⟨⟨(some 42), none, (.mv (.t 6))⟩, 0⟩,
    ⟨⟨(some 43), none, (.bld [(.s []), (.s [])] [(0, (1, (.t 41))), (1, (1, (.t 42)))])⟩, 6⟩,
    ⟨⟨(some 44), none, (.bsl 67 2 1 [(.s []), (.s [])] [(0, (2, (.t 43)))])⟩, 14⟩,
    ⟨⟨(some 45), none, (.app 67 2 32 false (.t 40) (.t 44))⟩, 31⟩,
    ⟨⟨(some 46), none, (.mv (.t 0))⟩, 0⟩,
    ⟨⟨(some 47), none, (.mv (.t 4))⟩, 0⟩,
    ⟨⟨(some 48), none, (.bin .add .other (.t 47) (.c (.i .i64 1)))⟩, 128⟩,
    ⟨⟨(some 49), none, (.sls (.t 46) (some (.t 48)) none)⟩, 448⟩,
    ⟨⟨(some 3), none, (.mv (.t 45))⟩, 63⟩,
    ⟨⟨(some 0), none, (.mv (.t 49))⟩, 2047⟩])
    (.goto 0)))))))))), [(.tmp 2)]⟩
theorem cc_lines_Split : compF Tryd.prog 27 = some c_lines_Split := by kernel_rfl
def c_strings_Contains : AF :=
  ⟨9, (.seq (.reg [⟨(some 4), none, (.mv (.c (.b false)))⟩])
    (.seq (.reg [⟨(some 5), none, (.mv (.t 0))⟩,
    ⟨(some 6), none, (.mv (.t 1))⟩,
    ⟨(some 7), none, (.call 49 [(.t 5), (.t 6)])⟩,
    ⟨(some 8), none, (.bin .geq .other (.t 7) (.c (.i .i64 0)))⟩,
    ⟨(some 4), none, (.mv (.t 8))⟩])
    .ret)), [(.tmp 4)]⟩
theorem cc_strings_Contains : compF Tryd.prog 28 = some c_strings_Contains := by kernel_rfl
def c_card_file_take : AF :=
  ⟨118, (.seq (.reg [⟨(some 3), none, (.box 71 (.t 1))⟩,
    ⟨(some 4), none, (.mv (.c (.i .i64 0)))⟩])
    (.seq (.reg [⟨(some 12), none, (.fa 0 (.t 3))⟩,
    ⟨(some 13), none, (.fa 0 (.t 12))⟩,
    ⟨(some 14), none, (.ld1 (.t 13))⟩,
    ⟨(some 15), none, (.call 50 [(.t 14)])⟩,
    ⟨(some 11), none, (.mv (.t 15))⟩,
    ⟨(some 16), none, (.ext (.t 11) 0)⟩,
    ⟨(some 17), none, (.ext (.t 11) 1)⟩,
    ⟨(some 18), none, (.ext (.t 11) 2)⟩,
    ⟨(some 5), none, (.mv (.t 16))⟩,
    ⟨(some 6), none, (.mv (.t 17))⟩,
    ⟨(some 7), none, (.mv (.t 18))⟩])
    (.seq (.seq (.reg [⟨(some 19), none, (.mv (.t 6))⟩,
    ⟨(some 20), none, (.bin .eql .other (.t 19) (.c (.s [])))⟩])
    (.cond (.t 20)
    (.seq (.reg [⟨(some 21), none, (.mv (.t 0))⟩,
    ⟨(some 22), none, (.nilc (.t 21))⟩,
    ⟨(some 23), none, (.fa 1 (.t 22))⟩,
    ⟨(some 24), none, (.ld1 (.t 23))⟩,
    ⟨(some 25), none, (.fa 2 (.t 3))⟩,
    ⟨none, none, (.st 1 (.t 25) (.t 24))⟩])
    (.seq (.dreg [⟨⟨(some 26), none, (.mv (.t 0))⟩, 0⟩,
    ⟨⟨(some 27), none, (.mv (.t 0))⟩, 0⟩,
    ⟨⟨(some 28), none, (.nilc (.t 27))⟩, 2⟩,
    ⟨⟨(some 29), none, (.fa 0 (.t 28))⟩, 6⟩,
    ⟨⟨(some 30), none, (.ld1 (.t 29))⟩, 14⟩,
    ⟨⟨(some 31), none, (.ldn 5 (.t 3))⟩, 0⟩,
    ⟨⟨(some 32), none, (.bsl 71 5 1 [(.s []), (.s []), .nilp, (.s []), (.s [])] [(0, (5, (.t 31)))])⟩, 32⟩,
    ⟨⟨(some 33), none, (.app 71 5 72 false (.t 30) (.t 32))⟩, 126⟩,
    ⟨⟨(some 34), none, (.nilc (.t 26))⟩, 255⟩,
    ⟨⟨(some 35), none, (.fa 0 (.t 34))⟩, 511⟩,
    ⟨⟨none, none, (.st 1 (.t 35) (.t 33))⟩, 1023⟩])
    (.seq (.reg [⟨(some 4), none, (.mv (.c (.i .i64 0)))⟩])
    .ret)))
    .skip))
    (.seq (.reg [⟨(some 8), none, (.mv (.c (.s [])))⟩])
    (.seq (.reg [⟨(some 9), none, (.mv (.c (.b false)))⟩])
    (.seq (.reg [⟨(some 37), none, (.fa 0 (.t 3))⟩,
    ⟨(some 38), none, (.fa 0 (.t 37))⟩,
    ⟨(some 39), none, (.ld1 (.t 38))⟩,
    ⟨(some 40), none, (.call 51 [(.t 39), (.c (.s [58]))])⟩,
    ⟨(some 36), none, (.mv (.t 40))⟩,
    ⟨(some 41), none, (.ext (.t 36) 0)⟩,
    ⟨(some 42), none, (.ext (.t 36) 1)⟩,
    ⟨(some 43), none, (.ext (.t 36) 2)⟩,
    ⟨(some 44), none, (.fa 3 (.t 3))⟩,
    ⟨none, none, (.st 1 (.t 44) (.t 41))⟩,
    ⟨(some 8), none, (.mv (.t 42))⟩,
    ⟨(some 9), none, (.mv (.t 43))⟩])
    (.seq (.seq (.reg [⟨(some 45), none, (.mv (.t 9))⟩,
    ⟨(some 46), none, (.un .not (.t 45))⟩,
    ⟨(some 47), none, (.mv (.t 46))⟩,
    ⟨(some 48), (some (47, false)), (.fa 3 (.t 3))⟩,
    ⟨(some 49), (some (47, false)), (.ld1 (.t 48))⟩,
    ⟨(some 50), (some (47, false)), (.call 45 [(.t 49)])⟩,
    ⟨(some 51), (some (47, false)), (.un .not (.t 50))⟩,
    ⟨(some 52), none, (.pick (.t 47) (.c (.b true)) (.t 51))⟩,
    ⟨(some 53), none, (.mv (.t 52))⟩,
    ⟨(some 54), (some (53, false)), (.fa 3 (.t 3))⟩,
    ⟨(some 55), (some (53, false)), (.ld1 (.t 54))⟩,
    ⟨(some 56), (some (53, false)), (.bin .eql .other (.t 55) (.c (.s [66, 69, 71, 73, 78])))⟩,
    ⟨(some 57), (some (53, false)), (.mv (.t 56))⟩,
    ⟨(some 58), (some (57, false)), (.fa 3 (.t 3))⟩,
    ⟨(some 59), (some (57, false)), (.ld1 (.t 58))⟩,
    ⟨(some 60), (some (57, false)), (.bin .eql .other (.t 59) (.c (.s [69, 78, 68])))⟩,
    ⟨(some 61), (some (53, false)), (.pick (.t 57) (.c (.b true)) (.t 60))⟩,
    ⟨(some 62), (some (53, false)), (.mv (.t 61))⟩,
    ⟨(some 63), (some (62, true)), (.mv (.t 8))⟩,
    ⟨(some 64), (some (62, true)), (.call 45 [(.t 63)])⟩,
    ⟨(some 65), (some (62, true)), (.un .not (.t 64))⟩,
    ⟨(some 66), (some (53, false)), (.pick (.t 62) (.t 65) (.c (.b false)))⟩,
    ⟨(some 67), none, (.pick (.t 53) (.c (.b true)) (.t 66))⟩])
    (.cond (.t 67)
    (.seq (.reg [⟨(some 4), none, (.mv (.c (.i .i64 6)))⟩])
    .ret)
    .skip))
    (.seq (.reg [⟨(some 68), none, (.mv (.t 0))⟩,
    ⟨(some 69), none, (.nilc (.t 68))⟩,
    ⟨(some 70), none, (.fa 1 (.t 69))⟩,
    ⟨(some 71), none, (.ld1 (.t 70))⟩,
    ⟨(some 72), none, (.fa 2 (.t 3))⟩,
    ⟨none, none, (.st 1 (.t 72) (.t 71))⟩])
    (.seq (.reg [⟨(some 10), none, (.mv (.c (.i .i64 0)))⟩])
    (.seq (.seq (.reg [⟨(some 73), none, (.fa 3 (.t 3))⟩,
    ⟨(some 74), none, (.ld1 (.t 73))⟩])
    (.blk 0 (.seq (.reg [⟨(some 79), none, (.bin .eql .other (.t 74) (.c (.s [66, 69, 71, 73, 78])))⟩,
    ⟨(some 78), none, (.mv (.t 79))⟩])
    (.cond (.t 78)
    (.seq (.dreg [⟨⟨(some 80), none, (.mv (.t 0))⟩, 0⟩,
    ⟨⟨(some 81), none, (.mv (.t 0))⟩, 0⟩,
    ⟨⟨(some 82), none, (.nilc (.t 81))⟩, 2⟩,
    ⟨⟨(some 83), none, (.fa 1 (.t 82))⟩, 6⟩,
    ⟨⟨(some 84), none, (.ld1 (.t 83))⟩, 14⟩,
    ⟨⟨(some 85), none, (.mv (.t 8))⟩, 0⟩,
    ⟨⟨(some 86), none, (.call 52 [])⟩, 0⟩,
    ⟨⟨(some 87), none, (.bld [.nilp, (.s []), (.s []), (.b false), .nils] [(0, (1, (.t 84))), (1, (1, (.t 85))), (4, (1, (.t 86)))])⟩, 126⟩,
    ⟨⟨(some 88), none, (.box 105 (.t 87))⟩, 254⟩,
    ⟨⟨(some 89), none, (.nilc (.t 80))⟩, 511⟩,
    ⟨⟨(some 90), none, (.fa 1 (.t 89))⟩, 1023⟩,
    ⟨⟨none, none, (.st 1 (.t 90) (.t 88))⟩, 2047⟩])
    (.seq (.reg [⟨(some 91), none, (.mv (.t 0))⟩,
    ⟨(some 92), none, (.nilc (.t 91))⟩,
    ⟨(some 93), none, (.fa 1 (.t 92))⟩,
    ⟨(some 94), none, (.ld1 (.t 93))⟩,
    ⟨(some 95), none, (.fa 2 (.t 3))⟩,
    ⟨none, none, (.st 1 (.t 95) (.t 94))⟩])
    (.seq (.reg [⟨(some 96), none, (.mv (.t 0))⟩,
    ⟨(some 97), none, (.nilc (.t 96))⟩,
    ⟨(some 98), none, (.fa 1 (.t 97))⟩,
    ⟨(some 99), none, (.ld1 (.t 98))⟩,
    ⟨(some 100), none, (.call 53 [(.t 99)])⟩,
    ⟨(some 101), none, (.bin .gtr .other (.t 100) (.c (.i .i64 3)))⟩])
    (.cond (.t 101)
    (.reg [⟨(some 10), none, (.mv (.c (.i .i64 11)))⟩])
    .skip))))
    (.seq (.reg [⟨(some 103), none, (.bin .eql .other (.t 74) (.c (.s [69, 78, 68])))⟩,
    ⟨(some 102), none, (.mv (.t 103))⟩])
    (.cond (.t 102)
    (.reg [⟨(some 104), none, (.mv (.t 0))⟩,
    ⟨(some 105), none, (.mv (.t 8))⟩,
    ⟨(some 106), none, (.call 54 [(.t 104), (.t 105)])⟩,
    ⟨(some 10), none, (.mv (.t 106))⟩])
    (.reg [⟨(some 75), none, (.mv (.t 0))⟩,
    ⟨(some 76), none, (.mv (.t 8))⟩,
    ⟨(some 77), none, (.call 55 [(.t 75), (.t 3), (.t 76)])⟩,
    ⟨(some 10), none, (.mv (.t 77))⟩])))))))
    (.seq (.dreg [⟨⟨(some 107), none, (.mv (.t 0))⟩, 0⟩,
    ⟨⟨(some 108), none, (.mv (.t 0))⟩, 0⟩,
    ⟨⟨(some 109), none, (.nilc (.t 108))⟩, 2⟩,
    ⟨⟨(some 110), none, (.fa 0 (.t 109))⟩, 6⟩,
    ⟨⟨(some 111), none, (.ld1 (.t 110))⟩, 14⟩,
    ⟨⟨(some 112), none, (.ldn 5 (.t 3))⟩, 0⟩,
    ⟨⟨(some 113), none, (.bsl 71 5 1 [(.s []), (.s []), .nilp, (.s []), (.s [])] [(0, (5, (.t 112)))])⟩, 32⟩,
    ⟨⟨(some 114), none, (.app 71 5 72 false (.t 111) (.t 113))⟩, 126⟩,
    ⟨⟨(some 115), none, (.nilc (.t 107))⟩, 255⟩,
    ⟨⟨(some 116), none, (.fa 0 (.t 115))⟩, 511⟩,
    ⟨⟨none, none, (.st 1 (.t 116) (.t 114))⟩, 1023⟩])
    (.seq (.reg [⟨(some 117), none, (.mv (.t 10))⟩,
    ⟨(some 4), none, (.mv (.t 117))⟩])
    .ret)))))))))))), [(.tmp 4)]⟩
theorem cc_card_file_take : compF Tryd.prog 29 = some c_card_file_take := by kernel_rfl
def c_tree_find : AF :=
  ⟨11, (.seq (.reg [⟨(some 4), none, (.mv (.c (.i .i64 0)))⟩,
    ⟨(some 5), none, (.mv (.c (.b false)))⟩])
    (.seq (.reg [⟨(some 6), none, (.mv (.t 0))⟩,
    ⟨(some 7), none, (.mv (.t 1))⟩,
    ⟨(some 8), none, (.call 56 [(.t 6), (.t 7), (.f 57)])⟩,
    ⟨(some 9), none, (.ext (.t 8) 0)⟩,
    ⟨(some 10), none, (.ext (.t 8) 1)⟩,
    ⟨(some 4), none, (.mv (.t 9))⟩,
    ⟨(some 5), none, (.mv (.t 10))⟩])
    .ret)), [(.tmp 4), (.tmp 5)]⟩
theorem cc_tree_find : compF Tryd.prog 30 = some c_tree_find := by kernel_rfl
def c_tree_own : AF :=
  ⟨27, (.seq (.reg [⟨(some 2), none, (.mv (.c .nils))⟩])
    (.seq (.reg [⟨(some 6), none, (.mv (.t 0))⟩,
    ⟨(some 7), none, (.bll (.t 6))⟩,
    ⟨(some 8), none, (.mks 41 2 40 [(.s []), .nils] (.t 7) (.t 7))⟩,
    ⟨(some 3), none, (.mv (.t 8))⟩])
    (.seq (.seq (.reg [⟨(some 9), none, (.mv (.t 0))⟩,
    ⟨(some 10), none, (.bll (.t 9))⟩,
    ⟨(some 11), none, (.mv (.c (.i .i64 0)))⟩])
    (.blk 0 (.loop (.seq (.reg [⟨(some 12), none, (.bin .lss .other (.t 11) (.t 10))⟩])
    (.seq (.cond (.t 12)
    .skip
    (.exit 0))
    (.seq (.blk 1 (.seq (.reg [⟨(some 13), none, (.mv (.t 11))⟩,
    ⟨(some 14), none, (.ia 2 (.t 9) (.t 11))⟩,
    ⟨(some 15), none, (.ldn 2 (.t 14))⟩,
    ⟨(some 5), none, (.alc 41 [(.s []), .nils])⟩,
    ⟨(some 4), none, (.mv (.t 13))⟩,
    ⟨none, none, (.st 2 (.t 5) (.t 15))⟩])
    (.dreg [⟨⟨(some 16), none, (.mv (.t 3))⟩, 0⟩,
    ⟨⟨(some 17), none, (.mv (.t 4))⟩, 0⟩,
    ⟨⟨(some 18), none, (.fa 0 (.t 5))⟩, 0⟩,
    ⟨⟨(some 19), none, (.ld1 (.t 18))⟩, 4⟩,
    ⟨⟨(some 20), none, (.fa 1 (.t 5))⟩, 0⟩,
    ⟨⟨(some 21), none, (.ld1 (.t 20))⟩, 16⟩,
    ⟨⟨(some 22), none, (.call 31 [(.t 21)])⟩, 48⟩,
    ⟨⟨(some 23), none, (.bld [(.s []), .nils] [(0, (1, (.t 19))), (1, (1, (.t 22)))])⟩, 124⟩,
    ⟨⟨(some 24), none, (.ia 2 (.t 16) (.t 17))⟩, 255⟩,
    ⟨⟨none, none, (.st 2 (.t 24) (.t 23))⟩, 511⟩])))
    (.reg [⟨(some 25), none, (.bin .add .other (.t 11) (.c (.i .i64 1)))⟩,
    ⟨(some 11), none, (.mv (.t 25))⟩])))))))
    (.seq (.reg [⟨(some 26), none, (.mv (.t 3))⟩,
    ⟨(some 2), none, (.mv (.t 26))⟩])
    .ret)))), [(.tmp 2)]⟩
theorem cc_tree_own : compF Tryd.prog 31 = some c_tree_own := by kernel_rfl
def c_tree_Get : AF :=
  ⟨32, (.seq (.reg [⟨(some 4), none, (.mv (.c .nils))⟩,
    ⟨(some 5), none, (.mv (.c (.b false)))⟩])
    (.seq (.seq (.reg [⟨(some 10), none, (.mv (.t 1))⟩,
    ⟨(some 11), none, (.bll (.t 10))⟩,
    ⟨(some 12), none, (.mv (.c (.i .i64 0)))⟩])
    (.blk 0 (.loop (.seq (.reg [⟨(some 13), none, (.bin .lss .other (.t 12) (.t 11))⟩])
    (.seq (.cond (.t 13)
    .skip
    (.exit 0))
    (.seq (.blk 1 (.seq (.reg [⟨(some 14), none, (.ia 1 (.t 10) (.t 12))⟩,
    ⟨(some 15), none, (.ld1 (.t 14))⟩,
    ⟨(some 7), none, (.mv (.t 15))⟩])
    (.seq (.reg [⟨(some 17), none, (.mv (.t 0))⟩,
    ⟨(some 18), none, (.mv (.t 7))⟩,
    ⟨(some 19), none, (.call 30 [(.t 17), (.t 18)])⟩,
    ⟨(some 16), none, (.mv (.t 19))⟩,
    ⟨(some 20), none, (.ext (.t 16) 0)⟩,
    ⟨(some 21), none, (.ext (.t 16) 1)⟩,
    ⟨(some 8), none, (.mv (.t 20))⟩,
    ⟨(some 9), none, (.mv (.t 21))⟩])
    (.seq (.seq (.reg [⟨(some 22), none, (.mv (.t 9))⟩,
    ⟨(some 23), none, (.un .not (.t 22))⟩])
    (.cond (.t 23)
    (.seq (.reg [⟨(some 4), none, (.mv (.c .nils))⟩,
    ⟨(some 5), none, (.mv (.c (.b false)))⟩])
    .ret)
    .skip))
    (.reg [⟨(some 24), none, (.mv (.t 0))⟩,
    ⟨(some 25), none, (.mv (.t 8))⟩,
    ⟨(some 26), none, (.ia 2 (.t 24) (.t 25))⟩,
    ⟨(some 27), none, (.fa 1 (.t 26))⟩,
    ⟨(some 28), none, (.ld1 (.t 27))⟩,
    ⟨(some 0), none, (.mv (.t 28))⟩])))))
    (.reg [⟨(some 29), none, (.bin .add .other (.t 12) (.c (.i .i64 1)))⟩,
    ⟨(some 12), none, (.mv (.t 29))⟩])))))))
    (.seq (.reg [⟨(some 30), none, (.mv (.t 0))⟩,
    ⟨(some 31), none, (.call 31 [(.t 30)])⟩,
    ⟨(some 4), none, (.mv (.t 31))⟩,
    ⟨(some 5), none, (.mv (.c (.b true)))⟩])
    .ret))), [(.tmp 4), (.tmp 5)]⟩
theorem cc_tree_Get : compF Tryd.prog 19 = some c_tree_Get := by kernel_rfl
def c_tree_Put : AF :=
  ⟨50, (.seq (.reg [⟨(some 6), none, (.mv (.c .nils))⟩])
    (.seq (.seq (.reg [⟨(some 10), none, (.mv (.t 1))⟩,
    ⟨(some 11), none, (.bll (.t 10))⟩,
    ⟨(some 12), none, (.bin .eql .other (.t 11) (.c (.i .i64 0)))⟩])
    (.cond (.t 12)
    (.seq (.reg [⟨(some 13), none, (.mv (.t 2))⟩,
    ⟨(some 14), none, (.call 31 [(.t 13)])⟩,
    ⟨(some 6), none, (.mv (.t 14))⟩])
    .ret)
    .skip))
    (.seq (.reg [⟨(some 15), none, (.mv (.t 0))⟩,
    ⟨(some 16), none, (.call 31 [(.t 15)])⟩,
    ⟨(some 7), none, (.mv (.t 16))⟩])
    (.seq (.reg [⟨(some 18), none, (.mv (.t 7))⟩,
    ⟨(some 19), none, (.mv (.t 1))⟩,
    ⟨(some 20), none, (.ia 1 (.t 19) (.c (.i .i64 0)))⟩,
    ⟨(some 21), none, (.ld1 (.t 20))⟩,
    ⟨(some 22), none, (.call 30 [(.t 18), (.t 21)])⟩,
    ⟨(some 17), none, (.mv (.t 22))⟩,
    ⟨(some 23), none, (.ext (.t 17) 0)⟩,
    ⟨(some 24), none, (.ext (.t 17) 1)⟩,
    ⟨(some 8), none, (.mv (.t 23))⟩,
    ⟨(some 9), none, (.mv (.t 24))⟩])
    (.seq (.seq (.reg [⟨(some 25), none, (.mv (.t 9))⟩,
    ⟨(some 26), none, (.un .not (.t 25))⟩])
    (.cond (.t 26)
    (.reg [⟨(some 27), none, (.mv (.t 7))⟩,
    ⟨(some 28), none, (.mv (.t 8))⟩,
    ⟨(some 29), none, (.mv (.t 1))⟩,
    ⟨(some 30), none, (.ia 1 (.t 29) (.c (.i .i64 0)))⟩,
    ⟨(some 31), none, (.ld1 (.t 30))⟩,
    ⟨(some 32), none, (.bld [(.s []), .nils] [(0, (1, (.t 31)))])⟩,
    ⟨(some 33), none, (.bsl 41 2 1 [(.s []), .nils] [(0, (2, (.t 32)))])⟩,
    ⟨(some 34), none, (.call 96 [(.t 27), (.t 28), (.t 33)])⟩,
    ⟨(some 7), none, (.mv (.t 34))⟩])
    .skip))
    (.seq (.dreg [⟨⟨(some 35), none, (.mv (.t 7))⟩, 0⟩,
    ⟨⟨(some 36), none, (.mv (.t 8))⟩, 0⟩,
    ⟨⟨(some 37), none, (.mv (.t 7))⟩, 0⟩,
    ⟨⟨(some 38), none, (.mv (.t 8))⟩, 0⟩,
    ⟨⟨(some 39), none, (.ia 2 (.t 37) (.t 38))⟩, 12⟩,
    ⟨⟨(some 40), none, (.fa 1 (.t 39))⟩, 28⟩,
    ⟨⟨(some 41), none, (.ld1 (.t 40))⟩, 60⟩,
    ⟨⟨(some 42), none, (.mv (.t 1))⟩, 0⟩,
    ⟨⟨(some 43), none, (.sll 1 (.t 42) (some (.c (.i .i64 1))) none none)⟩, 128⟩,
    ⟨⟨(some 44), none, (.mv (.t 2))⟩, 0⟩,
    ⟨⟨(some 45), none, (.call 77 [(.t 41), (.t 43), (.t 44)])⟩, 1020⟩,
    ⟨⟨(some 46), none, (.ia 2 (.t 35) (.t 36))⟩, 2047⟩,
    ⟨⟨(some 47), none, (.fa 1 (.t 46))⟩, 4095⟩,
    ⟨⟨none, none, (.st 1 (.t 47) (.t 45))⟩, 8191⟩])
    (.seq (.reg [⟨(some 48), none, (.mv (.t 7))⟩,
    ⟨(some 49), none, (.call 97 [(.t 48)])⟩,
    ⟨(some 6), none, (.mv (.t 49))⟩])
    .ret))))))), [(.tmp 6)]⟩
theorem cc_tree_Put : compF Tryd.prog 77 = some c_tree_Put := by kernel_rfl
def c_cadenceref8_read : AF :=
  ⟨95, (.seq (.reg [⟨(some 2), none, (.alc 80 [(.i .i64 0), (.s []), (.s [])])⟩])
    (.seq (.reg [⟨(some 11), none, (.mv (.t 0))⟩,
    ⟨(some 12), none, (.call 59 [(.t 11)])⟩,
    ⟨(some 10), none, (.mv (.t 12))⟩,
    ⟨(some 13), none, (.ext (.t 10) 0)⟩,
    ⟨(some 14), none, (.ext (.t 10) 1)⟩,
    ⟨(some 15), none, (.ext (.t 10) 2)⟩,
    ⟨(some 3), none, (.mv (.t 13))⟩,
    ⟨(some 4), none, (.mv (.t 14))⟩,
    ⟨(some 5), none, (.mv (.t 15))⟩])
    (.seq (.seq (.reg [⟨(some 16), none, (.mv (.t 0))⟩,
    ⟨(some 17), none, (.call 60 [(.t 16)])⟩])
    (.cond (.t 17)
    (.seq (.reg [⟨(some 18), none, (.bld [(.i .i64 0), (.s []), (.s [])] [(0, (1, (.c (.i .i64 4))))])⟩,
    ⟨none, none, (.st 3 (.t 2) (.t 18))⟩])
    .ret)
    .skip))
    (.seq (.seq (.reg [⟨(some 19), none, (.mv (.t 4))⟩,
    ⟨(some 20), none, (.bin .eql .other (.t 19) (.c (.s [])))⟩])
    (.cond (.t 20)
    (.seq (.reg [⟨(some 21), none, (.bld [(.i .i64 0), (.s []), (.s [])] [])⟩,
    ⟨none, none, (.st 3 (.t 2) (.t 21))⟩])
    .ret)
    .skip))
    (.seq (.reg [⟨(some 6), none, (.mv (.c (.i .i64 0)))⟩])
    (.seq (.blk 0 (.loop (.seq (.seq (.reg [⟨(some 22), none, (.mv (.t 6))⟩,
    ⟨(some 23), none, (.mv (.t 0))⟩,
    ⟨(some 24), none, (.bls (.t 23))⟩,
    ⟨(some 25), none, (.bin .lss .other (.t 22) (.t 24))⟩,
    ⟨(some 26), none, (.mv (.t 25))⟩,
    ⟨(some 27), (some (26, true)), (.mv (.t 0))⟩,
    ⟨(some 28), (some (26, true)), (.mv (.t 6))⟩,
    ⟨(some 29), (some (26, true)), (.ixs (.t 27) (.t 28))⟩,
    ⟨(some 30), (some (26, true)), (.bin .neq .other (.t 29) (.c (.i .u8 58)))⟩,
    ⟨(some 31), none, (.pick (.t 26) (.t 30) (.c (.b false)))⟩])
    (.cond (.t 31)
    .skip
    (.exit 0)))
    (.blk 1 (.reg [⟨(some 32), none, (.mv (.t 6))⟩,
    ⟨(some 33), none, (.bin .add .other (.t 32) (.c (.i .i64 1)))⟩,
    ⟨(some 6), none, (.mv (.t 33))⟩])))))
    (.seq (.seq (.reg [⟨(some 34), none, (.mv (.t 6))⟩,
    ⟨(some 35), none, (.mv (.t 0))⟩,
    ⟨(some 36), none, (.bls (.t 35))⟩,
    ⟨(some 37), none, (.bin .eql .other (.t 34) (.t 36))⟩,
    ⟨(some 38), none, (.mv (.t 37))⟩,
    ⟨(some 39), (some (38, false)), (.mv (.t 0))⟩,
    ⟨(some 40), (some (38, false)), (.mv (.t 6))⟩,
    ⟨(some 41), (some (38, false)), (.sls (.t 39) none (some (.t 40)))⟩,
    ⟨(some 42), (some (38, false)), (.call 61 [(.t 41)])⟩,
    ⟨(some 43), (some (38, false)), (.un .not (.t 42))⟩,
    ⟨(some 44), none, (.pick (.t 38) (.c (.b true)) (.t 43))⟩])
    (.cond (.t 44)
    (.seq (.reg [⟨(some 45), none, (.bld [(.i .i64 0), (.s []), (.s [])] [(0, (1, (.c (.i .i64 4))))])⟩,
    ⟨none, none, (.st 3 (.t 2) (.t 45))⟩])
    .ret)
    .skip))
    (.seq (.dreg [⟨⟨(some 46), none, (.mv (.t 0))⟩, 0⟩,
    ⟨⟨(some 47), none, (.mv (.t 6))⟩, 0⟩,
    ⟨⟨(some 48), none, (.sls (.t 46) none (some (.t 47)))⟩, 3⟩,
    ⟨⟨(some 49), none, (.mv (.t 0))⟩, 0⟩,
    ⟨⟨(some 50), none, (.mv (.t 6))⟩, 0⟩,
    ⟨⟨(some 51), none, (.bin .add .other (.t 50) (.c (.i .i64 1)))⟩, 16⟩,
    ⟨⟨(some 52), none, (.sls (.t 49) (some (.t 51)) none)⟩, 56⟩,
    ⟨⟨(some 53), none, (.bld [(.i .i64 0), (.s []), (.s [])] [(0, (1, (.c (.i .i64 3)))), (1, (1, (.t 48))), (2, (1, (.t 52)))])⟩, 127⟩,
    ⟨⟨(some 7), none, (.alc 80 [(.i .i64 0), (.s []), (.s [])])⟩, 0⟩,
    ⟨⟨none, none, (.st 3 (.t 7) (.t 53))⟩, 511⟩])
    (.seq (.seq (.reg [⟨(some 54), none, (.fa 1 (.t 7))⟩,
    ⟨(some 55), none, (.ld1 (.t 54))⟩,
    ⟨(some 56), none, (.bin .eql .other (.t 55) (.c (.s [66, 69, 71, 73, 78])))⟩,
    ⟨(some 57), none, (.mv (.t 56))⟩,
    ⟨(some 58), (some (57, false)), (.fa 1 (.t 7))⟩,
    ⟨(some 59), (some (57, false)), (.ld1 (.t 58))⟩,
    ⟨(some 60), (some (57, false)), (.bin .eql .other (.t 59) (.c (.s [69, 78, 68])))⟩,
    ⟨(some 61), none, (.pick (.t 57) (.c (.b true)) (.t 60))⟩])
    (.cond (.t 61)
    (.seq (.reg [⟨(some 62), none, (.fa 0 (.t 7))⟩,
    ⟨none, none, (.st 1 (.t 62) (.c (.i .i64 1)))⟩])
    (.seq (.seq (.reg [⟨(some 63), none, (.fa 1 (.t 7))⟩,
    ⟨(some 64), none, (.ld1 (.t 63))⟩,
    ⟨(some 65), none, (.bin .eql .other (.t 64) (.c (.s [69, 78, 68])))⟩])
    (.cond (.t 65)
    (.reg [⟨(some 66), none, (.fa 0 (.t 7))⟩,
    ⟨none, none, (.st 1 (.t 66) (.c (.i .i64 2)))⟩])
    .skip))
    (.seq (.seq (.reg [⟨(some 67), none, (.fa 2 (.t 7))⟩,
    ⟨(some 68), none, (.ld1 (.t 67))⟩,
    ⟨(some 69), none, (.call 61 [(.t 68)])⟩,
    ⟨(some 70), none, (.un .not (.t 69))⟩])
    (.cond (.t 70)
    (.reg [⟨(some 71), none, (.fa 0 (.t 7))⟩,
    ⟨none, none, (.st 1 (.t 71) (.c (.i .i64 4)))⟩])
    .skip))
    (.seq (.reg [⟨(some 72), none, (.ldn 3 (.t 7))⟩,
    ⟨none, none, (.st 3 (.t 2) (.t 72))⟩])
    .ret))))
    .skip))
    (.seq (.reg [⟨(some 74), none, (.fa 2 (.t 7))⟩,
    ⟨(some 75), none, (.ld1 (.t 74))⟩,
    ⟨(some 76), none, (.call 62 [(.t 75)])⟩,
    ⟨(some 73), none, (.mv (.t 76))⟩,
    ⟨(some 77), none, (.ext (.t 73) 0)⟩,
    ⟨(some 78), none, (.ext (.t 73) 1)⟩,
    ⟨(some 8), none, (.mv (.t 77))⟩,
    ⟨(some 9), none, (.mv (.t 78))⟩])
    (.seq (.seq (.reg [⟨(some 79), none, (.mv (.t 9))⟩,
    ⟨(some 80), none, (.un .not (.t 79))⟩,
    ⟨(some 81), none, (.mv (.t 80))⟩,
    ⟨(some 82), (some (81, false)), (.fa 1 (.t 7))⟩,
    ⟨(some 83), (some (81, false)), (.ld1 (.t 82))⟩,
    ⟨(some 84), (some (81, false)), (.bin .eql .other (.t 83) (.c (.s [73, 68])))⟩,
    ⟨(some 85), (some (81, false)), (.mv (.t 84))⟩,
    ⟨(some 86), (some (85, true)), (.mv (.t 8))⟩,
    ⟨(some 87), (some (85, true)), (.call 63 [(.t 86)])⟩,
    ⟨(some 88), (some (85, true)), (.un .not (.t 87))⟩,
    ⟨(some 89), (some (81, false)), (.pick (.t 85) (.t 88) (.c (.b false)))⟩,
    ⟨(some 90), none, (.pick (.t 81) (.c (.b true)) (.t 89))⟩])
    (.cond (.t 90)
    (.seq (.reg [⟨(some 91), none, (.bld [(.i .i64 0), (.s []), (.s [])] [(0, (1, (.c (.i .i64 4))))])⟩,
    ⟨none, none, (.st 3 (.t 2) (.t 91))⟩])
    .ret)
    .skip))
    (.seq (.reg [⟨(some 92), none, (.mv (.t 8))⟩,
    ⟨(some 93), none, (.fa 2 (.t 7))⟩,
    ⟨none, none, (.st 1 (.t 93) (.t 92))⟩])
    (.seq (.reg [⟨(some 94), none, (.ldn 3 (.t 7))⟩,
    ⟨none, none, (.st 3 (.t 2) (.t 94))⟩])
    .ret))))))))))))), [(.ldn 2 3)]⟩
theorem cc_cadenceref8_read : compF Tryd.prog 32 = some c_cadenceref8_read := by kernel_rfl
def c_cadenceref8_twin : AF :=
  ⟨46, (.seq (.reg [⟨(some 4), none, (.mv (.c (.b false)))⟩])
    (.seq (.seq (.reg [⟨(some 5), none, (.mv (.c (.i .i64 0)))⟩])
    (.blk 0 (.loop (.seq (.seq (.reg [⟨(some 6), none, (.mv (.t 5))⟩,
    ⟨(some 7), none, (.mv (.t 0))⟩,
    ⟨(some 8), none, (.bll (.t 7))⟩,
    ⟨(some 9), none, (.bin .lss .other (.t 6) (.t 8))⟩])
    (.cond (.t 9)
    .skip
    (.exit 0)))
    (.seq (.blk 1 (.seq (.dreg [⟨⟨(some 12), none, (.mv (.t 0))⟩, 0⟩,
    ⟨⟨(some 13), none, (.mv (.t 5))⟩, 0⟩,
    ⟨⟨(some 14), none, (.ia 1 (.t 12) (.t 13))⟩, 3⟩,
    ⟨⟨(some 15), none, (.ld1 (.t 14))⟩, 7⟩,
    ⟨⟨(some 16), none, (.mv (.t 1))⟩, 0⟩,
    ⟨⟨(some 17), none, (.bin .neq .ptr (.t 15) (.t 16))⟩, 31⟩,
    ⟨⟨(some 18), none, (.mv (.t 17))⟩, 63⟩,
    ⟨⟨(some 19), (some (18, true)), (.mv (.t 0))⟩, 127⟩,
    ⟨⟨(some 20), (some (18, true)), (.mv (.t 5))⟩, 127⟩,
    ⟨⟨(some 21), (some (18, true)), (.ia 1 (.t 19) (.t 20))⟩, 511⟩,
    ⟨⟨(some 22), (some (18, true)), (.ld1 (.t 21))⟩, 1023⟩,
    ⟨⟨(some 23), (some (18, true)), (.nilc (.t 22))⟩, 2047⟩,
    ⟨⟨(some 24), (some (18, true)), (.fa 0 (.t 23))⟩, 4095⟩,
    ⟨⟨(some 25), (some (18, true)), (.ld1 (.t 24))⟩, 8191⟩,
    ⟨⟨(some 26), (some (18, true)), (.mv (.t 1))⟩, 127⟩,
    ⟨⟨(some 27), (some (18, true)), (.nilc (.t 26))⟩, 16511⟩,
    ⟨⟨(some 28), (some (18, true)), (.fa 0 (.t 27))⟩, 49279⟩,
    ⟨⟨(some 29), (some (18, true)), (.ld1 (.t 28))⟩, 114815⟩,
    ⟨⟨(some 30), (some (18, true)), (.bin .eql .other (.t 25) (.t 29))⟩, 262143⟩,
    ⟨⟨(some 31), none, (.pick (.t 18) (.t 30) (.c (.b false)))⟩, 524287⟩,
    ⟨⟨(some 32), none, (.mv (.t 31))⟩, 1048575⟩,
    ⟨⟨(some 33), (some (32, true)), (.mv (.t 0))⟩, 2097151⟩,
    ⟨⟨(some 34), (some (32, true)), (.mv (.t 5))⟩, 2097151⟩,
    ⟨⟨(some 35), (some (32, true)), (.ia 1 (.t 33) (.t 34))⟩, 8388607⟩,
    ⟨⟨(some 36), (some (32, true)), (.ld1 (.t 35))⟩, 16777215⟩,
    ⟨⟨(some 37), (some (32, true)), (.nilc (.t 36))⟩, 33554431⟩,
    ⟨⟨(some 38), (some (32, true)), (.fa 1 (.t 37))⟩, 67108863⟩,
    ⟨⟨(some 39), (some (32, true)), (.ld1 (.t 38))⟩, 134217727⟩,
    ⟨⟨(some 40), (some (32, true)), (.mv (.t 1))⟩, 2097151⟩,
    ⟨⟨(some 41), (some (32, true)), (.nilc (.t 40))⟩, 270532607⟩,
    ⟨⟨(some 42), (some (32, true)), (.fa 1 (.t 41))⟩, 807403519⟩,
    ⟨⟨(some 43), (some (32, true)), (.ld1 (.t 42))⟩, 1881145343⟩,
    ⟨⟨(some 44), (some (32, true)), (.bin .eql .other (.t 39) (.t 43))⟩, 4294967295⟩,
    ⟨⟨(some 45), none, (.pick (.t 32) (.t 44) (.c (.b false)))⟩, 8589934591⟩])
    (.cond (.t 45)
    (.seq (.reg [⟨(some 4), none, (.mv (.c (.b true)))⟩])
    .ret)
    .skip)))
    (.reg [⟨(some 10), none, (.mv (.t 5))⟩,
    ⟨(some 11), none, (.bin .add .other (.t 10) (.c (.i .i64 1)))⟩,
    ⟨(some 5), none, (.mv (.t 11))⟩]))))))
    (.seq (.reg [⟨(some 4), none, (.mv (.c (.b false)))⟩])
    .ret))), [(.tmp 4)]⟩
theorem cc_cadenceref8_twin : compF Tryd.prog 33 = some c_cadenceref8_twin := by kernel_rfl
def c_cadenceref8_Block_prop : AF :=
  ⟨79, (.seq (.reg [⟨(some 4), none, (.box 80 (.t 1))⟩,
    ⟨(some 6), none, (.mv (.c (.i .i64 0)))⟩])
    (.seq (.seq (.reg [⟨(some 8), none, (.fa 1 (.t 4))⟩,
    ⟨(some 9), none, (.ld1 (.t 8))⟩,
    ⟨(some 10), none, (.bin .eql .other (.t 9) (.c (.s [73, 68])))⟩])
    (.cond (.t 10)
    (.seq (.seq (.reg [⟨(some 11), none, (.mv (.t 0))⟩,
    ⟨(some 12), none, (.nilc (.t 11))⟩,
    ⟨(some 13), none, (.fa 4 (.t 12))⟩,
    ⟨(some 14), none, (.ld1 (.t 13))⟩,
    ⟨(some 15), none, (.bin .gtr .other (.t 14) (.c (.i .i64 0)))⟩])
    (.cond (.t 15)
    (.seq (.reg [⟨(some 6), none, (.mv (.c (.i .i64 7)))⟩])
    .ret)
    .skip))
    (.seq (.reg [⟨(some 16), none, (.mv (.t 0))⟩,
    ⟨(some 17), none, (.mv (.t 0))⟩,
    ⟨(some 18), none, (.fa 2 (.t 4))⟩,
    ⟨(some 19), none, (.ld1 (.t 18))⟩,
    ⟨(some 20), none, (.mv (.t 2))⟩,
    ⟨(some 21), none, (.bin .add .other (.t 20) (.c (.i .i64 1)))⟩,
    ⟨(some 22), none, (.nilc (.t 16))⟩,
    ⟨(some 23), none, (.fa 1 (.t 22))⟩,
    ⟨none, none, (.st 1 (.t 23) (.t 19))⟩,
    ⟨(some 24), none, (.nilc (.t 17))⟩,
    ⟨(some 25), none, (.fa 4 (.t 24))⟩,
    ⟨none, none, (.st 1 (.t 25) (.t 21))⟩])
    (.seq (.reg [⟨(some 6), none, (.mv (.c (.i .i64 0)))⟩])
    .ret)))
    .skip))
    (.seq (.seq (.reg [⟨(some 7), none, (.mv (.c (.i .i64 0)))⟩])
    (.blk 0 (.loop (.seq (.seq (.reg [⟨(some 26), none, (.mv (.t 7))⟩,
    ⟨(some 27), none, (.mv (.t 0))⟩,
    ⟨(some 28), none, (.nilc (.t 27))⟩,
    ⟨(some 29), none, (.fa 5 (.t 28))⟩,
    ⟨(some 30), none, (.ld1 (.t 29))⟩,
    ⟨(some 31), none, (.bll (.t 30))⟩,
    ⟨(some 32), none, (.bin .lss .other (.t 26) (.t 31))⟩])
    (.cond (.t 32)
    .skip
    (.exit 0)))
    (.seq (.blk 1 (.seq (.dreg [⟨⟨(some 35), none, (.mv (.t 0))⟩, 0⟩,
    ⟨⟨(some 36), none, (.nilc (.t 35))⟩, 1⟩,
    ⟨⟨(some 37), none, (.fa 5 (.t 36))⟩, 3⟩,
    ⟨⟨(some 38), none, (.ld1 (.t 37))⟩, 7⟩,
    ⟨⟨(some 39), none, (.mv (.t 7))⟩, 0⟩,
    ⟨⟨(some 40), none, (.ia 3 (.t 38) (.t 39))⟩, 31⟩,
    ⟨⟨(some 41), none, (.fa 1 (.t 40))⟩, 63⟩,
    ⟨⟨(some 42), none, (.ld1 (.t 41))⟩, 127⟩,
    ⟨⟨(some 43), none, (.fa 1 (.t 4))⟩, 0⟩,
    ⟨⟨(some 44), none, (.ld1 (.t 43))⟩, 256⟩,
    ⟨⟨(some 45), none, (.bin .eql .other (.t 42) (.t 44))⟩, 1023⟩,
    ⟨⟨(some 46), none, (.mv (.t 45))⟩, 2047⟩,
    ⟨⟨(some 47), (some (46, true)), (.mv (.t 0))⟩, 4095⟩,
    ⟨⟨(some 48), (some (46, true)), (.nilc (.t 47))⟩, 8191⟩,
    ⟨⟨(some 49), (some (46, true)), (.fa 5 (.t 48))⟩, 16383⟩,
    ⟨⟨(some 50), (some (46, true)), (.ld1 (.t 49))⟩, 32767⟩,
    ⟨⟨(some 51), (some (46, true)), (.mv (.t 7))⟩, 4095⟩,
    ⟨⟨(some 52), (some (46, true)), (.ia 3 (.t 50) (.t 51))⟩, 131071⟩,
    ⟨⟨(some 53), (some (46, true)), (.fa 2 (.t 52))⟩, 262143⟩,
    ⟨⟨(some 54), (some (46, true)), (.ld1 (.t 53))⟩, 524287⟩,
    ⟨⟨(some 55), (some (46, true)), (.fa 2 (.t 4))⟩, 4095⟩,
    ⟨⟨(some 56), (some (46, true)), (.ld1 (.t 55))⟩, 1052671⟩,
    ⟨⟨(some 57), (some (46, true)), (.bin .eql .other (.t 54) (.t 56))⟩, 4194303⟩,
    ⟨⟨(some 58), none, (.pick (.t 46) (.t 57) (.c (.b false)))⟩, 8388607⟩])
    (.cond (.t 58)
    (.seq (.reg [⟨(some 6), none, (.mv (.c (.i .i64 7)))⟩])
    .ret)
    .skip)))
    (.reg [⟨(some 33), none, (.mv (.t 7))⟩,
    ⟨(some 34), none, (.bin .add .other (.t 33) (.c (.i .i64 1)))⟩,
    ⟨(some 7), none, (.mv (.t 34))⟩]))))))
    (.seq (.dreg [⟨⟨(some 59), none, (.mv (.t 0))⟩, 0⟩,
    ⟨⟨(some 60), none, (.mv (.t 0))⟩, 0⟩,
    ⟨⟨(some 61), none, (.mv (.t 0))⟩, 0⟩,
    ⟨⟨(some 62), none, (.nilc (.t 61))⟩, 4⟩,
    ⟨⟨(some 63), none, (.fa 5 (.t 62))⟩, 12⟩,
    ⟨⟨(some 64), none, (.ld1 (.t 63))⟩, 28⟩,
    ⟨⟨(some 65), none, (.ldn 3 (.t 4))⟩, 0⟩,
    ⟨⟨(some 66), none, (.bsl 80 3 1 [(.i .i64 0), (.s []), (.s [])] [(0, (3, (.t 65)))])⟩, 64⟩,
    ⟨⟨(some 67), none, (.app 80 3 40 false (.t 64) (.t 66))⟩, 252⟩,
    ⟨⟨(some 68), none, (.mv (.t 0))⟩, 0⟩,
    ⟨⟨(some 69), none, (.nilc (.t 68))⟩, 512⟩,
    ⟨⟨(some 70), none, (.fa 6 (.t 69))⟩, 1536⟩,
    ⟨⟨(some 71), none, (.ld1 (.t 70))⟩, 3584⟩,
    ⟨⟨(some 72), none, (.mv (.t 2))⟩, 0⟩,
    ⟨⟨(some 73), none, (.bsl 3 1 1 [(.i .i64 0)] [(0, (1, (.t 72)))])⟩, 8192⟩,
    ⟨⟨(some 74), none, (.app 3 1 8 false (.t 71) (.t 73))⟩, 32764⟩,
    ⟨⟨(some 75), none, (.nilc (.t 59))⟩, 65533⟩,
    ⟨⟨(some 76), none, (.fa 5 (.t 75))⟩, 131069⟩,
    ⟨⟨none, none, (.st 1 (.t 76) (.t 67))⟩, 262141⟩,
    ⟨⟨(some 77), none, (.nilc (.t 60))⟩, 524287⟩,
    ⟨⟨(some 78), none, (.fa 6 (.t 77))⟩, 1048575⟩,
    ⟨⟨none, none, (.st 1 (.t 78) (.t 74))⟩, 2097151⟩])
    (.seq (.reg [⟨(some 6), none, (.mv (.c (.i .i64 0)))⟩])
    .ret))))), [(.tmp 6)]⟩
theorem cc_cadenceref8_Block_prop : compF Tryd.prog 34 = some c_cadenceref8_Block_prop := by kernel_rfl
def c_cadenceref2_Kid : AF :=
  ⟨21, (.seq (.reg [⟨(some 4), none, (.mv (.c .nils))⟩,
    ⟨(some 5), none, (.mv (.c (.b false)))⟩])
    (.seq (.reg [⟨(some 9), none, (.mv (.t 0))⟩,
    ⟨(some 10), none, (.mv (.t 1))⟩,
    ⟨(some 11), none, (.call 64 [(.t 9), (.t 10)])⟩,
    ⟨(some 8), none, (.mv (.t 11))⟩,
    ⟨(some 12), none, (.ext (.t 8) 0)⟩,
    ⟨(some 13), none, (.ext (.t 8) 1)⟩,
    ⟨(some 6), none, (.mv (.t 12))⟩,
    ⟨(some 7), none, (.mv (.t 13))⟩])
    (.seq (.seq (.reg [⟨(some 14), none, (.mv (.t 7))⟩,
    ⟨(some 15), none, (.un .not (.t 14))⟩])
    (.cond (.t 15)
    (.seq (.reg [⟨(some 4), none, (.mv (.c .nils))⟩,
    ⟨(some 5), none, (.mv (.c (.b false)))⟩])
    .ret)
    .skip))
    (.seq (.reg [⟨(some 16), none, (.mv (.t 0))⟩,
    ⟨(some 17), none, (.mv (.t 6))⟩,
    ⟨(some 18), none, (.ia 2 (.t 16) (.t 17))⟩,
    ⟨(some 19), none, (.fa 1 (.t 18))⟩,
    ⟨(some 20), none, (.ld1 (.t 19))⟩,
    ⟨(some 4), none, (.mv (.t 20))⟩,
    ⟨(some 5), none, (.mv (.c (.b true)))⟩])
    .ret)))), [(.tmp 4), (.tmp 5)]⟩
theorem cc_cadenceref2_Kid : compF Tryd.prog 35 = some c_cadenceref2_Kid := by kernel_rfl
def c_cadenceref2_With : AF :=
  ⟨35, (.seq (.reg [⟨(some 6), none, (.mv (.c .nils))⟩])
    (.seq (.reg [⟨(some 11), none, (.mv (.t 0))⟩,
    ⟨(some 12), none, (.mv (.t 1))⟩,
    ⟨(some 13), none, (.call 64 [(.t 11), (.t 12)])⟩,
    ⟨(some 10), none, (.mv (.t 13))⟩,
    ⟨(some 14), none, (.ext (.t 10) 0)⟩,
    ⟨(some 15), none, (.ext (.t 10) 1)⟩,
    ⟨(some 7), none, (.mv (.t 14))⟩,
    ⟨(some 8), none, (.mv (.t 15))⟩])
    (.seq (.reg [⟨(some 9), none, (.mv (.c .nils))⟩])
    (.seq (.reg [⟨(some 16), none, (.mv (.t 9))⟩,
    ⟨(some 17), none, (.mv (.t 0))⟩,
    ⟨(some 18), none, (.mv (.t 7))⟩,
    ⟨(some 19), none, (.sll 2 (.t 17) none (some (.t 18)) none)⟩,
    ⟨(some 20), none, (.app 41 2 40 false (.t 16) (.t 19))⟩,
    ⟨(some 9), none, (.mv (.t 20))⟩])
    (.seq (.reg [⟨(some 21), none, (.mv (.t 9))⟩,
    ⟨(some 22), none, (.mv (.t 1))⟩,
    ⟨(some 23), none, (.mv (.t 2))⟩,
    ⟨(some 24), none, (.bld [(.s []), .nils] [(0, (1, (.t 22))), (1, (1, (.t 23)))])⟩,
    ⟨(some 25), none, (.bsl 41 2 1 [(.s []), .nils] [(0, (2, (.t 24)))])⟩,
    ⟨(some 26), none, (.app 41 2 40 false (.t 21) (.t 25))⟩,
    ⟨(some 9), none, (.mv (.t 26))⟩])
    (.seq (.seq (.reg [⟨(some 27), none, (.mv (.t 8))⟩])
    (.cond (.t 27)
    (.reg [⟨(some 28), none, (.mv (.t 7))⟩,
    ⟨(some 29), none, (.bin .add .other (.t 28) (.c (.i .i64 1)))⟩,
    ⟨(some 7), none, (.mv (.t 29))⟩])
    .skip))
    (.seq (.reg [⟨(some 30), none, (.mv (.t 9))⟩,
    ⟨(some 31), none, (.mv (.t 0))⟩,
    ⟨(some 32), none, (.mv (.t 7))⟩,
    ⟨(some 33), none, (.sll 2 (.t 31) (some (.t 32)) none none)⟩,
    ⟨(some 34), none, (.app 41 2 40 false (.t 30) (.t 33))⟩,
    ⟨(some 6), none, (.mv (.t 34))⟩])
    .ret))))))), [(.tmp 6)]⟩
theorem cc_cadenceref2_With : compF Tryd.prog 36 = some c_cadenceref2_With := by kernel_rfl
def c_cadenceref8_Block_content : AF :=
  ⟨55, (.seq (.reg [⟨(some 2), none, (.mv (.c .nils))⟩])
    (.seq (.reg [⟨(some 3), none, (.mv (.c .nils))⟩])
    (.seq (.seq (.reg [⟨(some 4), none, (.mv (.c (.i .i64 0)))⟩])
    (.blk 0 (.loop (.seq (.seq (.reg [⟨(some 7), none, (.mv (.t 4))⟩,
    ⟨(some 8), none, (.mv (.t 0))⟩,
    ⟨(some 9), none, (.nilc (.t 8))⟩,
    ⟨(some 10), none, (.fa 5 (.t 9))⟩,
    ⟨(some 11), none, (.ld1 (.t 10))⟩,
    ⟨(some 12), none, (.bll (.t 11))⟩,
    ⟨(some 13), none, (.bin .lss .other (.t 7) (.t 12))⟩])
    (.cond (.t 13)
    .skip
    (.exit 0)))
    (.seq (.blk 1 (.seq (.reg [⟨(some 17), none, (.mv (.t 3))⟩,
    ⟨(some 18), none, (.mv (.t 0))⟩,
    ⟨(some 19), none, (.nilc (.t 18))⟩,
    ⟨(some 20), none, (.fa 5 (.t 19))⟩,
    ⟨(some 21), none, (.ld1 (.t 20))⟩,
    ⟨(some 22), none, (.mv (.t 4))⟩,
    ⟨(some 23), none, (.ia 3 (.t 21) (.t 22))⟩,
    ⟨(some 24), none, (.fa 1 (.t 23))⟩,
    ⟨(some 25), none, (.ld1 (.t 24))⟩,
    ⟨(some 26), none, (.call 35 [(.t 17), (.t 25)])⟩,
    ⟨(some 16), none, (.mv (.t 26))⟩,
    ⟨(some 27), none, (.ext (.t 16) 0)⟩,
    ⟨(some 28), none, (.ext (.t 16) 1)⟩,
    ⟨(some 5), none, (.mv (.t 27))⟩,
    ⟨(some 6), none, (.mv (.t 28))⟩])
    (.dreg [⟨⟨(some 29), none, (.mv (.t 3))⟩, 0⟩,
    ⟨⟨(some 30), none, (.mv (.t 0))⟩, 0⟩,
    ⟨⟨(some 31), none, (.nilc (.t 30))⟩, 2⟩,
    ⟨⟨(some 32), none, (.fa 5 (.t 31))⟩, 6⟩,
    ⟨⟨(some 33), none, (.ld1 (.t 32))⟩, 14⟩,
    ⟨⟨(some 34), none, (.mv (.t 4))⟩, 0⟩,
    ⟨⟨(some 35), none, (.ia 3 (.t 33) (.t 34))⟩, 62⟩,
    ⟨⟨(some 36), none, (.fa 1 (.t 35))⟩, 126⟩,
    ⟨⟨(some 37), none, (.ld1 (.t 36))⟩, 254⟩,
    ⟨⟨(some 38), none, (.mv (.t 5))⟩, 0⟩,
    ⟨⟨(some 39), none, (.mv (.t 0))⟩, 0⟩,
    ⟨⟨(some 40), none, (.nilc (.t 39))⟩, 1024⟩,
    ⟨⟨(some 41), none, (.fa 5 (.t 40))⟩, 3072⟩,
    ⟨⟨(some 42), none, (.ld1 (.t 41))⟩, 7168⟩,
    ⟨⟨(some 43), none, (.mv (.t 4))⟩, 0⟩,
    ⟨⟨(some 44), none, (.ia 3 (.t 42) (.t 43))⟩, 31744⟩,
    ⟨⟨(some 45), none, (.fa 2 (.t 44))⟩, 64512⟩,
    ⟨⟨(some 46), none, (.ld1 (.t 45))⟩, 130048⟩,
    ⟨⟨(some 47), none, (.call 36 [(.t 38), (.t 46), (.c .nils)])⟩, 261632⟩,
    ⟨⟨(some 48), none, (.call 36 [(.t 29), (.t 37), (.t 47)])⟩, 524287⟩,
    ⟨⟨(some 3), none, (.mv (.t 48))⟩, 1048575⟩])))
    (.reg [⟨(some 14), none, (.mv (.t 4))⟩,
    ⟨(some 15), none, (.bin .add .other (.t 14) (.c (.i .i64 1)))⟩,
    ⟨(some 4), none, (.mv (.t 15))⟩]))))))
    (.seq (.reg [⟨(some 49), none, (.mv (.t 0))⟩,
    ⟨(some 50), none, (.call 22 [(.t 49)])⟩,
    ⟨(some 51), none, (.bld [(.s []), .nils] [(0, (1, (.c (.s [98, 108, 111, 99, 107, 115])))), (1, (1, (.t 50)))])⟩,
    ⟨(some 52), none, (.mv (.t 3))⟩,
    ⟨(some 53), none, (.bld [(.s []), .nils] [(0, (1, (.c (.s [112, 114, 111, 112, 115])))), (1, (1, (.t 52)))])⟩,
    ⟨(some 54), none, (.bsl 41 2 2 [(.s []), .nils] [(0, (2, (.t 51))), (2, (2, (.t 53)))])⟩,
    ⟨(some 2), none, (.mv (.t 54))⟩])
    .ret)))), [(.tmp 2)]⟩
theorem cc_cadenceref8_Block_content : compF Tryd.prog 37 = some c_cadenceref8_Block_content := by kernel_rfl
def c_cadenceref2_checker_walk : AF :=
  ⟨82, (.seq (.reg [⟨(some 6), none, (.mv (.c (.i .i64 0)))⟩])
    (.blk 0 (.loop (.seq (.seq (.reg [⟨(some 7), none, (.mv (.t 6))⟩,
    ⟨(some 8), none, (.mv (.t 1))⟩,
    ⟨(some 9), none, (.bll (.t 8))⟩,
    ⟨(some 10), none, (.bin .lss .other (.t 7) (.t 9))⟩,
    ⟨(some 11), none, (.mv (.t 10))⟩,
    ⟨(some 12), (some (11, true)), (.mv (.t 0))⟩,
    ⟨(some 13), (some (11, true)), (.nilc (.t 12))⟩,
    ⟨(some 14), (some (11, true)), (.fa 1 (.t 13))⟩,
    ⟨(some 15), (some (11, true)), (.ld1 (.t 14))⟩,
    ⟨(some 16), (some (11, true)), (.bin .eql .other (.t 15) (.c (.i .i64 0)))⟩,
    ⟨(some 17), none, (.pick (.t 11) (.t 16) (.c (.b false)))⟩])
    (.cond (.t 17)
    .skip
    (.exit 0)))
    (.seq (.blk 1 (.seq (.reg [⟨(some 20), none, (.mv (.t 0))⟩,
    ⟨(some 21), none, (.nilc (.t 20))⟩,
    ⟨(some 22), none, (.fa 0 (.t 21))⟩,
    ⟨(some 23), none, (.ld1 (.t 22))⟩,
    ⟨(some 24), none, (.bin .add .other (.t 23) (.c (.i .i64 1)))⟩,
    ⟨(some 25), none, (.nilc (.t 20))⟩,
    ⟨(some 26), none, (.fa 0 (.t 25))⟩,
    ⟨none, none, (.st 1 (.t 26) (.t 24))⟩])
    (.blk 2 (.seq (.reg [⟨(some 37), none, (.mv (.t 0))⟩,
    ⟨(some 38), none, (.nilc (.t 37))⟩,
    ⟨(some 39), none, (.fa 0 (.t 38))⟩,
    ⟨(some 40), none, (.ld1 (.t 39))⟩,
    ⟨(some 41), none, (.bin .gtr .other (.t 40) (.c (.i .i64 400)))⟩,
    ⟨(some 36), none, (.mv (.t 41))⟩])
    (.cond (.t 36)
    (.reg [⟨(some 42), none, (.mv (.t 0))⟩,
    ⟨(some 43), none, (.nilc (.t 42))⟩,
    ⟨(some 44), none, (.fa 1 (.t 43))⟩,
    ⟨none, none, (.st 1 (.t 44) (.c (.i .i64 4)))⟩])
    (.seq (.reg [⟨(some 46), none, (.mv (.t 2))⟩,
    ⟨(some 47), none, (.bin .gtr .other (.t 46) (.c (.i .i64 12)))⟩,
    ⟨(some 45), none, (.mv (.t 47))⟩])
    (.cond (.t 45)
    (.reg [⟨(some 48), none, (.mv (.t 0))⟩,
    ⟨(some 49), none, (.nilc (.t 48))⟩,
    ⟨(some 50), none, (.fa 1 (.t 49))⟩,
    ⟨none, none, (.st 1 (.t 50) (.c (.i .i64 11)))⟩])
    (.seq (.reg [⟨(some 52), none, (.mv (.t 1))⟩,
    ⟨(some 53), none, (.mv (.t 6))⟩,
    ⟨(some 54), none, (.ia 2 (.t 52) (.t 53))⟩,
    ⟨(some 55), none, (.fa 0 (.t 54))⟩,
    ⟨(some 56), none, (.ld1 (.t 55))⟩,
    ⟨(some 57), none, (.bls (.t 56))⟩,
    ⟨(some 58), none, (.bin .gtr .other (.t 57) (.c (.i .i64 80)))⟩,
    ⟨(some 51), none, (.mv (.t 58))⟩])
    (.cond (.t 51)
    (.reg [⟨(some 59), none, (.mv (.t 0))⟩,
    ⟨(some 60), none, (.nilc (.t 59))⟩,
    ⟨(some 61), none, (.fa 1 (.t 60))⟩,
    ⟨none, none, (.st 1 (.t 61) (.c (.i .i64 5)))⟩])
    (.seq (.dreg [⟨⟨(some 63), none, (.mv (.t 6))⟩, 0⟩,
    ⟨⟨(some 64), none, (.bin .gtr .other (.t 63) (.c (.i .i64 0)))⟩, 1⟩,
    ⟨⟨(some 65), none, (.mv (.t 64))⟩, 3⟩,
    ⟨⟨(some 66), (some (65, true)), (.mv (.t 1))⟩, 7⟩,
    ⟨⟨(some 67), (some (65, true)), (.mv (.t 6))⟩, 7⟩,
    ⟨⟨(some 68), (some (65, true)), (.ia 2 (.t 66) (.t 67))⟩, 31⟩,
    ⟨⟨(some 69), (some (65, true)), (.fa 0 (.t 68))⟩, 63⟩,
    ⟨⟨(some 70), (some (65, true)), (.ld1 (.t 69))⟩, 127⟩,
    ⟨⟨(some 71), (some (65, true)), (.mv (.t 1))⟩, 7⟩,
    ⟨⟨(some 72), (some (65, true)), (.mv (.t 6))⟩, 7⟩,
    ⟨⟨(some 73), (some (65, true)), (.bin .sub .other (.t 72) (.c (.i .i64 1)))⟩, 519⟩,
    ⟨⟨(some 74), (some (65, true)), (.ia 2 (.t 71) (.t 73))⟩, 1799⟩,
    ⟨⟨(some 75), (some (65, true)), (.fa 0 (.t 74))⟩, 3847⟩,
    ⟨⟨(some 76), (some (65, true)), (.ld1 (.t 75))⟩, 7943⟩,
    ⟨⟨(some 77), (some (65, true)), (.bin .leq .other (.t 70) (.t 76))⟩, 16383⟩,
    ⟨⟨(some 78), none, (.pick (.t 65) (.t 77) (.c (.b false)))⟩, 32767⟩,
    ⟨⟨(some 62), none, (.mv (.t 78))⟩, 65535⟩])
    (.cond (.t 62)
    (.reg [⟨(some 79), none, (.mv (.t 0))⟩,
    ⟨(some 80), none, (.nilc (.t 79))⟩,
    ⟨(some 81), none, (.fa 1 (.t 80))⟩,
    ⟨none, none, (.st 1 (.t 81) (.c (.i .i64 12)))⟩])
    (.reg [⟨(some 27), none, (.mv (.t 0))⟩,
    ⟨(some 28), none, (.mv (.t 1))⟩,
    ⟨(some 29), none, (.mv (.t 6))⟩,
    ⟨(some 30), none, (.ia 2 (.t 28) (.t 29))⟩,
    ⟨(some 31), none, (.fa 1 (.t 30))⟩,
    ⟨(some 32), none, (.ld1 (.t 31))⟩,
    ⟨(some 33), none, (.mv (.t 2))⟩,
    ⟨(some 34), none, (.bin .add .other (.t 33) (.c (.i .i64 1)))⟩,
    ⟨(some 35), none, (.call 38 [(.t 27), (.t 32), (.t 34)])⟩]))))))))))))
    (.reg [⟨(some 18), none, (.mv (.t 6))⟩,
    ⟨(some 19), none, (.bin .add .other (.t 18) (.c (.i .i64 1)))⟩,
    ⟨(some 6), none, (.mv (.t 19))⟩])))))), []⟩
theorem cc_cadenceref2_checker_walk : compF Tryd.prog 38 = some c_cadenceref2_checker_walk := by kernel_rfl
def c_card_plain : AF :=
  ⟨15, (.seq (.reg [⟨(some 2), none, (.mv (.c (.b false)))⟩])
    (.seq (.reg [⟨(some 3), none, (.mv (.t 0))⟩,
    ⟨(some 4), none, (.bin .neq .other (.t 3) (.c (.s [])))⟩,
    ⟨(some 5), none, (.mv (.t 4))⟩,
    ⟨(some 6), (some (5, true)), (.mv (.t 0))⟩,
    ⟨(some 7), (some (5, true)), (.bls (.t 6))⟩,
    ⟨(some 8), (some (5, true)), (.bin .leq .other (.t 7) (.c (.i .i64 80)))⟩,
    ⟨(some 9), none, (.pick (.t 5) (.t 8) (.c (.b false)))⟩,
    ⟨(some 10), none, (.mv (.t 9))⟩,
    ⟨(some 11), (some (10, true)), (.mv (.t 0))⟩,
    ⟨(some 12), (some (10, true)), (.call 66 [(.t 11), (.c (.s [10, 13]))])⟩,
    ⟨(some 13), (some (10, true)), (.un .not (.t 12))⟩,
    ⟨(some 14), none, (.pick (.t 10) (.t 13) (.c (.b false)))⟩,
    ⟨(some 2), none, (.mv (.t 14))⟩])
    .ret)), [(.tmp 2)]⟩
theorem cc_card_plain : compF Tryd.prog 41 = some c_card_plain := by kernel_rfl
def c_card_word : AF :=
  ⟨20, (.seq (.reg [⟨(some 2), none, (.mv (.c (.b false)))⟩])
    (.seq (.reg [⟨(some 3), none, (.mv (.t 0))⟩,
    ⟨(some 4), none, (.bin .neq .other (.t 3) (.c (.s [])))⟩,
    ⟨(some 5), none, (.mv (.t 4))⟩,
    ⟨(some 6), (some (5, true)), (.mv (.t 0))⟩,
    ⟨(some 7), (some (5, true)), (.bls (.t 6))⟩,
    ⟨(some 8), (some (5, true)), (.bin .leq .other (.t 7) (.c (.i .i64 20)))⟩,
    ⟨(some 9), none, (.pick (.t 5) (.t 8) (.c (.b false)))⟩,
    ⟨(some 10), none, (.mv (.t 9))⟩,
    ⟨(some 11), (some (10, true)), (.mv (.t 0))⟩,
    ⟨(some 12), (some (10, true)), (.call 70 [(.t 11), (.c (.s [65, 66, 67, 68, 69, 70, 71, 72, 73, 74, 75, 76, 77, 78, 79, 80, 81, 82, 83, 84, 85, 86, 87, 88, 89, 90, 48, 49, 50, 51, 52, 53, 54, 55, 56, 57, 45]))])⟩,
    ⟨(some 13), (some (10, true)), (.bin .eql .other (.t 12) (.c (.s [])))⟩,
    ⟨(some 14), none, (.pick (.t 10) (.t 13) (.c (.b false)))⟩,
    ⟨(some 15), none, (.mv (.t 14))⟩,
    ⟨(some 16), (some (15, true)), (.mv (.t 0))⟩,
    ⟨(some 17), (some (15, true)), (.call 66 [(.t 16), (.c (.s [32, 9]))])⟩,
    ⟨(some 18), (some (15, true)), (.un .not (.t 17))⟩,
    ⟨(some 19), none, (.pick (.t 15) (.t 18) (.c (.b false)))⟩,
    ⟨(some 2), none, (.mv (.t 19))⟩])
    .ret)), [(.tmp 2)]⟩
theorem cc_card_word : compF Tryd.prog 45 = some c_card_word := by kernel_rfl
def c_strings_IndexByte : AF :=
  ⟨8, (.seq (.reg [⟨(some 4), none, (.mv (.c (.i .i64 0)))⟩])
    (.seq (.reg [⟨(some 5), none, (.mv (.t 0))⟩,
    ⟨(some 6), none, (.mv (.t 1))⟩,
    ⟨(some 7), none, (.call 71 [(.t 5), (.t 6)])⟩,
    ⟨(some 4), none, (.mv (.t 7))⟩])
    .ret)), [(.tmp 4)]⟩
theorem cc_strings_IndexByte : compF Tryd.prog 46 = some c_strings_IndexByte := by kernel_rfl
def c_strings_HasSuffix : AF :=
  ⟨8, (.seq (.reg [⟨(some 4), none, (.mv (.c (.b false)))⟩])
    (.seq (.reg [⟨(some 5), none, (.mv (.t 0))⟩,
    ⟨(some 6), none, (.mv (.t 1))⟩,
    ⟨(some 7), none, (.call 72 [(.t 5), (.t 6)])⟩,
    ⟨(some 4), none, (.mv (.t 7))⟩])
    .ret)), [(.tmp 4)]⟩
theorem cc_strings_HasSuffix : compF Tryd.prog 48 = some c_strings_HasSuffix := by kernel_rfl
def c_lines_Trim : AF :=
  ⟨22, (.seq (.reg [⟨(some 2), none, (.mv (.c (.s [])))⟩,
    ⟨(some 3), none, (.mv (.c (.s [])))⟩,
    ⟨(some 4), none, (.mv (.c (.s [])))⟩])
    (.seq (.reg [⟨(some 6), none, (.mv (.t 0))⟩,
    ⟨(some 7), none, (.call 74 [(.t 6), (.c (.s [32, 9]))])⟩,
    ⟨(some 5), none, (.mv (.t 7))⟩])
    (.seq (.reg [⟨(some 8), none, (.mv (.t 5))⟩,
    ⟨(some 9), none, (.call 75 [(.t 8), (.c (.s [32, 9]))])⟩,
    ⟨(some 3), none, (.mv (.t 9))⟩])
    (.seq (.dreg [⟨⟨(some 10), none, (.mv (.t 0))⟩, 0⟩,
    ⟨⟨(some 11), none, (.mv (.t 0))⟩, 0⟩,
    ⟨⟨(some 12), none, (.bls (.t 11))⟩, 2⟩,
    ⟨⟨(some 13), none, (.mv (.t 5))⟩, 0⟩,
    ⟨⟨(some 14), none, (.bls (.t 13))⟩, 8⟩,
    ⟨⟨(some 15), none, (.bin .sub .other (.t 12) (.t 14))⟩, 30⟩,
    ⟨⟨(some 16), none, (.sls (.t 10) none (some (.t 15)))⟩, 63⟩,
    ⟨⟨(some 17), none, (.mv (.t 3))⟩, 0⟩,
    ⟨⟨(some 18), none, (.mv (.t 5))⟩, 0⟩,
    ⟨⟨(some 19), none, (.mv (.t 3))⟩, 0⟩,
    ⟨⟨(some 20), none, (.bls (.t 19))⟩, 512⟩,
    ⟨⟨(some 21), none, (.sls (.t 18) (some (.t 20)) none)⟩, 1792⟩,
    ⟨⟨(some 2), none, (.mv (.t 16))⟩, 639⟩,
    ⟨⟨(some 3), none, (.mv (.t 17))⟩, 4863⟩,
    ⟨⟨(some 4), none, (.mv (.t 21))⟩, 16383⟩])
    .ret)))), [(.tmp 2), (.tmp 3), (.tmp 4)]⟩
theorem cc_lines_Trim : compF Tryd.prog 50 = some c_lines_Trim := by kernel_rfl
def c_strings_Cut : AF :=
  ⟨13, (.seq (.reg [⟨(some 4), none, (.mv (.c (.s [])))⟩,
    ⟨(some 5), none, (.mv (.c (.s [])))⟩,
    ⟨(some 6), none, (.mv (.c (.b false)))⟩])
    (.seq (.reg [⟨(some 7), none, (.mv (.t 0))⟩,
    ⟨(some 8), none, (.mv (.t 1))⟩,
    ⟨(some 9), none, (.call 76 [(.t 7), (.t 8)])⟩,
    ⟨(some 10), none, (.ext (.t 9) 0)⟩,
    ⟨(some 11), none, (.ext (.t 9) 1)⟩,
    ⟨(some 12), none, (.ext (.t 9) 2)⟩,
    ⟨(some 4), none, (.mv (.t 10))⟩,
    ⟨(some 5), none, (.mv (.t 11))⟩,
    ⟨(some 6), none, (.mv (.t 12))⟩])
    .ret)), [(.tmp 4), (.tmp 5), (.tmp 6)]⟩
theorem cc_strings_Cut : compF Tryd.prog 51 = some c_strings_Cut := by kernel_rfl
def c_card_empty : AF :=
  ⟨4, (.seq (.reg [⟨(some 0), none, (.mv (.c .nils))⟩])
    (.seq (.reg [⟨(some 1), none, (.bld [(.s []), .nils] [(0, (1, (.c (.s [98, 108, 111, 99, 107, 115]))))])⟩,
    ⟨(some 2), none, (.bld [(.s []), .nils] [(0, (1, (.c (.s [112, 114, 111, 112, 115]))))])⟩,
    ⟨(some 3), none, (.bsl 41 2 2 [(.s []), .nils] [(0, (2, (.t 1))), (2, (2, (.t 2)))])⟩,
    ⟨(some 0), none, (.mv (.t 3))⟩])
    .ret)), [(.tmp 0)]⟩
theorem cc_card_empty : compF Tryd.prog 52 = some c_card_empty := by kernel_rfl
def c_card_block_deep : AF :=
  ⟨11, (.seq (.reg [⟨(some 2), none, (.mv (.c (.i .i64 0)))⟩])
    (.seq (.seq (.reg [⟨(some 3), none, (.mv (.t 0))⟩,
    ⟨(some 4), none, (.bin .eql .ptr (.t 3) (.c .nilp))⟩])
    (.cond (.t 4)
    (.seq (.reg [⟨(some 2), none, (.mv (.c (.i .i64 0)))⟩])
    .ret)
    .skip))
    (.seq (.reg [⟨(some 5), none, (.mv (.t 0))⟩,
    ⟨(some 6), none, (.nilc (.t 5))⟩,
    ⟨(some 7), none, (.fa 0 (.t 6))⟩,
    ⟨(some 8), none, (.ld1 (.t 7))⟩,
    ⟨(some 9), none, (.call 53 [(.t 8)])⟩,
    ⟨(some 10), none, (.bin .add .other (.c (.i .i64 1)) (.t 9))⟩,
    ⟨(some 2), none, (.mv (.t 10))⟩])
    .ret))), [(.tmp 2)]⟩
theorem cc_card_block_deep : compF Tryd.prog 53 = some c_card_block_deep := by kernel_rfl
def c_card_file_close : AF :=
  ⟨90, (.seq (.reg [⟨(some 4), none, (.mv (.c (.i .i64 0)))⟩])
    (.seq (.reg [⟨(some 10), none, (.mv (.t 0))⟩,
    ⟨(some 11), none, (.nilc (.t 10))⟩,
    ⟨(some 12), none, (.fa 1 (.t 11))⟩,
    ⟨(some 13), none, (.ld1 (.t 12))⟩,
    ⟨(some 5), none, (.mv (.t 13))⟩])
    (.seq (.seq (.reg [⟨(some 14), none, (.mv (.t 5))⟩,
    ⟨(some 15), none, (.bin .eql .ptr (.t 14) (.c .nilp))⟩,
    ⟨(some 16), none, (.mv (.t 15))⟩,
    ⟨(some 17), (some (16, false)), (.mv (.t 5))⟩,
    ⟨(some 18), (some (16, false)), (.nilc (.t 17))⟩,
    ⟨(some 19), (some (16, false)), (.fa 1 (.t 18))⟩,
    ⟨(some 20), (some (16, false)), (.ld1 (.t 19))⟩,
    ⟨(some 21), (some (16, false)), (.mv (.t 1))⟩,
    ⟨(some 22), (some (16, false)), (.bin .neq .other (.t 20) (.t 21))⟩,
    ⟨(some 23), none, (.pick (.t 16) (.c (.b true)) (.t 22))⟩,
    ⟨(some 24), none, (.mv (.t 23))⟩,
    ⟨(some 25), (some (24, false)), (.mv (.t 5))⟩,
    ⟨(some 26), (some (24, false)), (.nilc (.t 25))⟩,
    ⟨(some 27), (some (24, false)), (.fa 3 (.t 26))⟩,
    ⟨(some 28), (some (24, false)), (.ld1 (.t 27))⟩,
    ⟨(some 29), (some (24, false)), (.un .not (.t 28))⟩,
    ⟨(some 30), none, (.pick (.t 24) (.c (.b true)) (.t 29))⟩])
    (.cond (.t 30)
    (.seq (.reg [⟨(some 4), none, (.mv (.c (.i .i64 6)))⟩])
    .ret)
    .skip))
    (.seq (.reg [⟨(some 31), none, (.mv (.t 0))⟩,
    ⟨(some 32), none, (.mv (.t 5))⟩,
    ⟨(some 33), none, (.nilc (.t 32))⟩,
    ⟨(some 34), none, (.fa 0 (.t 33))⟩,
    ⟨(some 35), none, (.ld1 (.t 34))⟩,
    ⟨(some 36), none, (.nilc (.t 31))⟩,
    ⟨(some 37), none, (.fa 1 (.t 36))⟩,
    ⟨none, none, (.st 1 (.t 37) (.t 35))⟩])
    (.seq (.dreg [⟨⟨(some 38), none, (.mv (.t 0))⟩, 0⟩,
    ⟨⟨(some 39), none, (.nilc (.t 38))⟩, 1⟩,
    ⟨⟨(some 40), none, (.fa 2 (.t 39))⟩, 3⟩,
    ⟨⟨(some 41), none, (.mv (.t 5))⟩, 0⟩,
    ⟨⟨(some 42), none, (.nilc (.t 41))⟩, 8⟩,
    ⟨⟨(some 43), none, (.fa 1 (.t 42))⟩, 24⟩,
    ⟨⟨(some 44), none, (.ld1 (.t 43))⟩, 56⟩,
    ⟨⟨(some 45), none, (.mv (.t 5))⟩, 0⟩,
    ⟨⟨(some 46), none, (.nilc (.t 45))⟩, 128⟩,
    ⟨⟨(some 47), none, (.fa 2 (.t 46))⟩, 384⟩,
    ⟨⟨(some 48), none, (.ld1 (.t 47))⟩, 896⟩,
    ⟨⟨(some 49), none, (.bsl 9 1 2 [(.s [])] [(0, (1, (.t 44))), (1, (1, (.t 48)))])⟩, 2040⟩,
    ⟨⟨(some 6), none, (.mv (.t 40))⟩, 7⟩,
    ⟨⟨(some 7), none, (.mv (.t 49))⟩, 8191⟩])
    (.seq (.seq (.reg [⟨(some 50), none, (.mv (.t 5))⟩,
    ⟨(some 51), none, (.nilc (.t 50))⟩,
    ⟨(some 52), none, (.fa 0 (.t 51))⟩,
    ⟨(some 53), none, (.ld1 (.t 52))⟩,
    ⟨(some 54), none, (.bin .neq .ptr (.t 53) (.c .nilp))⟩])
    (.cond (.t 54)
    (.dreg [⟨⟨(some 55), none, (.mv (.t 5))⟩, 0⟩,
    ⟨⟨(some 56), none, (.nilc (.t 55))⟩, 1⟩,
    ⟨⟨(some 57), none, (.fa 0 (.t 56))⟩, 3⟩,
    ⟨⟨(some 58), none, (.ld1 (.t 57))⟩, 7⟩,
    ⟨⟨(some 59), none, (.nilc (.t 58))⟩, 15⟩,
    ⟨⟨(some 60), none, (.fa 4 (.t 59))⟩, 31⟩,
    ⟨⟨(some 61), none, (.mv (.t 5))⟩, 0⟩,
    ⟨⟨(some 62), none, (.nilc (.t 61))⟩, 64⟩,
    ⟨⟨(some 63), none, (.fa 1 (.t 62))⟩, 192⟩,
    ⟨⟨(some 64), none, (.ld1 (.t 63))⟩, 448⟩,
    ⟨⟨(some 65), none, (.mv (.t 5))⟩, 0⟩,
    ⟨⟨(some 66), none, (.nilc (.t 65))⟩, 1024⟩,
    ⟨⟨(some 67), none, (.fa 2 (.t 66))⟩, 3072⟩,
    ⟨⟨(some 68), none, (.ld1 (.t 67))⟩, 7168⟩,
    ⟨⟨(some 69), none, (.bsl 9 1 3 [(.s [])] [(0, (1, (.c (.s [98, 108, 111, 99, 107, 115])))), (1, (1, (.t 64))), (2, (1, (.t 68)))])⟩, 16320⟩,
    ⟨⟨(some 6), none, (.mv (.t 60))⟩, 63⟩,
    ⟨⟨(some 7), none, (.mv (.t 69))⟩, 65535⟩])
    .skip))
    (.seq (.seq (.reg [⟨(some 71), none, (.mv (.t 6))⟩,
    ⟨(some 72), none, (.nilc (.t 71))⟩,
    ⟨(some 73), none, (.ld1 (.t 72))⟩,
    ⟨(some 74), none, (.mv (.t 7))⟩,
    ⟨(some 75), none, (.call 19 [(.t 73), (.t 74)])⟩,
    ⟨(some 70), none, (.mv (.t 75))⟩,
    ⟨(some 76), none, (.ext (.t 70) 0)⟩,
    ⟨(some 77), none, (.ext (.t 70) 1)⟩,
    ⟨(some 8), none, (.mv (.t 76))⟩,
    ⟨(some 9), none, (.mv (.t 77))⟩])
    (.seq (.reg [⟨(some 78), none, (.mv (.t 9))⟩])
    (.cond (.t 78)
    (.seq (.reg [⟨(some 4), none, (.mv (.c (.i .i64 7)))⟩])
    .ret)
    .skip)))
    (.seq (.dreg [⟨⟨(some 79), none, (.mv (.t 6))⟩, 0⟩,
    ⟨⟨(some 80), none, (.mv (.t 6))⟩, 0⟩,
    ⟨⟨(some 81), none, (.nilc (.t 80))⟩, 2⟩,
    ⟨⟨(some 82), none, (.ld1 (.t 81))⟩, 6⟩,
    ⟨⟨(some 83), none, (.mv (.t 7))⟩, 0⟩,
    ⟨⟨(some 84), none, (.mv (.t 5))⟩, 0⟩,
    ⟨⟨(some 85), none, (.nilc (.t 84))⟩, 32⟩,
    ⟨⟨(some 86), none, (.fa 4 (.t 85))⟩, 96⟩,
    ⟨⟨(some 87), none, (.ld1 (.t 86))⟩, 224⟩,
    ⟨⟨(some 88), none, (.call 77 [(.t 82), (.t 83), (.t 87)])⟩, 510⟩,
    ⟨⟨(some 89), none, (.nilc (.t 79))⟩, 1023⟩,
    ⟨⟨none, none, (.st 1 (.t 89) (.t 88))⟩, 2047⟩])
    (.seq (.reg [⟨(some 4), none, (.mv (.c (.i .i64 0)))⟩])
    .ret))))))))), [(.tmp 4)]⟩
theorem cc_card_file_close : compF Tryd.prog 54 = some c_card_file_close := by kernel_rfl
def c_card_file_property : AF :=
  ⟨88, (.seq (.reg [⟨(some 6), none, (.mv (.c (.i .i64 0)))⟩])
    (.seq (.reg [⟨(some 12), none, (.mv (.t 0))⟩,
    ⟨(some 13), none, (.nilc (.t 12))⟩,
    ⟨(some 14), none, (.fa 1 (.t 13))⟩,
    ⟨(some 15), none, (.ld1 (.t 14))⟩,
    ⟨(some 7), none, (.mv (.t 15))⟩])
    (.seq (.reg [⟨(some 17), none, (.mv (.t 2))⟩,
    ⟨(some 18), none, (.call 78 [(.t 17)])⟩,
    ⟨(some 16), none, (.mv (.t 18))⟩,
    ⟨(some 19), none, (.ext (.t 16) 0)⟩,
    ⟨(some 20), none, (.ext (.t 16) 1)⟩,
    ⟨(some 8), none, (.mv (.t 19))⟩,
    ⟨(some 9), none, (.mv (.t 20))⟩])
    (.seq (.seq (.reg [⟨(some 21), none, (.mv (.t 7))⟩,
    ⟨(some 22), none, (.bin .eql .ptr (.t 21) (.c .nilp))⟩,
    ⟨(some 23), none, (.mv (.t 22))⟩,
    ⟨(some 24), (some (23, false)), (.mv (.t 9))⟩,
    ⟨(some 25), (some (23, false)), (.un .not (.t 24))⟩,
    ⟨(some 26), none, (.pick (.t 23) (.c (.b true)) (.t 25))⟩,
    ⟨(some 27), none, (.mv (.t 26))⟩,
    ⟨(some 28), (some (27, false)), (.mv (.t 1))⟩,
    ⟨(some 29), (some (27, false)), (.nilc (.t 28))⟩,
    ⟨(some 30), (some (27, false)), (.fa 3 (.t 29))⟩,
    ⟨(some 31), (some (27, false)), (.ld1 (.t 30))⟩,
    ⟨(some 32), (some (27, false)), (.bin .eql .other (.t 31) (.c (.s [73, 68])))⟩,
    ⟨(some 33), (some (27, false)), (.mv (.t 32))⟩,
    ⟨(some 34), (some (33, true)), (.mv (.t 8))⟩,
    ⟨(some 35), (some (33, true)), (.call 41 [(.t 34)])⟩,
    ⟨(some 36), (some (33, true)), (.un .not (.t 35))⟩,
    ⟨(some 37), (some (27, false)), (.pick (.t 33) (.t 36) (.c (.b false)))⟩,
    ⟨(some 38), none, (.pick (.t 27) (.c (.b true)) (.t 37))⟩])
    (.cond (.t 38)
    (.seq (.reg [⟨(some 6), none, (.mv (.c (.i .i64 6)))⟩])
    .ret)
    .skip))
    (.seq (.reg [⟨(some 39), none, (.mv (.t 1))⟩,
    ⟨(some 40), none, (.mv (.t 8))⟩,
    ⟨(some 41), none, (.nilc (.t 39))⟩,
    ⟨(some 42), none, (.fa 4 (.t 41))⟩,
    ⟨none, none, (.st 1 (.t 42) (.t 40))⟩])
    (.seq (.seq (.reg [⟨(some 43), none, (.mv (.t 1))⟩,
    ⟨(some 44), none, (.nilc (.t 43))⟩,
    ⟨(some 45), none, (.fa 3 (.t 44))⟩,
    ⟨(some 46), none, (.ld1 (.t 45))⟩,
    ⟨(some 47), none, (.bin .eql .other (.t 46) (.c (.s [73, 68])))⟩])
    (.cond (.t 47)
    (.seq (.seq (.reg [⟨(some 48), none, (.mv (.t 7))⟩,
    ⟨(some 49), none, (.nilc (.t 48))⟩,
    ⟨(some 50), none, (.fa 3 (.t 49))⟩,
    ⟨(some 51), none, (.ld1 (.t 50))⟩])
    (.cond (.t 51)
    (.seq (.reg [⟨(some 6), none, (.mv (.c (.i .i64 7)))⟩])
    .ret)
    .skip))
    (.seq (.reg [⟨(some 52), none, (.mv (.t 7))⟩,
    ⟨(some 53), none, (.mv (.t 7))⟩,
    ⟨(some 54), none, (.mv (.t 8))⟩,
    ⟨(some 55), none, (.nilc (.t 52))⟩,
    ⟨(some 56), none, (.fa 2 (.t 55))⟩,
    ⟨none, none, (.st 1 (.t 56) (.t 54))⟩,
    ⟨(some 57), none, (.nilc (.t 53))⟩,
    ⟨(some 58), none, (.fa 3 (.t 57))⟩,
    ⟨none, none, (.st 1 (.t 58) (.c (.b true)))⟩])
    (.seq (.reg [⟨(some 6), none, (.mv (.c (.i .i64 0)))⟩])
    .ret)))
    .skip))
    (.seq (.seq (.dreg [⟨⟨(some 60), none, (.mv (.t 7))⟩, 0⟩,
    ⟨⟨(some 61), none, (.nilc (.t 60))⟩, 1⟩,
    ⟨⟨(some 62), none, (.fa 4 (.t 61))⟩, 3⟩,
    ⟨⟨(some 63), none, (.ld1 (.t 62))⟩, 7⟩,
    ⟨⟨(some 64), none, (.mv (.t 1))⟩, 0⟩,
    ⟨⟨(some 65), none, (.nilc (.t 64))⟩, 16⟩,
    ⟨⟨(some 66), none, (.fa 3 (.t 65))⟩, 48⟩,
    ⟨⟨(some 67), none, (.ld1 (.t 66))⟩, 112⟩,
    ⟨⟨(some 68), none, (.mv (.t 8))⟩, 0⟩,
    ⟨⟨(some 69), none, (.bsl 9 1 3 [(.s [])] [(0, (1, (.c (.s [112, 114, 111, 112, 115])))), (1, (1, (.t 67))), (2, (1, (.t 68)))])⟩, 496⟩,
    ⟨⟨(some 70), none, (.call 19 [(.t 63), (.t 69)])⟩, 1023⟩,
    ⟨⟨(some 59), none, (.mv (.t 70))⟩, 2047⟩,
    ⟨⟨(some 71), none, (.ext (.t 59) 0)⟩, 4095⟩,
    ⟨⟨(some 72), none, (.ext (.t 59) 1)⟩, 4095⟩,
    ⟨⟨(some 10), none, (.mv (.t 71))⟩, 8191⟩,
    ⟨⟨(some 11), none, (.mv (.t 72))⟩, 32767⟩])
    (.seq (.reg [⟨(some 73), none, (.mv (.t 11))⟩])
    (.cond (.t 73)
    (.seq (.reg [⟨(some 6), none, (.mv (.c (.i .i64 7)))⟩])
    .ret)
    .skip)))
    (.seq (.dreg [⟨⟨(some 74), none, (.mv (.t 7))⟩, 0⟩,
    ⟨⟨(some 75), none, (.mv (.t 7))⟩, 0⟩,
    ⟨⟨(some 76), none, (.nilc (.t 75))⟩, 2⟩,
    ⟨⟨(some 77), none, (.fa 4 (.t 76))⟩, 6⟩,
    ⟨⟨(some 78), none, (.ld1 (.t 77))⟩, 14⟩,
    ⟨⟨(some 79), none, (.mv (.t 1))⟩, 0⟩,
    ⟨⟨(some 80), none, (.nilc (.t 79))⟩, 32⟩,
    ⟨⟨(some 81), none, (.fa 3 (.t 80))⟩, 96⟩,
    ⟨⟨(some 82), none, (.ld1 (.t 81))⟩, 224⟩,
    ⟨⟨(some 83), none, (.mv (.t 8))⟩, 0⟩,
    ⟨⟨(some 84), none, (.bsl 9 1 3 [(.s [])] [(0, (1, (.c (.s [112, 114, 111, 112, 115])))), (1, (1, (.t 82))), (2, (1, (.t 83)))])⟩, 992⟩,
    ⟨⟨(some 85), none, (.call 77 [(.t 78), (.t 84), (.c .nils)])⟩, 2046⟩,
    ⟨⟨(some 86), none, (.nilc (.t 74))⟩, 4095⟩,
    ⟨⟨(some 87), none, (.fa 4 (.t 86))⟩, 8191⟩,
    ⟨⟨none, none, (.st 1 (.t 87) (.t 85))⟩, 16383⟩])
    (.seq (.reg [⟨(some 6), none, (.mv (.c (.i .i64 0)))⟩])
    .ret))))))))), [(.tmp 6)]⟩
theorem cc_card_file_property : compF Tryd.prog 55 = some c_card_file_property := by kernel_rfl
def c_cadenceref5_Trim : AF :=
  ⟨43, (.seq (.reg [⟨(some 2), none, (.mv (.c (.s [])))⟩,
    ⟨(some 3), none, (.mv (.c (.s [])))⟩,
    ⟨(some 4), none, (.mv (.c (.s [])))⟩])
    (.seq (.reg [⟨(some 5), none, (.mv (.c (.i .i64 0)))⟩])
    (.seq (.blk 0 (.loop (.seq (.seq (.reg [⟨(some 7), none, (.mv (.t 5))⟩,
    ⟨(some 8), none, (.mv (.t 0))⟩,
    ⟨(some 9), none, (.bls (.t 8))⟩,
    ⟨(some 10), none, (.bin .lss .other (.t 7) (.t 9))⟩,
    ⟨(some 11), none, (.mv (.t 10))⟩,
    ⟨(some 12), (some (11, true)), (.mv (.t 0))⟩,
    ⟨(some 13), (some (11, true)), (.mv (.t 5))⟩,
    ⟨(some 14), (some (11, true)), (.ixs (.t 12) (.t 13))⟩,
    ⟨(some 15), (some (11, true)), (.call 80 [(.t 14)])⟩,
    ⟨(some 16), none, (.pick (.t 11) (.t 15) (.c (.b false)))⟩])
    (.cond (.t 16)
    .skip
    (.exit 0)))
    (.blk 1 (.reg [⟨(some 17), none, (.mv (.t 5))⟩,
    ⟨(some 18), none, (.bin .add .other (.t 17) (.c (.i .i64 1)))⟩,
    ⟨(some 5), none, (.mv (.t 18))⟩])))))
    (.seq (.reg [⟨(some 19), none, (.mv (.t 0))⟩,
    ⟨(some 20), none, (.bls (.t 19))⟩,
    ⟨(some 6), none, (.mv (.t 20))⟩])
    (.seq (.blk 2 (.loop (.seq (.seq (.reg [⟨(some 21), none, (.mv (.t 6))⟩,
    ⟨(some 22), none, (.mv (.t 5))⟩,
    ⟨(some 23), none, (.bin .gtr .other (.t 21) (.t 22))⟩,
    ⟨(some 24), none, (.mv (.t 23))⟩,
    ⟨(some 25), (some (24, true)), (.mv (.t 0))⟩,
    ⟨(some 26), (some (24, true)), (.mv (.t 6))⟩,
    ⟨(some 27), (some (24, true)), (.bin .sub .other (.t 26) (.c (.i .i64 1)))⟩,
    ⟨(some 28), (some (24, true)), (.ixs (.t 25) (.t 27))⟩,
    ⟨(some 29), (some (24, true)), (.call 80 [(.t 28)])⟩,
    ⟨(some 30), none, (.pick (.t 24) (.t 29) (.c (.b false)))⟩])
    (.cond (.t 30)
    .skip
    (.exit 2)))
    (.blk 3 (.reg [⟨(some 31), none, (.mv (.t 6))⟩,
    ⟨(some 32), none, (.bin .sub .other (.t 31) (.c (.i .i64 1)))⟩,
    ⟨(some 6), none, (.mv (.t 32))⟩])))))
    (.seq (.dreg [⟨⟨(some 33), none, (.mv (.t 0))⟩, 0⟩,
    ⟨⟨(some 34), none, (.mv (.t 5))⟩, 0⟩,
    ⟨⟨(some 35), none, (.sls (.t 33) none (some (.t 34)))⟩, 3⟩,
    ⟨⟨(some 36), none, (.mv (.t 0))⟩, 0⟩,
    ⟨⟨(some 37), none, (.mv (.t 5))⟩, 0⟩,
    ⟨⟨(some 38), none, (.mv (.t 6))⟩, 0⟩,
    ⟨⟨(some 39), none, (.sls (.t 36) (some (.t 37)) (some (.t 38)))⟩, 56⟩,
    ⟨⟨(some 40), none, (.mv (.t 0))⟩, 0⟩,
    ⟨⟨(some 41), none, (.mv (.t 6))⟩, 0⟩,
    ⟨⟨(some 42), none, (.sls (.t 40) (some (.t 41)) none)⟩, 384⟩,
    ⟨⟨(some 2), none, (.mv (.t 35))⟩, 7⟩,
    ⟨⟨(some 3), none, (.mv (.t 39))⟩, 1151⟩,
    ⟨⟨(some 4), none, (.mv (.t 42))⟩, 4095⟩])
    .ret)))))), [(.tmp 2), (.tmp 3), (.tmp 4)]⟩
theorem cc_cadenceref5_Trim : compF Tryd.prog 59 = some c_cadenceref5_Trim := by kernel_rfl
def c_cadenceref5_Cr : AF :=
  ⟨14, (.seq (.reg [⟨(some 2), none, (.mv (.c (.b false)))⟩])
    (.seq (.seq (.reg [⟨(some 3), none, (.mv (.c (.i .i64 0)))⟩])
    (.blk 0 (.loop (.seq (.seq (.reg [⟨(some 4), none, (.mv (.t 3))⟩,
    ⟨(some 5), none, (.mv (.t 0))⟩,
    ⟨(some 6), none, (.bls (.t 5))⟩,
    ⟨(some 7), none, (.bin .lss .other (.t 4) (.t 6))⟩])
    (.cond (.t 7)
    .skip
    (.exit 0)))
    (.seq (.blk 1 (.seq (.reg [⟨(some 10), none, (.mv (.t 0))⟩,
    ⟨(some 11), none, (.mv (.t 3))⟩,
    ⟨(some 12), none, (.ixs (.t 10) (.t 11))⟩,
    ⟨(some 13), none, (.bin .eql .other (.t 12) (.c (.i .u8 13)))⟩])
    (.cond (.t 13)
    (.seq (.reg [⟨(some 2), none, (.mv (.c (.b true)))⟩])
    .ret)
    .skip)))
    (.reg [⟨(some 8), none, (.mv (.t 3))⟩,
    ⟨(some 9), none, (.bin .add .other (.t 8) (.c (.i .i64 1)))⟩,
    ⟨(some 3), none, (.mv (.t 9))⟩]))))))
    (.seq (.reg [⟨(some 2), none, (.mv (.c (.b false)))⟩])
    .ret))), [(.tmp 2)]⟩
theorem cc_cadenceref5_Cr : compF Tryd.prog 60 = some c_cadenceref5_Cr := by kernel_rfl
def c_cadenceref8_word : AF :=
  ⟨39, (.seq (.reg [⟨(some 2), none, (.mv (.c (.b false)))⟩])
    (.seq (.seq (.reg [⟨(some 3), none, (.mv (.c (.i .i64 0)))⟩])
    (.blk 0 (.loop (.seq (.seq (.reg [⟨(some 5), none, (.mv (.t 3))⟩,
    ⟨(some 6), none, (.mv (.t 0))⟩,
    ⟨(some 7), none, (.bls (.t 6))⟩,
    ⟨(some 8), none, (.bin .lss .other (.t 5) (.t 7))⟩])
    (.cond (.t 8)
    .skip
    (.exit 0)))
    (.seq (.blk 1 (.seq (.reg [⟨(some 11), none, (.mv (.t 0))⟩,
    ⟨(some 12), none, (.mv (.t 3))⟩,
    ⟨(some 13), none, (.ixs (.t 11) (.t 12))⟩,
    ⟨(some 4), none, (.mv (.t 13))⟩])
    (.seq (.reg [⟨(some 14), none, (.mv (.t 4))⟩,
    ⟨(some 15), none, (.bin .lss .other (.t 14) (.c (.i .u8 65)))⟩,
    ⟨(some 16), none, (.mv (.t 15))⟩,
    ⟨(some 17), (some (16, false)), (.mv (.t 4))⟩,
    ⟨(some 18), (some (16, false)), (.bin .gtr .other (.t 17) (.c (.i .u8 90)))⟩,
    ⟨(some 19), none, (.pick (.t 16) (.c (.b true)) (.t 18))⟩,
    ⟨(some 20), none, (.mv (.t 19))⟩,
    ⟨(some 21), (some (20, true)), (.mv (.t 4))⟩,
    ⟨(some 22), (some (20, true)), (.bin .lss .other (.t 21) (.c (.i .u8 48)))⟩,
    ⟨(some 23), (some (20, true)), (.mv (.t 22))⟩,
    ⟨(some 24), (some (23, false)), (.mv (.t 4))⟩,
    ⟨(some 25), (some (23, false)), (.bin .gtr .other (.t 24) (.c (.i .u8 57)))⟩,
    ⟨(some 26), (some (20, true)), (.pick (.t 23) (.c (.b true)) (.t 25))⟩,
    ⟨(some 27), none, (.pick (.t 20) (.t 26) (.c (.b false)))⟩,
    ⟨(some 28), none, (.mv (.t 27))⟩,
    ⟨(some 29), (some (28, true)), (.mv (.t 4))⟩,
    ⟨(some 30), (some (28, true)), (.bin .neq .other (.t 29) (.c (.i .u8 45)))⟩,
    ⟨(some 31), none, (.pick (.t 28) (.t 30) (.c (.b false)))⟩])
    (.cond (.t 31)
    (.seq (.reg [⟨(some 2), none, (.mv (.c (.b false)))⟩])
    .ret)
    .skip))))
    (.reg [⟨(some 9), none, (.mv (.t 3))⟩,
    ⟨(some 10), none, (.bin .add .other (.t 9) (.c (.i .i64 1)))⟩,
    ⟨(some 3), none, (.mv (.t 10))⟩]))))))
    (.seq (.reg [⟨(some 32), none, (.mv (.t 0))⟩,
    ⟨(some 33), none, (.bin .neq .other (.t 32) (.c (.s [])))⟩,
    ⟨(some 34), none, (.mv (.t 33))⟩,
    ⟨(some 35), (some (34, true)), (.mv (.t 0))⟩,
    ⟨(some 36), (some (34, true)), (.bls (.t 35))⟩,
    ⟨(some 37), (some (34, true)), (.bin .leq .other (.t 36) (.c (.i .i64 20)))⟩,
    ⟨(some 38), none, (.pick (.t 34) (.t 37) (.c (.b false)))⟩,
    ⟨(some 2), none, (.mv (.t 38))⟩])
    .ret))), [(.tmp 2)]⟩
theorem cc_cadenceref8_word : compF Tryd.prog 61 = some c_cadenceref8_word := by kernel_rfl
def c_cadenceref8_meant : AF :=
  ⟨68, (.seq (.reg [⟨(some 2), none, (.mv (.c (.s [])))⟩,
    ⟨(some 3), none, (.mv (.c (.b false)))⟩])
    (.seq (.reg [⟨(some 4), none, (.mv (.c (.s [])))⟩])
    (.seq (.seq (.reg [⟨(some 5), none, (.mv (.c (.i .i64 0)))⟩])
    (.blk 0 (.loop (.seq (.seq (.reg [⟨(some 6), none, (.mv (.t 5))⟩,
    ⟨(some 7), none, (.mv (.t 0))⟩,
    ⟨(some 8), none, (.bls (.t 7))⟩,
    ⟨(some 9), none, (.bin .lss .other (.t 6) (.t 8))⟩])
    (.cond (.t 9)
    .skip
    (.exit 0)))
    (.seq (.blk 1 (.seq (.seq (.reg [⟨(some 12), none, (.mv (.t 0))⟩,
    ⟨(some 13), none, (.mv (.t 5))⟩,
    ⟨(some 14), none, (.ixs (.t 12) (.t 13))⟩,
    ⟨(some 15), none, (.bin .neq .other (.t 14) (.c (.i .u8 92)))⟩])
    (.cond (.t 15)
    (.seq (.reg [⟨(some 16), none, (.mv (.t 4))⟩,
    ⟨(some 17), none, (.mv (.t 0))⟩,
    ⟨(some 18), none, (.mv (.t 5))⟩,
    ⟨(some 19), none, (.mv (.t 5))⟩,
    ⟨(some 20), none, (.bin .add .other (.t 19) (.c (.i .i64 1)))⟩,
    ⟨(some 21), none, (.sls (.t 17) (some (.t 18)) (some (.t 20)))⟩,
    ⟨(some 22), none, (.bin .add .other (.t 16) (.t 21))⟩,
    ⟨(some 4), none, (.mv (.t 22))⟩])
    (.exit 1))
    .skip))
    (.seq (.reg [⟨(some 23), none, (.mv (.t 5))⟩,
    ⟨(some 24), none, (.bin .add .other (.t 23) (.c (.i .i64 1)))⟩,
    ⟨(some 5), none, (.mv (.t 24))⟩])
    (.blk 2 (.seq (.reg [⟨(some 26), none, (.mv (.t 5))⟩,
    ⟨(some 27), none, (.mv (.t 0))⟩,
    ⟨(some 28), none, (.bls (.t 27))⟩,
    ⟨(some 29), none, (.bin .lss .other (.t 26) (.t 28))⟩,
    ⟨(some 30), none, (.mv (.t 29))⟩,
    ⟨(some 31), (some (30, true)), (.mv (.t 0))⟩,
    ⟨(some 32), (some (30, true)), (.mv (.t 5))⟩,
    ⟨(some 33), (some (30, true)), (.ixs (.t 31) (.t 32))⟩,
    ⟨(some 34), (some (30, true)), (.bin .eql .other (.t 33) (.c (.i .u8 110)))⟩,
    ⟨(some 35), none, (.pick (.t 30) (.t 34) (.c (.b false)))⟩,
    ⟨(some 25), none, (.mv (.t 35))⟩])
    (.cond (.t 25)
    (.reg [⟨(some 36), none, (.mv (.t 4))⟩,
    ⟨(some 37), none, (.bin .add .other (.t 36) (.c (.s [10])))⟩,
    ⟨(some 4), none, (.mv (.t 37))⟩])
    (.seq (.reg [⟨(some 39), none, (.mv (.t 5))⟩,
    ⟨(some 40), none, (.mv (.t 0))⟩,
    ⟨(some 41), none, (.bls (.t 40))⟩,
    ⟨(some 42), none, (.bin .lss .other (.t 39) (.t 41))⟩,
    ⟨(some 43), none, (.mv (.t 42))⟩,
    ⟨(some 44), (some (43, true)), (.mv (.t 0))⟩,
    ⟨(some 45), (some (43, true)), (.mv (.t 5))⟩,
    ⟨(some 46), (some (43, true)), (.ixs (.t 44) (.t 45))⟩,
    ⟨(some 47), (some (43, true)), (.bin .eql .other (.t 46) (.c (.i .u8 114)))⟩,
    ⟨(some 48), none, (.pick (.t 43) (.t 47) (.c (.b false)))⟩,
    ⟨(some 38), none, (.mv (.t 48))⟩])
    (.cond (.t 38)
    (.reg [⟨(some 49), none, (.mv (.t 4))⟩,
    ⟨(some 50), none, (.bin .add .other (.t 49) (.c (.s [13])))⟩,
    ⟨(some 4), none, (.mv (.t 50))⟩])
    (.seq (.reg [⟨(some 52), none, (.mv (.t 5))⟩,
    ⟨(some 53), none, (.mv (.t 0))⟩,
    ⟨(some 54), none, (.bls (.t 53))⟩,
    ⟨(some 55), none, (.bin .lss .other (.t 52) (.t 54))⟩,
    ⟨(some 56), none, (.mv (.t 55))⟩,
    ⟨(some 57), (some (56, true)), (.mv (.t 0))⟩,
    ⟨(some 58), (some (56, true)), (.mv (.t 5))⟩,
    ⟨(some 59), (some (56, true)), (.ixs (.t 57) (.t 58))⟩,
    ⟨(some 60), (some (56, true)), (.bin .eql .other (.t 59) (.c (.i .u8 92)))⟩,
    ⟨(some 61), none, (.pick (.t 56) (.t 60) (.c (.b false)))⟩,
    ⟨(some 51), none, (.mv (.t 61))⟩])
    (.cond (.t 51)
    (.reg [⟨(some 62), none, (.mv (.t 4))⟩,
    ⟨(some 63), none, (.bin .add .other (.t 62) (.c (.s [92])))⟩,
    ⟨(some 4), none, (.mv (.t 63))⟩])
    (.seq (.reg [⟨(some 2), none, (.mv (.c (.s [])))⟩,
    ⟨(some 3), none, (.mv (.c (.b false)))⟩])
    .ret)))))))))))
    (.reg [⟨(some 10), none, (.mv (.t 5))⟩,
    ⟨(some 11), none, (.bin .add .other (.t 10) (.c (.i .i64 1)))⟩,
    ⟨(some 5), none, (.mv (.t 11))⟩]))))))
    (.seq (.reg [⟨(some 64), none, (.mv (.t 4))⟩,
    ⟨(some 65), none, (.mv (.t 4))⟩,
    ⟨(some 66), none, (.bls (.t 65))⟩,
    ⟨(some 67), none, (.bin .leq .other (.t 66) (.c (.i .i64 80)))⟩,
    ⟨(some 2), none, (.mv (.t 64))⟩,
    ⟨(some 3), none, (.mv (.t 67))⟩])
    .ret)))), [(.tmp 2), (.tmp 3)]⟩
theorem cc_cadenceref8_meant : compF Tryd.prog 62 = some c_cadenceref8_meant := by kernel_rfl
def c_cadenceref5_Plain : AF :=
  ⟨12, (.seq (.reg [⟨(some 2), none, (.mv (.c (.b false)))⟩])
    (.seq (.seq (.reg [⟨(some 3), none, (.mv (.t 0))⟩,
    ⟨(some 4), none, (.bin .eql .other (.t 3) (.c (.s [])))⟩,
    ⟨(some 5), none, (.mv (.t 4))⟩,
    ⟨(some 6), (some (5, false)), (.mv (.t 0))⟩,
    ⟨(some 7), (some (5, false)), (.bls (.t 6))⟩,
    ⟨(some 8), (some (5, false)), (.bin .gtr .other (.t 7) (.c (.i .i64 80)))⟩,
    ⟨(some 9), none, (.pick (.t 5) (.c (.b true)) (.t 8))⟩])
    (.cond (.t 9)
    (.seq (.reg [⟨(some 2), none, (.mv (.c (.b false)))⟩])
    .ret)
    .skip))
    (.seq (.reg [⟨(some 10), none, (.mv (.t 0))⟩,
    ⟨(some 11), none, (.call 81 [(.t 10)])⟩,
    ⟨(some 2), none, (.mv (.t 11))⟩])
    .ret))), [(.tmp 2)]⟩
theorem cc_cadenceref5_Plain : compF Tryd.prog 63 = some c_cadenceref5_Plain := by kernel_rfl
def c_cadenceref2_At : AF :=
  ⟨36, (.seq (.reg [⟨(some 4), none, (.mv (.c (.i .i64 0)))⟩,
    ⟨(some 5), none, (.mv (.c (.b false)))⟩])
    (.seq (.reg [⟨(some 6), none, (.mv (.c (.i .i64 0)))⟩])
    (.seq (.blk 0 (.loop (.seq (.seq (.reg [⟨(some 7), none, (.mv (.t 6))⟩,
    ⟨(some 8), none, (.mv (.t 0))⟩,
    ⟨(some 9), none, (.bll (.t 8))⟩,
    ⟨(some 10), none, (.bin .lss .other (.t 7) (.t 9))⟩,
    ⟨(some 11), none, (.mv (.t 10))⟩,
    ⟨(some 12), (some (11, true)), (.mv (.t 0))⟩,
    ⟨(some 13), (some (11, true)), (.mv (.t 6))⟩,
    ⟨(some 14), (some (11, true)), (.ia 2 (.t 12) (.t 13))⟩,
    ⟨(some 15), (some (11, true)), (.fa 0 (.t 14))⟩,
    ⟨(some 16), (some (11, true)), (.ld1 (.t 15))⟩,
    ⟨(some 17), (some (11, true)), (.mv (.t 1))⟩,
    ⟨(some 18), (some (11, true)), (.bin .lss .other (.t 16) (.t 17))⟩,
    ⟨(some 19), none, (.pick (.t 11) (.t 18) (.c (.b false)))⟩])
    (.cond (.t 19)
    .skip
    (.exit 0)))
    (.blk 1 (.reg [⟨(some 20), none, (.mv (.t 6))⟩,
    ⟨(some 21), none, (.bin .add .other (.t 20) (.c (.i .i64 1)))⟩,
    ⟨(some 6), none, (.mv (.t 21))⟩])))))
    (.seq (.dreg [⟨⟨(some 22), none, (.mv (.t 6))⟩, 0⟩,
    ⟨⟨(some 23), none, (.mv (.t 6))⟩, 0⟩,
    ⟨⟨(some 24), none, (.mv (.t 0))⟩, 0⟩,
    ⟨⟨(some 25), none, (.bll (.t 24))⟩, 4⟩,
    ⟨⟨(some 26), none, (.bin .lss .other (.t 23) (.t 25))⟩, 14⟩,
    ⟨⟨(some 27), none, (.mv (.t 26))⟩, 30⟩,
    ⟨⟨(some 28), (some (27, true)), (.mv (.t 0))⟩, 62⟩,
    ⟨⟨(some 29), (some (27, true)), (.mv (.t 6))⟩, 62⟩,
    ⟨⟨(some 30), (some (27, true)), (.ia 2 (.t 28) (.t 29))⟩, 254⟩,
    ⟨⟨(some 31), (some (27, true)), (.fa 0 (.t 30))⟩, 510⟩,
    ⟨⟨(some 32), (some (27, true)), (.ld1 (.t 31))⟩, 1022⟩,
    ⟨⟨(some 33), (some (27, true)), (.mv (.t 1))⟩, 62⟩,
    ⟨⟨(some 34), (some (27, true)), (.bin .eql .other (.t 32) (.t 33))⟩, 4094⟩,
    ⟨⟨(some 35), none, (.pick (.t 27) (.t 34) (.c (.b false)))⟩, 8190⟩,
    ⟨⟨(some 4), none, (.mv (.t 22))⟩, 63⟩,
    ⟨⟨(some 5), none, (.mv (.t 35))⟩, 32767⟩])
    .ret)))), [(.tmp 4), (.tmp 5)]⟩
theorem cc_cadenceref2_At : compF Tryd.prog 64 = some c_cadenceref2_At := by kernel_rfl
def c_card_meaning : AF :=
  ⟨48, (.seq (.reg [⟨(some 2), none, (.mv (.c (.s [])))⟩,
    ⟨(some 3), none, (.mv (.c (.b false)))⟩])
    (.scope (.seq (.reg [⟨(some 4), none, (.mv (.c .nils))⟩])
    (.seq (.reg [⟨(some 5), none, (.mv (.c (.i .i64 0)))⟩])
    (.seq (.lbl 0)
    (.seq (.seq (.reg [⟨(some 8), none, (.mv (.t 5))⟩,
    ⟨(some 9), none, (.mv (.t 0))⟩,
    ⟨(some 10), none, (.bls (.t 9))⟩,
    ⟨(some 11), none, (.bin .eql .other (.t 8) (.t 10))⟩])
    (.cond (.t 11)
    (.seq (.reg [⟨(some 12), none, (.mv (.t 4))⟩,
    ⟨(some 13), none, (.csb (.t 12))⟩,
    ⟨(some 14), none, (.mv (.t 4))⟩,
    ⟨(some 15), none, (.bll (.t 14))⟩,
    ⟨(some 16), none, (.bin .leq .other (.t 15) (.c (.i .i64 80)))⟩,
    ⟨(some 2), none, (.mv (.t 13))⟩,
    ⟨(some 3), none, (.mv (.t 16))⟩])
    .ret)
    .skip))
    (.seq (.reg [⟨(some 17), none, (.mv (.t 0))⟩,
    ⟨(some 18), none, (.mv (.t 5))⟩,
    ⟨(some 19), none, (.ixs (.t 17) (.t 18))⟩,
    ⟨(some 6), none, (.mv (.t 19))⟩])
    (.seq (.seq (.reg [⟨(some 20), none, (.mv (.t 6))⟩,
    ⟨(some 21), none, (.bin .eql .other (.t 20) (.c (.i .u8 92)))⟩])
    (.cond (.t 21)
    (.seq (.reg [⟨(some 22), none, (.mv (.t 5))⟩,
    ⟨(some 23), none, (.bin .add .other (.t 22) (.c (.i .i64 1)))⟩,
    ⟨(some 5), none, (.mv (.t 23))⟩])
    (.seq (.reg [⟨(some 24), none, (.mv (.t 0))⟩,
    ⟨(some 25), none, (.mv (.t 5))⟩,
    ⟨(some 26), none, (.mv (.t 0))⟩,
    ⟨(some 27), none, (.bls (.t 26))⟩,
    ⟨(some 28), none, (.bin .sub .other (.t 27) (.c (.i .i64 1)))⟩,
    ⟨(some 29), none, (.bmn (.t 25) (.t 28))⟩,
    ⟨(some 30), none, (.ixs (.t 24) (.t 29))⟩,
    ⟨(some 31), none, (.call 46 [(.c (.s [110, 114, 92])), (.t 30)])⟩,
    ⟨(some 7), none, (.mv (.t 31))⟩])
    (.seq (.seq (.reg [⟨(some 32), none, (.mv (.t 5))⟩,
    ⟨(some 33), none, (.mv (.t 0))⟩,
    ⟨(some 34), none, (.bls (.t 33))⟩,
    ⟨(some 35), none, (.bin .eql .other (.t 32) (.t 34))⟩,
    ⟨(some 36), none, (.mv (.t 35))⟩,
    ⟨(some 37), (some (36, false)), (.mv (.t 7))⟩,
    ⟨(some 38), (some (36, false)), (.bin .lss .other (.t 37) (.c (.i .i64 0)))⟩,
    ⟨(some 39), none, (.pick (.t 36) (.c (.b true)) (.t 38))⟩])
    (.cond (.t 39)
    (.seq (.reg [⟨(some 2), none, (.mv (.c (.s [])))⟩,
    ⟨(some 3), none, (.mv (.c (.b false)))⟩])
    .ret)
    .skip))
    (.reg [⟨(some 40), none, (.mv (.t 7))⟩,
    ⟨(some 41), none, (.ixs (.c (.s [10, 13, 92])) (.t 40))⟩,
    ⟨(some 6), none, (.mv (.t 41))⟩]))))
    .skip))
    (.seq (.reg [⟨(some 42), none, (.mv (.t 4))⟩,
    ⟨(some 43), none, (.mv (.t 6))⟩,
    ⟨(some 44), none, (.bsl 5 1 1 [(.i .u8 0)] [(0, (1, (.t 43)))])⟩,
    ⟨(some 45), none, (.app 5 1 1 false (.t 42) (.t 44))⟩,
    ⟨(some 4), none, (.mv (.t 45))⟩])
    (.seq (.reg [⟨(some 46), none, (.mv (.t 5))⟩,
    ⟨(some 47), none, (.bin .add .other (.t 46) (.c (.i .i64 1)))⟩,
    ⟨(some 5), none, (.mv (.t 47))⟩])
    (.goto 0))))))))))), [(.tmp 2), (.tmp 3)]⟩
theorem cc_card_meaning : compF Tryd.prog 78 = some c_card_meaning := by kernel_rfl
def c_cadenceref5_blank : AF :=
  ⟨9, (.seq (.reg [⟨(some 2), none, (.mv (.c (.b false)))⟩])
    (.seq (.reg [⟨(some 3), none, (.mv (.t 0))⟩,
    ⟨(some 4), none, (.bin .eql .other (.t 3) (.c (.i .u8 32)))⟩,
    ⟨(some 5), none, (.mv (.t 4))⟩,
    ⟨(some 6), (some (5, false)), (.mv (.t 0))⟩,
    ⟨(some 7), (some (5, false)), (.bin .eql .other (.t 6) (.c (.i .u8 9)))⟩,
    ⟨(some 8), none, (.pick (.t 5) (.c (.b true)) (.t 7))⟩,
    ⟨(some 2), none, (.mv (.t 8))⟩])
    .ret)), [(.tmp 2)]⟩
theorem cc_cadenceref5_blank : compF Tryd.prog 80 = some c_cadenceref5_blank := by kernel_rfl
def c_cadenceref5_Bare : AF :=
  ⟨20, (.seq (.reg [⟨(some 2), none, (.mv (.c (.b false)))⟩])
    (.seq (.seq (.reg [⟨(some 3), none, (.mv (.c (.i .i64 0)))⟩])
    (.blk 0 (.loop (.seq (.seq (.reg [⟨(some 4), none, (.mv (.t 3))⟩,
    ⟨(some 5), none, (.mv (.t 0))⟩,
    ⟨(some 6), none, (.bls (.t 5))⟩,
    ⟨(some 7), none, (.bin .lss .other (.t 4) (.t 6))⟩])
    (.cond (.t 7)
    .skip
    (.exit 0)))
    (.seq (.blk 1 (.seq (.reg [⟨(some 10), none, (.mv (.t 0))⟩,
    ⟨(some 11), none, (.mv (.t 3))⟩,
    ⟨(some 12), none, (.ixs (.t 10) (.t 11))⟩,
    ⟨(some 13), none, (.bin .eql .other (.t 12) (.c (.i .u8 10)))⟩,
    ⟨(some 14), none, (.mv (.t 13))⟩,
    ⟨(some 15), (some (14, false)), (.mv (.t 0))⟩,
    ⟨(some 16), (some (14, false)), (.mv (.t 3))⟩,
    ⟨(some 17), (some (14, false)), (.ixs (.t 15) (.t 16))⟩,
    ⟨(some 18), (some (14, false)), (.bin .eql .other (.t 17) (.c (.i .u8 13)))⟩,
    ⟨(some 19), none, (.pick (.t 14) (.c (.b true)) (.t 18))⟩])
    (.cond (.t 19)
    (.seq (.reg [⟨(some 2), none, (.mv (.c (.b false)))⟩])
    .ret)
    .skip)))
    (.reg [⟨(some 8), none, (.mv (.t 3))⟩,
    ⟨(some 9), none, (.bin .add .other (.t 8) (.c (.i .i64 1)))⟩,
    ⟨(some 3), none, (.mv (.t 9))⟩]))))))
    (.seq (.reg [⟨(some 2), none, (.mv (.c (.b true)))⟩])
    .ret))), [(.tmp 2)]⟩
theorem cc_cadenceref5_Bare : compF Tryd.prog 81 = some c_cadenceref5_Bare := by kernel_rfl
def c_strings_ContainsAny : AF :=
  ⟨9, (.seq (.reg [⟨(some 4), none, (.mv (.c (.b false)))⟩])
    (.seq (.reg [⟨(some 5), none, (.mv (.t 0))⟩,
    ⟨(some 6), none, (.mv (.t 1))⟩,
    ⟨(some 7), none, (.call 83 [(.t 5), (.t 6)])⟩,
    ⟨(some 8), none, (.bin .geq .other (.t 7) (.c (.i .i64 0)))⟩,
    ⟨(some 4), none, (.mv (.t 8))⟩])
    .ret)), [(.tmp 4)]⟩
theorem cc_strings_ContainsAny : compF Tryd.prog 66 = some c_strings_ContainsAny := by kernel_rfl
def c_strings_Trim : AF :=
  ⟨43, (.seq (.reg [⟨(some 4), none, (.mv (.c (.s [])))⟩])
    (.seq (.seq (.reg [⟨(some 7), none, (.mv (.t 0))⟩,
    ⟨(some 8), none, (.bin .eql .other (.t 7) (.c (.s [])))⟩,
    ⟨(some 9), none, (.mv (.t 8))⟩,
    ⟨(some 10), (some (9, false)), (.mv (.t 1))⟩,
    ⟨(some 11), (some (9, false)), (.bin .eql .other (.t 10) (.c (.s [])))⟩,
    ⟨(some 12), none, (.pick (.t 9) (.c (.b true)) (.t 11))⟩])
    (.cond (.t 12)
    (.seq (.reg [⟨(some 13), none, (.mv (.t 0))⟩,
    ⟨(some 4), none, (.mv (.t 13))⟩])
    .ret)
    .skip))
    (.seq (.seq (.reg [⟨(some 14), none, (.mv (.t 1))⟩,
    ⟨(some 15), none, (.bls (.t 14))⟩,
    ⟨(some 16), none, (.bin .eql .other (.t 15) (.c (.i .i64 1)))⟩,
    ⟨(some 17), none, (.mv (.t 16))⟩,
    ⟨(some 18), (some (17, true)), (.mv (.t 1))⟩,
    ⟨(some 19), (some (17, true)), (.ixs (.t 18) (.c (.i .i64 0)))⟩,
    ⟨(some 20), (some (17, true)), (.bin .lss .other (.t 19) (.c (.i .u8 128)))⟩,
    ⟨(some 21), none, (.pick (.t 17) (.t 20) (.c (.b false)))⟩])
    (.cond (.t 21)
    (.seq (.dreg [⟨⟨(some 22), none, (.mv (.t 0))⟩, 0⟩,
    ⟨⟨(some 23), none, (.mv (.t 1))⟩, 0⟩,
    ⟨⟨(some 24), none, (.ixs (.t 23) (.c (.i .i64 0)))⟩, 2⟩,
    ⟨⟨(some 25), none, (.call 86 [(.t 22), (.t 24)])⟩, 7⟩,
    ⟨⟨(some 26), none, (.mv (.t 1))⟩, 0⟩,
    ⟨⟨(some 27), none, (.ixs (.t 26) (.c (.i .i64 0)))⟩, 16⟩,
    ⟨⟨(some 28), none, (.call 85 [(.t 25), (.t 27)])⟩, 63⟩,
    ⟨⟨(some 4), none, (.mv (.t 28))⟩, 127⟩])
    .ret)
    .skip))
    (.seq (.seq (.reg [⟨(some 30), none, (.mv (.t 1))⟩,
    ⟨(some 31), none, (.call 87 [(.t 30)])⟩,
    ⟨(some 29), none, (.mv (.t 31))⟩,
    ⟨(some 32), none, (.ext (.t 29) 0)⟩,
    ⟨(some 33), none, (.ext (.t 29) 1)⟩,
    ⟨(some 5), none, (.alc 123 (List.replicate 256 (.b false)))⟩,
    ⟨none, none, (.st 256 (.t 5) (.t 32))⟩,
    ⟨(some 6), none, (.mv (.t 33))⟩])
    (.seq (.reg [⟨(some 34), none, (.mv (.t 6))⟩])
    (.cond (.t 34)
    (.seq (.reg [⟨(some 35), none, (.mv (.t 0))⟩,
    ⟨(some 36), none, (.call 89 [(.t 35), (.t 5)])⟩,
    ⟨(some 37), none, (.call 88 [(.t 36), (.t 5)])⟩,
    ⟨(some 4), none, (.mv (.t 37))⟩])
    .ret)
    .skip)))
    (.seq (.reg [⟨(some 38), none, (.mv (.t 0))⟩,
    ⟨(some 39), none, (.mv (.t 1))⟩,
    ⟨(some 40), none, (.call 91 [(.t 38), (.t 39)])⟩,
    ⟨(some 41), none, (.mv (.t 1))⟩,
    ⟨(some 42), none, (.call 90 [(.t 40), (.t 41)])⟩,
    ⟨(some 4), none, (.mv (.t 42))⟩])
    .ret))))), [(.tmp 4)]⟩
theorem cc_strings_Trim : compF Tryd.prog 70 = some c_strings_Trim := by kernel_rfl
def c_strings_TrimLeft : AF :=
  ⟨37, (.seq (.reg [⟨(some 4), none, (.mv (.c (.s [])))⟩])
    (.seq (.seq (.reg [⟨(some 7), none, (.mv (.t 0))⟩,
    ⟨(some 8), none, (.bin .eql .other (.t 7) (.c (.s [])))⟩,
    ⟨(some 9), none, (.mv (.t 8))⟩,
    ⟨(some 10), (some (9, false)), (.mv (.t 1))⟩,
    ⟨(some 11), (some (9, false)), (.bin .eql .other (.t 10) (.c (.s [])))⟩,
    ⟨(some 12), none, (.pick (.t 9) (.c (.b true)) (.t 11))⟩])
    (.cond (.t 12)
    (.seq (.reg [⟨(some 13), none, (.mv (.t 0))⟩,
    ⟨(some 4), none, (.mv (.t 13))⟩])
    .ret)
    .skip))
    (.seq (.seq (.reg [⟨(some 14), none, (.mv (.t 1))⟩,
    ⟨(some 15), none, (.bls (.t 14))⟩,
    ⟨(some 16), none, (.bin .eql .other (.t 15) (.c (.i .i64 1)))⟩,
    ⟨(some 17), none, (.mv (.t 16))⟩,
    ⟨(some 18), (some (17, true)), (.mv (.t 1))⟩,
    ⟨(some 19), (some (17, true)), (.ixs (.t 18) (.c (.i .i64 0)))⟩,
    ⟨(some 20), (some (17, true)), (.bin .lss .other (.t 19) (.c (.i .u8 128)))⟩,
    ⟨(some 21), none, (.pick (.t 17) (.t 20) (.c (.b false)))⟩])
    (.cond (.t 21)
    (.seq (.reg [⟨(some 22), none, (.mv (.t 0))⟩,
    ⟨(some 23), none, (.mv (.t 1))⟩,
    ⟨(some 24), none, (.ixs (.t 23) (.c (.i .i64 0)))⟩,
    ⟨(some 25), none, (.call 85 [(.t 22), (.t 24)])⟩,
    ⟨(some 4), none, (.mv (.t 25))⟩])
    .ret)
    .skip))
    (.seq (.seq (.reg [⟨(some 27), none, (.mv (.t 1))⟩,
    ⟨(some 28), none, (.call 87 [(.t 27)])⟩,
    ⟨(some 26), none, (.mv (.t 28))⟩,
    ⟨(some 29), none, (.ext (.t 26) 0)⟩,
    ⟨(some 30), none, (.ext (.t 26) 1)⟩,
    ⟨(some 5), none, (.alc 123 (List.replicate 256 (.b false)))⟩,
    ⟨none, none, (.st 256 (.t 5) (.t 29))⟩,
    ⟨(some 6), none, (.mv (.t 30))⟩])
    (.seq (.reg [⟨(some 31), none, (.mv (.t 6))⟩])
    (.cond (.t 31)
    (.seq (.reg [⟨(some 32), none, (.mv (.t 0))⟩,
    ⟨(some 33), none, (.call 88 [(.t 32), (.t 5)])⟩,
    ⟨(some 4), none, (.mv (.t 33))⟩])
    .ret)
    .skip)))
    (.seq (.reg [⟨(some 34), none, (.mv (.t 0))⟩,
    ⟨(some 35), none, (.mv (.t 1))⟩,
    ⟨(some 36), none, (.call 90 [(.t 34), (.t 35)])⟩,
    ⟨(some 4), none, (.mv (.t 36))⟩])
    .ret))))), [(.tmp 4)]⟩
theorem cc_strings_TrimLeft : compF Tryd.prog 74 = some c_strings_TrimLeft := by kernel_rfl
def c_strings_TrimRight : AF :=
  ⟨37, (.seq (.reg [⟨(some 4), none, (.mv (.c (.s [])))⟩])
    (.seq (.seq (.reg [⟨(some 7), none, (.mv (.t 0))⟩,
    ⟨(some 8), none, (.bin .eql .other (.t 7) (.c (.s [])))⟩,
    ⟨(some 9), none, (.mv (.t 8))⟩,
    ⟨(some 10), (some (9, false)), (.mv (.t 1))⟩,
    ⟨(some 11), (some (9, false)), (.bin .eql .other (.t 10) (.c (.s [])))⟩,
    ⟨(some 12), none, (.pick (.t 9) (.c (.b true)) (.t 11))⟩])
    (.cond (.t 12)
    (.seq (.reg [⟨(some 13), none, (.mv (.t 0))⟩,
    ⟨(some 4), none, (.mv (.t 13))⟩])
    .ret)
    .skip))
    (.seq (.seq (.reg [⟨(some 14), none, (.mv (.t 1))⟩,
    ⟨(some 15), none, (.bls (.t 14))⟩,
    ⟨(some 16), none, (.bin .eql .other (.t 15) (.c (.i .i64 1)))⟩,
    ⟨(some 17), none, (.mv (.t 16))⟩,
    ⟨(some 18), (some (17, true)), (.mv (.t 1))⟩,
    ⟨(some 19), (some (17, true)), (.ixs (.t 18) (.c (.i .i64 0)))⟩,
    ⟨(some 20), (some (17, true)), (.bin .lss .other (.t 19) (.c (.i .u8 128)))⟩,
    ⟨(some 21), none, (.pick (.t 17) (.t 20) (.c (.b false)))⟩])
    (.cond (.t 21)
    (.seq (.reg [⟨(some 22), none, (.mv (.t 0))⟩,
    ⟨(some 23), none, (.mv (.t 1))⟩,
    ⟨(some 24), none, (.ixs (.t 23) (.c (.i .i64 0)))⟩,
    ⟨(some 25), none, (.call 86 [(.t 22), (.t 24)])⟩,
    ⟨(some 4), none, (.mv (.t 25))⟩])
    .ret)
    .skip))
    (.seq (.seq (.reg [⟨(some 27), none, (.mv (.t 1))⟩,
    ⟨(some 28), none, (.call 87 [(.t 27)])⟩,
    ⟨(some 26), none, (.mv (.t 28))⟩,
    ⟨(some 29), none, (.ext (.t 26) 0)⟩,
    ⟨(some 30), none, (.ext (.t 26) 1)⟩,
    ⟨(some 5), none, (.alc 123 (List.replicate 256 (.b false)))⟩,
    ⟨none, none, (.st 256 (.t 5) (.t 29))⟩,
    ⟨(some 6), none, (.mv (.t 30))⟩])
    (.seq (.reg [⟨(some 31), none, (.mv (.t 6))⟩])
    (.cond (.t 31)
    (.seq (.reg [⟨(some 32), none, (.mv (.t 0))⟩,
    ⟨(some 33), none, (.call 89 [(.t 32), (.t 5)])⟩,
    ⟨(some 4), none, (.mv (.t 33))⟩])
    .ret)
    .skip)))
    (.seq (.reg [⟨(some 34), none, (.mv (.t 0))⟩,
    ⟨(some 35), none, (.mv (.t 1))⟩,
    ⟨(some 36), none, (.call 91 [(.t 34), (.t 35)])⟩,
    ⟨(some 4), none, (.mv (.t 36))⟩])
    .ret))))), [(.tmp 4)]⟩
theorem cc_strings_TrimRight : compF Tryd.prog 75 = some c_strings_TrimRight := by kernel_rfl
def c_strings_makeASCIISet : AF :=
  ⟨21, (.seq (.reg [⟨(some 2), none, (.alc 123 (List.replicate 256 (.b false)))⟩,
    ⟨(some 3), none, (.mv (.c (.b false)))⟩])
    (.seq (.seq (.reg [⟨(some 4), none, (.mv (.c (.i .i64 0)))⟩])
    (.blk 0 (.loop (.seq (.seq (.reg [⟨(some 6), none, (.mv (.t 4))⟩,
    ⟨(some 7), none, (.mv (.t 0))⟩,
    ⟨(some 8), none, (.bls (.t 7))⟩,
    ⟨(some 9), none, (.bin .lss .other (.t 6) (.t 8))⟩])
    (.cond (.t 9)
    .skip
    (.exit 0)))
    (.seq (.blk 1 (.seq (.reg [⟨(some 12), none, (.mv (.t 0))⟩,
    ⟨(some 13), none, (.mv (.t 4))⟩,
    ⟨(some 14), none, (.ixs (.t 12) (.t 13))⟩,
    ⟨(some 5), none, (.mv (.t 14))⟩])
    (.seq (.seq (.reg [⟨(some 15), none, (.mv (.t 5))⟩,
    ⟨(some 16), none, (.bin .geq .other (.t 15) (.c (.i .u8 128)))⟩])
    (.cond (.t 16)
    (.seq (.reg [⟨(some 17), none, (.ldn 256 (.t 2))⟩,
    ⟨none, none, (.st 256 (.t 2) (.t 17))⟩,
    ⟨(some 3), none, (.mv (.c (.b false)))⟩])
    .ret)
    .skip))
    (.reg [⟨(some 18), none, (.mv (.t 5))⟩,
    ⟨(some 19), none, (.iaa 256 1 (.t 2) (.t 18))⟩,
    ⟨none, none, (.st 1 (.t 19) (.c (.b true)))⟩]))))
    (.reg [⟨(some 10), none, (.mv (.t 4))⟩,
    ⟨(some 11), none, (.bin .add .other (.t 10) (.c (.i .i64 1)))⟩,
    ⟨(some 4), none, (.mv (.t 11))⟩]))))))
    (.seq (.reg [⟨(some 20), none, (.ldn 256 (.t 2))⟩,
    ⟨none, none, (.st 256 (.t 2) (.t 20))⟩,
    ⟨(some 3), none, (.mv (.c (.b true)))⟩])
    .ret))), [(.ldn 2 256), (.tmp 3)]⟩
theorem cc_strings_makeASCIISet : compF Tryd.prog 87 = some c_strings_makeASCIISet := by kernel_rfl
def c_strings_trimLeftASCII : AF :=
  ⟨16, (.seq (.reg [⟨(some 4), none, (.mv (.c (.s [])))⟩])
    (.seq (.blk 0 (.loop (.seq (.seq (.reg [⟨(some 5), none, (.mv (.t 0))⟩,
    ⟨(some 6), none, (.bls (.t 5))⟩,
    ⟨(some 7), none, (.bin .gtr .other (.t 6) (.c (.i .i64 0)))⟩])
    (.cond (.t 7)
    .skip
    (.exit 0)))
    (.blk 1 (.seq (.seq (.reg [⟨(some 8), none, (.mv (.t 1))⟩,
    ⟨(some 9), none, (.mv (.t 0))⟩,
    ⟨(some 10), none, (.ixs (.t 9) (.c (.i .i64 0)))⟩,
    ⟨(some 11), none, (.call 101 [(.t 8), (.t 10)])⟩,
    ⟨(some 12), none, (.un .not (.t 11))⟩])
    (.cond (.t 12)
    (.exit 0)
    .skip))
    (.reg [⟨(some 13), none, (.mv (.t 0))⟩,
    ⟨(some 14), none, (.sls (.t 13) (some (.c (.i .i64 1))) none)⟩,
    ⟨(some 0), none, (.mv (.t 14))⟩]))))))
    (.seq (.reg [⟨(some 15), none, (.mv (.t 0))⟩,
    ⟨(some 4), none, (.mv (.t 15))⟩])
    .ret))), [(.tmp 4)]⟩
theorem cc_strings_trimLeftASCII : compF Tryd.prog 88 = some c_strings_trimLeftASCII := by kernel_rfl
def c_strings_trimRightASCII : AF :=
  ⟨22, (.seq (.reg [⟨(some 4), none, (.mv (.c (.s [])))⟩])
    (.seq (.blk 0 (.loop (.seq (.seq (.reg [⟨(some 5), none, (.mv (.t 0))⟩,
    ⟨(some 6), none, (.bls (.t 5))⟩,
    ⟨(some 7), none, (.bin .gtr .other (.t 6) (.c (.i .i64 0)))⟩])
    (.cond (.t 7)
    .skip
    (.exit 0)))
    (.blk 1 (.seq (.seq (.reg [⟨(some 8), none, (.mv (.t 1))⟩,
    ⟨(some 9), none, (.mv (.t 0))⟩,
    ⟨(some 10), none, (.mv (.t 0))⟩,
    ⟨(some 11), none, (.bls (.t 10))⟩,
    ⟨(some 12), none, (.bin .sub .other (.t 11) (.c (.i .i64 1)))⟩,
    ⟨(some 13), none, (.ixs (.t 9) (.t 12))⟩,
    ⟨(some 14), none, (.call 101 [(.t 8), (.t 13)])⟩,
    ⟨(some 15), none, (.un .not (.t 14))⟩])
    (.cond (.t 15)
    (.exit 0)
    .skip))
    (.reg [⟨(some 16), none, (.mv (.t 0))⟩,
    ⟨(some 17), none, (.mv (.t 0))⟩,
    ⟨(some 18), none, (.bls (.t 17))⟩,
    ⟨(some 19), none, (.bin .sub .other (.t 18) (.c (.i .i64 1)))⟩,
    ⟨(some 20), none, (.sls (.t 16) none (some (.t 19)))⟩,
    ⟨(some 0), none, (.mv (.t 20))⟩]))))))
    (.seq (.reg [⟨(some 21), none, (.mv (.t 0))⟩,
    ⟨(some 4), none, (.mv (.t 21))⟩])
    .ret))), [(.tmp 4)]⟩
theorem cc_strings_trimRightASCII : compF Tryd.prog 89 = some c_strings_trimRightASCII := by kernel_rfl
def c_strings_asciiSet_contains : AF :=
  ⟨10, (.seq (.reg [⟨(some 4), none, (.mv (.c (.b false)))⟩])
    (.seq (.reg [⟨(some 5), none, (.mv (.t 0))⟩,
    ⟨(some 6), none, (.mv (.t 1))⟩,
    ⟨(some 7), none, (.nilc (.t 5))⟩,
    ⟨(some 8), none, (.iaa 256 1 (.t 7) (.t 6))⟩,
    ⟨(some 9), none, (.ld1 (.t 8))⟩,
    ⟨(some 4), none, (.mv (.t 9))⟩])
    .ret)), [(.tmp 4)]⟩
theorem cc_strings_asciiSet_contains : compF Tryd.prog 101 = some c_strings_asciiSet_contains := by kernel_rfl
def c_strings_IndexAny : AF :=
  ⟨55, (.seq (.reg [⟨(some 4), none, (.mv (.c (.i .i64 0)))⟩])
    (.seq (.seq (.reg [⟨(some 11), none, (.mv (.t 1))⟩,
    ⟨(some 12), none, (.bin .eql .other (.t 11) (.c (.s [])))⟩])
    (.cond (.t 12)
    (.seq (.reg [⟨(some 4), none, (.mv (.c (.i .i64 (-1))))⟩])
    .ret)
    .skip))
    (.seq (.seq (.reg [⟨(some 13), none, (.mv (.t 1))⟩,
    ⟨(some 14), none, (.bls (.t 13))⟩,
    ⟨(some 15), none, (.bin .eql .other (.t 14) (.c (.i .i64 1)))⟩])
    (.cond (.t 15)
    (.seq (.reg [⟨(some 16), none, (.mv (.t 1))⟩,
    ⟨(some 17), none, (.ixs (.t 16) (.c (.i .i64 0)))⟩,
    ⟨(some 18), none, (.cvi .i32 (.t 17))⟩,
    ⟨(some 5), none, (.mv (.t 18))⟩])
    (.seq (.seq (.reg [⟨(some 19), none, (.mv (.t 5))⟩,
    ⟨(some 20), none, (.bin .geq .other (.t 19) (.c (.i .i32 128)))⟩])
    (.cond (.t 20)
    (.reg [⟨(some 5), none, (.mv (.c (.i .i32 65533)))⟩])
    .skip))
    (.seq (.reg [⟨(some 21), none, (.mv (.t 0))⟩,
    ⟨(some 22), none, (.mv (.t 5))⟩,
    ⟨(some 23), none, (.call 99 [(.t 21), (.t 22)])⟩,
    ⟨(some 4), none, (.mv (.t 23))⟩])
    .ret)))
    .skip))
    (.seq (.seq (.reg [⟨(some 24), none, (.mv (.t 0))⟩,
    ⟨(some 25), none, (.bls (.t 24))⟩,
    ⟨(some 26), none, (.call 100 [(.t 25)])⟩])
    (.cond (.t 26)
    (.seq (.reg [⟨(some 28), none, (.mv (.t 1))⟩,
    ⟨(some 29), none, (.call 87 [(.t 28)])⟩,
    ⟨(some 27), none, (.mv (.t 29))⟩,
    ⟨(some 30), none, (.ext (.t 27) 0)⟩,
    ⟨(some 31), none, (.ext (.t 27) 1)⟩,
    ⟨(some 6), none, (.alc 123 (List.replicate 256 (.b false)))⟩,
    ⟨none, none, (.st 256 (.t 6) (.t 30))⟩,
    ⟨(some 7), none, (.mv (.t 31))⟩])
    (.seq (.reg [⟨(some 32), none, (.mv (.t 7))⟩])
    (.cond (.t 32)
    (.seq (.seq (.reg [⟨(some 8), none, (.mv (.c (.i .i64 0)))⟩])
    (.blk 0 (.loop (.seq (.seq (.reg [⟨(some 33), none, (.mv (.t 8))⟩,
    ⟨(some 34), none, (.mv (.t 0))⟩,
    ⟨(some 35), none, (.bls (.t 34))⟩,
    ⟨(some 36), none, (.bin .lss .other (.t 33) (.t 35))⟩])
    (.cond (.t 36)
    .skip
    (.exit 0)))
    (.seq (.blk 1 (.seq (.reg [⟨(some 39), none, (.mv (.t 0))⟩,
    ⟨(some 40), none, (.mv (.t 8))⟩,
    ⟨(some 41), none, (.ixs (.t 39) (.t 40))⟩,
    ⟨(some 42), none, (.call 101 [(.t 6), (.t 41)])⟩])
    (.cond (.t 42)
    (.seq (.reg [⟨(some 43), none, (.mv (.t 8))⟩,
    ⟨(some 4), none, (.mv (.t 43))⟩])
    .ret)
    .skip)))
    (.reg [⟨(some 37), none, (.mv (.t 8))⟩,
    ⟨(some 38), none, (.bin .add .other (.t 37) (.c (.i .i64 1)))⟩,
    ⟨(some 8), none, (.mv (.t 38))⟩]))))))
    (.seq (.reg [⟨(some 4), none, (.mv (.c (.i .i64 (-1))))⟩])
    .ret))
    .skip)))
    .skip))
    (.seq (.seq (.reg [⟨(some 44), none, (.mv (.t 0))⟩,
    ⟨(some 45), none, .bad⟩])
    (.blk 2 (.loop (.seq (.reg [⟨(some 46), none, .bad⟩,
    ⟨(some 47), none, (.ext (.t 46) 0)⟩])
    (.seq (.cond (.t 47)
    .skip
    (.exit 2))
    (.blk 3 (.seq (.reg [⟨(some 48), none, (.ext (.t 46) 1)⟩,
    ⟨(some 49), none, (.ext (.t 46) 2)⟩,
    ⟨(some 9), none, (.mv (.t 48))⟩,
    ⟨(some 10), none, (.mv (.t 49))⟩])
    (.seq (.reg [⟨(some 50), none, (.mv (.t 1))⟩,
    ⟨(some 51), none, (.mv (.t 10))⟩,
    ⟨(some 52), none, (.call 99 [(.t 50), (.t 51)])⟩,
    ⟨(some 53), none, (.bin .geq .other (.t 52) (.c (.i .i64 0)))⟩])
    (.cond (.t 53)
    (.seq (.reg [⟨(some 54), none, (.mv (.t 9))⟩,
    ⟨(some 4), none, (.mv (.t 54))⟩])
    .ret)
    .skip)))))))))
    (.seq (.reg [⟨(some 4), none, (.mv (.c (.i .i64 (-1))))⟩])
    .ret)))))), [(.tmp 4)]⟩
theorem cc_strings_IndexAny : compF Tryd.prog 83 = some c_strings_IndexAny := by kernel_rfl
def c_strings_trimLeftByte : AF :=
  ⟨17, (.seq (.reg [⟨(some 4), none, (.mv (.c (.s [])))⟩])
    (.seq (.blk 0 (.loop (.seq (.seq (.reg [⟨(some 5), none, (.mv (.t 0))⟩,
    ⟨(some 6), none, (.bls (.t 5))⟩,
    ⟨(some 7), none, (.bin .gtr .other (.t 6) (.c (.i .i64 0)))⟩,
    ⟨(some 8), none, (.mv (.t 7))⟩,
    ⟨(some 9), (some (8, true)), (.mv (.t 0))⟩,
    ⟨(some 10), (some (8, true)), (.ixs (.t 9) (.c (.i .i64 0)))⟩,
    ⟨(some 11), (some (8, true)), (.mv (.t 1))⟩,
    ⟨(some 12), (some (8, true)), (.bin .eql .other (.t 10) (.t 11))⟩,
    ⟨(some 13), none, (.pick (.t 8) (.t 12) (.c (.b false)))⟩])
    (.cond (.t 13)
    .skip
    (.exit 0)))
    (.blk 1 (.reg [⟨(some 14), none, (.mv (.t 0))⟩,
    ⟨(some 15), none, (.sls (.t 14) (some (.c (.i .i64 1))) none)⟩,
    ⟨(some 0), none, (.mv (.t 15))⟩])))))
    (.seq (.reg [⟨(some 16), none, (.mv (.t 0))⟩,
    ⟨(some 4), none, (.mv (.t 16))⟩])
    .ret))), [(.tmp 4)]⟩
theorem cc_strings_trimLeftByte : compF Tryd.prog 85 = some c_strings_trimLeftByte := by kernel_rfl
def c_strings_trimRightByte : AF :=
  ⟨23, (.seq (.reg [⟨(some 4), none, (.mv (.c (.s [])))⟩])
    (.seq (.blk 0 (.loop (.seq (.seq (.reg [⟨(some 5), none, (.mv (.t 0))⟩,
    ⟨(some 6), none, (.bls (.t 5))⟩,
    ⟨(some 7), none, (.bin .gtr .other (.t 6) (.c (.i .i64 0)))⟩,
    ⟨(some 8), none, (.mv (.t 7))⟩,
    ⟨(some 9), (some (8, true)), (.mv (.t 0))⟩,
    ⟨(some 10), (some (8, true)), (.mv (.t 0))⟩,
    ⟨(some 11), (some (8, true)), (.bls (.t 10))⟩,
    ⟨(some 12), (some (8, true)), (.bin .sub .other (.t 11) (.c (.i .i64 1)))⟩,
    ⟨(some 13), (some (8, true)), (.ixs (.t 9) (.t 12))⟩,
    ⟨(some 14), (some (8, true)), (.mv (.t 1))⟩,
    ⟨(some 15), (some (8, true)), (.bin .eql .other (.t 13) (.t 14))⟩,
    ⟨(some 16), none, (.pick (.t 8) (.t 15) (.c (.b false)))⟩])
    (.cond (.t 16)
    .skip
    (.exit 0)))
    (.blk 1 (.reg [⟨(some 17), none, (.mv (.t 0))⟩,
    ⟨(some 18), none, (.mv (.t 0))⟩,
    ⟨(some 19), none, (.bls (.t 18))⟩,
    ⟨(some 20), none, (.bin .sub .other (.t 19) (.c (.i .i64 1)))⟩,
    ⟨(some 21), none, (.sls (.t 17) none (some (.t 20)))⟩,
    ⟨(some 0), none, (.mv (.t 21))⟩])))))
    (.seq (.reg [⟨(some 22), none, (.mv (.t 0))⟩,
    ⟨(some 4), none, (.mv (.t 22))⟩])
    .ret))), [(.tmp 4)]⟩
theorem cc_strings_trimRightByte : compF Tryd.prog 86 = some c_strings_trimRightByte := by kernel_rfl
def c_slices_Clone_cadence_api_Line_cadence_api_Line : AF :=
  ⟨8, (.seq (.reg [⟨(some 2), none, (.mv (.c .nils))⟩])
    (.seq (.seq (.reg [⟨(some 3), none, (.mv (.t 0))⟩,
    ⟨(some 4), none, (.bin .eql .slice (.t 3) (.c .nils))⟩])
    (.cond (.t 4)
    (.seq (.reg [⟨(some 2), none, (.mv (.c .nils))⟩])
    .ret)
    .skip))
    (.seq (.reg [⟨(some 5), none, (.bsl 67 2 0 [(.s []), (.s [])] [])⟩,
    ⟨(some 6), none, (.mv (.t 0))⟩,
    ⟨(some 7), none, (.app 67 2 32 false (.t 5) (.t 6))⟩,
    ⟨(some 2), none, (.mv (.t 7))⟩])
    .ret))), [(.tmp 2)]⟩
theorem cc_slices_Clone_cadence_api_Line_cadence_api_Line : compF Tryd.prog 47 = some c_slices_Clone_cadence_api_Line_cadence_api_Line := by kernel_rfl
end Go.Proofs.YtpacfelhjjmmkaaDoor
end
section
namespace Go.Proofs.YtpacfelhjjmmkaaDoor
open Go Go.Sy
theorem follows_mix : Tryd.prog.follows .mixedOrders = true := by kernel_rfl
instance : Mix Tryd.prog := ⟨follows_mix⟩
end Go.Proofs.YtpacfelhjjmmkaaDoor
end
section
namespace Go.Proofs.YtpacfelhjjmmkaaDoor
open Go Go.Sy
set_option linter.unusedVariables false
def ixB (c : UInt8) : List UInt8 → Option Nat
  | [] => none
  | b :: l => if b = c then some 0 else (ixB c l).map (· + 1)
def endL (l : List UInt8) : List UInt8 × List UInt8 := if l.getLast? = some 13 then (l.dropLast, [13, 10]) else (l, [10])
def splitN : Nat → List UInt8 → List (List UInt8 × List UInt8)
  | 0, _ => []
  | n + 1, l => match ixB 10 l with
    | none => if l = [] then [] else [(l, [])]
    | some i => endL (l.take i) :: splitN n (l.drop (i + 1))
def splitL (l : List UInt8) : List (List UInt8 × List UInt8) := splitN (l.length + 1) l
def lineC (x : List (List UInt8 × List UInt8)) : List SV := x.flatMap fun p => [.s p.1, .s p.2]
theorem lineC_app (a b : List (List UInt8 × List UInt8)) : lineC (a ++ b) = lineC a ++ lineC b := by simp [lineC]
theorem lineC_len (a : List (List UInt8 × List UInt8)) : (lineC a).length = a.length * 2 := by
  induction a with
  | nil => rfl
  | cons x a ih => simp only [lineC, List.flatMap_cons, List.length_append, List.length_cons] at ih ⊢; rw [ih]; simp; omega
theorem lineC_one (a : List (List UInt8 × List UInt8)) : (lineC a).all SV.one = true := by
  induction a with
  | nil => rfl
  | cons x a ih => simp only [lineC, List.flatMap_cons, List.all_append, Bool.and_eq_true] at ih ⊢; exact ⟨rfl, ih⟩
theorem ixB_lt {c : UInt8} : ∀ {l : List UInt8} {i : Nat}, ixB c l = some i → i < l.length ∧ l[i]? = some c
  | [], i, h => by cases h
  | b :: l, i, h => by
    simp only [ixB] at h
    split at h
    · obtain rfl := Option.some.inj h; rename_i e; subst e; simp
    · cases hl : ixB c l with
      | none => rw [hl] at h; cases h
      | some j =>
        rw [hl] at h
        obtain rfl := Option.some.inj h
        have := ixB_lt hl
        simpa using this
theorem splitN_more : ∀ (n : Nat) (l : List UInt8), l.length < n → ∀ m, l.length < m → splitN n l = splitN m l
  | 0, l, h, _, _ => by omega
  | n + 1, l, h, 0, h' => by omega
  | n + 1, l, h, m + 1, h' => by
    simp only [splitN]
    cases hi : ixB 10 l with
    | none => rfl
    | some i =>
      simp only
      have := (ixB_lt hi).1
      rw [splitN_more n (l.drop (i + 1)) (by simp; omega) m (by simp; omega)]
theorem splitL_none {l : List UInt8} (h : ixB 10 l = none) : splitL l = if l = [] then [] else [(l, [])] := by
  unfold splitL splitN; rw [h]
theorem splitL_some {l : List UInt8} {i : Nat} (h : ixB 10 l = some i) : splitL l = endL (l.take i) :: splitL (l.drop (i + 1)) := by
  unfold splitL
  conv => lhs; unfold splitN
  rw [h]
  simp only
  have := (ixB_lt h).1
  rw [splitN_more l.length (l.drop (i + 1)) (by simp; omega) ((l.drop (i + 1)).length + 1) (by omega)]
theorem ixB_take {c : UInt8} : ∀ (l : List UInt8) (k : Nat), (∀ j, j < k → l[j]? ≠ some c) → ixB c l = (ixB c (l.drop k)).map (· + k)
  | l, 0, _ => by simp
  | [], k + 1, _ => by simp [ixB]
  | b :: l, k + 1, h => by
    have h0 := h 0 (by omega)
    simp only [List.getElem?_cons_zero, ne_eq, Option.some.injEq] at h0
    have := ixB_take l k (fun j hj => by have := h (j + 1) (by omega); simpa using this)
    rw [ixB, if_neg h0, this, List.drop_succ_cons, Option.map_map]
    congr 1
theorem ixB_none {c : UInt8} {l : List UInt8} (h : ∀ j : Nat, l[j]? ≠ some c) : ixB c l = none := by
  cases hi : ixB c l with
  | none => rfl
  | some i => exact absurd (ixB_lt hi).2 (h i)
theorem splitL_len : ∀ (n : Nat) (l : List UInt8), l.length ≤ n → (splitL l).length ≤ l.length
  | 0, l, h => by
    have : l = [] := List.length_eq_zero_iff.1 (by omega)
    subst this; simp [splitL, splitN, ixB]
  | n + 1, l, h => by
    cases hi : ixB 10 l with
    | none => rw [splitL_none hi]; split <;> simp; rename_i h; exact Nat.pos_of_ne_zero fun e => h (List.length_eq_zero_iff.1 e)
    | some i =>
      rw [splitL_some hi]
      have := (ixB_lt hi).1
      have := splitL_len n (l.drop (i + 1)) (by simp; omega)
      simp at this ⊢; omega
theorem drop_cons {α : Type} {l : List α} {i : Nat} {c : α} (h : l[i]? = some c) : l.drop i = c :: l.drop (i + 1) := by
  obtain ⟨h1, rfl⟩ := List.getElem?_eq_some_iff.1 h
  exact List.drop_eq_getElem_cons h1
theorem split_step {l : List UInt8} {at_ i : Nat} (ha : at_ ≤ i) (hno : ∀ j, at_ ≤ j → j < i → l[j]? ≠ some 10) (hc : l[i]? = some 10) : splitL (l.drop at_) = endL ((l.drop at_).take (i - at_)) :: splitL (l.drop (i + 1)) := by
  have h1 : ixB 10 (l.drop at_) = some (i - at_) := by
    rw [ixB_take (l.drop at_) (i - at_) (fun j hj => by
      rw [List.getElem?_drop]
      exact hno (at_ + j) (by omega) (by omega)), List.drop_drop, show at_ + (i - at_) = i by omega, drop_cons hc]
    simp [ixB]
  rw [splitL_some h1, List.drop_drop, show at_ + (i - at_ + 1) = i + 1 by omega]
theorem split_end {l : List UInt8} {at_ : Nat} (hno : ∀ j, at_ ≤ j → j < l.length → l[j]? ≠ some 10) : splitL (l.drop at_) = if at_ < l.length then [(l.drop at_, [])] else [] := by
  rw [splitL_none (ixB_none fun j => ?_)]
  · by_cases h : at_ < l.length
    · rw [if_pos h, if_neg]
      intro e
      have := congrArg List.length e
      simp at this; omega
    · rw [if_neg h, if_pos (List.drop_of_length_le (by omega))]
  · rw [List.getElem?_drop]
    intro e
    exact hno (at_ + j) (by omega) (List.getElem?_eq_some_iff.1 e).1 e
theorem take_drop_snoc {α : Type} {l : List α} {a i : Nat} {c : α} (ha : a ≤ i) (hc : l[i]? = some c) : (l.take (i + 1)).drop a = (l.take i).drop a ++ [c] := by
  obtain ⟨h1, rfl⟩ := List.getElem?_eq_some_iff.1 hc
  rw [List.take_add_one, List.getElem?_eq_getElem h1, Option.toList_some, List.drop_append_of_le_length (by simp; omega)]
theorem dt {α : Type} (l : List α) (a i : Nat) : (l.drop a).take (i - a) = (l.take i).drop a := by rw [List.drop_take]
theorem endL_cr {l : List UInt8} {a i : Nat} (ha : a ≤ i) (h1 : l[i]? = some 13) (h2 : l[i + 1]? = some 10) : endL ((l.drop a).take (i + 1 - a)) = ((l.take i).drop a, (l.take (i + 1 + 1)).drop i) := by
  rw [dt, take_drop_snoc ha h1]
  unfold endL
  rw [if_pos (by simp), List.dropLast_concat, take_drop_snoc (by omega) h2, take_drop_snoc (Nat.le_refl _) h1]
  simp
theorem endL_lf {l : List UInt8} {a i : Nat} (ha : a ≤ i) (h1 : a < i → l[i - 1]? ≠ some 13) (h2 : l[i]? = some 10) : endL ((l.drop a).take (i - a)) = ((l.take i).drop a, (l.take (i + 1)).drop i) := by
  rw [dt]
  unfold endL
  rw [if_neg, take_drop_snoc (Nat.le_refl _) h2]
  · simp
  · intro h
    rcases Nat.lt_or_ge a i with h3 | h3
    · refine h1 h3 ?_
      rw [List.getLast?_eq_getElem?] at h
      have hi := (List.getElem?_eq_some_iff.1 h2).1
      rw [List.getElem?_drop, List.getElem?_take] at h
      simp only [List.length_drop, List.length_take] at h
      rw [if_pos (by omega), show a + (min i l.length - a - 1) = i - 1 by omega] at h
      exact h
    · have : (l.take i).drop a = [] := List.drop_of_length_le (by simp; omega)
      rw [this] at h; cases h
theorem los_lineC (n : Nat) : ∀ x, Los n (lineC x)
  | [] => .nil
  | p :: x => by
    have := los_lineC n x
    simp only [lineC, List.flatMap_cons] at this ⊢
    exact .cons .s (.cons .s this)
end Go.Proofs.YtpacfelhjjmmkaaDoor
end
section
set_option maxHeartbeats 20000000
namespace Go.Proofs.YtpacfelhjjmmkaaDoor
open Go Go.Sy
set_option linter.unusedVariables false
set_option linter.unusedSimpArgs false
theorem u8lit (c : UInt8) (k : Nat) (hk : k < 256) : ((c.toNat : Int) = @OfNat.ofNat Int k instOfNat) ↔ c = @OfNat.ofNat UInt8 k UInt8.instOfNat := by
  have e : ((@OfNat.ofNat UInt8 k UInt8.instOfNat).toNat : Int) = @OfNat.ofNat Int k instOfNat := by
    show ((UInt8.ofNat k).toNat : Int) = (k : Int)
    rw [UInt8.toNat_ofNat']; omega
  constructor
  · intro h; apply UInt8.toNat_inj.1; rw [← e] at h; exact_mod_cast h
  · rintro rfl; exact e
theorem u8_9 (c : UInt8) : ((c.toNat : Int) = 9) = (c = 9) := propext (u8lit c 9 (by decide))
theorem u8_10 (c : UInt8) : ((c.toNat : Int) = 10) = (c = 10) := propext (u8lit c 10 (by decide))
theorem u8_13 (c : UInt8) : ((c.toNat : Int) = 13) = (c = 13) := propext (u8lit c 13 (by decide))
theorem u8_32 (c : UInt8) : ((c.toNat : Int) = 32) = (c = 32) := propext (u8lit c 32 (by decide))
theorem u8_34 (c : UInt8) : ((c.toNat : Int) = 34) = (c = 34) := propext (u8lit c 34 (by decide))
theorem u8_44 (c : UInt8) : ((c.toNat : Int) = 44) = (c = 44) := propext (u8lit c 44 (by decide))
theorem u8_45 (c : UInt8) : ((c.toNat : Int) = 45) = (c = 45) := propext (u8lit c 45 (by decide))
theorem u8_46 (c : UInt8) : ((c.toNat : Int) = 46) = (c = 46) := propext (u8lit c 46 (by decide))
theorem u8_47 (c : UInt8) : ((c.toNat : Int) = 47) = (c = 47) := propext (u8lit c 47 (by decide))
theorem u8_58 (c : UInt8) : ((c.toNat : Int) = 58) = (c = 58) := propext (u8lit c 58 (by decide))
theorem u8_59 (c : UInt8) : ((c.toNat : Int) = 59) = (c = 59) := propext (u8lit c 59 (by decide))
theorem u8_61 (c : UInt8) : ((c.toNat : Int) = 61) = (c = 61) := propext (u8lit c 61 (by decide))
theorem u8_91 (c : UInt8) : ((c.toNat : Int) = 91) = (c = 91) := propext (u8lit c 91 (by decide))
theorem u8_92 (c : UInt8) : ((c.toNat : Int) = 92) = (c = 92) := propext (u8lit c 92 (by decide))
theorem u8_93 (c : UInt8) : ((c.toNat : Int) = 93) = (c = 93) := propext (u8lit c 93 (by decide))
theorem u8_110 (c : UInt8) : ((c.toNat : Int) = 110) = (c = 110) := propext (u8lit c 110 (by decide))
theorem u8_114 (c : UInt8) : ((c.toNat : Int) = 114) = (c = 114) := propext (u8lit c 114 (by decide))
theorem u8_116 (c : UInt8) : ((c.toNat : Int) = 116) = (c = 116) := propext (u8lit c 116 (by decide))
theorem blank_sc (c : UInt8) (s : St) : SCall Tryd.prog 80 [.i .u8 c.toNat] s (.b (c == 32 || c == 9)) s := by
  obtain ⟨H, n⟩ := s
  refine SCallR.pure (SCallR.enter cc_cadenceref5_blank ?_) .b
  dsimp only [c_cadenceref5_blank, argT]
  focus
    refine SC.seq ?_ nofun; refine SC.regK ?_; refine k_mv ?_; refine k_nil ?_; refine okS ?_ rfl; refine SC.seq ?_ nofun; refine SC.regK ?_; refine k_mv ?_; refine k_i ?_; refine k_mv ?_; generalize hq : (decide ((↑(UInt8.toNat c) : Int) = 32)) = bq; cases bq; simp only [decide_eq_true_eq, decide_eq_false_iff_not, Int.not_lt, Int.not_le, Bool.not_eq_true', Bool.not_eq_false'] at hq; refine k_mv ?_; refine k_i ?_; refine k_pf ?_; refine k_mv ?_; refine k_nil ?_; refine okS ?_ rfl; refine SC.ret ?_; rotate_left; simp only [decide_eq_true_eq, decide_eq_false_iff_not, Int.not_lt, Int.not_le, Bool.not_eq_true', Bool.not_eq_false'] at hq; refine k_no ?_; refine k_no ?_; refine k_pt ?_; refine k_mv ?_; refine k_nil ?_; refine okS ?_ rfl; refine SC.ret ?_; rotate_left
  all_goals
    refine ⟨_, rfl, ?_, fun _ _ => rfl⟩
    congr 1
    rw [Bool.eq_iff_iff]
    simp_all [u8_9, u8_10, u8_13, u8_32, u8_34, u8_44, u8_45, u8_46, u8_47, u8_58, u8_59, u8_61, u8_91, u8_92, u8_93, u8_110, u8_114, u8_116]
def bareL (l : List UInt8) : Bool := l.all fun b => !(b == 10 || b == 13)
theorem bare_sc (l : List UInt8) (s : St) (hl : l.length ≤ 1000000) : SCall Tryd.prog 81 [.s l] s (.b (bareL l)) s := by
  obtain ⟨H, n⟩ := s
  refine SCallR.pure (SCallR.enter cc_cadenceref5_Bare ?_) .b
  dsimp only [c_cadenceref5_Bare, argT]
  refine SC.seq ?_ nofun; refine SC.regK ?_; refine k_mv ?_; refine k_nil ?_; refine okS ?_ rfl; refine SC.seq ?_ nofun; refine SC.seq ?_ nofun; refine SC.regK ?_; refine k_mv ?_; refine k_nil ?_; refine okS ?_ rfl; refine SC.blk ?_
  refine SC.loop [0, 3] (fun vs s' => ∃ i : Nat, i ≤ l.length ∧ vs = [.s l, .i .i64 i] ∧ bareL l = bareL (l.drop i) ∧ s' = ⟨H, n⟩) (fun vs _ => match vs with
    | [_, .i _ i] => l.length - i.toNat
    | _ => 0) rfl ⟨0, Nat.zero_le _, rfl, rfl, rfl⟩ nofun ?_
  rintro _ _ ⟨i, hi, rfl, ha, rfl⟩
  by_cases h : i < l.length
  · obtain ⟨c, hc⟩ : ∃ c, l[i]? = some c := ⟨l[i], List.getElem?_eq_getElem h⟩
    rw [drop_cons hc] at ha
    focus
      refine SC.seq ?_ nofun; refine SC.seq ?_ nofun; refine SC.regK ?_; refine k_mv ?_; refine k_mv ?_; refine k_bls ?_; refine k_it ?_; refine k_nil ?_; refine okS ?_ rfl; refine SC.cond_t rfl ?_; refine SC.skip ?_; refine SC.seq ?_ nofun; refine SC.blk ?_; refine SC.seq ?_ nofun; refine SC.regK ?_; refine k_mv ?_; refine k_mv ?_; refine k_ixs ?_; refine k_i ?_; refine k_mv ?_; generalize hq : (decide ((↑(UInt8.toNat c) : Int) = 10)) = bq; cases bq; simp only [decide_eq_true_eq, decide_eq_false_iff_not, Int.not_lt, Int.not_le, Bool.not_eq_true', Bool.not_eq_false'] at hq; refine k_mv ?_; refine k_mv ?_; refine k_ixs ?_; refine k_i ?_; refine k_pf ?_; refine k_nil ?_; refine okS ?_ rfl; generalize hq : (decide ((↑(UInt8.toNat c) : Int) = 13)) = bq; cases bq; simp only [decide_eq_true_eq, decide_eq_false_iff_not, Int.not_lt, Int.not_le, Bool.not_eq_true', Bool.not_eq_false'] at hq; refine SC.cond_f rfl ?_; refine SC.skip ?_; refine SC.regK ?_; refine k_mv ?_; refine k_add ?_; refine k_mv ?_; refine k_nil ?_; refine okS ?_ rfl; rotate_left; simp only [decide_eq_true_eq, decide_eq_false_iff_not, Int.not_lt, Int.not_le, Bool.not_eq_true', Bool.not_eq_false'] at hq; refine SC.cond_t rfl ?_; refine SC.seq ?_ nofun; refine SC.regK ?_; refine k_mv ?_; refine k_nil ?_; refine okS ?_ rfl; refine SC.ret ?_; rotate_left; simp only [decide_eq_true_eq, decide_eq_false_iff_not, Int.not_lt, Int.not_le, Bool.not_eq_true', Bool.not_eq_false'] at hq; refine k_no ?_; refine k_no ?_; refine k_no ?_; refine k_no ?_; refine k_pt ?_; refine k_nil ?_; refine okS ?_ rfl; refine SC.cond_t rfl ?_; refine SC.seq ?_ nofun; refine SC.regK ?_; refine k_mv ?_; refine k_nil ?_; refine okS ?_ rfl; refine SC.ret ?_; rotate_left
    · refine ⟨_, rfl, ⟨i + 1, h, rfl, ?_, rfl⟩, by simp; omega⟩
      simp_all [bareL, u8_9, u8_10, u8_13, u8_32, u8_34, u8_44, u8_45, u8_46, u8_47, u8_58, u8_59, u8_61, u8_91, u8_92, u8_93, u8_110, u8_114, u8_116]
    all_goals
      refine ⟨_, rfl, ?_, fun _ _ => rfl⟩
      simp_all [bareL, u8_9, u8_10, u8_13, u8_32, u8_34, u8_44, u8_45, u8_46, u8_47, u8_58, u8_59, u8_61, u8_91, u8_92, u8_93, u8_110, u8_114, u8_116]
  · rw [List.drop_of_length_le (by omega)] at ha
    refine SC.seq ?_ nofun; refine SC.seq ?_ nofun; refine SC.regK ?_; refine k_mv ?_; refine k_mv ?_; refine k_bls ?_; refine k_if ?_; refine k_nil ?_; refine okS ?_ rfl; refine SC.cond_f rfl ?_; refine SC.exit ?_; refine SC.seq ?_ nofun; refine SC.regK ?_; refine k_mv ?_; refine k_nil ?_; refine okS ?_ rfl; refine SC.ret ?_
    refine ⟨_, rfl, by rw [ha]; rfl, fun _ _ => rfl⟩
theorem cr_sc (l : List UInt8) (s : St) (hl : l.length ≤ 1000000) : SCall Tryd.prog 60 [.s l] s (.b (l.any fun b => b == 13)) s := by
  obtain ⟨H, n⟩ := s
  refine SCallR.pure (SCallR.enter cc_cadenceref5_Cr ?_) .b
  dsimp only [c_cadenceref5_Cr, argT]
  refine SC.seq ?_ nofun; refine SC.regK ?_; refine k_mv ?_; refine k_nil ?_; refine okS ?_ rfl; refine SC.seq ?_ nofun; refine SC.seq ?_ nofun; refine SC.regK ?_; refine k_mv ?_; refine k_nil ?_; refine okS ?_ rfl; refine SC.blk ?_
  refine SC.loop [0, 3] (fun vs s' => ∃ i : Nat, i ≤ l.length ∧ vs = [.s l, .i .i64 i] ∧ (l.any fun b => b == 13) = (l.drop i).any (fun b => b == 13) ∧ s' = ⟨H, n⟩) (fun vs _ => match vs with
    | [_, .i _ i] => l.length - i.toNat
    | _ => 0) rfl ⟨0, Nat.zero_le _, rfl, rfl, rfl⟩ nofun ?_
  rintro _ _ ⟨i, hi, rfl, ha, rfl⟩
  by_cases h : i < l.length
  · obtain ⟨c, hc⟩ : ∃ c, l[i]? = some c := ⟨l[i], List.getElem?_eq_getElem h⟩
    rw [drop_cons hc] at ha
    focus
      refine SC.seq ?_ nofun; refine SC.seq ?_ nofun; refine SC.regK ?_; refine k_mv ?_; refine k_mv ?_; refine k_bls ?_; refine k_it ?_; refine k_nil ?_; refine okS ?_ rfl; refine SC.cond_t rfl ?_; refine SC.skip ?_; refine SC.seq ?_ nofun; refine SC.blk ?_; refine SC.seq ?_ nofun; refine SC.regK ?_; refine k_mv ?_; refine k_mv ?_; refine k_ixs ?_; refine k_i ?_; refine k_nil ?_; refine okS ?_ rfl; generalize hq : (decide ((↑(UInt8.toNat c) : Int) = 13)) = bq; cases bq; simp only [decide_eq_true_eq, decide_eq_false_iff_not, Int.not_lt, Int.not_le, Bool.not_eq_true', Bool.not_eq_false'] at hq; refine SC.cond_f rfl ?_; refine SC.skip ?_; refine SC.regK ?_; refine k_mv ?_; refine k_add ?_; refine k_mv ?_; refine k_nil ?_; refine okS ?_ rfl; rotate_left; simp only [decide_eq_true_eq, decide_eq_false_iff_not, Int.not_lt, Int.not_le, Bool.not_eq_true', Bool.not_eq_false'] at hq; refine SC.cond_t rfl ?_; refine SC.seq ?_ nofun; refine SC.regK ?_; refine k_mv ?_; refine k_nil ?_; refine okS ?_ rfl; refine SC.ret ?_; rotate_left
    · refine ⟨_, rfl, ⟨i + 1, h, rfl, ?_, rfl⟩, by simp; omega⟩
      rw [ha]; simp_all [u8_9, u8_10, u8_13, u8_32, u8_34, u8_44, u8_45, u8_46, u8_47, u8_58, u8_59, u8_61, u8_91, u8_92, u8_93, u8_110, u8_114, u8_116]
    · refine ⟨_, rfl, ?_, fun _ _ => rfl⟩
      rw [ha]; simp_all [u8_9, u8_10, u8_13, u8_32, u8_34, u8_44, u8_45, u8_46, u8_47, u8_58, u8_59, u8_61, u8_91, u8_92, u8_93, u8_110, u8_114, u8_116]
  · rw [List.drop_of_length_le (by omega)] at ha
    refine SC.seq ?_ nofun; refine SC.seq ?_ nofun; refine SC.regK ?_; refine k_mv ?_; refine k_mv ?_; refine k_bls ?_; refine k_if ?_; refine k_nil ?_; refine okS ?_ rfl; refine SC.cond_f rfl ?_; refine SC.exit ?_; refine SC.seq ?_ nofun; refine SC.regK ?_; refine k_mv ?_; refine k_nil ?_; refine okS ?_ rfl; refine SC.ret ?_
    refine ⟨_, rfl, by rw [ha]; rfl, fun _ _ => rfl⟩
def plainL (l : List UInt8) : Bool := l != [] && decide (l.length ≤ 80) && bareL l
theorem plain_sc (l : List UInt8) (s : St) (hl : l.length ≤ 1000000) : SCall Tryd.prog 63 [.s l] s (.b (plainL l)) s := by
  obtain ⟨H, n⟩ := s
  refine SCallR.pure (SCallR.enter cc_cadenceref5_Plain ?_) .b
  dsimp only [c_cadenceref5_Plain, argT]
  focus
    refine SC.seq ?_ nofun; refine SC.regK ?_; refine k_mv ?_; refine k_nil ?_; refine okS ?_ rfl; refine SC.seq ?_ nofun; refine SC.seq ?_ nofun; refine SC.regK ?_; refine k_mv ?_; refine k_s ?_; refine k_mv ?_; generalize hq : (decide (l = [])) = bq; cases bq; simp only [decide_eq_true_eq, decide_eq_false_iff_not, Int.not_lt, Int.not_le, Bool.not_eq_true', Bool.not_eq_false'] at hq; refine k_mv ?_; refine k_bls ?_; refine k_i ?_; refine k_pf ?_; refine k_nil ?_; refine okS ?_ rfl; generalize hq : (decide (80 < (↑(List.length l) : Int))) = bq; cases bq; simp only [decide_eq_true_eq, decide_eq_false_iff_not, Int.not_lt, Int.not_le, Bool.not_eq_true', Bool.not_eq_false'] at hq; refine SC.cond_f rfl ?_; refine SC.skip ?_; refine SC.seq ?_ nofun; refine SC.regK ?_; refine k_mv ?_; refine k_call (bare_sc l _ hl) ?_; refine k_mv ?_; refine k_nil ?_; refine okS ?_ rfl; refine SC.ret ?_; rotate_left; simp only [decide_eq_true_eq, decide_eq_false_iff_not, Int.not_lt, Int.not_le, Bool.not_eq_true', Bool.not_eq_false'] at hq; refine SC.cond_t rfl ?_; refine SC.seq ?_ nofun; refine SC.regK ?_; refine k_mv ?_; refine k_nil ?_; refine okS ?_ rfl; refine SC.ret ?_; rotate_left; simp only [decide_eq_true_eq, decide_eq_false_iff_not, Int.not_lt, Int.not_le, Bool.not_eq_true', Bool.not_eq_false'] at hq; refine k_no ?_; refine k_no ?_; refine k_no ?_; refine k_pt ?_; refine k_nil ?_; refine okS ?_ rfl; refine SC.cond_t rfl ?_; refine SC.seq ?_ nofun; refine SC.regK ?_; refine k_mv ?_; refine k_nil ?_; refine okS ?_ rfl; refine SC.ret ?_; rotate_left
  all_goals
    refine ⟨_, rfl, ?_, fun _ _ => rfl⟩
    simp_all [plainL]
  all_goals omega
def letL (c : UInt8) : Bool := (decide (65 ≤ c.toNat) && decide (c.toNat ≤ 90)) || (decide (48 ≤ c.toNat) && decide (c.toNat ≤ 57)) || c == 45
def wordL (l : List UInt8) : Bool := l.all letL && l != [] && decide (l.length ≤ 20)
theorem rword_sc (l : List UInt8) (s : St) (hl : l.length ≤ 1000000) : SCall Tryd.prog 61 [.s l] s (.b (wordL l)) s := by
  obtain ⟨H, n⟩ := s
  refine SCallR.pure (SCallR.enter cc_cadenceref8_word ?_) .b
  dsimp only [c_cadenceref8_word, argT]
  refine SC.seq ?_ nofun; refine SC.regK ?_; refine k_mv ?_; refine k_nil ?_; refine okS ?_ rfl; refine SC.seq ?_ nofun; refine SC.seq ?_ nofun; refine SC.regK ?_; refine k_mv ?_; refine k_nil ?_; refine okS ?_ rfl; refine SC.blk ?_
  refine SC.loop [0, 3] (fun vs s' => ∃ i : Nat, i ≤ l.length ∧ vs = [.s l, .i .i64 i] ∧ l.all letL = (l.drop i).all letL ∧ s' = ⟨H, n⟩) (fun vs _ => match vs with
    | [_, .i _ i] => l.length - i.toNat
    | _ => 0) rfl ⟨0, Nat.zero_le _, rfl, rfl, rfl⟩ nofun ?_
  rintro _ _ ⟨i, hi, rfl, ha, rfl⟩
  by_cases h : i < l.length
  · obtain ⟨c, hc⟩ : ∃ c, l[i]? = some c := ⟨l[i], List.getElem?_eq_getElem h⟩
    rw [drop_cons hc, List.all_cons] at ha
    have hcc : (c == 45) = decide (c.toNat = 45) := by
      rw [Bool.eq_iff_iff]; simp [← UInt8.toNat_inj]
    focus
      refine SC.seq ?_ nofun; refine SC.seq ?_ nofun; refine SC.regK ?_; refine k_mv ?_; refine k_mv ?_; refine k_bls ?_; refine k_it ?_; refine k_nil ?_; refine okS ?_ rfl; refine SC.cond_t rfl ?_; refine SC.skip ?_; refine SC.seq ?_ nofun; refine SC.blk ?_; refine SC.seq ?_ nofun; refine SC.regK ?_; refine k_mv ?_; refine k_mv ?_; refine k_ixs ?_; refine k_mv ?_; refine k_nil ?_; refine okS ?_ rfl; refine SC.seq ?_ nofun; refine SC.regK ?_; refine k_mv ?_; refine k_i ?_; refine k_mv ?_; generalize hq : (decide ((↑(UInt8.toNat c) : Int) < 65)) = bq; cases bq; simp only [decide_eq_true_eq, decide_eq_false_iff_not, Int.not_lt, Int.not_le, Bool.not_eq_true', Bool.not_eq_false'] at hq; refine k_mv ?_; refine k_i ?_; refine k_pf ?_; refine k_mv ?_; generalize hq : (decide (90 < (↑(UInt8.toNat c) : Int))) = bq; cases bq; simp only [decide_eq_true_eq, decide_eq_false_iff_not, Int.not_lt, Int.not_le, Bool.not_eq_true', Bool.not_eq_false'] at hq; refine k_no ?_; refine k_no ?_; refine k_no ?_; refine k_no ?_; refine k_no ?_; refine k_no ?_; refine k_pf ?_; refine k_mv ?_; refine k_no ?_; refine k_no ?_; refine k_pf ?_; refine k_nil ?_; refine okS ?_ rfl; refine SC.cond_f rfl ?_; refine SC.skip ?_; refine SC.regK ?_; refine k_mv ?_; refine k_add ?_; refine k_mv ?_; refine k_nil ?_; refine okS ?_ rfl; rotate_left; simp only [decide_eq_true_eq, decide_eq_false_iff_not, Int.not_lt, Int.not_le, Bool.not_eq_true', Bool.not_eq_false'] at hq; refine k_mv ?_; refine k_if ?_; refine k_mv ?_; refine k_mv ?_; refine k_it ?_; refine k_pf ?_; refine k_pt ?_; refine k_mv ?_; refine k_mv ?_; refine k_it ?_; refine k_pt ?_; refine k_nil ?_; refine okS ?_ rfl; refine SC.cond_t rfl ?_; refine SC.seq ?_ nofun; refine SC.regK ?_; refine k_mv ?_; refine k_nil ?_; refine okS ?_ rfl; refine SC.ret ?_; rotate_left; simp only [decide_eq_true_eq, decide_eq_false_iff_not, Int.not_lt, Int.not_le, Bool.not_eq_true', Bool.not_eq_false'] at hq; refine k_no ?_; refine k_no ?_; refine k_pt ?_; refine k_mv ?_
      refine k_mv ?_; refine k_i ?_; refine k_mv ?_; generalize hq : (decide ((↑(UInt8.toNat c) : Int) < 48)) = bq; cases bq; simp only [decide_eq_true_eq, decide_eq_false_iff_not, Int.not_lt, Int.not_le, Bool.not_eq_true', Bool.not_eq_false'] at hq; refine k_mv ?_; refine k_i ?_; refine k_pf ?_; refine k_pt ?_; refine k_mv ?_; generalize hq : (decide (57 < (↑(UInt8.toNat c) : Int))) = bq; cases bq; simp only [decide_eq_true_eq, decide_eq_false_iff_not, Int.not_lt, Int.not_le, Bool.not_eq_true', Bool.not_eq_false'] at hq; refine k_no ?_; refine k_no ?_; refine k_pf ?_; refine k_nil ?_; refine okS ?_ rfl; refine SC.cond_f rfl ?_; refine SC.skip ?_; refine SC.regK ?_; refine k_mv ?_; refine k_add ?_; refine k_mv ?_; refine k_nil ?_; refine okS ?_ rfl; rotate_left; simp only [decide_eq_true_eq, decide_eq_false_iff_not, Int.not_lt, Int.not_le, Bool.not_eq_true', Bool.not_eq_false'] at hq; refine k_mv ?_; refine k_it ?_; refine k_pt ?_; refine k_nil ?_; refine okS ?_ rfl; refine SC.cond_t rfl ?_; refine SC.seq ?_ nofun; refine SC.regK ?_; refine k_mv ?_; refine k_nil ?_; refine okS ?_ rfl; refine SC.ret ?_; rotate_left; simp only [decide_eq_true_eq, decide_eq_false_iff_not, Int.not_lt, Int.not_le, Bool.not_eq_true', Bool.not_eq_false'] at hq; refine k_no ?_; refine k_no ?_; refine k_pt ?_; refine k_pt ?_; refine k_mv ?_; refine k_mv ?_; refine k_i ?_; refine k_pt ?_; refine k_nil ?_; refine okS ?_ rfl; generalize hq : (!decide ((↑(UInt8.toNat c) : Int) = 45)) = bq; cases bq; simp only [decide_eq_true_eq, decide_eq_false_iff_not, Int.not_lt, Int.not_le, Bool.not_eq_true', Bool.not_eq_false'] at hq; refine SC.cond_f rfl ?_; refine SC.skip ?_; refine SC.regK ?_; refine k_mv ?_; refine k_add ?_; refine k_mv ?_; refine k_nil ?_; refine okS ?_ rfl; rotate_left; simp only [decide_eq_true_eq, decide_eq_false_iff_not, Int.not_lt, Int.not_le, Bool.not_eq_true', Bool.not_eq_false'] at hq; refine SC.cond_t rfl ?_; refine SC.seq ?_ nofun; refine SC.regK ?_; refine k_mv ?_; refine k_nil ?_
      refine okS ?_ rfl; refine SC.ret ?_; rotate_left
    all_goals first
      | (refine ⟨_, rfl, ⟨i + 1, h, rfl, ?_, rfl⟩, by simp; omega⟩
         have : letL c = true := by simp only [letL, hcc, Bool.or_eq_true, Bool.and_eq_true, decide_eq_true_eq]; omega
         rw [ha, this]; rfl)
      | (refine ⟨_, rfl, ?_, fun _ _ => rfl⟩
         have : letL c = false := by rw [← Bool.not_eq_true]; simp only [letL, hcc, Bool.or_eq_true, Bool.and_eq_true, decide_eq_true_eq]; omega
         simp only [wordL, ha, this]; rfl)
  · rw [List.drop_of_length_le (by omega)] at ha
    have e1 : decide ((l.length : Int) ≤ 20) = decide (l.length ≤ 20) := by
      rw [Bool.eq_iff_iff]; simp; omega
    focus
      refine SC.seq ?_ nofun; refine SC.seq ?_ nofun; refine SC.regK ?_; refine k_mv ?_; refine k_mv ?_; refine k_bls ?_; refine k_if ?_; refine k_nil ?_; refine okS ?_ rfl; refine SC.cond_f rfl ?_; refine SC.exit ?_; refine SC.seq ?_ nofun; refine SC.regK ?_; refine k_mv ?_; refine k_s ?_; refine k_mv ?_; generalize hq : (!decide (l = [])) = bq; cases bq; simp only [decide_eq_true_eq, decide_eq_false_iff_not, Int.not_lt, Int.not_le, Bool.not_eq_true', Bool.not_eq_false'] at hq; refine k_no ?_; refine k_no ?_; refine k_no ?_; refine k_pf ?_; refine k_mv ?_; refine k_nil ?_; refine okS ?_ rfl; refine SC.ret ?_; rotate_left; simp only [decide_eq_true_eq, decide_eq_false_iff_not, Int.not_lt, Int.not_le, Bool.not_eq_true', Bool.not_eq_false'] at hq; refine k_mv ?_; refine k_bls ?_; refine k_i ?_; refine k_pt ?_; refine k_mv ?_; refine k_nil ?_; refine okS ?_ rfl; refine SC.ret ?_; rotate_left
    all_goals
      refine ⟨_, rfl, ?_, fun _ _ => rfl⟩
      simp only [wordL, ha]
    · simp_all
    · rw [e1]; congr 1
      have hq' : (l != []) = true := by simpa using hq
      rw [hq']; simp
end Go.Proofs.YtpacfelhjjmmkaaDoor
end
section
set_option maxHeartbeats 20000000
namespace Go.Proofs.YtpacfelhjjmmkaaDoor
open Go Go.Sy
set_option linter.unusedVariables false
set_option linter.unusedSimpArgs false
def unesc : List UInt8 → Option (List UInt8)
  | [] => some []
  | [c] => if c = 92 then none else some [c]
  | c :: e :: r => if c = 92 then (if e = 110 then (unesc r).map (10 :: ·) else if e = 114 then (unesc r).map (13 :: ·) else if e = 92 then (unesc r).map (92 :: ·) else none) else (unesc (e :: r)).map (c :: ·)
def meantV (l : List UInt8) : SV := match unesc l with
  | none => .tup [.s [], .b false]
  | some o => .tup [.s o, .b (decide ((o.length : Int) ≤ 80))]
theorem unesc_plain {c : UInt8} {r : List UInt8} (h : c ≠ 92) : unesc (c :: r) = (unesc r).map (c :: ·) := by
  cases r with
  | nil => simp [unesc, h]
  | cons e r => simp [unesc, h]
theorem unesc_end : unesc [92] = none := rfl
theorem unesc_esc {e : UInt8} {r : List UInt8} : unesc (92 :: e :: r) = if e = 110 then (unesc r).map (10 :: ·) else if e = 114 then (unesc r).map (13 :: ·) else if e = 92 then (unesc r).map (92 :: ·) else none := by simp [unesc]
theorem rmeant_sc (l : List UInt8) (s : St) (hl : l.length ≤ 1000000) : SCall Tryd.prog 62 [.s l] s (meantV l) s := by
  obtain ⟨H, n⟩ := s
  refine SCallR.pure (SCallR.enter cc_cadenceref8_meant ?_) (by unfold meantV; split <;> exact .tup (.cons .s (.cons .b .nil)))
  dsimp only [c_cadenceref8_meant, argT]
  refine SC.seq ?_ nofun; refine SC.regK ?_; refine k_mv ?_; refine k_mv ?_; refine k_nil ?_; refine okS ?_ rfl; refine SC.seq ?_ nofun; refine SC.regK ?_; refine k_mv ?_; refine k_nil ?_; refine okS ?_ rfl; refine SC.seq ?_ nofun; refine SC.seq ?_ nofun; refine SC.regK ?_; refine k_mv ?_; refine k_nil ?_; refine okS ?_ rfl; refine SC.blk ?_
  refine SC.loop [0, 4, 5] (fun vs s' => ∃ (i : Nat) (out : List UInt8), i ≤ l.length ∧ vs = [.s l, .s out, .i .i64 i] ∧ unesc l = (unesc (l.drop i)).map (out ++ ·) ∧ out.length ≤ i ∧ s' = ⟨H, n⟩) (fun vs _ => match vs with
    | [_, _, .i _ i] => l.length - i.toNat
    | _ => 0) rfl ⟨0, [], Nat.zero_le _, rfl, by simp, Nat.le_refl _, rfl⟩ nofun ?_
  rintro _ _ ⟨i, out, hi, rfl, ha, ho, rfl⟩
  by_cases h : i < l.length
  · obtain ⟨c, hc⟩ : ∃ c, l[i]? = some c := ⟨l[i], List.getElem?_eq_getElem h⟩
    rw [drop_cons hc] at ha
    by_cases h92 : c = 92
    · subst h92
      by_cases h2 : i + 1 < l.length
      · obtain ⟨e, he⟩ : ∃ e, l[i + 1]? = some e := ⟨l[i + 1], List.getElem?_eq_getElem h2⟩
        rw [drop_cons he, unesc_esc] at ha
        focus
          refine SC.seq ?_ nofun; refine SC.seq ?_ nofun; refine SC.regK ?_; refine k_mv ?_; refine k_mv ?_; refine k_bls ?_; refine k_it ?_; refine k_nil ?_; refine okS ?_ rfl; refine SC.cond_t rfl ?_; refine SC.skip ?_; refine SC.seq ?_ nofun; refine SC.blk ?_; refine SC.seq ?_ nofun; refine SC.seq ?_ nofun; refine SC.regK ?_; refine k_mv ?_; refine k_mv ?_; refine k_ixs ?_; refine k_if ?_; refine k_nil ?_; refine okS ?_ rfl; refine SC.cond_f rfl ?_; refine SC.skip ?_; refine SC.seq ?_ nofun; refine SC.regK ?_; refine k_mv ?_; refine k_add ?_; refine k_mv ?_; refine k_nil ?_; refine okS ?_ rfl; refine SC.blk ?_; refine SC.seq ?_ nofun; refine SC.regK ?_; refine k_mv ?_; refine k_mv ?_; refine k_bls ?_; refine k_it ?_; refine k_mv ?_; refine k_mv ?_; refine k_mv ?_; refine k_ixs ?_; refine k_i ?_; refine k_pt ?_; refine k_mv ?_; refine k_nil ?_; refine okS ?_ rfl; generalize hq : (decide ((↑(UInt8.toNat e) : Int) = 110)) = bq; cases bq; simp only [decide_eq_true_eq, decide_eq_false_iff_not, Int.not_lt, Int.not_le, Bool.not_eq_true', Bool.not_eq_false'] at hq; refine SC.cond_f rfl ?_; refine SC.seq ?_ nofun; refine SC.regK ?_; refine k_mv ?_; refine k_mv ?_; refine k_bls ?_; refine k_it ?_; refine k_mv ?_; refine k_mv ?_; refine k_mv ?_; refine k_ixs ?_; refine k_i ?_; refine k_pt ?_; refine k_mv ?_; refine k_nil ?_; refine okS ?_ rfl; generalize hq : (decide ((↑(UInt8.toNat e) : Int) = 114)) = bq; cases bq; simp only [decide_eq_true_eq, decide_eq_false_iff_not, Int.not_lt, Int.not_le, Bool.not_eq_true', Bool.not_eq_false'] at hq; refine SC.cond_f rfl ?_; refine SC.seq ?_ nofun; refine SC.regK ?_; refine k_mv ?_; refine k_mv ?_; refine k_bls ?_; refine k_it ?_; refine k_mv ?_; refine k_mv ?_; refine k_mv ?_; refine k_ixs ?_; refine k_i ?_; refine k_pt ?_; refine k_mv ?_; refine k_nil ?_; refine okS ?_ rfl; generalize hq : (decide ((↑(UInt8.toNat e) : Int) = 92)) = bq; cases bq
          simp only [decide_eq_true_eq, decide_eq_false_iff_not, Int.not_lt, Int.not_le, Bool.not_eq_true', Bool.not_eq_false'] at hq; refine SC.cond_f rfl ?_; refine SC.seq ?_ nofun; refine SC.regK ?_; refine k_mv ?_; refine k_mv ?_; refine k_nil ?_; refine okS ?_ rfl; refine SC.ret ?_; rotate_left; simp only [decide_eq_true_eq, decide_eq_false_iff_not, Int.not_lt, Int.not_le, Bool.not_eq_true', Bool.not_eq_false'] at hq; refine SC.cond_t rfl ?_; refine SC.regK ?_; refine k_mv ?_; refine k_cat ?_; refine k_mv ?_; refine k_nil ?_; refine okS ?_ rfl; refine SC.regK ?_; refine k_mv ?_; refine k_add ?_; refine k_mv ?_; refine k_nil ?_; refine okS ?_ rfl; rotate_left; simp only [decide_eq_true_eq, decide_eq_false_iff_not, Int.not_lt, Int.not_le, Bool.not_eq_true', Bool.not_eq_false'] at hq; refine SC.cond_t rfl ?_; refine SC.regK ?_; refine k_mv ?_; refine k_cat ?_; refine k_mv ?_; refine k_nil ?_; refine okS ?_ rfl; refine SC.regK ?_; refine k_mv ?_; refine k_add ?_; refine k_mv ?_; refine k_nil ?_; refine okS ?_ rfl; rotate_left; simp only [decide_eq_true_eq, decide_eq_false_iff_not, Int.not_lt, Int.not_le, Bool.not_eq_true', Bool.not_eq_false'] at hq; refine SC.cond_t rfl ?_; refine SC.regK ?_; refine k_mv ?_; refine k_cat ?_; refine k_mv ?_; refine k_nil ?_; refine okS ?_ rfl; refine SC.regK ?_; refine k_mv ?_; refine k_add ?_; refine k_mv ?_; refine k_nil ?_; refine okS ?_ rfl; rotate_left
        · rename_i q1 q2
          refine ⟨_, rfl, ?_, fun _ _ => rfl⟩
          simp only [u8_9, u8_10, u8_13, u8_32, u8_34, u8_44, u8_45, u8_46, u8_47, u8_58, u8_59, u8_61, u8_91, u8_92, u8_93, u8_110, u8_114, u8_116] at *
          rw [if_neg q1, if_neg q2, if_neg hq] at ha
          unfold meantV; rw [ha]; rfl
        · rename_i q1 q2
          refine ⟨_, rfl, ⟨i + 1 + 1, out ++ [92], h2, rfl, ?_, by simp; omega, rfl⟩, by simp; omega⟩
          simp only [u8_9, u8_10, u8_13, u8_32, u8_34, u8_44, u8_45, u8_46, u8_47, u8_58, u8_59, u8_61, u8_91, u8_92, u8_93, u8_110, u8_114, u8_116] at *
          rw [ha, if_neg q1, if_neg q2, if_pos hq, Option.map_map]
          congr 1; funext x; simp
        · rename_i q1
          refine ⟨_, rfl, ⟨i + 1 + 1, out ++ [13], h2, rfl, ?_, by simp; omega, rfl⟩, by simp; omega⟩
          simp only [u8_9, u8_10, u8_13, u8_32, u8_34, u8_44, u8_45, u8_46, u8_47, u8_58, u8_59, u8_61, u8_91, u8_92, u8_93, u8_110, u8_114, u8_116] at *
          rw [ha, if_neg q1, if_pos hq, Option.map_map]
          congr 1; funext x; simp
        · refine ⟨_, rfl, ⟨i + 1 + 1, out ++ [10], h2, rfl, ?_, by simp; omega, rfl⟩, by simp; omega⟩
          simp only [u8_9, u8_10, u8_13, u8_32, u8_34, u8_44, u8_45, u8_46, u8_47, u8_58, u8_59, u8_61, u8_91, u8_92, u8_93, u8_110, u8_114, u8_116] at *
          rw [ha, if_pos hq, Option.map_map]
          congr 1; funext x; simp
      · have : l.drop (i + 1) = [] := List.drop_of_length_le (by omega)
        rw [this, unesc_end] at ha
        refine SC.seq ?_ nofun; refine SC.seq ?_ nofun; refine SC.regK ?_; refine k_mv ?_; refine k_mv ?_; refine k_bls ?_; refine k_it ?_; refine k_nil ?_; refine okS ?_ rfl; refine SC.cond_t rfl ?_; refine SC.skip ?_; refine SC.seq ?_ nofun; refine SC.blk ?_; refine SC.seq ?_ nofun; refine SC.seq ?_ nofun; refine SC.regK ?_; refine k_mv ?_; refine k_mv ?_; refine k_ixs ?_; refine k_if ?_; refine k_nil ?_; refine okS ?_ rfl; refine SC.cond_f rfl ?_; refine SC.skip ?_; refine SC.seq ?_ nofun; refine SC.regK ?_; refine k_mv ?_; refine k_add ?_; refine k_mv ?_; refine k_nil ?_; refine okS ?_ rfl; refine SC.blk ?_; refine SC.seq ?_ nofun; refine SC.regK ?_; refine k_mv ?_; refine k_mv ?_; refine k_bls ?_; refine k_if ?_; refine k_mv ?_; refine k_no ?_; refine k_no ?_; refine k_no ?_; refine k_no ?_; refine k_pf ?_; refine k_mv ?_; refine k_nil ?_; refine okS ?_ rfl; refine SC.cond_f rfl ?_; refine SC.seq ?_ nofun; refine SC.regK ?_; refine k_mv ?_; refine k_mv ?_; refine k_bls ?_; refine k_if ?_; refine k_mv ?_; refine k_no ?_; refine k_no ?_; refine k_no ?_; refine k_no ?_; refine k_pf ?_; refine k_mv ?_; refine k_nil ?_; refine okS ?_ rfl; refine SC.cond_f rfl ?_; refine SC.seq ?_ nofun; refine SC.regK ?_; refine k_mv ?_; refine k_mv ?_; refine k_bls ?_; refine k_if ?_; refine k_mv ?_; refine k_no ?_; refine k_no ?_; refine k_no ?_; refine k_no ?_; refine k_pf ?_; refine k_mv ?_; refine k_nil ?_; refine okS ?_ rfl; refine SC.cond_f rfl ?_; refine SC.seq ?_ nofun; refine SC.regK ?_; refine k_mv ?_; refine k_mv ?_; refine k_nil ?_; refine okS ?_ rfl; refine SC.ret ?_
        refine ⟨_, rfl, ?_, fun _ _ => rfl⟩
        unfold meantV; rw [ha]; rfl
    · have h2 : ¬ c.toNat = 92 := fun e => h92 (UInt8.toNat_inj.1 e)
      rw [unesc_plain h92] at ha
      refine SC.seq ?_ nofun; refine SC.seq ?_ nofun; refine SC.regK ?_; refine k_mv ?_; refine k_mv ?_; refine k_bls ?_; refine k_it ?_; refine k_nil ?_; refine okS ?_ rfl; refine SC.cond_t rfl ?_; refine SC.skip ?_; refine SC.seq ?_ nofun; refine SC.blk ?_; refine SC.seq ?_ nofun; refine SC.seq ?_ nofun; refine SC.regK ?_; refine k_mv ?_; refine k_mv ?_; refine k_ixs ?_; refine k_it ?_; refine k_nil ?_; refine okS ?_ rfl; refine SC.cond_t rfl ?_; refine SC.seq ?_ nofun; refine SC.regK ?_; refine k_mv ?_; refine k_mv ?_; refine k_mv ?_; refine k_mv ?_; refine k_add ?_; refine k_slh ?_; refine k_cat ?_; refine k_mv ?_; refine k_nil ?_; refine okS ?_ rfl; refine SC.exit ?_; refine SC.regK ?_; refine k_mv ?_; refine k_add ?_; refine k_mv ?_; refine k_nil ?_; refine okS ?_ rfl
      refine ⟨_, rfl, ⟨i + 1, out ++ [c], h, ?_, ?_, by simp; omega, rfl⟩, by simp; omega⟩
      · rw [take_drop_snoc (Nat.le_refl _) hc]; simp
      · rw [ha, Option.map_map]; congr 1; funext x; simp
  · have : l.drop i = [] := List.drop_of_length_le (by omega)
    rw [this] at ha
    refine SC.seq ?_ nofun; refine SC.seq ?_ nofun; refine SC.regK ?_; refine k_mv ?_; refine k_mv ?_; refine k_bls ?_; refine k_if ?_; refine k_nil ?_; refine okS ?_ rfl; refine SC.cond_f rfl ?_; refine SC.exit ?_; refine SC.seq ?_ nofun; refine SC.regK ?_; refine k_mv ?_; refine k_mv ?_; refine k_bls ?_; refine k_i ?_; refine k_mv ?_; refine k_mv ?_; refine k_nil ?_; refine okS ?_ rfl; refine SC.ret ?_
    refine ⟨_, rfl, ?_, fun _ _ => rfl⟩
    unfold meantV
    rw [ha]; simp [unesc]
end Go.Proofs.YtpacfelhjjmmkaaDoor
end
section
set_option maxHeartbeats 20000000
namespace Go.Proofs.YtpacfelhjjmmkaaDoor
open Go Go.Sy
set_option linter.unusedVariables false
set_option linter.unusedSimpArgs false
def blk (c : UInt8) : Bool := c == 32 || c == 9
def trimR (r : List UInt8) : List UInt8 := (r.reverse.dropWhile blk).reverse
theorem while_eq {α : Type} {p : α → Bool} : ∀ {l : List α} {i : Nat}, i ≤ l.length → (∀ j c, j < i → l[j]? = some c → p c = true) → (∀ c, l[i]? = some c → p c = false) → l.takeWhile p = l.take i ∧ l.dropWhile p = l.drop i
  | [], i, h, _, _ => by simp
  | a :: l, 0, h, _, h2 => by
    have := h2 a rfl
    simp [this]
  | a :: l, i + 1, h, h1, h2 => by
    have ha := h1 0 a (by omega) rfl
    have := while_eq (l := l) (i := i) (by simpa using h) (fun j c hj hc => h1 (j + 1) c (by omega) (by simpa using hc)) (fun c hc => h2 c (by simpa using hc))
    simp [ha, this.1, this.2]
theorem trimR_eq {l : List UInt8} {i k : Nat} (hik : i ≤ k) (hk : k ≤ l.length) (h1 : ∀ j c, k ≤ j → l[j]? = some c → blk c = true) (h2 : i < k → ∀ c, l[k - 1]? = some c → blk c = false) : trimR (l.drop i) = (l.take k).drop i := by
  have e : l.drop i = (l.take k).drop i ++ l.drop k := by
    have := congrArg (List.drop i) (List.take_append_drop k l).symm
    rw [List.drop_append_of_le_length (by rw [List.length_take]; omega)] at this
    exact this
  unfold trimR
  rw [e, List.reverse_append]
  have h3 : ∀ c ∈ (l.drop k).reverse, blk c = true := by
    intro c hc
    rw [List.mem_reverse] at hc
    obtain ⟨j, hj⟩ := List.mem_iff_getElem?.1 hc
    rw [List.getElem?_drop] at hj
    exact h1 (k + j) c (by omega) hj
  have h4 : (l.drop k).reverse.dropWhile blk = [] := by
    generalize (l.drop k).reverse = r at h3
    induction r with
    | nil => rfl
    | cons a r ih => rw [List.dropWhile_cons, if_pos (h3 a (List.mem_cons_self ..))]; exact ih fun c hc => h3 c (List.mem_cons_of_mem _ hc)
  rw [List.dropWhile_append, h4]
  simp only [List.isEmpty_nil, if_true]
  rcases Nat.lt_or_ge i k with h | h
  · obtain ⟨k, rfl⟩ : ∃ q, k = q + 1 := ⟨k - 1, by omega⟩
    obtain ⟨c, hc⟩ : ∃ c, l[k]? = some c := ⟨l[k], List.getElem?_eq_getElem (by omega)⟩
    have hb := h2 h c (by simpa using hc)
    rw [take_drop_snoc (by omega) hc, List.reverse_append]
    simp [hb]
  · have : (l.take k).drop i = [] := List.drop_of_length_le (by rw [List.length_take]; omega)
    rw [this]; rfl
theorem rtrim_sc (l : List UInt8) (s : St) (hl : l.length ≤ 1000000) : SCall Tryd.prog 59 [.s l] s (.tup [.s (l.takeWhile blk), .s (trimR (l.dropWhile blk)), .s ((l.dropWhile blk).drop (trimR (l.dropWhile blk)).length)]) s := by
  obtain ⟨H, n⟩ := s
  refine SCallR.pure (SCallR.enter cc_cadenceref5_Trim ?_) (.tup (.cons .s (.cons .s (.cons .s .nil))))
  dsimp only [c_cadenceref5_Trim, argT]
  refine SC.seq ?_ nofun; refine SC.regK ?_; refine k_mv ?_; refine k_mv ?_; refine k_mv ?_; refine k_nil ?_; refine okS ?_ rfl; refine SC.seq ?_ nofun; refine SC.regK ?_; refine k_mv ?_; refine k_nil ?_; refine okS ?_ rfl; refine SC.seq ?_ nofun; refine SC.blk ?_
  refine SC.mid [0, 5] (fun vs s' => ∃ i : Nat, i ≤ l.length ∧ vs = [.s l, .i .i64 i] ∧ l.takeWhile blk = l.take i ∧ l.dropWhile blk = l.drop i ∧ s' = ⟨H, n⟩) ?_ ?_
  · rintro _ _ ⟨i, hi, rfl, ht, hd, rfl⟩
    rw [ht, hd]
    refine SC.seq ?_ nofun; refine SC.regK ?_; refine k_mv ?_; refine k_bls ?_; refine k_mv ?_; refine k_nil ?_; refine okS ?_ rfl; refine SC.seq ?_ nofun; refine SC.blk ?_
    refine SC.mid [0, 5, 6] (fun vs s' => ∃ k : Nat, i ≤ k ∧ k ≤ l.length ∧ vs = [.s l, .i .i64 i, .i .i64 k] ∧ trimR (l.drop i) = (l.take k).drop i ∧ s' = ⟨H, n⟩) ?_ ?_
    · rintro _ _ ⟨k, hik, hk, rfl, hm, rfl⟩
      refine SC.seq ?_ nofun; refine SC.dregK ?_; refine k_mv ?_; refine k_mv ?_; refine k_sl ?_; refine k_mv ?_; refine k_mv ?_; refine k_mv ?_; refine k_slh ?_; refine k_mv ?_; refine k_mv ?_; refine k_sh ?_; refine k_mv ?_; refine k_mv ?_; refine k_mv ?_; refine k_nil ?_; refine okD (ne := []) ?_ (by kernel_rfl) trivial; refine SC.ret ?_
      refine ⟨_, rfl, ?_, fun _ _ => rfl⟩
      rw [hm, List.drop_drop, List.length_drop, List.length_take, show i + (min k l.length - i) = k by omega]
    · refine SC.loop [0, 5, 6] (fun vs s' => ∃ k : Nat, i ≤ k ∧ k ≤ l.length ∧ vs = [.s l, .i .i64 i, .i .i64 k] ∧ (∀ j c, k ≤ j → l[j]? = some c → blk c = true) ∧ s' = ⟨H, n⟩) (fun vs _ => match vs with
        | [_, _, .i _ k] => k.toNat
        | _ => 0) rfl ⟨l.length, hi, Nat.le_refl _, rfl, fun j c hj hc => by have := (List.getElem?_eq_some_iff.1 hc).1; omega, rfl⟩ nofun ?_
      rintro _ _ ⟨k, hik, hk, rfl, ha, rfl⟩
      by_cases h : i < k
      · obtain ⟨k, rfl⟩ : ∃ q, k = q + 1 := ⟨k - 1, by omega⟩
        obtain ⟨c, hc⟩ : ∃ c, l[k]? = some c := ⟨l[k], List.getElem?_eq_getElem (by omega)⟩
        have hcall := fun s => blank_sc c s
        cases hb : blk c with
        | true =>
          simp only [show (c == 32 || c == 9) = true from hb] at hcall
          refine SC.seq ?_ nofun; refine SC.seq ?_ nofun; refine SC.regK ?_; refine k_mv ?_; refine k_mv ?_; refine k_it ?_; refine k_mv ?_; refine k_mv ?_; refine k_mv ?_; refine k_sub ?_; refine k_ixs ?_; refine k_call (hcall _) ?_; refine k_pt ?_; refine k_nil ?_; refine okS ?_ rfl; refine SC.cond_t rfl ?_; refine SC.skip ?_; refine SC.blk ?_; refine SC.regK ?_; refine k_mv ?_; refine k_sub ?_; refine k_mv ?_; refine k_nil ?_; refine okS ?_ rfl
          refine ⟨_, rfl, ⟨k, by omega, by omega, by rw [← natSub1 k], fun j d hj hd => ?_, rfl⟩, by simp⟩
          rcases Nat.lt_or_ge k j with h4 | h4
          · exact ha j d h4 hd
          · obtain rfl : j = k := by omega
            rw [hc] at hd; obtain rfl := Option.some.inj hd; exact hb
        | false =>
          simp only [show (c == 32 || c == 9) = false from hb] at hcall
          refine SC.seq ?_ nofun; refine SC.seq ?_ nofun; refine SC.regK ?_; refine k_mv ?_; refine k_mv ?_; refine k_it ?_; refine k_mv ?_; refine k_mv ?_; refine k_mv ?_; refine k_sub ?_; refine k_ixs ?_; refine k_call (hcall _) ?_; refine k_pt ?_; refine k_nil ?_; refine okS ?_ rfl; refine SC.cond_f rfl ?_; refine SC.exit ?_
          exact ⟨_, rfl, k + 1, hik, hk, rfl, trimR_eq hik hk ha (fun _ d hd => by rw [Nat.add_sub_cancel, hc] at hd; obtain rfl := Option.some.inj hd; exact hb), rfl⟩
      · refine SC.seq ?_ nofun; refine SC.seq ?_ nofun; refine SC.regK ?_; refine k_mv ?_; refine k_mv ?_; refine k_if ?_; refine k_mv ?_; refine k_no ?_; refine k_no ?_; refine k_no ?_; refine k_no ?_; refine k_no ?_; refine k_pf ?_; refine k_nil ?_; refine okS ?_ rfl; refine SC.cond_f rfl ?_; refine SC.exit ?_
        exact ⟨_, rfl, k, hik, hk, rfl, trimR_eq hik hk ha (fun h' => absurd h' h), rfl⟩
  · refine SC.loop [0, 5] (fun vs s' => ∃ i : Nat, i ≤ l.length ∧ vs = [.s l, .i .i64 i] ∧ (∀ j c, j < i → l[j]? = some c → blk c = true) ∧ s' = ⟨H, n⟩) (fun vs _ => match vs with
      | [_, .i _ i] => l.length - i.toNat
      | _ => 0) rfl ⟨0, Nat.zero_le _, rfl, fun j c hj => by omega, rfl⟩ nofun ?_
    rintro _ _ ⟨i, hi, rfl, ha, rfl⟩
    by_cases h : i < l.length
    · obtain ⟨c, hc⟩ : ∃ c, l[i]? = some c := ⟨l[i], List.getElem?_eq_getElem h⟩
      have hcall := fun s => blank_sc c s
      cases hb : blk c with
      | true =>
        simp only [show (c == 32 || c == 9) = true from hb] at hcall
        refine SC.seq ?_ nofun; refine SC.seq ?_ nofun; refine SC.regK ?_; refine k_mv ?_; refine k_mv ?_; refine k_bls ?_; refine k_it ?_; refine k_mv ?_; refine k_mv ?_; refine k_mv ?_; refine k_ixs ?_; refine k_call (hcall _) ?_; refine k_pt ?_; refine k_nil ?_; refine okS ?_ rfl; refine SC.cond_t rfl ?_; refine SC.skip ?_; refine SC.blk ?_; refine SC.regK ?_; refine k_mv ?_; refine k_add ?_; refine k_mv ?_; refine k_nil ?_; refine okS ?_ rfl
        refine ⟨_, rfl, ⟨i + 1, h, rfl, fun j d hj hd => ?_, rfl⟩, by simp; omega⟩
        rcases Nat.lt_or_ge j i with h4 | h4
        · exact ha j d h4 hd
        · obtain rfl : j = i := by omega
          rw [hc] at hd; obtain rfl := Option.some.inj hd; exact hb
      | false =>
        simp only [show (c == 32 || c == 9) = false from hb] at hcall
        refine SC.seq ?_ nofun; refine SC.seq ?_ nofun; refine SC.regK ?_; refine k_mv ?_; refine k_mv ?_; refine k_bls ?_; refine k_it ?_; refine k_mv ?_; refine k_mv ?_; refine k_mv ?_; refine k_ixs ?_; refine k_call (hcall _) ?_; refine k_pt ?_; refine k_nil ?_; refine okS ?_ rfl; refine SC.cond_f rfl ?_; refine SC.exit ?_
        obtain ⟨e1, e2⟩ := while_eq hi ha (fun d hd => by rw [hc] at hd; obtain rfl := Option.some.inj hd; exact hb)
        exact ⟨_, rfl, i, hi, rfl, e1, e2, rfl⟩
    · refine SC.seq ?_ nofun; refine SC.seq ?_ nofun; refine SC.regK ?_; refine k_mv ?_; refine k_mv ?_; refine k_bls ?_; refine k_if ?_; refine k_mv ?_; refine k_no ?_; refine k_no ?_; refine k_no ?_; refine k_no ?_; refine k_pf ?_; refine k_nil ?_; refine okS ?_ rfl; refine SC.cond_f rfl ?_; refine SC.exit ?_
      obtain ⟨e1, e2⟩ := while_eq hi ha (fun d hd => by have := (List.getElem?_eq_some_iff.1 hd).1; omega)
      exact ⟨_, rfl, i, hi, rfl, e1, e2, rfl⟩
end Go.Proofs.YtpacfelhjjmmkaaDoor
end
