/- The functions that the laws of this seat reach, in the plain machine's form, and that they are the loaded ones. Printed by a program of this seat's own (gencode.py). No condition of its own. -/
import Derived.Test.YtmffobmocdnpbaaProg
import Derived.Test.YtmffobmocdnpbaaAbs3
import Derived.Test.YtmffobmocdnpbaaEval
import Derived.KernelRfl
namespace Go.Proofs.Ytmffobmocdnpbaa.Abs
set_option linter.unusedVariables false
set_option maxRecDepth 100000
/-- futtock/futtocklaw17.SafePlays -/
def r3_0 : List AOper := [
  ⟨(some 4), none, (.val (.c (.b false)))⟩]
def r3_1 : List AOper := [
  ⟨(some 17), none, (.val (.t 0))⟩,
  ⟨(some 18), none, (.call 7 [(.t 17)])⟩,
  ⟨(some 16), none, (.val (.t 18))⟩,
  ⟨(some 19), none, (.ext (.t 16) 0)⟩,
  ⟨(some 20), none, (.ext (.t 16) 1)⟩,
  ⟨(some 5), none, (.val (.t 19))⟩,
  ⟨(some 6), none, (.val (.t 20))⟩]
def r3_2 : List AOper := [
  ⟨(some 22), none, (.val (.t 0))⟩,
  ⟨(some 23), none, (.call 8 [(.t 22)])⟩,
  ⟨(some 21), none, (.val (.t 23))⟩,
  ⟨(some 24), none, (.ext (.t 21) 0)⟩,
  ⟨(some 25), none, (.ext (.t 21) 1)⟩,
  ⟨(some 7), none, (.alloc [(.sl none 0 0 true 0), (.i .i64 0), (.i .i64 0)])⟩,
  ⟨none, none, (.st 3 (.t 7) (.t 24))⟩,
  ⟨(some 8), none, (.val (.t 25))⟩]
def r3_3 : List AOper := [
  ⟨(some 26), none, (.val (.t 6))⟩,
  ⟨(some 27), none, (.val (.t 8))⟩,
  ⟨(some 28), none, (.bin .neq (.t 26) (.t 27))⟩,
  ⟨(some 29), none, (.val (.t 28))⟩,
  ⟨(some 30), (some (29, false)), (.val (.t 8))⟩,
  ⟨(some 31), (some (29, false)), (.bin .neq (.t 30) (.c (.i .i64 0)))⟩,
  ⟨(some 32), none, (.pick (.t 29) (.c (.b true)) (.t 31))⟩,
  ⟨(some 33), none, (.val (.t 32))⟩,
  ⟨(some 34), (some (33, false)), (.val (.t 5))⟩,
  ⟨(some 35), (some (33, false)), (.eqn 0 false (.t 34) (.c (.p none)))⟩,
  ⟨(some 36), none, (.pick (.t 33) (.c (.b true)) (.t 35))⟩]
def r3_4 : List AOper := [
  ⟨(some 37), none, (.val (.t 6))⟩,
  ⟨(some 38), none, (.val (.t 8))⟩,
  ⟨(some 39), none, (.bin .eql (.t 37) (.t 38))⟩,
  ⟨(some 40), none, (.val (.t 39))⟩,
  ⟨(some 41), (some (40, true)), (.val (.t 5))⟩,
  ⟨(some 42), (some (40, true)), (.eqn 0 true (.t 41) (.c (.p none)))⟩,
  ⟨(some 43), (some (40, true)), (.val (.t 8))⟩,
  ⟨(some 44), (some (40, true)), (.bin .eql (.t 43) (.c (.i .i64 0)))⟩,
  ⟨(some 45), (some (40, true)), (.eqb false (.t 42) (.t 44))⟩,
  ⟨(some 46), none, (.pick (.t 40) (.t 45) (.c (.b false)))⟩,
  ⟨(some 47), none, (.val (.t 46))⟩,
  ⟨(some 48), (some (47, true)), (.call 9 [])⟩,
  ⟨(some 49), none, (.pick (.t 47) (.t 48) (.c (.b false)))⟩,
  ⟨(some 4), none, (.val (.t 49))⟩]
def r3_5 : List AOper := [
  ⟨(some 50), none, (.val (.t 1))⟩,
  ⟨(some 51), none, (.call 10 [(.t 50)])⟩,
  ⟨(some 52), none, (.len (.t 51))⟩,
  ⟨(some 53), none, (.val (.c (.i .i64 0)))⟩]
def r3_6 : List AOper := [
  ⟨(some 54), none, (.bin .lss (.t 53) (.t 52))⟩]
def r3_7 : List AOper := [
  ⟨(some 55), none, (.ia 3 (.t 51) (.t 53))⟩,
  ⟨(some 56), none, (.ld (some 3) (.t 55))⟩,
  ⟨(some 10), none, (.alloc [(.i .u8 0), (.i .i64 0), (.i .i64 0)])⟩,
  ⟨none, none, (.st 3 (.t 10) (.t 56))⟩]
def r3_8 : List AOper := [
  ⟨(some 11), none, (.val (.c (.b false)))⟩]
def r3_9 : List AOper := [
  ⟨(some 57), none, (.fa 0 (.t 10))⟩,
  ⟨(some 58), none, (.ld none (.t 57))⟩,
  ⟨(some 59), none, (.bin .rem (.t 58) (.c (.i .u8 4)))⟩]
def r3_10 : List AOper := [
  ⟨(some 73), none, (.bin .eql (.t 59) (.c (.i .u8 1)))⟩,
  ⟨(some 72), none, (.val (.t 73))⟩]
def r3_11 : List AOper := [
  ⟨(some 74), none, (.fa 1 (.t 7))⟩,
  ⟨(some 75), none, (.ld none (.t 74))⟩,
  ⟨(some 76), none, (.bin .add (.t 75) (.c (.i .i64 1)))⟩,
  ⟨(some 77), none, (.fa 1 (.t 7))⟩,
  ⟨none, none, (.st 1 (.t 77) (.t 76))⟩]
def r3_12 : List (AOper × List Nat) := [
  (⟨(some 78), none, (.val (.t 5))⟩, []),
  (⟨(some 79), none, (.call 11 [(.t 78)])⟩, []),
  (⟨(some 80), none, (.fa 1 (.t 7))⟩, []),
  (⟨(some 81), none, (.ld none (.t 80))⟩, [2]),
  (⟨(some 82), none, (.bin .eql (.t 79) (.t 81))⟩, []),
  (⟨(some 11), none, (.val (.t 82))⟩, [])]
def r3_13 : List AOper := [
  ⟨(some 84), none, (.bin .eql (.t 59) (.c (.i .u8 2)))⟩,
  ⟨(some 83), none, (.val (.t 84))⟩]
def r3_14 : List AOper := [
  ⟨(some 86), none, (.val (.t 5))⟩,
  ⟨(some 87), none, (.call 12 [(.t 86)])⟩,
  ⟨(some 85), none, (.val (.t 87))⟩,
  ⟨(some 88), none, (.ext (.t 85) 0)⟩,
  ⟨(some 89), none, (.ext (.t 85) 1)⟩,
  ⟨(some 12), none, (.val (.t 88))⟩,
  ⟨(some 13), none, (.val (.t 89))⟩]
def r3_15 : List AOper := [
  ⟨(some 91), none, (.call 13 [(.t 7)])⟩,
  ⟨(some 90), none, (.val (.t 91))⟩,
  ⟨(some 92), none, (.ext (.t 90) 0)⟩,
  ⟨(some 93), none, (.ext (.t 90) 1)⟩,
  ⟨(some 14), none, (.val (.t 92))⟩,
  ⟨(some 15), none, (.val (.t 93))⟩]
def r3_16 : List AOper := [
  ⟨(some 94), none, (.val (.t 12))⟩,
  ⟨(some 95), none, (.val (.t 14))⟩,
  ⟨(some 96), none, (.bin .eql (.t 94) (.t 95))⟩,
  ⟨(some 97), none, (.val (.t 96))⟩,
  ⟨(some 98), (some (97, true)), (.val (.t 13))⟩,
  ⟨(some 99), (some (97, true)), (.val (.t 15))⟩,
  ⟨(some 100), (some (97, true)), (.bin .eql (.t 98) (.t 99))⟩,
  ⟨(some 101), none, (.pick (.t 97) (.t 100) (.c (.b false)))⟩,
  ⟨(some 11), none, (.val (.t 101))⟩]
def r3_17 : List (AOper × List Nat) := [
  (⟨(some 60), none, (.val (.t 5))⟩, []),
  (⟨(some 61), none, (.fa 1 (.t 10))⟩, []),
  (⟨(some 62), none, (.ld none (.t 61))⟩, [1]),
  (⟨(some 63), none, (.fa 2 (.t 10))⟩, []),
  (⟨(some 64), none, (.ld none (.t 63))⟩, [1]),
  (⟨(some 65), none, (.call 14 [(.t 60), (.t 62), (.t 64)])⟩, []),
  (⟨(some 66), none, (.fa 1 (.t 10))⟩, []),
  (⟨(some 67), none, (.ld none (.t 66))⟩, [2]),
  (⟨(some 68), none, (.fa 2 (.t 10))⟩, []),
  (⟨(some 69), none, (.ld none (.t 68))⟩, [2]),
  (⟨(some 70), none, (.call 15 [(.t 7), (.t 67), (.t 69)])⟩, []),
  (⟨(some 71), none, (.bin .eql (.t 65) (.t 70))⟩, []),
  (⟨(some 11), none, (.val (.t 71))⟩, [])]
def r3_18 : List (AOper × List Nat) := [
  (⟨(some 102), none, (.val (.t 11))⟩, []),
  (⟨(some 103), none, (.un .not (.t 102))⟩, []),
  (⟨(some 104), none, (.val (.t 103))⟩, []),
  (⟨(some 105), (some (104, false)), (.val (.t 5))⟩, []),
  (⟨(some 106), (some (104, false)), (.fa 1 (.t 10))⟩, []),
  (⟨(some 107), (some (104, false)), (.ld none (.t 106))⟩, [1]),
  (⟨(some 108), (some (104, false)), (.call 16 [(.t 105), (.t 107)])⟩, []),
  (⟨(some 109), (some (104, false)), (.fa 1 (.t 10))⟩, []),
  (⟨(some 110), (some (104, false)), (.ld none (.t 109))⟩, [2]),
  (⟨(some 111), (some (104, false)), (.call 17 [(.t 7), (.t 110)])⟩, []),
  (⟨(some 112), (some (104, false)), (.bin .neq (.t 108) (.t 111))⟩, []),
  (⟨(some 113), none, (.pick (.t 104) (.c (.b true)) (.t 112))⟩, []),
  (⟨(some 114), none, (.val (.t 113))⟩, []),
  (⟨(some 115), (some (114, false)), (.val (.t 5))⟩, []),
  (⟨(some 116), (some (114, false)), (.call 18 [(.t 115)])⟩, []),
  (⟨(some 117), (some (114, false)), (.fa 1 (.t 7))⟩, []),
  (⟨(some 118), (some (114, false)), (.ld none (.t 117))⟩, [2]),
  (⟨(some 119), (some (114, false)), (.bin .gtr (.t 118) (.c (.i .i64 0)))⟩, []),
  (⟨(some 120), (some (114, false)), (.eqb true (.t 116) (.t 119))⟩, []),
  (⟨(some 121), none, (.pick (.t 114) (.c (.b true)) (.t 120))⟩, []),
  (⟨(some 122), none, (.val (.t 121))⟩, []),
  (⟨(some 123), (some (122, false)), (.val (.t 5))⟩, []),
  (⟨(some 124), (some (122, false)), (.call 19 [(.t 123)])⟩, []),
  (⟨(some 125), (some (122, false)), (.call 20 [(.t 7)])⟩, []),
  (⟨(some 126), (some (122, false)), (.eqb true (.t 124) (.t 125))⟩, []),
  (⟨(some 127), none, (.pick (.t 122) (.c (.b true)) (.t 126))⟩, []),
  (⟨(some 128), none, (.val (.t 127))⟩, []),
  (⟨(some 129), (some (128, false)), (.val (.t 5))⟩, []),
  (⟨(some 130), (some (128, false)), (.fa 1 (.t 10))⟩, []),
  (⟨(some 131), (some (128, false)), (.ld none (.t 130))⟩, [1]),
  (⟨(some 132), (some (128, false)), (.call 21 [(.t 129), (.t 131)])⟩, []),
  (⟨(some 133), (some (128, false)), (.fa 1 (.t 10))⟩, []),
  (⟨(some 134), (some (128, false)), (.ld none (.t 133))⟩, [2]),
  (⟨(some 135), (some (128, false)), (.call 22 [(.t 7), (.t 134)])⟩, []),
  (⟨(some 136), (some (128, false)), (.eqb true (.t 132) (.t 135))⟩, []),
  (⟨(some 137), none, (.pick (.t 128) (.c (.b true)) (.t 136))⟩, []),
  (⟨(some 138), none, (.val (.t 137))⟩, []),
  (⟨(some 139), (some (138, false)), (.val (.t 5))⟩, []),
  (⟨(some 140), (some (138, false)), (.call 23 [(.t 139)])⟩, []),
  (⟨(some 141), (some (138, false)), (.fa 2 (.t 7))⟩, []),
  (⟨(some 142), (some (138, false)), (.ld none (.t 141))⟩, [2]),
  (⟨(some 143), (some (138, false)), (.bin .neq (.t 140) (.t 142))⟩, []),
  (⟨(some 144), none, (.pick (.t 138) (.c (.b true)) (.t 143))⟩, [])]
def r3_19 : List AOper := [
  ⟨(some 4), none, (.val (.c (.b false)))⟩]
def r3_20 : List AOper := [
  ⟨(some 145), none, (.bin .add (.t 53) (.c (.i .i64 1)))⟩,
  ⟨(some 53), none, (.val (.t 145))⟩]
def l3_21 : ACode := (.seq (.reg r3_6) (.seq (.cond (.t 54) .skip (.exit 0)) (.seq (.block 1 (.seq (.reg r3_7) (.seq (.reg r3_8) (.seq (.seq (.reg r3_9) (.block 2 (.seq (.reg r3_10) (.cond (.t 72) (.seq (.reg r3_11) (.drw r3_12)) (.seq (.reg r3_13) (.cond (.t 83) (.seq (.reg r3_14) (.seq (.reg r3_15) (.reg r3_16))) (.drw r3_17))))))) (.seq (.drw r3_18) (.cond (.t 144) (.seq (.reg r3_19) .ret) .skip)))))) (.reg r3_20))))
def r3_22 : List AOper := [
  ⟨(some 146), none, (.call 9 [])⟩,
  ⟨(some 4), none, (.val (.t 146))⟩]
def a3 : AFun := ⟨147, [(.tmp 4)], (.seq (.reg r3_0) (.seq (.reg r3_1) (.seq (.reg r3_2) (.seq (.seq (.reg r3_3) (.cond (.t 36) (.seq (.reg r3_4) .ret) .skip)) (.seq (.seq (.reg r3_5) (.block 0 (.loop l3_21))) (.seq (.reg r3_22) .ret))))))⟩
theorem a3_ok : cfun Try.prog 3 = some a3 := by kernel_rfl
/-- futtock/futtocklaw17.SafeStands -/
def r4_0 : List AOper := [
  ⟨(some 4), none, (.val (.c (.b false)))⟩]
def r4_1 : List AOper := [
  ⟨(some 19), none, (.val (.t 0))⟩,
  ⟨(some 20), none, (.cvi .i64 (.t 19))⟩,
  ⟨(some 21), none, (.bin .rem (.t 20) (.c (.i .i64 8)))⟩,
  ⟨(some 22), none, (.bin .add (.t 21) (.c (.i .i64 1)))⟩,
  ⟨(some 5), none, (.val (.t 22))⟩]
def r4_2 : List AOper := [
  ⟨(some 24), none, (.val (.t 5))⟩,
  ⟨(some 25), none, (.call 7 [(.t 24)])⟩,
  ⟨(some 23), none, (.val (.t 25))⟩,
  ⟨(some 26), none, (.ext (.t 23) 0)⟩,
  ⟨(some 27), none, (.ext (.t 23) 1)⟩,
  ⟨(some 6), none, (.val (.t 26))⟩,
  ⟨(some 7), none, (.val (.t 27))⟩]
def r4_3 : List AOper := [
  ⟨(some 28), none, (.val (.t 6))⟩,
  ⟨(some 29), none, (.eqn 0 false (.t 28) (.c (.p none)))⟩,
  ⟨(some 30), none, (.val (.t 29))⟩,
  ⟨(some 31), (some (30, false)), (.val (.t 7))⟩,
  ⟨(some 32), (some (30, false)), (.bin .neq (.t 31) (.c (.i .i64 0)))⟩,
  ⟨(some 33), none, (.pick (.t 30) (.c (.b true)) (.t 32))⟩]
def r4_4 : List AOper := [
  ⟨(some 4), none, (.val (.c (.b false)))⟩]
def r4_5 : List AOper := [
  ⟨(some 34), none, (.val (.t 1))⟩,
  ⟨(some 35), none, (.call 10 [(.t 34)])⟩,
  ⟨(some 36), none, (.len (.t 35))⟩,
  ⟨(some 37), none, (.val (.c (.i .i64 0)))⟩]
def r4_6 : List AOper := [
  ⟨(some 38), none, (.bin .lss (.t 37) (.t 36))⟩]
def r4_7 : List AOper := [
  ⟨(some 39), none, (.ia 3 (.t 35) (.t 37))⟩,
  ⟨(some 40), none, (.ld (some 3) (.t 39))⟩,
  ⟨(some 9), none, (.alloc [(.i .u8 0), (.i .i64 0), (.i .i64 0)])⟩,
  ⟨none, none, (.st 3 (.t 9) (.t 40))⟩]
def r4_8 : List AOper := [
  ⟨(some 41), none, (.fa 1 (.t 9))⟩,
  ⟨(some 42), none, (.ld none (.t 41))⟩,
  ⟨(some 43), none, (.bin .and (.t 42) (.c (.i .i64 7)))⟩,
  ⟨(some 44), none, (.val (.t 5))⟩,
  ⟨(some 45), none, (.bin .rem (.t 43) (.t 44))⟩,
  ⟨(some 10), none, (.val (.t 45))⟩]
def r4_9 : List AOper := [
  ⟨(some 46), none, (.val (.t 6))⟩,
  ⟨(some 47), none, (.val (.t 10))⟩,
  ⟨(some 48), none, (.call 16 [(.t 46), (.t 47)])⟩,
  ⟨(some 49), none, (.val (.t 6))⟩,
  ⟨(some 50), none, (.call 18 [(.t 49)])⟩,
  ⟨(some 11), none, (.val (.t 48))⟩,
  ⟨(some 12), none, (.val (.t 50))⟩]
def r4_10 : List AOper := [
  ⟨(some 51), none, (.fa 0 (.t 9))⟩,
  ⟨(some 52), none, (.ld none (.t 51))⟩,
  ⟨(some 53), none, (.bin .rem (.t 52) (.c (.i .u8 4)))⟩,
  ⟨(some 54), none, (.bin .eql (.t 53) (.c (.i .u8 1)))⟩]
def r4_11 : List AOper := [
  ⟨(some 55), none, (.val (.t 6))⟩,
  ⟨(some 56), none, (.call 11 [(.t 55)])⟩]
def r4_12 : List AOper := [
  ⟨(some 57), none, (.val (.t 6))⟩,
  ⟨(some 58), none, (.val (.t 10))⟩,
  ⟨(some 59), none, (.fa 2 (.t 9))⟩,
  ⟨(some 60), none, (.ld none (.t 59))⟩,
  ⟨(some 61), none, (.bin .and (.t 60) (.c (.i .i64 3)))⟩,
  ⟨(some 62), none, (.call 14 [(.t 57), (.t 58), (.t 61)])⟩,
  ⟨(some 13), none, (.val (.t 62))⟩]
def r4_13 : List AOper := [
  ⟨(some 63), none, (.val (.t 12))⟩,
  ⟨(some 64), none, (.val (.t 63))⟩,
  ⟨(some 65), (some (64, true)), (.val (.t 11))⟩,
  ⟨(some 66), (some (64, true)), (.bin .eql (.t 65) (.c (.i .i64 1)))⟩,
  ⟨(some 67), none, (.pick (.t 64) (.t 66) (.c (.b false)))⟩,
  ⟨(some 68), none, (.val (.t 67))⟩,
  ⟨(some 69), (some (68, true)), (.val (.t 6))⟩,
  ⟨(some 70), (some (68, true)), (.val (.t 10))⟩,
  ⟨(some 71), (some (68, true)), (.call 16 [(.t 69), (.t 70)])⟩,
  ⟨(some 72), (some (68, true)), (.bin .eql (.t 71) (.c (.i .i64 0)))⟩,
  ⟨(some 73), (some (68, true)), (.val (.t 72))⟩,
  ⟨(some 74), (some (73, false)), (.val (.t 6))⟩,
  ⟨(some 75), (some (73, false)), (.val (.t 10))⟩,
  ⟨(some 76), (some (73, false)), (.call 21 [(.t 74), (.t 75)])⟩,
  ⟨(some 77), (some (68, true)), (.pick (.t 73) (.c (.b true)) (.t 76))⟩,
  ⟨(some 78), none, (.pick (.t 68) (.t 77) (.c (.b false)))⟩,
  ⟨(some 79), none, (.val (.t 78))⟩,
  ⟨(some 80), (some (79, false)), (.val (.t 11))⟩,
  ⟨(some 81), (some (79, false)), (.bin .eql (.t 80) (.c (.i .i64 3)))⟩,
  ⟨(some 82), (some (79, false)), (.val (.t 81))⟩,
  ⟨(some 83), (some (82, true)), (.val (.t 6))⟩,
  ⟨(some 84), (some (82, true)), (.val (.t 10))⟩,
  ⟨(some 85), (some (82, true)), (.call 16 [(.t 83), (.t 84)])⟩,
  ⟨(some 86), (some (82, true)), (.bin .neq (.t 85) (.c (.i .i64 3)))⟩,
  ⟨(some 87), (some (79, false)), (.pick (.t 82) (.t 86) (.c (.b false)))⟩,
  ⟨(some 88), none, (.pick (.t 79) (.c (.b true)) (.t 87))⟩,
  ⟨(some 89), none, (.val (.t 88))⟩,
  ⟨(some 90), (some (89, false)), (.val (.t 13))⟩,
  ⟨(some 91), (some (89, false)), (.bin .neq (.t 90) (.c (.i .i64 0)))⟩,
  ⟨(some 92), (some (89, false)), (.val (.t 91))⟩,
  ⟨(some 93), (some (92, true)), (.val (.t 6))⟩,
  ⟨(some 94), (some (92, true)), (.val (.t 10))⟩,
  ⟨(some 95), (some (92, true)), (.call 16 [(.t 93), (.t 94)])⟩,
  ⟨(some 96), (some (92, true)), (.val (.t 11))⟩,
  ⟨(some 97), (some (92, true)), (.bin .neq (.t 95) (.t 96))⟩,
  ⟨(some 98), (some (89, false)), (.pick (.t 92) (.t 97) (.c (.b false)))⟩,
  ⟨(some 99), none, (.pick (.t 89) (.c (.b true)) (.t 98))⟩]
def r4_14 : List AOper := [
  ⟨(some 4), none, (.val (.c (.b false)))⟩]
def r4_15 : List AOper := [
  ⟨(some 100), none, (.bin .add (.t 37) (.c (.i .i64 1)))⟩,
  ⟨(some 37), none, (.val (.t 100))⟩]
def l4_16 : ACode := (.seq (.reg r4_6) (.seq (.cond (.t 38) .skip (.exit 0)) (.seq (.block 1 (.seq (.reg r4_7) (.seq (.reg r4_8) (.seq (.reg r4_9) (.seq (.seq (.reg r4_10) (.cond (.t 54) (.seq (.reg r4_11) (.exit 1)) .skip)) (.seq (.reg r4_12) (.seq (.reg r4_13) (.cond (.t 99) (.seq (.reg r4_14) .ret) .skip)))))))) (.reg r4_15))))
def r4_17 : List AOper := [
  ⟨(some 101), none, (.val (.t 6))⟩,
  ⟨(some 102), none, (.call 11 [(.t 101)])⟩]
def r4_18 : List AOper := [
  ⟨(some 103), none, (.val (.t 5))⟩,
  ⟨(some 104), none, (.val (.c (.i .i64 0)))⟩]
def r4_19 : List AOper := [
  ⟨(some 105), none, (.bin .lss (.t 104) (.t 103))⟩]
def r4_20 : List AOper := [
  ⟨(some 106), none, (.val (.t 104))⟩,
  ⟨(some 14), none, (.val (.t 106))⟩]
def r4_21 : List AOper := [
  ⟨(some 107), none, (.val (.t 6))⟩,
  ⟨(some 108), none, (.val (.t 14))⟩,
  ⟨(some 109), none, (.call 16 [(.t 107), (.t 108)])⟩,
  ⟨(some 110), none, (.bin .eql (.t 109) (.c (.i .i64 0)))⟩]
def r4_22 : List AOper := [
  ⟨(some 112), none, (.val (.t 6))⟩,
  ⟨(some 113), none, (.call 12 [(.t 112)])⟩,
  ⟨(some 111), none, (.val (.t 113))⟩,
  ⟨(some 114), none, (.ext (.t 111) 0)⟩,
  ⟨(some 115), none, (.ext (.t 111) 1)⟩,
  ⟨(some 15), none, (.val (.t 114))⟩,
  ⟨(some 16), none, (.val (.t 115))⟩]
def r4_23 : List AOper := [
  ⟨(some 116), none, (.val (.t 16))⟩,
  ⟨(some 117), none, (.bin .neq (.t 116) (.c (.i .i64 9)))⟩,
  ⟨(some 118), none, (.val (.t 117))⟩,
  ⟨(some 119), (some (118, false)), (.val (.t 6))⟩,
  ⟨(some 120), (some (118, false)), (.val (.t 14))⟩,
  ⟨(some 121), (some (118, false)), (.call 14 [(.t 119), (.t 120), (.c (.i .i64 1))])⟩,
  ⟨(some 122), (some (118, false)), (.bin .neq (.t 121) (.c (.i .i64 0)))⟩,
  ⟨(some 123), none, (.pick (.t 118) (.c (.b true)) (.t 122))⟩]
def r4_24 : List AOper := [
  ⟨(some 4), none, (.val (.c (.b false)))⟩]
def r4_25 : List AOper := [
  ⟨(some 124), none, (.bin .add (.t 104) (.c (.i .i64 1)))⟩,
  ⟨(some 104), none, (.val (.t 124))⟩]
def l4_26 : ACode := (.seq (.reg r4_19) (.seq (.cond (.t 105) .skip (.exit 2)) (.seq (.block 3 (.seq (.reg r4_20) (.seq (.reg r4_21) (.cond (.t 110) (.seq (.reg r4_22) (.seq (.reg r4_23) (.cond (.t 123) (.seq (.reg r4_24) .ret) .skip))) .skip)))) (.reg r4_25))))
def r4_27 : List AOper := [
  ⟨(some 126), none, (.val (.t 6))⟩,
  ⟨(some 127), none, (.call 12 [(.t 126)])⟩,
  ⟨(some 125), none, (.val (.t 127))⟩,
  ⟨(some 128), none, (.ext (.t 125) 0)⟩,
  ⟨(some 129), none, (.ext (.t 125) 1)⟩,
  ⟨(some 17), none, (.val (.t 128))⟩,
  ⟨(some 18), none, (.val (.t 129))⟩]
def r4_28 : List AOper := [
  ⟨(some 130), none, (.val (.t 18))⟩,
  ⟨(some 131), none, (.bin .eql (.t 130) (.c (.i .i64 0)))⟩,
  ⟨(some 132), none, (.val (.t 131))⟩,
  ⟨(some 133), (some (132, true)), (.val (.t 17))⟩,
  ⟨(some 134), (some (132, true)), (.bin .geq (.t 133) (.c (.i .i64 1)))⟩,
  ⟨(some 135), none, (.pick (.t 132) (.t 134) (.c (.b false)))⟩,
  ⟨(some 136), none, (.val (.t 135))⟩,
  ⟨(some 137), (some (136, true)), (.val (.t 6))⟩,
  ⟨(some 138), (some (136, true)), (.call 18 [(.t 137)])⟩,
  ⟨(some 139), (some (136, true)), (.un .not (.t 138))⟩,
  ⟨(some 140), none, (.pick (.t 136) (.t 139) (.c (.b false)))⟩,
  ⟨(some 141), none, (.val (.t 140))⟩,
  ⟨(some 142), (some (141, true)), (.call 9 [])⟩,
  ⟨(some 143), none, (.pick (.t 141) (.t 142) (.c (.b false)))⟩,
  ⟨(some 4), none, (.val (.t 143))⟩]
def a4 : AFun := ⟨144, [(.tmp 4)], (.seq (.reg r4_0) (.seq (.reg r4_1) (.seq (.reg r4_2) (.seq (.seq (.reg r4_3) (.cond (.t 33) (.seq (.reg r4_4) .ret) .skip)) (.seq (.seq (.reg r4_5) (.block 0 (.loop l4_16))) (.seq (.reg r4_17) (.seq (.seq (.reg r4_18) (.block 2 (.loop l4_26))) (.seq (.reg r4_27) (.seq (.reg r4_28) .ret)))))))))⟩
theorem a4_ok : cfun Try.prog 4 = some a4 := by kernel_rfl
/-- futtock/futtocklaw17.SafeNobody -/
def r5_0 : List AOper := [
  ⟨(some 1), none, (.box (.t 0))⟩,
  ⟨(some 2), none, (.val (.c (.b false)))⟩]
def r5_1 : List AOper := [
  ⟨(some 7), none, (.build [(.sl none 0 0 true 0), (.i .i64 0), (.i .i64 0)] [])⟩,
  ⟨(some 8), none, (.box (.t 7))⟩,
  ⟨(some 9), none, (.bsl [(.p none)] 2 [(0, 1, (.c (.p none))), (1, 1, (.t 8))])⟩,
  ⟨(some 10), none, (.len (.t 9))⟩,
  ⟨(some 11), none, (.val (.c (.i .i64 0)))⟩]
def r5_2 : List AOper := [
  ⟨(some 12), none, (.bin .lss (.t 11) (.t 10))⟩]
def r5_3 : List AOper := [
  ⟨(some 13), none, (.ia 1 (.t 9) (.t 11))⟩,
  ⟨(some 14), none, (.ld none (.t 13))⟩,
  ⟨(some 4), none, (.val (.t 14))⟩]
def r5_4 : List AOper := [
  ⟨(some 16), none, (.val (.t 4))⟩,
  ⟨(some 17), none, (.call 12 [(.t 16)])⟩,
  ⟨(some 15), none, (.val (.t 17))⟩,
  ⟨(some 18), none, (.ext (.t 15) 0)⟩,
  ⟨(some 19), none, (.ext (.t 15) 1)⟩,
  ⟨(some 5), none, (.val (.t 18))⟩,
  ⟨(some 6), none, (.val (.t 19))⟩]
def r5_5 : List AOper := [
  ⟨(some 20), none, (.val (.t 5))⟩,
  ⟨(some 21), none, (.bin .neq (.t 20) (.c (.i .i64 0)))⟩,
  ⟨(some 22), none, (.val (.t 21))⟩,
  ⟨(some 23), (some (22, false)), (.val (.t 6))⟩,
  ⟨(some 24), (some (22, false)), (.bin .neq (.t 23) (.c (.i .i64 2)))⟩,
  ⟨(some 25), none, (.pick (.t 22) (.c (.b true)) (.t 24))⟩,
  ⟨(some 26), none, (.val (.t 25))⟩,
  ⟨(some 27), (some (26, false)), (.val (.t 4))⟩,
  ⟨(some 28), (some (26, false)), (.fa 1 (.t 1))⟩,
  ⟨(some 29), (some (26, false)), (.ld none (.t 28))⟩,
  ⟨(some 30), (some (26, false)), (.fa 2 (.t 1))⟩,
  ⟨(some 31), (some (26, false)), (.ld none (.t 30))⟩,
  ⟨(some 32), (some (26, false)), (.call 14 [(.t 27), (.t 29), (.t 31)])⟩,
  ⟨(some 33), (some (26, false)), (.bin .neq (.t 32) (.c (.i .i64 2)))⟩,
  ⟨(some 34), none, (.pick (.t 26) (.c (.b true)) (.t 33))⟩,
  ⟨(some 35), none, (.val (.t 34))⟩,
  ⟨(some 36), (some (35, false)), (.val (.t 4))⟩,
  ⟨(some 37), (some (35, false)), (.fa 1 (.t 1))⟩,
  ⟨(some 38), (some (35, false)), (.ld none (.t 37))⟩,
  ⟨(some 39), (some (35, false)), (.call 16 [(.t 36), (.t 38)])⟩,
  ⟨(some 40), (some (35, false)), (.bin .neq (.t 39) (.c (.i .i64 (-1))))⟩,
  ⟨(some 41), none, (.pick (.t 35) (.c (.b true)) (.t 40))⟩,
  ⟨(some 42), none, (.val (.t 41))⟩,
  ⟨(some 43), (some (42, false)), (.val (.t 4))⟩,
  ⟨(some 44), (some (42, false)), (.call 11 [(.t 43)])⟩,
  ⟨(some 45), (some (42, false)), (.bin .neq (.t 44) (.c (.i .i64 0)))⟩,
  ⟨(some 46), none, (.pick (.t 42) (.c (.b true)) (.t 45))⟩,
  ⟨(some 47), none, (.val (.t 46))⟩,
  ⟨(some 48), (some (47, false)), (.val (.t 4))⟩,
  ⟨(some 49), (some (47, false)), (.call 18 [(.t 48)])⟩,
  ⟨(some 50), none, (.pick (.t 47) (.c (.b true)) (.t 49))⟩,
  ⟨(some 51), none, (.val (.t 50))⟩,
  ⟨(some 52), (some (51, false)), (.val (.t 4))⟩,
  ⟨(some 53), (some (51, false)), (.call 19 [(.t 52)])⟩,
  ⟨(some 54), none, (.pick (.t 51) (.c (.b true)) (.t 53))⟩,
  ⟨(some 55), none, (.val (.t 54))⟩,
  ⟨(some 56), (some (55, false)), (.val (.t 4))⟩,
  ⟨(some 57), (some (55, false)), (.fa 1 (.t 1))⟩,
  ⟨(some 58), (some (55, false)), (.ld none (.t 57))⟩,
  ⟨(some 59), (some (55, false)), (.call 21 [(.t 56), (.t 58)])⟩,
  ⟨(some 60), none, (.pick (.t 55) (.c (.b true)) (.t 59))⟩,
  ⟨(some 61), none, (.val (.t 60))⟩,
  ⟨(some 62), (some (61, false)), (.val (.t 4))⟩,
  ⟨(some 63), (some (61, false)), (.call 23 [(.t 62)])⟩,
  ⟨(some 64), (some (61, false)), (.bin .neq (.t 63) (.c (.i .i64 0)))⟩,
  ⟨(some 65), none, (.pick (.t 61) (.c (.b true)) (.t 64))⟩]
def r5_6 : List AOper := [
  ⟨(some 2), none, (.val (.c (.b false)))⟩]
def r5_7 : List AOper := [
  ⟨(some 66), none, (.bin .add (.t 11) (.c (.i .i64 1)))⟩,
  ⟨(some 11), none, (.val (.t 66))⟩]
def l5_8 : ACode := (.seq (.reg r5_2) (.seq (.cond (.t 12) .skip (.exit 0)) (.seq (.block 1 (.seq (.reg r5_3) (.seq (.reg r5_4) (.seq (.reg r5_5) (.cond (.t 65) (.seq (.reg r5_6) .ret) .skip))))) (.reg r5_7))))
def r5_9 : List AOper := [
  ⟨(some 67), none, (.call 9 [])⟩,
  ⟨(some 2), none, (.val (.t 67))⟩]
def a5 : AFun := ⟨68, [(.tmp 2)], (.seq (.reg r5_0) (.seq (.seq (.reg r5_1) (.block 0 (.loop l5_8))) (.seq (.reg r5_9) .ret)))⟩
theorem a5_ok : cfun Try.prog 5 = some a5 := by kernel_rfl
/-- futtock/futtocklaw17.SafeRounds -/
def r6_0 : List AOper := [
  ⟨(some 4), none, (.val (.c (.b false)))⟩]
def r6_1 : List AOper := [
  ⟨(some 14), none, (.val (.t 0))⟩,
  ⟨(some 15), none, (.cvi .i64 (.t 14))⟩,
  ⟨(some 16), none, (.bin .rem (.t 15) (.c (.i .i64 8)))⟩,
  ⟨(some 17), none, (.bin .add (.t 16) (.c (.i .i64 1)))⟩,
  ⟨(some 5), none, (.val (.t 17))⟩]
def r6_2 : List AOper := [
  ⟨(some 19), none, (.val (.t 5))⟩,
  ⟨(some 20), none, (.call 7 [(.t 19)])⟩,
  ⟨(some 18), none, (.val (.t 20))⟩,
  ⟨(some 21), none, (.ext (.t 18) 0)⟩,
  ⟨(some 22), none, (.ext (.t 18) 1)⟩,
  ⟨(some 6), none, (.val (.t 21))⟩,
  ⟨(some 7), none, (.val (.t 22))⟩]
def r6_3 : List AOper := [
  ⟨(some 23), none, (.val (.t 6))⟩,
  ⟨(some 24), none, (.eqn 0 false (.t 23) (.c (.p none)))⟩,
  ⟨(some 25), none, (.val (.t 24))⟩,
  ⟨(some 26), (some (25, false)), (.val (.t 7))⟩,
  ⟨(some 27), (some (25, false)), (.bin .neq (.t 26) (.c (.i .i64 0)))⟩,
  ⟨(some 28), none, (.pick (.t 25) (.c (.b true)) (.t 27))⟩]
def r6_4 : List AOper := [
  ⟨(some 4), none, (.val (.c (.b false)))⟩]
def r6_5 : List AOper := [
  ⟨(some 8), none, (.val (.c (.i .i64 0)))⟩,
  ⟨(some 9), none, (.val (.c (.i .i64 0)))⟩]
def r6_6 : List AOper := [
  ⟨(some 29), none, (.val (.t 1))⟩,
  ⟨(some 30), none, (.call 10 [(.t 29)])⟩,
  ⟨(some 31), none, (.len (.t 30))⟩,
  ⟨(some 32), none, (.val (.c (.i .i64 0)))⟩]
def r6_7 : List AOper := [
  ⟨(some 33), none, (.bin .lss (.t 32) (.t 31))⟩]
def r6_8 : List AOper := [
  ⟨(some 34), none, (.ia 3 (.t 30) (.t 32))⟩,
  ⟨(some 35), none, (.ld (some 3) (.t 34))⟩,
  ⟨(some 11), none, (.alloc [(.i .u8 0), (.i .i64 0), (.i .i64 0)])⟩,
  ⟨none, none, (.st 3 (.t 11) (.t 35))⟩]
def r6_9 : List AOper := [
  ⟨(some 36), none, (.fa 0 (.t 11))⟩,
  ⟨(some 37), none, (.ld none (.t 36))⟩,
  ⟨(some 38), none, (.bin .rem (.t 37) (.c (.i .u8 4)))⟩]
def r6_10 : List AOper := [
  ⟨(some 50), none, (.bin .eql (.t 38) (.c (.i .u8 1)))⟩,
  ⟨(some 49), none, (.val (.t 50))⟩]
def r6_11 : List AOper := [
  ⟨(some 51), none, (.val (.t 8))⟩,
  ⟨(some 52), none, (.bin .add (.t 51) (.c (.i .i64 1)))⟩,
  ⟨(some 8), none, (.val (.t 52))⟩]
def r6_12 : List AOper := [
  ⟨(some 53), none, (.val (.t 6))⟩,
  ⟨(some 54), none, (.call 11 [(.t 53)])⟩,
  ⟨(some 55), none, (.val (.t 8))⟩,
  ⟨(some 56), none, (.bin .neq (.t 54) (.t 55))⟩]
def r6_13 : List AOper := [
  ⟨(some 4), none, (.val (.c (.b false)))⟩]
def r6_14 : List AOper := [
  ⟨(some 58), none, (.bin .eql (.t 38) (.c (.i .u8 2)))⟩,
  ⟨(some 57), none, (.val (.t 58))⟩]
def r6_15 : List AOper := [
  ⟨(some 60), none, (.val (.t 6))⟩,
  ⟨(some 61), none, (.call 12 [(.t 60)])⟩,
  ⟨(some 59), none, (.val (.t 61))⟩,
  ⟨(some 62), none, (.ext (.t 59) 0)⟩,
  ⟨(some 63), none, (.ext (.t 59) 1)⟩,
  ⟨(some 12), none, (.val (.t 62))⟩,
  ⟨(some 13), none, (.val (.t 63))⟩]
def r6_16 : List AOper := [
  ⟨(some 64), none, (.val (.t 13))⟩,
  ⟨(some 65), none, (.bin .eql (.t 64) (.c (.i .i64 0)))⟩]
def r6_17 : List AOper := [
  ⟨(some 66), none, (.val (.t 12))⟩,
  ⟨(some 67), none, (.val (.t 8))⟩,
  ⟨(some 68), none, (.bin .neq (.t 66) (.t 67))⟩,
  ⟨(some 69), none, (.val (.t 68))⟩,
  ⟨(some 70), (some (69, false)), (.val (.t 12))⟩,
  ⟨(some 71), (some (69, false)), (.bin .eql (.t 70) (.c (.i .i64 0)))⟩,
  ⟨(some 72), none, (.pick (.t 69) (.c (.b true)) (.t 71))⟩,
  ⟨(some 73), none, (.val (.t 72))⟩,
  ⟨(some 74), (some (73, false)), (.val (.t 6))⟩,
  ⟨(some 75), (some (73, false)), (.call 19 [(.t 74)])⟩,
  ⟨(some 76), (some (73, false)), (.un .not (.t 75))⟩,
  ⟨(some 77), none, (.pick (.t 73) (.c (.b true)) (.t 76))⟩]
def r6_18 : List AOper := [
  ⟨(some 4), none, (.val (.c (.b false)))⟩]
def r6_19 : List AOper := [
  ⟨(some 8), none, (.val (.c (.i .i64 0)))⟩]
def r6_20 : List AOper := [
  ⟨(some 78), none, (.val (.t 9))⟩,
  ⟨(some 79), none, (.bin .add (.t 78) (.c (.i .i64 1)))⟩,
  ⟨(some 9), none, (.val (.t 79))⟩]
def r6_21 : List AOper := [
  ⟨(some 80), none, (.val (.t 12))⟩,
  ⟨(some 81), none, (.bin .neq (.t 80) (.c (.i .i64 0)))⟩]
def r6_22 : List AOper := [
  ⟨(some 4), none, (.val (.c (.b false)))⟩]
def r6_23 : List (AOper × List Nat) := [
  (⟨(some 39), none, (.val (.t 6))⟩, []),
  (⟨(some 40), none, (.fa 1 (.t 11))⟩, []),
  (⟨(some 41), none, (.ld none (.t 40))⟩, [1]),
  (⟨(some 42), none, (.bin .and (.t 41) (.c (.i .i64 7)))⟩, []),
  (⟨(some 43), none, (.val (.t 5))⟩, []),
  (⟨(some 44), none, (.bin .rem (.t 42) (.t 43))⟩, []),
  (⟨(some 45), none, (.fa 2 (.t 11))⟩, []),
  (⟨(some 46), none, (.ld none (.t 45))⟩, [1]),
  (⟨(some 47), none, (.bin .and (.t 46) (.c (.i .i64 3)))⟩, []),
  (⟨(some 48), none, (.call 14 [(.t 39), (.t 44), (.t 47)])⟩, [])]
def r6_24 : List AOper := [
  ⟨(some 82), none, (.val (.t 6))⟩,
  ⟨(some 83), none, (.call 23 [(.t 82)])⟩,
  ⟨(some 84), none, (.val (.t 9))⟩,
  ⟨(some 85), none, (.bin .neq (.t 83) (.t 84))⟩,
  ⟨(some 86), none, (.val (.t 85))⟩,
  ⟨(some 87), (some (86, false)), (.val (.t 6))⟩,
  ⟨(some 88), (some (86, false)), (.call 18 [(.t 87)])⟩,
  ⟨(some 89), (some (86, false)), (.val (.t 8))⟩,
  ⟨(some 90), (some (86, false)), (.bin .gtr (.t 89) (.c (.i .i64 0)))⟩,
  ⟨(some 91), (some (86, false)), (.eqb true (.t 88) (.t 90))⟩,
  ⟨(some 92), none, (.pick (.t 86) (.c (.b true)) (.t 91))⟩]
def r6_25 : List AOper := [
  ⟨(some 4), none, (.val (.c (.b false)))⟩]
def r6_26 : List AOper := [
  ⟨(some 93), none, (.bin .add (.t 32) (.c (.i .i64 1)))⟩,
  ⟨(some 32), none, (.val (.t 93))⟩]
def l6_27 : ACode := (.seq (.reg r6_7) (.seq (.cond (.t 33) .skip (.exit 0)) (.seq (.block 1 (.seq (.reg r6_8) (.seq (.seq (.reg r6_9) (.block 2 (.seq (.reg r6_10) (.cond (.t 49) (.seq (.reg r6_11) (.seq (.reg r6_12) (.cond (.t 56) (.seq (.reg r6_13) .ret) .skip))) (.seq (.reg r6_14) (.cond (.t 57) (.seq (.reg r6_15) (.seq (.reg r6_16) (.cond (.t 65) (.seq (.seq (.reg r6_17) (.cond (.t 77) (.seq (.reg r6_18) .ret) .skip)) (.seq (.reg r6_19) (.reg r6_20))) (.seq (.reg r6_21) (.cond (.t 81) (.seq (.reg r6_22) .ret) .skip))))) (.drw r6_23))))))) (.seq (.reg r6_24) (.cond (.t 92) (.seq (.reg r6_25) .ret) .skip))))) (.reg r6_26))))
def r6_28 : List AOper := [
  ⟨(some 94), none, (.call 9 [])⟩,
  ⟨(some 4), none, (.val (.t 94))⟩]
def a6 : AFun := ⟨95, [(.tmp 4)], (.seq (.reg r6_0) (.seq (.reg r6_1) (.seq (.reg r6_2) (.seq (.seq (.reg r6_3) (.cond (.t 28) (.seq (.reg r6_4) .ret) .skip)) (.seq (.reg r6_5) (.seq (.seq (.reg r6_6) (.block 0 (.loop l6_27))) (.seq (.reg r6_28) .ret)))))))⟩
theorem a6_ok : cfun Try.prog 6 = some a6 := by kernel_rfl
/-- futtock/safe.New -/
def r7_0 : List AOper := [
  ⟨(some 2), none, (.val (.c (.p none)))⟩,
  ⟨(some 3), none, (.val (.c (.i .i64 0)))⟩]
def r7_1 : List AOper := [
  ⟨(some 4), none, (.val (.t 0))⟩,
  ⟨(some 5), none, (.bin .lss (.t 4) (.c (.i .i64 1)))⟩,
  ⟨(some 6), none, (.val (.t 5))⟩,
  ⟨(some 7), (some (6, false)), (.val (.t 0))⟩,
  ⟨(some 8), (some (6, false)), (.bin .gtr (.t 7) (.c (.i .i64 256)))⟩,
  ⟨(some 9), none, (.pick (.t 6) (.c (.b true)) (.t 8))⟩]
def r7_2 : List AOper := [
  ⟨(some 2), none, (.val (.c (.p none)))⟩,
  ⟨(some 3), none, (.val (.c (.i .i64 1)))⟩]
def r7_3 : List AOper := [
  ⟨(some 10), none, (.val (.t 0))⟩,
  ⟨(some 11), none, (.mks [(.i .i64 0)] 8 (.t 10) (.t 10))⟩,
  ⟨(some 12), none, (.build [(.sl none 0 0 true 0), (.i .i64 0), (.i .i64 0)] [(0, 1, (.t 11))])⟩,
  ⟨(some 13), none, (.box (.t 12))⟩,
  ⟨(some 2), none, (.val (.t 13))⟩,
  ⟨(some 3), none, (.val (.c (.i .i64 0)))⟩]
def a7 : AFun := ⟨14, [(.tmp 2), (.tmp 3)], (.seq (.reg r7_0) (.seq (.seq (.reg r7_1) (.cond (.t 9) (.seq (.reg r7_2) .ret) .skip)) (.seq (.reg r7_3) .ret)))⟩
theorem a7_ok : cfun Try.prog 7 = some a7 := by kernel_rfl
/-- futtock/futtockref17.New -/
def r8_0 : List AOper := [
  ⟨(some 2), none, (.alloc [(.sl none 0 0 true 0), (.i .i64 0), (.i .i64 0)])⟩,
  ⟨(some 3), none, (.val (.c (.i .i64 0)))⟩]
def r8_1 : List AOper := [
  ⟨(some 4), none, (.val (.t 0))⟩,
  ⟨(some 5), none, (.bin .lss (.t 4) (.c (.i .i64 1)))⟩,
  ⟨(some 6), none, (.val (.t 5))⟩,
  ⟨(some 7), (some (6, false)), (.val (.t 0))⟩,
  ⟨(some 8), (some (6, false)), (.bin .gtr (.t 7) (.c (.i .i64 256)))⟩,
  ⟨(some 9), none, (.pick (.t 6) (.c (.b true)) (.t 8))⟩]
def r8_2 : List AOper := [
  ⟨(some 10), none, (.build [(.sl none 0 0 true 0), (.i .i64 0), (.i .i64 0)] [])⟩,
  ⟨none, none, (.st 3 (.t 2) (.t 10))⟩,
  ⟨(some 3), none, (.val (.c (.i .i64 1)))⟩]
def r8_3 : List AOper := [
  ⟨(some 11), none, (.val (.t 0))⟩,
  ⟨(some 12), none, (.mks [(.i .i64 0)] 8 (.t 11) (.t 11))⟩,
  ⟨(some 13), none, (.build [(.sl none 0 0 true 0), (.i .i64 0), (.i .i64 0)] [(0, 1, (.t 12))])⟩,
  ⟨none, none, (.st 3 (.t 2) (.t 13))⟩,
  ⟨(some 3), none, (.val (.c (.i .i64 0)))⟩]
def a8 : AFun := ⟨14, [(.cell 2 (some 3)), (.tmp 3)], (.seq (.reg r8_0) (.seq (.seq (.reg r8_1) (.cond (.t 9) (.seq (.reg r8_2) .ret) .skip)) (.seq (.reg r8_3) .ret)))⟩
theorem a8_ok : cfun Try.prog 8 = some a8 := by kernel_rfl
/-- futtock/futtocklaw17.alive -/
def r9_0 : List AOper := [
  ⟨(some 0), none, (.val (.c (.b false)))⟩]
def r9_1 : List AOper := [
  ⟨(some 8), none, (.call 7 [(.c (.i .i64 2))])⟩,
  ⟨(some 7), none, (.val (.t 8))⟩,
  ⟨(some 9), none, (.ext (.t 7) 0)⟩,
  ⟨(some 10), none, (.ext (.t 7) 1)⟩,
  ⟨(some 1), none, (.val (.t 9))⟩,
  ⟨(some 2), none, (.val (.t 10))⟩]
def r9_2 : List AOper := [
  ⟨(some 11), none, (.val (.t 1))⟩,
  ⟨(some 12), none, (.eqn 0 false (.t 11) (.c (.p none)))⟩,
  ⟨(some 13), none, (.val (.t 12))⟩,
  ⟨(some 14), (some (13, false)), (.val (.t 2))⟩,
  ⟨(some 15), (some (13, false)), (.bin .neq (.t 14) (.c (.i .i64 0)))⟩,
  ⟨(some 16), none, (.pick (.t 13) (.c (.b true)) (.t 15))⟩,
  ⟨(some 17), none, (.val (.t 16))⟩,
  ⟨(some 18), (some (17, false)), (.val (.t 1))⟩,
  ⟨(some 19), (some (17, false)), (.call 11 [(.t 18)])⟩,
  ⟨(some 20), (some (17, false)), (.bin .neq (.t 19) (.c (.i .i64 1)))⟩,
  ⟨(some 21), none, (.pick (.t 17) (.c (.b true)) (.t 20))⟩]
def r9_3 : List AOper := [
  ⟨(some 0), none, (.val (.c (.b false)))⟩]
def r9_4 : List AOper := [
  ⟨(some 23), none, (.val (.t 1))⟩,
  ⟨(some 24), none, (.call 12 [(.t 23)])⟩,
  ⟨(some 22), none, (.val (.t 24))⟩,
  ⟨(some 25), none, (.ext (.t 22) 0)⟩,
  ⟨(some 26), none, (.ext (.t 22) 1)⟩,
  ⟨(some 3), none, (.val (.t 25))⟩,
  ⟨(some 4), none, (.val (.t 26))⟩]
def r9_5 : List AOper := [
  ⟨(some 27), none, (.val (.t 1))⟩,
  ⟨(some 28), none, (.call 14 [(.t 27), (.c (.i .i64 0)), (.c (.i .i64 1))])⟩]
def r9_6 : List AOper := [
  ⟨(some 29), none, (.val (.t 1))⟩,
  ⟨(some 30), none, (.call 14 [(.t 29), (.c (.i .i64 1)), (.c (.i .i64 3))])⟩]
def r9_7 : List AOper := [
  ⟨(some 32), none, (.val (.t 1))⟩,
  ⟨(some 33), none, (.call 12 [(.t 32)])⟩,
  ⟨(some 31), none, (.val (.t 33))⟩,
  ⟨(some 34), none, (.ext (.t 31) 0)⟩,
  ⟨(some 35), none, (.ext (.t 31) 1)⟩,
  ⟨(some 5), none, (.val (.t 34))⟩,
  ⟨(some 6), none, (.val (.t 35))⟩]
def r9_8 : List AOper := [
  ⟨(some 36), none, (.val (.t 4))⟩,
  ⟨(some 37), none, (.bin .eql (.t 36) (.c (.i .i64 9)))⟩,
  ⟨(some 38), none, (.val (.t 37))⟩,
  ⟨(some 39), (some (38, true)), (.val (.t 5))⟩,
  ⟨(some 40), (some (38, true)), (.bin .eql (.t 39) (.c (.i .i64 1)))⟩,
  ⟨(some 41), none, (.pick (.t 38) (.t 40) (.c (.b false)))⟩,
  ⟨(some 42), none, (.val (.t 41))⟩,
  ⟨(some 43), (some (42, true)), (.val (.t 6))⟩,
  ⟨(some 44), (some (42, true)), (.bin .eql (.t 43) (.c (.i .i64 0)))⟩,
  ⟨(some 45), none, (.pick (.t 42) (.t 44) (.c (.b false)))⟩,
  ⟨(some 46), none, (.val (.t 45))⟩,
  ⟨(some 47), (some (46, true)), (.val (.t 1))⟩,
  ⟨(some 48), (some (46, true)), (.call 23 [(.t 47)])⟩,
  ⟨(some 49), (some (46, true)), (.bin .eql (.t 48) (.c (.i .i64 1)))⟩,
  ⟨(some 50), none, (.pick (.t 46) (.t 49) (.c (.b false)))⟩,
  ⟨(some 51), none, (.val (.t 50))⟩,
  ⟨(some 52), (some (51, true)), (.val (.t 1))⟩,
  ⟨(some 53), (some (51, true)), (.call 21 [(.t 52), (.c (.i .i64 0))])⟩,
  ⟨(some 54), none, (.pick (.t 51) (.t 53) (.c (.b false)))⟩,
  ⟨(some 55), none, (.val (.t 54))⟩,
  ⟨(some 56), (some (55, true)), (.val (.t 1))⟩,
  ⟨(some 57), (some (55, true)), (.call 21 [(.t 56), (.c (.i .i64 1))])⟩,
  ⟨(some 58), (some (55, true)), (.un .not (.t 57))⟩,
  ⟨(some 59), none, (.pick (.t 55) (.t 58) (.c (.b false)))⟩,
  ⟨(some 0), none, (.val (.t 59))⟩]
def a9 : AFun := ⟨60, [(.tmp 0)], (.seq (.reg r9_0) (.seq (.reg r9_1) (.seq (.seq (.reg r9_2) (.cond (.t 21) (.seq (.reg r9_3) .ret) .skip)) (.seq (.reg r9_4) (.seq (.reg r9_5) (.seq (.reg r9_6) (.seq (.reg r9_7) (.seq (.reg r9_8) .ret))))))))⟩
theorem a9_ok : cfun Try.prog 9 = some a9 := by kernel_rfl
/-- futtock/futtocklaw17.short -/
def r10_0 : List AOper := [
  ⟨(some 2), none, (.val (.c (.sl none 0 0 true 0)))⟩]
def r10_1 : List AOper := [
  ⟨(some 3), none, (.val (.t 0))⟩,
  ⟨(some 4), none, (.val (.t 0))⟩,
  ⟨(some 5), none, (.len (.t 4))⟩,
  ⟨(some 6), none, (.mm false [(.t 5), (.c (.i .i64 300))])⟩,
  ⟨(some 7), none, (.sls 3 (.t 3) none (some (.t 6)) none)⟩,
  ⟨(some 2), none, (.val (.t 7))⟩]
def a10 : AFun := ⟨8, [(.tmp 2)], (.seq (.reg r10_0) (.seq (.reg r10_1) .ret))⟩
theorem a10_ok : cfun Try.prog 10 = some a10 := by kernel_rfl
/-- (*futtock/safe.Meet).Request -/
def r11_0 : List AOper := [
  ⟨(some 2), none, (.val (.c (.i .i64 0)))⟩]
def r11_1 : List AOper := [
  ⟨(some 3), none, (.val (.t 0))⟩,
  ⟨(some 4), none, (.call 24 [(.t 3)])⟩,
  ⟨(some 5), none, (.un .not (.t 4))⟩]
def r11_2 : List AOper := [
  ⟨(some 2), none, (.val (.c (.i .i64 0)))⟩]
def r11_3 : List AOper := [
  ⟨(some 6), none, (.val (.t 0))⟩,
  ⟨(some 7), none, (.val (.t 0))⟩,
  ⟨(some 8), none, (.nilc (.t 7))⟩,
  ⟨(some 9), none, (.fa 1 (.t 8))⟩,
  ⟨(some 10), none, (.ld none (.t 9))⟩,
  ⟨(some 11), none, (.bin .add (.t 10) (.c (.i .i64 1)))⟩,
  ⟨(some 12), none, (.mm false [(.t 11), (.c (.i .i64 2147483647))])⟩,
  ⟨(some 13), none, (.nilc (.t 6))⟩,
  ⟨(some 14), none, (.fa 1 (.t 13))⟩,
  ⟨none, none, (.st 1 (.t 14) (.t 12))⟩]
def r11_4 : List AOper := [
  ⟨(some 15), none, (.val (.t 0))⟩,
  ⟨(some 16), none, (.nilc (.t 15))⟩,
  ⟨(some 17), none, (.fa 1 (.t 16))⟩,
  ⟨(some 18), none, (.ld none (.t 17))⟩,
  ⟨(some 2), none, (.val (.t 18))⟩]
def a11 : AFun := ⟨19, [(.tmp 2)], (.seq (.reg r11_0) (.seq (.seq (.reg r11_1) (.cond (.t 5) (.seq (.reg r11_2) .ret) .skip)) (.seq (.reg r11_3) (.seq (.reg r11_4) .ret))))⟩
theorem a11_ok : cfun Try.prog 11 = some a11 := by kernel_rfl
/-- (*futtock/safe.Meet).Done -/
def r12_0 : List AOper := [
  ⟨(some 2), none, (.val (.c (.i .i64 0)))⟩,
  ⟨(some 3), none, (.val (.c (.i .i64 0)))⟩]
def r12_1 : List AOper := [
  ⟨(some 6), none, (.val (.t 0))⟩,
  ⟨(some 7), none, (.call 24 [(.t 6)])⟩,
  ⟨(some 8), none, (.un .not (.t 7))⟩,
  ⟨(some 5), none, (.val (.t 8))⟩]
def r12_2 : List AOper := [
  ⟨(some 2), none, (.val (.c (.i .i64 0)))⟩,
  ⟨(some 3), none, (.val (.c (.i .i64 2)))⟩]
def r12_3 : List AOper := [
  ⟨(some 10), none, (.val (.t 0))⟩,
  ⟨(some 11), none, (.call 18 [(.t 10)])⟩,
  ⟨(some 12), none, (.un .not (.t 11))⟩,
  ⟨(some 13), none, (.val (.t 12))⟩,
  ⟨(some 14), (some (13, false)), (.val (.t 0))⟩,
  ⟨(some 15), (some (13, false)), (.call 19 [(.t 14)])⟩,
  ⟨(some 16), (some (13, false)), (.un .not (.t 15))⟩,
  ⟨(some 17), none, (.pick (.t 13) (.c (.b true)) (.t 16))⟩,
  ⟨(some 9), none, (.val (.t 17))⟩]
def r12_4 : List AOper := [
  ⟨(some 2), none, (.val (.c (.i .i64 0)))⟩,
  ⟨(some 3), none, (.val (.c (.i .i64 9)))⟩]
def r12_5 : List AOper := [
  ⟨(some 18), none, (.val (.t 0))⟩,
  ⟨(some 19), none, (.nilc (.t 18))⟩,
  ⟨(some 20), none, (.fa 1 (.t 19))⟩,
  ⟨(some 21), none, (.ld none (.t 20))⟩,
  ⟨(some 4), none, (.val (.t 21))⟩]
def r12_6 : List AOper := [
  ⟨(some 22), none, (.val (.t 0))⟩,
  ⟨(some 23), none, (.nilc (.t 22))⟩,
  ⟨(some 24), none, (.fa 1 (.t 23))⟩,
  ⟨none, none, (.st 1 (.t 24) (.c (.i .i64 0)))⟩]
def r12_7 : List AOper := [
  ⟨(some 25), none, (.val (.t 0))⟩,
  ⟨(some 26), none, (.val (.t 0))⟩,
  ⟨(some 27), none, (.nilc (.t 26))⟩,
  ⟨(some 28), none, (.fa 2 (.t 27))⟩,
  ⟨(some 29), none, (.ld none (.t 28))⟩,
  ⟨(some 30), none, (.bin .add (.t 29) (.c (.i .i64 1)))⟩,
  ⟨(some 31), none, (.mm false [(.t 30), (.c (.i .i64 2147483647))])⟩,
  ⟨(some 32), none, (.nilc (.t 25))⟩,
  ⟨(some 33), none, (.fa 2 (.t 32))⟩,
  ⟨none, none, (.st 1 (.t 33) (.t 31))⟩]
def r12_8 : List AOper := [
  ⟨(some 34), none, (.val (.t 4))⟩,
  ⟨(some 2), none, (.val (.t 34))⟩,
  ⟨(some 3), none, (.val (.c (.i .i64 0)))⟩]
def a12 : AFun := ⟨35, [(.tmp 2), (.tmp 3)], (.seq (.reg r12_0) (.seq (.block 0 (.seq (.reg r12_1) (.cond (.t 5) (.seq (.reg r12_2) .ret) (.seq (.reg r12_3) (.cond (.t 9) (.seq (.reg r12_4) .ret) .skip))))) (.seq (.reg r12_5) (.seq (.reg r12_6) (.seq (.reg r12_7) (.seq (.reg r12_8) .ret))))))⟩
theorem a12_ok : cfun Try.prog 12 = some a12 := by kernel_rfl
/-- (*futtock/futtockref17.Meet).Done -/
def r13_0 : List AOper := [
  ⟨(some 2), none, (.val (.c (.i .i64 0)))⟩,
  ⟨(some 3), none, (.val (.c (.i .i64 0)))⟩]
def r13_1 : List AOper := [
  ⟨(some 5), none, (.val (.t 0))⟩,
  ⟨(some 6), none, (.nilc (.t 5))⟩,
  ⟨(some 7), none, (.fa 1 (.t 6))⟩,
  ⟨(some 8), none, (.ld none (.t 7))⟩,
  ⟨(some 9), none, (.bin .eql (.t 8) (.c (.i .i64 0)))⟩,
  ⟨(some 10), none, (.val (.t 9))⟩,
  ⟨(some 11), (some (10, false)), (.val (.t 0))⟩,
  ⟨(some 12), (some (10, false)), (.call 20 [(.t 11)])⟩,
  ⟨(some 13), (some (10, false)), (.un .not (.t 12))⟩,
  ⟨(some 14), none, (.pick (.t 10) (.c (.b true)) (.t 13))⟩]
def r13_2 : List AOper := [
  ⟨(some 2), none, (.val (.c (.i .i64 0)))⟩,
  ⟨(some 3), none, (.val (.c (.i .i64 9)))⟩]
def r13_3 : List AOper := [
  ⟨(some 15), none, (.val (.t 0))⟩,
  ⟨(some 16), none, (.nilc (.t 15))⟩,
  ⟨(some 17), none, (.fa 1 (.t 16))⟩,
  ⟨(some 18), none, (.ld none (.t 17))⟩,
  ⟨(some 4), none, (.val (.t 18))⟩]
def r13_4 : List AOper := [
  ⟨(some 19), none, (.val (.t 0))⟩,
  ⟨(some 20), none, (.nilc (.t 19))⟩,
  ⟨(some 21), none, (.fa 1 (.t 20))⟩,
  ⟨none, none, (.st 1 (.t 21) (.c (.i .i64 0)))⟩]
def r13_5 : List AOper := [
  ⟨(some 22), none, (.val (.t 0))⟩,
  ⟨(some 23), none, (.val (.t 0))⟩,
  ⟨(some 24), none, (.nilc (.t 23))⟩,
  ⟨(some 25), none, (.fa 2 (.t 24))⟩,
  ⟨(some 26), none, (.ld none (.t 25))⟩,
  ⟨(some 27), none, (.bin .add (.t 26) (.c (.i .i64 1)))⟩,
  ⟨(some 28), none, (.mm false [(.t 27), (.c (.i .i64 2147483647))])⟩,
  ⟨(some 29), none, (.nilc (.t 22))⟩,
  ⟨(some 30), none, (.fa 2 (.t 29))⟩,
  ⟨none, none, (.st 1 (.t 30) (.t 28))⟩]
def r13_6 : List AOper := [
  ⟨(some 31), none, (.val (.t 4))⟩,
  ⟨(some 2), none, (.val (.t 31))⟩,
  ⟨(some 3), none, (.val (.c (.i .i64 0)))⟩]
def a13 : AFun := ⟨32, [(.tmp 2), (.tmp 3)], (.seq (.reg r13_0) (.seq (.seq (.reg r13_1) (.cond (.t 14) (.seq (.reg r13_2) .ret) .skip)) (.seq (.reg r13_3) (.seq (.reg r13_4) (.seq (.reg r13_5) (.seq (.reg r13_6) .ret))))))⟩
theorem a13_ok : cfun Try.prog 13 = some a13 := by kernel_rfl
/-- (*futtock/safe.Meet).Put -/
def r14_0 : List AOper := [
  ⟨(some 6), none, (.val (.c (.i .i64 0)))⟩]
def r14_1 : List AOper := [
  ⟨(some 8), none, (.val (.t 0))⟩,
  ⟨(some 9), none, (.val (.t 1))⟩,
  ⟨(some 10), none, (.call 16 [(.t 8), (.t 9)])⟩,
  ⟨(some 7), none, (.val (.t 10))⟩]
def r14_2 : List AOper := [
  ⟨(some 12), none, (.val (.t 0))⟩,
  ⟨(some 13), none, (.call 24 [(.t 12)])⟩,
  ⟨(some 14), none, (.un .not (.t 13))⟩,
  ⟨(some 11), none, (.val (.t 14))⟩]
def r14_3 : List AOper := [
  ⟨(some 6), none, (.val (.c (.i .i64 2)))⟩]
def r14_4 : List AOper := [
  ⟨(some 16), none, (.val (.t 7))⟩,
  ⟨(some 17), none, (.bin .lss (.t 16) (.c (.i .i64 0)))⟩,
  ⟨(some 18), none, (.val (.t 17))⟩,
  ⟨(some 19), (some (18, false)), (.val (.t 2))⟩,
  ⟨(some 20), (some (18, false)), (.bin .lss (.t 19) (.c (.i .i64 0)))⟩,
  ⟨(some 21), none, (.pick (.t 18) (.c (.b true)) (.t 20))⟩,
  ⟨(some 22), none, (.val (.t 21))⟩,
  ⟨(some 23), (some (22, false)), (.val (.t 2))⟩,
  ⟨(some 24), (some (22, false)), (.bin .gtr (.t 23) (.c (.i .i64 3)))⟩,
  ⟨(some 25), none, (.pick (.t 22) (.c (.b true)) (.t 24))⟩,
  ⟨(some 15), none, (.val (.t 25))⟩]
def r14_5 : List AOper := [
  ⟨(some 6), none, (.val (.c (.i .i64 1)))⟩]
def r14_6 : List AOper := [
  ⟨(some 27), none, (.val (.t 7))⟩,
  ⟨(some 28), none, (.bin .eql (.t 27) (.c (.i .i64 3)))⟩,
  ⟨(some 29), none, (.val (.t 28))⟩,
  ⟨(some 30), (some (29, true)), (.val (.t 2))⟩,
  ⟨(some 31), (some (29, true)), (.bin .neq (.t 30) (.c (.i .i64 3)))⟩,
  ⟨(some 32), none, (.pick (.t 29) (.t 31) (.c (.b false)))⟩,
  ⟨(some 26), none, (.val (.t 32))⟩]
def r14_7 : List AOper := [
  ⟨(some 33), none, (.val (.t 0))⟩,
  ⟨(some 34), none, (.call 18 [(.t 33)])⟩,
  ⟨(some 35), none, (.val (.t 34))⟩,
  ⟨(some 36), (some (35, true)), (.val (.t 7))⟩,
  ⟨(some 37), (some (35, true)), (.bin .eql (.t 36) (.c (.i .i64 1)))⟩,
  ⟨(some 38), none, (.pick (.t 35) (.t 37) (.c (.b false)))⟩,
  ⟨(some 39), none, (.val (.t 38))⟩,
  ⟨(some 40), (some (39, true)), (.val (.t 2))⟩,
  ⟨(some 41), (some (39, true)), (.bin .eql (.t 40) (.c (.i .i64 0)))⟩,
  ⟨(some 42), none, (.pick (.t 39) (.t 41) (.c (.b false)))⟩,
  ⟨(some 26), none, (.val (.t 42))⟩]
def r14_8 : List AOper := [
  ⟨(some 6), none, (.val (.c (.i .i64 9)))⟩]
def r14_9 : List AOper := [
  ⟨(some 43), none, (.val (.t 0))⟩,
  ⟨(some 44), none, (.nilc (.t 43))⟩,
  ⟨(some 45), none, (.fa 0 (.t 44))⟩,
  ⟨(some 46), none, (.ld none (.t 45))⟩,
  ⟨(some 47), none, (.val (.t 1))⟩,
  ⟨(some 48), none, (.val (.t 2))⟩,
  ⟨(some 49), none, (.ia 1 (.t 46) (.t 47))⟩,
  ⟨none, none, (.st 1 (.t 49) (.t 48))⟩]
def r14_10 : List AOper := [
  ⟨(some 6), none, (.val (.c (.i .i64 0)))⟩]
def a14 : AFun := ⟨50, [(.tmp 6)], (.seq (.reg r14_0) (.seq (.reg r14_1) (.seq (.block 0 (.seq (.reg r14_2) (.cond (.t 11) (.seq (.reg r14_3) .ret) (.seq (.reg r14_4) (.cond (.t 15) (.seq (.reg r14_5) .ret) (.seq (.seq (.reg r14_6) (.cond (.t 26) .skip (.reg r14_7))) (.cond (.t 26) (.seq (.reg r14_8) .ret) .skip))))))) (.seq (.reg r14_9) (.seq (.reg r14_10) .ret)))))⟩
theorem a14_ok : cfun Try.prog 14 = some a14 := by kernel_rfl
/-- (*futtock/futtockref17.Meet).Put -/
def r15_0 : List AOper := [
  ⟨(some 6), none, (.val (.c (.i .i64 0)))⟩]
def r15_1 : List AOper := [
  ⟨(some 8), none, (.val (.t 0))⟩,
  ⟨(some 9), none, (.val (.t 1))⟩,
  ⟨(some 10), none, (.call 17 [(.t 8), (.t 9)])⟩,
  ⟨(some 7), none, (.val (.t 10))⟩]
def r15_2 : List AOper := [
  ⟨(some 11), none, (.val (.t 7))⟩,
  ⟨(some 12), none, (.bin .lss (.t 11) (.c (.i .i64 0)))⟩,
  ⟨(some 13), none, (.val (.t 12))⟩,
  ⟨(some 14), (some (13, false)), (.val (.t 2))⟩,
  ⟨(some 15), (some (13, false)), (.bin .lss (.t 14) (.c (.i .i64 0)))⟩,
  ⟨(some 16), none, (.pick (.t 13) (.c (.b true)) (.t 15))⟩,
  ⟨(some 17), none, (.val (.t 16))⟩,
  ⟨(some 18), (some (17, false)), (.val (.t 2))⟩,
  ⟨(some 19), (some (17, false)), (.bin .gtr (.t 18) (.c (.i .i64 3)))⟩,
  ⟨(some 20), none, (.pick (.t 17) (.c (.b true)) (.t 19))⟩]
def r15_3 : List AOper := [
  ⟨(some 6), none, (.val (.c (.i .i64 1)))⟩]
def r15_4 : List AOper := [
  ⟨(some 21), none, (.val (.t 7))⟩,
  ⟨(some 22), none, (.bin .eql (.t 21) (.c (.i .i64 3)))⟩,
  ⟨(some 23), none, (.val (.t 22))⟩,
  ⟨(some 24), (some (23, true)), (.val (.t 2))⟩,
  ⟨(some 25), (some (23, true)), (.bin .neq (.t 24) (.c (.i .i64 3)))⟩,
  ⟨(some 26), none, (.pick (.t 23) (.t 25) (.c (.b false)))⟩,
  ⟨(some 27), none, (.val (.t 26))⟩,
  ⟨(some 28), (some (27, false)), (.val (.t 0))⟩,
  ⟨(some 29), (some (27, false)), (.nilc (.t 28))⟩,
  ⟨(some 30), (some (27, false)), (.fa 1 (.t 29))⟩,
  ⟨(some 31), (some (27, false)), (.ld none (.t 30))⟩,
  ⟨(some 32), (some (27, false)), (.bin .gtr (.t 31) (.c (.i .i64 0)))⟩,
  ⟨(some 33), (some (27, false)), (.val (.t 32))⟩,
  ⟨(some 34), (some (33, true)), (.val (.t 7))⟩,
  ⟨(some 35), (some (33, true)), (.bin .eql (.t 34) (.c (.i .i64 1)))⟩,
  ⟨(some 36), (some (27, false)), (.pick (.t 33) (.t 35) (.c (.b false)))⟩,
  ⟨(some 37), (some (27, false)), (.val (.t 36))⟩,
  ⟨(some 38), (some (37, true)), (.val (.t 2))⟩,
  ⟨(some 39), (some (37, true)), (.bin .eql (.t 38) (.c (.i .i64 0)))⟩,
  ⟨(some 40), (some (27, false)), (.pick (.t 37) (.t 39) (.c (.b false)))⟩,
  ⟨(some 41), none, (.pick (.t 27) (.c (.b true)) (.t 40))⟩]
def r15_5 : List AOper := [
  ⟨(some 6), none, (.val (.c (.i .i64 9)))⟩]
def r15_6 : List AOper := [
  ⟨(some 42), none, (.val (.t 0))⟩,
  ⟨(some 43), none, (.nilc (.t 42))⟩,
  ⟨(some 44), none, (.fa 0 (.t 43))⟩,
  ⟨(some 45), none, (.ld none (.t 44))⟩,
  ⟨(some 46), none, (.val (.t 1))⟩,
  ⟨(some 47), none, (.val (.t 2))⟩,
  ⟨(some 48), none, (.ia 1 (.t 45) (.t 46))⟩,
  ⟨none, none, (.st 1 (.t 48) (.t 47))⟩]
def r15_7 : List AOper := [
  ⟨(some 6), none, (.val (.c (.i .i64 0)))⟩]
def a15 : AFun := ⟨49, [(.tmp 6)], (.seq (.reg r15_0) (.seq (.reg r15_1) (.seq (.seq (.reg r15_2) (.cond (.t 20) (.seq (.reg r15_3) .ret) .skip)) (.seq (.seq (.reg r15_4) (.cond (.t 41) (.seq (.reg r15_5) .ret) .skip)) (.seq (.reg r15_6) (.seq (.reg r15_7) .ret))))))⟩
theorem a15_ok : cfun Try.prog 15 = some a15 := by kernel_rfl
/-- (*futtock/safe.Meet).State -/
def r16_0 : List AOper := [
  ⟨(some 4), none, (.val (.c (.i .i64 0)))⟩]
def r16_1 : List AOper := [
  ⟨(some 5), none, (.val (.t 0))⟩,
  ⟨(some 6), none, (.call 24 [(.t 5)])⟩,
  ⟨(some 7), none, (.un .not (.t 6))⟩,
  ⟨(some 8), none, (.val (.t 7))⟩,
  ⟨(some 9), (some (8, false)), (.val (.t 1))⟩,
  ⟨(some 10), (some (8, false)), (.bin .lss (.t 9) (.c (.i .i64 0)))⟩,
  ⟨(some 11), none, (.pick (.t 8) (.c (.b true)) (.t 10))⟩,
  ⟨(some 12), none, (.val (.t 11))⟩,
  ⟨(some 13), (some (12, false)), (.val (.t 1))⟩,
  ⟨(some 14), (some (12, false)), (.val (.t 0))⟩,
  ⟨(some 15), (some (12, false)), (.nilc (.t 14))⟩,
  ⟨(some 16), (some (12, false)), (.fa 0 (.t 15))⟩,
  ⟨(some 17), (some (12, false)), (.ld none (.t 16))⟩,
  ⟨(some 18), (some (12, false)), (.len (.t 17))⟩,
  ⟨(some 19), (some (12, false)), (.bin .geq (.t 13) (.t 18))⟩,
  ⟨(some 20), none, (.pick (.t 12) (.c (.b true)) (.t 19))⟩]
def r16_2 : List AOper := [
  ⟨(some 4), none, (.val (.c (.i .i64 (-1))))⟩]
def r16_3 : List AOper := [
  ⟨(some 21), none, (.val (.t 0))⟩,
  ⟨(some 22), none, (.nilc (.t 21))⟩,
  ⟨(some 23), none, (.fa 0 (.t 22))⟩,
  ⟨(some 24), none, (.ld none (.t 23))⟩,
  ⟨(some 25), none, (.val (.t 1))⟩,
  ⟨(some 26), none, (.ia 1 (.t 24) (.t 25))⟩,
  ⟨(some 27), none, (.ld none (.t 26))⟩,
  ⟨(some 4), none, (.val (.t 27))⟩]
def a16 : AFun := ⟨28, [(.tmp 4)], (.seq (.reg r16_0) (.seq (.seq (.reg r16_1) (.cond (.t 20) (.seq (.reg r16_2) .ret) .skip)) (.seq (.reg r16_3) .ret)))⟩
theorem a16_ok : cfun Try.prog 16 = some a16 := by kernel_rfl
/-- (*futtock/futtockref17.Meet).State -/
def r17_0 : List AOper := [
  ⟨(some 4), none, (.val (.c (.i .i64 0)))⟩]
def r17_1 : List AOper := [
  ⟨(some 5), none, (.val (.t 1))⟩,
  ⟨(some 6), none, (.bin .lss (.t 5) (.c (.i .i64 0)))⟩,
  ⟨(some 7), none, (.val (.t 6))⟩,
  ⟨(some 8), (some (7, false)), (.val (.t 1))⟩,
  ⟨(some 9), (some (7, false)), (.val (.t 0))⟩,
  ⟨(some 10), (some (7, false)), (.nilc (.t 9))⟩,
  ⟨(some 11), (some (7, false)), (.fa 0 (.t 10))⟩,
  ⟨(some 12), (some (7, false)), (.ld none (.t 11))⟩,
  ⟨(some 13), (some (7, false)), (.len (.t 12))⟩,
  ⟨(some 14), (some (7, false)), (.bin .geq (.t 8) (.t 13))⟩,
  ⟨(some 15), none, (.pick (.t 7) (.c (.b true)) (.t 14))⟩]
def r17_2 : List AOper := [
  ⟨(some 4), none, (.val (.c (.i .i64 (-1))))⟩]
def r17_3 : List AOper := [
  ⟨(some 16), none, (.val (.t 0))⟩,
  ⟨(some 17), none, (.nilc (.t 16))⟩,
  ⟨(some 18), none, (.fa 0 (.t 17))⟩,
  ⟨(some 19), none, (.ld none (.t 18))⟩,
  ⟨(some 20), none, (.val (.t 1))⟩,
  ⟨(some 21), none, (.ia 1 (.t 19) (.t 20))⟩,
  ⟨(some 22), none, (.ld none (.t 21))⟩,
  ⟨(some 4), none, (.val (.t 22))⟩]
def a17 : AFun := ⟨23, [(.tmp 4)], (.seq (.reg r17_0) (.seq (.seq (.reg r17_1) (.cond (.t 15) (.seq (.reg r17_2) .ret) .skip)) (.seq (.reg r17_3) .ret)))⟩
theorem a17_ok : cfun Try.prog 17 = some a17 := by kernel_rfl
/-- (*futtock/safe.Meet).Wanted -/
def r18_0 : List AOper := [
  ⟨(some 2), none, (.val (.c (.b false)))⟩]
def r18_1 : List AOper := [
  ⟨(some 3), none, (.val (.t 0))⟩,
  ⟨(some 4), none, (.call 24 [(.t 3)])⟩,
  ⟨(some 5), none, (.val (.t 4))⟩,
  ⟨(some 6), (some (5, true)), (.val (.t 0))⟩,
  ⟨(some 7), (some (5, true)), (.nilc (.t 6))⟩,
  ⟨(some 8), (some (5, true)), (.fa 1 (.t 7))⟩,
  ⟨(some 9), (some (5, true)), (.ld none (.t 8))⟩,
  ⟨(some 10), (some (5, true)), (.bin .gtr (.t 9) (.c (.i .i64 0)))⟩,
  ⟨(some 11), none, (.pick (.t 5) (.t 10) (.c (.b false)))⟩,
  ⟨(some 2), none, (.val (.t 11))⟩]
def a18 : AFun := ⟨12, [(.tmp 2)], (.seq (.reg r18_0) (.seq (.reg r18_1) .ret))⟩
theorem a18_ok : cfun Try.prog 18 = some a18 := by kernel_rfl
/-- (*futtock/safe.Meet).Still -/
def r19_0 : List AOper := [
  ⟨(some 2), none, (.val (.c (.b false)))⟩]
def r19_1 : List AOper := [
  ⟨(some 3), none, (.val (.c (.fn (.func 25) [] [])))⟩]
def r19_2 : List AOper := [
  ⟨(some 4), none, (.val (.t 0))⟩,
  ⟨(some 5), none, (.call 24 [(.t 4)])⟩,
  ⟨(some 6), none, (.val (.t 5))⟩,
  ⟨(some 7), (some (6, true)), (.val (.t 0))⟩,
  ⟨(some 8), (some (6, true)), (.nilc (.t 7))⟩,
  ⟨(some 9), (some (6, true)), (.fa 0 (.t 8))⟩,
  ⟨(some 10), (some (6, true)), (.ld none (.t 9))⟩,
  ⟨(some 11), (some (6, true)), (.val (.t 3))⟩,
  ⟨(some 12), (some (6, true)), (.call 26 [(.t 10), (.t 11)])⟩,
  ⟨(some 13), (some (6, true)), (.un .not (.t 12))⟩,
  ⟨(some 14), none, (.pick (.t 6) (.t 13) (.c (.b false)))⟩,
  ⟨(some 2), none, (.val (.t 14))⟩]
def a19 : AFun := ⟨15, [(.tmp 2)], (.seq (.reg r19_0) (.seq (.reg r19_1) (.seq (.reg r19_2) .ret)))⟩
theorem a19_ok : cfun Try.prog 19 = some a19 := by kernel_rfl
/-- (*futtock/futtockref17.Meet).Still -/
def r20_0 : List AOper := [
  ⟨(some 2), none, (.val (.c (.b false)))⟩]
def r20_1 : List AOper := [
  ⟨(some 3), none, (.val (.c (.i .i64 0)))⟩]
def r20_2 : List AOper := [
  ⟨(some 4), none, (.val (.t 3))⟩,
  ⟨(some 5), none, (.val (.t 0))⟩,
  ⟨(some 6), none, (.nilc (.t 5))⟩,
  ⟨(some 7), none, (.fa 0 (.t 6))⟩,
  ⟨(some 8), none, (.ld none (.t 7))⟩,
  ⟨(some 9), none, (.len (.t 8))⟩,
  ⟨(some 10), none, (.bin .lss (.t 4) (.t 9))⟩]
def r20_3 : List AOper := [
  ⟨(some 13), none, (.val (.t 0))⟩,
  ⟨(some 14), none, (.nilc (.t 13))⟩,
  ⟨(some 15), none, (.fa 0 (.t 14))⟩,
  ⟨(some 16), none, (.ld none (.t 15))⟩,
  ⟨(some 17), none, (.val (.t 3))⟩,
  ⟨(some 18), none, (.ia 1 (.t 16) (.t 17))⟩,
  ⟨(some 19), none, (.ld none (.t 18))⟩,
  ⟨(some 20), none, (.bin .eql (.t 19) (.c (.i .i64 0)))⟩]
def r20_4 : List AOper := [
  ⟨(some 2), none, (.val (.c (.b false)))⟩]
def r20_5 : List AOper := [
  ⟨(some 11), none, (.val (.t 3))⟩,
  ⟨(some 12), none, (.bin .add (.t 11) (.c (.i .i64 1)))⟩,
  ⟨(some 3), none, (.val (.t 12))⟩]
def l20_6 : ACode := (.seq (.seq (.reg r20_2) (.cond (.t 10) .skip (.exit 0))) (.seq (.block 1 (.seq (.reg r20_3) (.cond (.t 20) (.seq (.reg r20_4) .ret) .skip))) (.reg r20_5)))
def r20_7 : List AOper := [
  ⟨(some 2), none, (.val (.c (.b true)))⟩]
def a20 : AFun := ⟨21, [(.tmp 2)], (.seq (.reg r20_0) (.seq (.seq (.reg r20_1) (.block 0 (.loop l20_6))) (.seq (.reg r20_7) .ret)))⟩
theorem a20_ok : cfun Try.prog 20 = some a20 := by kernel_rfl
/-- (*futtock/safe.Meet).May -/
def r21_0 : List AOper := [
  ⟨(some 4), none, (.val (.c (.b false)))⟩]
def r21_1 : List AOper := [
  ⟨(some 5), none, (.val (.t 0))⟩,
  ⟨(some 6), none, (.val (.t 1))⟩,
  ⟨(some 7), none, (.call 16 [(.t 5), (.t 6)])⟩]
def r21_2 : List AOper := [
  ⟨(some 9), none, (.bin .eql (.t 7) (.c (.i .i64 0)))⟩,
  ⟨(some 8), none, (.val (.t 9))⟩]
def r21_3 : List AOper := [
  ⟨(some 4), none, (.val (.c (.b true)))⟩]
def r21_4 : List AOper := [
  ⟨(some 11), none, (.bin .eql (.t 7) (.c (.i .i64 1)))⟩,
  ⟨(some 10), none, (.val (.t 11))⟩]
def r21_5 : List AOper := [
  ⟨(some 12), none, (.val (.t 0))⟩,
  ⟨(some 13), none, (.call 18 [(.t 12)])⟩,
  ⟨(some 14), none, (.un .not (.t 13))⟩,
  ⟨(some 4), none, (.val (.t 14))⟩]
def r21_6 : List AOper := [
  ⟨(some 4), none, (.val (.c (.b false)))⟩]
def a21 : AFun := ⟨15, [(.tmp 4)], (.seq (.reg r21_0) (.seq (.seq (.reg r21_1) (.block 0 (.seq (.reg r21_2) (.cond (.t 8) (.seq (.reg r21_3) .ret) (.seq (.reg r21_4) (.cond (.t 10) (.seq (.reg r21_5) .ret) .skip)))))) (.seq (.reg r21_6) .ret)))⟩
theorem a21_ok : cfun Try.prog 21 = some a21 := by kernel_rfl
/-- (*futtock/futtockref17.Meet).May -/
def r22_0 : List AOper := [
  ⟨(some 4), none, (.val (.c (.b false)))⟩]
def r22_1 : List AOper := [
  ⟨(some 5), none, (.val (.t 0))⟩,
  ⟨(some 6), none, (.val (.t 1))⟩,
  ⟨(some 7), none, (.call 17 [(.t 5), (.t 6)])⟩,
  ⟨(some 8), none, (.bin .eql (.t 7) (.c (.i .i64 0)))⟩,
  ⟨(some 9), none, (.val (.t 8))⟩,
  ⟨(some 10), (some (9, false)), (.val (.t 0))⟩,
  ⟨(some 11), (some (9, false)), (.val (.t 1))⟩,
  ⟨(some 12), (some (9, false)), (.call 17 [(.t 10), (.t 11)])⟩,
  ⟨(some 13), (some (9, false)), (.bin .eql (.t 12) (.c (.i .i64 1)))⟩,
  ⟨(some 14), (some (9, false)), (.val (.t 13))⟩,
  ⟨(some 15), (some (14, true)), (.val (.t 0))⟩,
  ⟨(some 16), (some (14, true)), (.nilc (.t 15))⟩,
  ⟨(some 17), (some (14, true)), (.fa 1 (.t 16))⟩,
  ⟨(some 18), (some (14, true)), (.ld none (.t 17))⟩,
  ⟨(some 19), (some (14, true)), (.bin .eql (.t 18) (.c (.i .i64 0)))⟩,
  ⟨(some 20), (some (9, false)), (.pick (.t 14) (.t 19) (.c (.b false)))⟩,
  ⟨(some 21), none, (.pick (.t 9) (.c (.b true)) (.t 20))⟩,
  ⟨(some 4), none, (.val (.t 21))⟩]
def a22 : AFun := ⟨22, [(.tmp 4)], (.seq (.reg r22_0) (.seq (.reg r22_1) .ret))⟩
theorem a22_ok : cfun Try.prog 22 = some a22 := by kernel_rfl
/-- (*futtock/safe.Meet).Rounds -/
def r23_0 : List AOper := [
  ⟨(some 2), none, (.val (.c (.i .i64 0)))⟩]
def r23_1 : List AOper := [
  ⟨(some 3), none, (.val (.t 0))⟩,
  ⟨(some 4), none, (.call 24 [(.t 3)])⟩,
  ⟨(some 5), none, (.un .not (.t 4))⟩]
def r23_2 : List AOper := [
  ⟨(some 2), none, (.val (.c (.i .i64 0)))⟩]
def r23_3 : List AOper := [
  ⟨(some 6), none, (.val (.t 0))⟩,
  ⟨(some 7), none, (.nilc (.t 6))⟩,
  ⟨(some 8), none, (.fa 2 (.t 7))⟩,
  ⟨(some 9), none, (.ld none (.t 8))⟩,
  ⟨(some 2), none, (.val (.t 9))⟩]
def a23 : AFun := ⟨10, [(.tmp 2)], (.seq (.reg r23_0) (.seq (.seq (.reg r23_1) (.cond (.t 5) (.seq (.reg r23_2) .ret) .skip)) (.seq (.reg r23_3) .ret)))⟩
theorem a23_ok : cfun Try.prog 23 = some a23 := by kernel_rfl
/-- (*futtock/safe.Meet).ok -/
def r24_0 : List AOper := [
  ⟨(some 2), none, (.val (.c (.b false)))⟩]
def r24_1 : List AOper := [
  ⟨(some 3), none, (.val (.t 0))⟩,
  ⟨(some 4), none, (.eqn 0 true (.t 3) (.c (.p none)))⟩,
  ⟨(some 5), none, (.val (.t 4))⟩,
  ⟨(some 6), (some (5, true)), (.val (.t 0))⟩,
  ⟨(some 7), (some (5, true)), (.nilc (.t 6))⟩,
  ⟨(some 8), (some (5, true)), (.fa 0 (.t 7))⟩,
  ⟨(some 9), (some (5, true)), (.ld none (.t 8))⟩,
  ⟨(some 10), (some (5, true)), (.len (.t 9))⟩,
  ⟨(some 11), (some (5, true)), (.bin .gtr (.t 10) (.c (.i .i64 0)))⟩,
  ⟨(some 12), none, (.pick (.t 5) (.t 11) (.c (.b false)))⟩,
  ⟨(some 2), none, (.val (.t 12))⟩]
def a24 : AFun := ⟨13, [(.tmp 2)], (.seq (.reg r24_0) (.seq (.reg r24_1) .ret))⟩
theorem a24_ok : cfun Try.prog 24 = some a24 := by kernel_rfl
/-- (*futtock/safe.Meet).Still$1 -/
def r25_0 : List AOper := [
  ⟨(some 2), none, (.val (.c (.b false)))⟩]
def r25_1 : List AOper := [
  ⟨(some 3), none, (.val (.t 0))⟩,
  ⟨(some 4), none, (.bin .eql (.t 3) (.c (.i .i64 0)))⟩,
  ⟨(some 2), none, (.val (.t 4))⟩]
def a25 : AFun := ⟨5, [(.tmp 2)], (.seq (.reg r25_0) (.seq (.reg r25_1) .ret))⟩
theorem a25_ok : cfun Try.prog 25 = some a25 := by kernel_rfl
/-- slices.ContainsFunc[[]int,int] -/
def r26_0 : List AOper := [
  ⟨(some 4), none, (.val (.c (.b false)))⟩]
def r26_1 : List AOper := [
  ⟨(some 5), none, (.val (.t 0))⟩,
  ⟨(some 6), none, (.val (.t 1))⟩,
  ⟨(some 7), none, (.call 27 [(.t 5), (.t 6)])⟩,
  ⟨(some 8), none, (.bin .geq (.t 7) (.c (.i .i64 0)))⟩,
  ⟨(some 4), none, (.val (.t 8))⟩]
def a26 : AFun := ⟨9, [(.tmp 4)], (.seq (.reg r26_0) (.seq (.reg r26_1) .ret))⟩
theorem a26_ok : cfun Try.prog 26 = some a26 := by kernel_rfl
/-- slices.IndexFunc[[]int,int] -/
def r27_0 : List AOper := [
  ⟨(some 4), none, (.val (.c (.i .i64 0)))⟩]
def r27_1 : List AOper := [
  ⟨(some 6), none, (.val (.t 0))⟩,
  ⟨(some 7), none, (.len (.t 6))⟩,
  ⟨(some 8), none, (.val (.c (.i .i64 0)))⟩]
def r27_2 : List AOper := [
  ⟨(some 9), none, (.bin .lss (.t 8) (.t 7))⟩]
def r27_3 : List AOper := [
  ⟨(some 10), none, (.val (.t 8))⟩,
  ⟨(some 5), none, (.val (.t 10))⟩]
def r27_4 : List AOper := [
  ⟨(some 11), none, (.val (.t 1))⟩,
  ⟨(some 12), none, (.val (.t 0))⟩,
  ⟨(some 13), none, (.val (.t 5))⟩,
  ⟨(some 14), none, (.ia 1 (.t 12) (.t 13))⟩,
  ⟨(some 15), none, (.ld none (.t 14))⟩,
  ⟨(some 16), none, (.callv (.t 11) [(.t 15)])⟩]
def r27_5 : List AOper := [
  ⟨(some 17), none, (.val (.t 5))⟩,
  ⟨(some 4), none, (.val (.t 17))⟩]
def r27_6 : List AOper := [
  ⟨(some 18), none, (.bin .add (.t 8) (.c (.i .i64 1)))⟩,
  ⟨(some 8), none, (.val (.t 18))⟩]
def l27_7 : ACode := (.seq (.reg r27_2) (.seq (.cond (.t 9) .skip (.exit 0)) (.seq (.block 1 (.seq (.reg r27_3) (.seq (.reg r27_4) (.cond (.t 16) (.seq (.reg r27_5) .ret) .skip)))) (.reg r27_6))))
def r27_8 : List AOper := [
  ⟨(some 4), none, (.val (.c (.i .i64 (-1))))⟩]
def a27 : AFun := ⟨19, [(.tmp 4)], (.seq (.reg r27_0) (.seq (.seq (.reg r27_1) (.block 0 (.loop l27_7))) (.seq (.reg r27_8) .ret)))⟩
theorem a27_ok : cfun Try.prog 27 = some a27 := by kernel_rfl
/-- All of them. -/
def tbl : Tbl
  | 3 => some a3
  | 4 => some a4
  | 5 => some a5
  | 6 => some a6
  | 7 => some a7
  | 8 => some a8
  | 9 => some a9
  | 10 => some a10
  | 11 => some a11
  | 12 => some a12
  | 13 => some a13
  | 14 => some a14
  | 15 => some a15
  | 16 => some a16
  | 17 => some a17
  | 18 => some a18
  | 19 => some a19
  | 20 => some a20
  | 21 => some a21
  | 22 => some a22
  | 23 => some a23
  | 24 => some a24
  | 25 => some a25
  | 26 => some a26
  | 27 => some a27
  | _ => none
/-- The heap behind a call of which the value alone is told. -/
noncomputable def hC (n : FuncId) (args : List AV) (H : AH) : AH := hAft (callR tbl n args H)
theorem hC_of {n : FuncId} {args : List AV} {H : AH} {v : AV} (h : ∃ H', callR tbl n args H = some (v, H')) : callR tbl n args H = some (v, hC n args H) := aft_of h
theorem tbl3 : tbl 3 = some a3 := rfl
theorem c3 {x0 x1 : AV} {H : AH} : callR tbl 3 [x0, x1] H = runR tbl a3 [.code a3.body] (ainit [x0, x1]) H := callR_of tbl3 (Nat.le_of_ble_eq_true rfl)
theorem b3 : a3.body = (.seq (.reg r3_0) (.seq (.reg r3_1) (.seq (.reg r3_2) (.seq (.seq (.reg r3_3) (.cond (.t 36) (.seq (.reg r3_4) .ret) .skip)) (.seq (.seq (.reg r3_5) (.block 0 (.loop l3_21))) (.seq (.reg r3_22) .ret)))))) := rfl
theorem s3 : a3.res = [(.tmp 4)] := rfl
theorem tbl4 : tbl 4 = some a4 := rfl
theorem c4 {x0 x1 : AV} {H : AH} : callR tbl 4 [x0, x1] H = runR tbl a4 [.code a4.body] (ainit [x0, x1]) H := callR_of tbl4 (Nat.le_of_ble_eq_true rfl)
theorem b4 : a4.body = (.seq (.reg r4_0) (.seq (.reg r4_1) (.seq (.reg r4_2) (.seq (.seq (.reg r4_3) (.cond (.t 33) (.seq (.reg r4_4) .ret) .skip)) (.seq (.seq (.reg r4_5) (.block 0 (.loop l4_16))) (.seq (.reg r4_17) (.seq (.seq (.reg r4_18) (.block 2 (.loop l4_26))) (.seq (.reg r4_27) (.seq (.reg r4_28) .ret))))))))) := rfl
theorem s4 : a4.res = [(.tmp 4)] := rfl
theorem tbl5 : tbl 5 = some a5 := rfl
theorem c5 {x0 : AV} {H : AH} : callR tbl 5 [x0] H = runR tbl a5 [.code a5.body] (ainit [x0]) H := callR_of tbl5 (Nat.le_of_ble_eq_true rfl)
theorem b5 : a5.body = (.seq (.reg r5_0) (.seq (.seq (.reg r5_1) (.block 0 (.loop l5_8))) (.seq (.reg r5_9) .ret))) := rfl
theorem s5 : a5.res = [(.tmp 2)] := rfl
theorem tbl6 : tbl 6 = some a6 := rfl
theorem c6 {x0 x1 : AV} {H : AH} : callR tbl 6 [x0, x1] H = runR tbl a6 [.code a6.body] (ainit [x0, x1]) H := callR_of tbl6 (Nat.le_of_ble_eq_true rfl)
theorem b6 : a6.body = (.seq (.reg r6_0) (.seq (.reg r6_1) (.seq (.reg r6_2) (.seq (.seq (.reg r6_3) (.cond (.t 28) (.seq (.reg r6_4) .ret) .skip)) (.seq (.reg r6_5) (.seq (.seq (.reg r6_6) (.block 0 (.loop l6_27))) (.seq (.reg r6_28) .ret))))))) := rfl
theorem s6 : a6.res = [(.tmp 4)] := rfl
theorem tbl7 : tbl 7 = some a7 := rfl
theorem c7 {x0 : AV} {H : AH} : callR tbl 7 [x0] H = runR tbl a7 [.code a7.body] (ainit [x0]) H := callR_of tbl7 (Nat.le_of_ble_eq_true rfl)
theorem b7 : a7.body = (.seq (.reg r7_0) (.seq (.seq (.reg r7_1) (.cond (.t 9) (.seq (.reg r7_2) .ret) .skip)) (.seq (.reg r7_3) .ret))) := rfl
theorem s7 : a7.res = [(.tmp 2), (.tmp 3)] := rfl
theorem tbl8 : tbl 8 = some a8 := rfl
theorem c8 {x0 : AV} {H : AH} : callR tbl 8 [x0] H = runR tbl a8 [.code a8.body] (ainit [x0]) H := callR_of tbl8 (Nat.le_of_ble_eq_true rfl)
theorem b8 : a8.body = (.seq (.reg r8_0) (.seq (.seq (.reg r8_1) (.cond (.t 9) (.seq (.reg r8_2) .ret) .skip)) (.seq (.reg r8_3) .ret))) := rfl
theorem s8 : a8.res = [(.cell 2 (some 3)), (.tmp 3)] := rfl
theorem tbl9 : tbl 9 = some a9 := rfl
theorem c9 {H : AH} : callR tbl 9 [] H = runR tbl a9 [.code a9.body] (ainit []) H := callR_of tbl9 (Nat.le_of_ble_eq_true rfl)
theorem b9 : a9.body = (.seq (.reg r9_0) (.seq (.reg r9_1) (.seq (.seq (.reg r9_2) (.cond (.t 21) (.seq (.reg r9_3) .ret) .skip)) (.seq (.reg r9_4) (.seq (.reg r9_5) (.seq (.reg r9_6) (.seq (.reg r9_7) (.seq (.reg r9_8) .ret)))))))) := rfl
theorem s9 : a9.res = [(.tmp 0)] := rfl
theorem tbl10 : tbl 10 = some a10 := rfl
theorem c10 {x0 : AV} {H : AH} : callR tbl 10 [x0] H = runR tbl a10 [.code a10.body] (ainit [x0]) H := callR_of tbl10 (Nat.le_of_ble_eq_true rfl)
theorem b10 : a10.body = (.seq (.reg r10_0) (.seq (.reg r10_1) .ret)) := rfl
theorem s10 : a10.res = [(.tmp 2)] := rfl
theorem tbl11 : tbl 11 = some a11 := rfl
theorem c11 {x0 : AV} {H : AH} : callR tbl 11 [x0] H = runR tbl a11 [.code a11.body] (ainit [x0]) H := callR_of tbl11 (Nat.le_of_ble_eq_true rfl)
theorem b11 : a11.body = (.seq (.reg r11_0) (.seq (.seq (.reg r11_1) (.cond (.t 5) (.seq (.reg r11_2) .ret) .skip)) (.seq (.reg r11_3) (.seq (.reg r11_4) .ret)))) := rfl
theorem s11 : a11.res = [(.tmp 2)] := rfl
theorem tbl12 : tbl 12 = some a12 := rfl
theorem c12 {x0 : AV} {H : AH} : callR tbl 12 [x0] H = runR tbl a12 [.code a12.body] (ainit [x0]) H := callR_of tbl12 (Nat.le_of_ble_eq_true rfl)
theorem b12 : a12.body = (.seq (.reg r12_0) (.seq (.block 0 (.seq (.reg r12_1) (.cond (.t 5) (.seq (.reg r12_2) .ret) (.seq (.reg r12_3) (.cond (.t 9) (.seq (.reg r12_4) .ret) .skip))))) (.seq (.reg r12_5) (.seq (.reg r12_6) (.seq (.reg r12_7) (.seq (.reg r12_8) .ret)))))) := rfl
theorem s12 : a12.res = [(.tmp 2), (.tmp 3)] := rfl
theorem tbl13 : tbl 13 = some a13 := rfl
theorem c13 {x0 : AV} {H : AH} : callR tbl 13 [x0] H = runR tbl a13 [.code a13.body] (ainit [x0]) H := callR_of tbl13 (Nat.le_of_ble_eq_true rfl)
theorem b13 : a13.body = (.seq (.reg r13_0) (.seq (.seq (.reg r13_1) (.cond (.t 14) (.seq (.reg r13_2) .ret) .skip)) (.seq (.reg r13_3) (.seq (.reg r13_4) (.seq (.reg r13_5) (.seq (.reg r13_6) .ret)))))) := rfl
theorem s13 : a13.res = [(.tmp 2), (.tmp 3)] := rfl
theorem tbl14 : tbl 14 = some a14 := rfl
theorem c14 {x0 x1 x2 : AV} {H : AH} : callR tbl 14 [x0, x1, x2] H = runR tbl a14 [.code a14.body] (ainit [x0, x1, x2]) H := callR_of tbl14 (Nat.le_of_ble_eq_true rfl)
theorem b14 : a14.body = (.seq (.reg r14_0) (.seq (.reg r14_1) (.seq (.block 0 (.seq (.reg r14_2) (.cond (.t 11) (.seq (.reg r14_3) .ret) (.seq (.reg r14_4) (.cond (.t 15) (.seq (.reg r14_5) .ret) (.seq (.seq (.reg r14_6) (.cond (.t 26) .skip (.reg r14_7))) (.cond (.t 26) (.seq (.reg r14_8) .ret) .skip))))))) (.seq (.reg r14_9) (.seq (.reg r14_10) .ret))))) := rfl
theorem s14 : a14.res = [(.tmp 6)] := rfl
theorem tbl15 : tbl 15 = some a15 := rfl
theorem c15 {x0 x1 x2 : AV} {H : AH} : callR tbl 15 [x0, x1, x2] H = runR tbl a15 [.code a15.body] (ainit [x0, x1, x2]) H := callR_of tbl15 (Nat.le_of_ble_eq_true rfl)
theorem b15 : a15.body = (.seq (.reg r15_0) (.seq (.reg r15_1) (.seq (.seq (.reg r15_2) (.cond (.t 20) (.seq (.reg r15_3) .ret) .skip)) (.seq (.seq (.reg r15_4) (.cond (.t 41) (.seq (.reg r15_5) .ret) .skip)) (.seq (.reg r15_6) (.seq (.reg r15_7) .ret)))))) := rfl
theorem s15 : a15.res = [(.tmp 6)] := rfl
theorem tbl16 : tbl 16 = some a16 := rfl
theorem c16 {x0 x1 : AV} {H : AH} : callR tbl 16 [x0, x1] H = runR tbl a16 [.code a16.body] (ainit [x0, x1]) H := callR_of tbl16 (Nat.le_of_ble_eq_true rfl)
theorem b16 : a16.body = (.seq (.reg r16_0) (.seq (.seq (.reg r16_1) (.cond (.t 20) (.seq (.reg r16_2) .ret) .skip)) (.seq (.reg r16_3) .ret))) := rfl
theorem s16 : a16.res = [(.tmp 4)] := rfl
theorem tbl17 : tbl 17 = some a17 := rfl
theorem c17 {x0 x1 : AV} {H : AH} : callR tbl 17 [x0, x1] H = runR tbl a17 [.code a17.body] (ainit [x0, x1]) H := callR_of tbl17 (Nat.le_of_ble_eq_true rfl)
theorem b17 : a17.body = (.seq (.reg r17_0) (.seq (.seq (.reg r17_1) (.cond (.t 15) (.seq (.reg r17_2) .ret) .skip)) (.seq (.reg r17_3) .ret))) := rfl
theorem s17 : a17.res = [(.tmp 4)] := rfl
theorem tbl18 : tbl 18 = some a18 := rfl
theorem c18 {x0 : AV} {H : AH} : callR tbl 18 [x0] H = runR tbl a18 [.code a18.body] (ainit [x0]) H := callR_of tbl18 (Nat.le_of_ble_eq_true rfl)
theorem b18 : a18.body = (.seq (.reg r18_0) (.seq (.reg r18_1) .ret)) := rfl
theorem s18 : a18.res = [(.tmp 2)] := rfl
theorem tbl19 : tbl 19 = some a19 := rfl
theorem c19 {x0 : AV} {H : AH} : callR tbl 19 [x0] H = runR tbl a19 [.code a19.body] (ainit [x0]) H := callR_of tbl19 (Nat.le_of_ble_eq_true rfl)
theorem b19 : a19.body = (.seq (.reg r19_0) (.seq (.reg r19_1) (.seq (.reg r19_2) .ret))) := rfl
theorem s19 : a19.res = [(.tmp 2)] := rfl
theorem tbl20 : tbl 20 = some a20 := rfl
theorem c20 {x0 : AV} {H : AH} : callR tbl 20 [x0] H = runR tbl a20 [.code a20.body] (ainit [x0]) H := callR_of tbl20 (Nat.le_of_ble_eq_true rfl)
theorem b20 : a20.body = (.seq (.reg r20_0) (.seq (.seq (.reg r20_1) (.block 0 (.loop l20_6))) (.seq (.reg r20_7) .ret))) := rfl
theorem s20 : a20.res = [(.tmp 2)] := rfl
theorem tbl21 : tbl 21 = some a21 := rfl
theorem c21 {x0 x1 : AV} {H : AH} : callR tbl 21 [x0, x1] H = runR tbl a21 [.code a21.body] (ainit [x0, x1]) H := callR_of tbl21 (Nat.le_of_ble_eq_true rfl)
theorem b21 : a21.body = (.seq (.reg r21_0) (.seq (.seq (.reg r21_1) (.block 0 (.seq (.reg r21_2) (.cond (.t 8) (.seq (.reg r21_3) .ret) (.seq (.reg r21_4) (.cond (.t 10) (.seq (.reg r21_5) .ret) .skip)))))) (.seq (.reg r21_6) .ret))) := rfl
theorem s21 : a21.res = [(.tmp 4)] := rfl
theorem tbl22 : tbl 22 = some a22 := rfl
theorem c22 {x0 x1 : AV} {H : AH} : callR tbl 22 [x0, x1] H = runR tbl a22 [.code a22.body] (ainit [x0, x1]) H := callR_of tbl22 (Nat.le_of_ble_eq_true rfl)
theorem b22 : a22.body = (.seq (.reg r22_0) (.seq (.reg r22_1) .ret)) := rfl
theorem s22 : a22.res = [(.tmp 4)] := rfl
theorem tbl23 : tbl 23 = some a23 := rfl
theorem c23 {x0 : AV} {H : AH} : callR tbl 23 [x0] H = runR tbl a23 [.code a23.body] (ainit [x0]) H := callR_of tbl23 (Nat.le_of_ble_eq_true rfl)
theorem b23 : a23.body = (.seq (.reg r23_0) (.seq (.seq (.reg r23_1) (.cond (.t 5) (.seq (.reg r23_2) .ret) .skip)) (.seq (.reg r23_3) .ret))) := rfl
theorem s23 : a23.res = [(.tmp 2)] := rfl
theorem tbl24 : tbl 24 = some a24 := rfl
theorem c24 {x0 : AV} {H : AH} : callR tbl 24 [x0] H = runR tbl a24 [.code a24.body] (ainit [x0]) H := callR_of tbl24 (Nat.le_of_ble_eq_true rfl)
theorem b24 : a24.body = (.seq (.reg r24_0) (.seq (.reg r24_1) .ret)) := rfl
theorem s24 : a24.res = [(.tmp 2)] := rfl
theorem tbl25 : tbl 25 = some a25 := rfl
theorem c25 {x0 : AV} {H : AH} : callR tbl 25 [x0] H = runR tbl a25 [.code a25.body] (ainit [x0]) H := callR_of tbl25 (Nat.le_of_ble_eq_true rfl)
theorem b25 : a25.body = (.seq (.reg r25_0) (.seq (.reg r25_1) .ret)) := rfl
theorem s25 : a25.res = [(.tmp 2)] := rfl
theorem tbl26 : tbl 26 = some a26 := rfl
theorem c26 {x0 x1 : AV} {H : AH} : callR tbl 26 [x0, x1] H = runR tbl a26 [.code a26.body] (ainit [x0, x1]) H := callR_of tbl26 (Nat.le_of_ble_eq_true rfl)
theorem b26 : a26.body = (.seq (.reg r26_0) (.seq (.reg r26_1) .ret)) := rfl
theorem s26 : a26.res = [(.tmp 4)] := rfl
theorem tbl27 : tbl 27 = some a27 := rfl
theorem c27 {x0 x1 : AV} {H : AH} : callR tbl 27 [x0, x1] H = runR tbl a27 [.code a27.body] (ainit [x0, x1]) H := callR_of tbl27 (Nat.le_of_ble_eq_true rfl)
theorem b27 : a27.body = (.seq (.reg r27_0) (.seq (.seq (.reg r27_1) (.block 0 (.loop l27_7))) (.seq (.reg r27_8) .ret))) := rfl
theorem s27 : a27.res = [(.tmp 4)] := rfl
theorem tbl_ok : ∀ f a, tbl f = some a → cfun Try.prog f = some a := by
  intro f a h
  unfold tbl at h
  split at h
  · cases h; exact a3_ok
  · cases h; exact a4_ok
  · cases h; exact a5_ok
  · cases h; exact a6_ok
  · cases h; exact a7_ok
  · cases h; exact a8_ok
  · cases h; exact a9_ok
  · cases h; exact a10_ok
  · cases h; exact a11_ok
  · cases h; exact a12_ok
  · cases h; exact a13_ok
  · cases h; exact a14_ok
  · cases h; exact a15_ok
  · cases h; exact a16_ok
  · cases h; exact a17_ok
  · cases h; exact a18_ok
  · cases h; exact a19_ok
  · cases h; exact a20_ok
  · cases h; exact a21_ok
  · cases h; exact a22_ok
  · cases h; exact a23_ok
  · cases h; exact a24_ok
  · cases h; exact a25_ok
  · cases h; exact a26_ok
  · cases h; exact a27_ok
  · cases h
end Go.Proofs.Ytmffobmocdnpbaa.Abs
