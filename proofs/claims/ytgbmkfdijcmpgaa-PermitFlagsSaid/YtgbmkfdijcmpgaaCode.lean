/- The functions that the laws of this seat reach, in the plain machine's form, and that they are the loaded ones. Printed by a program of this seat's own (gencode.py). No condition of its own. -/
import Derived.Test.YtgbmkfdijcmpgaaProg
import Derived.Test.YtgbmkfdijcmpgaaAbs3
import Derived.Test.YtgbmkfdijcmpgaaEval
import Derived.KernelRfl
namespace Go.Proofs.Ytgbmkfdijcmpgaa.Abs
set_option linter.unusedVariables false
set_option maxRecDepth 100000
/-- futtock/futtocklaw08.PermitKept -/
def r3_0 : List AOper := [
  ⟨(some 2), none, (.val (.c (.b false)))⟩]
def r3_1 : List AOper := [
  ⟨(some 18), none, (.call 7 [(.c (.i .i64 4))])⟩,
  ⟨(some 17), none, (.val (.t 18))⟩,
  ⟨(some 19), none, (.ext (.t 17) 0)⟩,
  ⟨(some 20), none, (.ext (.t 17) 1)⟩,
  ⟨(some 3), none, (.val (.t 19))⟩,
  ⟨(some 4), none, (.val (.t 20))⟩]
def r3_2 : List AOper := [
  ⟨(some 21), none, (.val (.t 3))⟩,
  ⟨(some 22), none, (.eqn 0 false (.t 21) (.c (.p none)))⟩,
  ⟨(some 23), none, (.val (.t 22))⟩,
  ⟨(some 24), (some (23, false)), (.val (.t 4))⟩,
  ⟨(some 25), (some (23, false)), (.bin .neq (.t 24) (.c (.i .i64 0)))⟩,
  ⟨(some 26), none, (.pick (.t 23) (.c (.b true)) (.t 25))⟩]
def r3_3 : List AOper := [
  ⟨(some 2), none, (.val (.c (.b false)))⟩]
def r3_4 : List AOper := [
  ⟨(some 5), none, (.alloc [(.b false), (.b false), (.b false), (.b false)])⟩]
def r3_5 : List AOper := [
  ⟨(some 27), none, (.val (.t 0))⟩,
  ⟨(some 28), none, (.call 8 [(.t 27)])⟩,
  ⟨(some 29), none, (.len (.t 28))⟩,
  ⟨(some 30), none, (.val (.c (.i .i64 0)))⟩]
def r3_6 : List AOper := [
  ⟨(some 31), none, (.bin .lss (.t 30) (.t 29))⟩]
def r3_7 : List AOper := [
  ⟨(some 32), none, (.ia 2 (.t 28) (.t 30))⟩,
  ⟨(some 33), none, (.ld (some 2) (.t 32))⟩,
  ⟨(some 7), none, (.alloc [(.i .u8 0), (.i .i64 0)])⟩,
  ⟨none, none, (.st 2 (.t 7) (.t 33))⟩]
def r3_8 : List AOper := [
  ⟨(some 34), none, (.fa 1 (.t 7))⟩,
  ⟨(some 35), none, (.ld none (.t 34))⟩,
  ⟨(some 36), none, (.bin .and (.t 35) (.c (.i .i64 3)))⟩,
  ⟨(some 8), none, (.val (.t 36))⟩]
def r3_9 : List AOper := [
  ⟨(some 9), none, (.alloc [(.b false), (.b false), (.b false), (.b false), (.b false), (.b false), (.b false), (.b false), (.b false), (.b false), (.b false), (.b false)])⟩]
def r3_10 : List AOper := [
  ⟨(some 37), none, (.val (.c (.i .i64 0)))⟩]
def r3_11 : List AOper := [
  ⟨(some 38), none, (.bin .lss (.t 37) (.c (.i .i64 4)))⟩]
def r3_12 : List AOper := [
  ⟨(some 39), none, (.val (.t 37))⟩,
  ⟨(some 10), none, (.val (.t 39))⟩]
def r3_13 : List AOper := [
  ⟨(some 40), none, (.val (.t 10))⟩,
  ⟨(some 41), none, (.val (.t 3))⟩,
  ⟨(some 42), none, (.val (.t 10))⟩,
  ⟨(some 43), none, (.call 9 [(.t 41), (.t 42)])⟩,
  ⟨(some 44), none, (.val (.t 3))⟩,
  ⟨(some 45), none, (.val (.t 10))⟩,
  ⟨(some 46), none, (.call 10 [(.t 44), (.t 45)])⟩,
  ⟨(some 47), none, (.val (.t 3))⟩,
  ⟨(some 48), none, (.val (.t 10))⟩,
  ⟨(some 49), none, (.call 11 [(.t 47), (.t 48)])⟩,
  ⟨(some 50), none, (.build [(.b false), (.b false), (.b false)] [(0, 1, (.t 43)), (1, 1, (.t 46)), (2, 1, (.t 49))])⟩,
  ⟨(some 51), none, (.iaa 4 3 (.t 9) (.t 40))⟩,
  ⟨none, none, (.st 3 (.t 51) (.t 50))⟩]
def r3_14 : List AOper := [
  ⟨(some 52), none, (.bin .add (.t 37) (.c (.i .i64 1)))⟩,
  ⟨(some 37), none, (.val (.t 52))⟩]
def l3_15 : ACode := (.seq (.reg r3_11) (.seq (.cond (.t 38) .skip (.exit 2)) (.seq (.block 3 (.seq (.reg r3_12) (.reg r3_13))) (.reg r3_14))))
def r3_16 : List AOper := [
  ⟨(some 53), none, (.fa 0 (.t 7))⟩,
  ⟨(some 54), none, (.ld none (.t 53))⟩,
  ⟨(some 55), none, (.bin .rem (.t 54) (.c (.i .u8 5)))⟩]
def r3_17 : List AOper := [
  ⟨(some 74), none, (.bin .eql (.t 55) (.c (.i .u8 1)))⟩,
  ⟨(some 73), none, (.val (.t 74))⟩]
def r3_18 : List AOper := [
  ⟨(some 75), none, (.bin .eql (.t 55) (.c (.i .u8 2)))⟩,
  ⟨(some 73), none, (.val (.t 75))⟩]
def r3_19 : List AOper := [
  ⟨(some 77), none, (.val (.t 3))⟩,
  ⟨(some 78), none, (.val (.t 8))⟩,
  ⟨(some 79), none, (.call 12 [(.t 77), (.t 78)])⟩,
  ⟨(some 76), none, (.val (.t 79))⟩,
  ⟨(some 80), none, (.ext (.t 76) 0)⟩,
  ⟨(some 81), none, (.ext (.t 76) 1)⟩,
  ⟨(some 11), none, (.val (.t 80))⟩,
  ⟨(some 12), none, (.val (.t 81))⟩]
def r3_20 : List AOper := [
  ⟨(some 82), none, (.val (.t 11))⟩,
  ⟨(some 83), none, (.val (.t 8))⟩,
  ⟨(some 84), none, (.iaa 4 3 (.t 9) (.t 83))⟩,
  ⟨(some 85), none, (.iaa 3 1 (.t 84) (.c (.i .i64 2)))⟩,
  ⟨(some 86), none, (.ld none (.t 85))⟩,
  ⟨(some 87), none, (.eqb true (.t 82) (.t 86))⟩]
def r3_21 : List AOper := [
  ⟨(some 2), none, (.val (.c (.b false)))⟩]
def r3_22 : List AOper := [
  ⟨(some 88), none, (.val (.t 8))⟩,
  ⟨(some 89), none, (.val (.t 11))⟩,
  ⟨(some 90), none, (.un .not (.t 89))⟩,
  ⟨(some 91), none, (.iaa 4 1 (.t 5) (.t 88))⟩,
  ⟨none, none, (.st 1 (.t 91) (.t 90))⟩]
def r3_23 : List AOper := [
  ⟨(some 93), none, (.bin .eql (.t 55) (.c (.i .u8 3)))⟩,
  ⟨(some 92), none, (.val (.t 93))⟩]
def r3_24 : List AOper := [
  ⟨(some 94), none, (.val (.t 3))⟩,
  ⟨(some 95), none, (.val (.t 8))⟩,
  ⟨(some 96), none, (.call 13 [(.t 94), (.t 95)])⟩]
def r3_25 : List AOper := [
  ⟨(some 56), none, (.val (.t 8))⟩,
  ⟨(some 57), none, (.iaa 4 3 (.t 9) (.t 56))⟩,
  ⟨(some 58), none, (.iaa 3 1 (.t 57) (.c (.i .i64 2)))⟩,
  ⟨(some 59), none, (.ld none (.t 58))⟩]
def r3_26 : List AOper := [
  ⟨(some 61), none, (.val (.t 3))⟩,
  ⟨(some 62), none, (.val (.t 8))⟩,
  ⟨(some 63), none, (.call 14 [(.t 61), (.t 62)])⟩,
  ⟨(some 60), none, (.val (.t 63))⟩,
  ⟨(some 64), none, (.ext (.t 60) 0)⟩,
  ⟨(some 65), none, (.ext (.t 60) 1)⟩,
  ⟨(some 13), none, (.val (.t 64))⟩,
  ⟨(some 14), none, (.val (.t 65))⟩]
def r3_27 : List AOper := [
  ⟨(some 66), none, (.val (.t 13))⟩,
  ⟨(some 67), none, (.val (.t 8))⟩,
  ⟨(some 68), none, (.iaa 4 1 (.t 5) (.t 67))⟩,
  ⟨(some 69), none, (.ld none (.t 68))⟩,
  ⟨(some 70), none, (.eqb false (.t 66) (.t 69))⟩]
def r3_28 : List AOper := [
  ⟨(some 2), none, (.val (.c (.b false)))⟩]
def r3_29 : List AOper := [
  ⟨(some 71), none, (.val (.t 8))⟩,
  ⟨(some 72), none, (.iaa 4 1 (.t 5) (.t 71))⟩,
  ⟨none, none, (.st 1 (.t 72) (.c (.b false)))⟩]
def r3_30 : List AOper := [
  ⟨(some 97), none, (.val (.c (.i .i64 0)))⟩]
def r3_31 : List AOper := [
  ⟨(some 98), none, (.bin .lss (.t 97) (.c (.i .i64 4)))⟩]
def r3_32 : List AOper := [
  ⟨(some 99), none, (.val (.t 97))⟩,
  ⟨(some 15), none, (.val (.t 99))⟩]
def r3_33 : List AOper := [
  ⟨(some 100), none, (.val (.t 3))⟩,
  ⟨(some 101), none, (.val (.t 15))⟩,
  ⟨(some 102), none, (.call 9 [(.t 100), (.t 101)])⟩,
  ⟨(some 103), none, (.val (.t 3))⟩,
  ⟨(some 104), none, (.val (.t 15))⟩,
  ⟨(some 105), none, (.call 10 [(.t 103), (.t 104)])⟩,
  ⟨(some 106), none, (.val (.t 3))⟩,
  ⟨(some 107), none, (.val (.t 15))⟩,
  ⟨(some 108), none, (.call 11 [(.t 106), (.t 107)])⟩,
  ⟨(some 109), none, (.build [(.b false), (.b false), (.b false)] [(0, 1, (.t 102)), (1, 1, (.t 105)), (2, 1, (.t 108))])⟩,
  ⟨(some 16), none, (.alloc [(.b false), (.b false), (.b false)])⟩,
  ⟨none, none, (.st 3 (.t 16) (.t 109))⟩]
def r3_34 : List (AOper × List Nat) := [
  (⟨(some 110), none, (.val (.t 15))⟩, []),
  (⟨(some 111), none, (.val (.t 8))⟩, []),
  (⟨(some 112), none, (.bin .neq (.t 110) (.t 111))⟩, []),
  (⟨(some 113), none, (.val (.t 112))⟩, []),
  (⟨(some 114), (some (113, true)), (.ld (some 3) (.t 16))⟩, [1]),
  (⟨(some 115), (some (113, true)), (.val (.t 15))⟩, []),
  (⟨(some 116), (some (113, true)), (.iaa 4 3 (.t 9) (.t 115))⟩, []),
  (⟨(some 117), (some (113, true)), (.ld (some 3) (.t 116))⟩, [1]),
  (⟨(some 118), (some (113, true)), (.eqc [1, 1, 1] true (.t 114) (.t 117))⟩, []),
  (⟨(some 119), none, (.pick (.t 113) (.t 118) (.c (.b false)))⟩, []),
  (⟨(some 120), none, (.val (.t 119))⟩, []),
  (⟨(some 121), (some (120, false)), (.iaa 3 1 (.t 16) (.c (.i .i64 0)))⟩, []),
  (⟨(some 122), (some (120, false)), (.ld none (.t 121))⟩, [1]),
  (⟨(some 123), (some (120, false)), (.val (.t 122))⟩, []),
  (⟨(some 124), (some (123, true)), (.iaa 3 1 (.t 16) (.c (.i .i64 2)))⟩, []),
  (⟨(some 125), (some (123, true)), (.ld none (.t 124))⟩, [1]),
  (⟨(some 126), (some (120, false)), (.pick (.t 123) (.t 125) (.c (.b false)))⟩, []),
  (⟨(some 127), none, (.pick (.t 120) (.c (.b true)) (.t 126))⟩, [])]
def r3_35 : List AOper := [
  ⟨(some 2), none, (.val (.c (.b false)))⟩]
def r3_36 : List AOper := [
  ⟨(some 128), none, (.bin .add (.t 97) (.c (.i .i64 1)))⟩,
  ⟨(some 97), none, (.val (.t 128))⟩]
def l3_37 : ACode := (.seq (.reg r3_31) (.seq (.cond (.t 98) .skip (.exit 5)) (.seq (.block 6 (.seq (.reg r3_32) (.seq (.reg r3_33) (.seq (.drw r3_34) (.cond (.t 127) (.seq (.reg r3_35) .ret) .skip))))) (.reg r3_36))))
def r3_38 : List AOper := [
  ⟨(some 129), none, (.bin .add (.t 30) (.c (.i .i64 1)))⟩,
  ⟨(some 30), none, (.val (.t 129))⟩]
def l3_39 : ACode := (.seq (.reg r3_6) (.seq (.cond (.t 31) .skip (.exit 0)) (.seq (.block 1 (.seq (.reg r3_7) (.seq (.reg r3_8) (.seq (.reg r3_9) (.seq (.seq (.reg r3_10) (.block 2 (.loop l3_15))) (.seq (.seq (.reg r3_16) (.block 4 (.seq (.seq (.reg r3_17) (.cond (.t 73) .skip (.reg r3_18))) (.cond (.t 73) (.seq (.reg r3_19) (.seq (.seq (.reg r3_20) (.cond (.t 87) (.seq (.reg r3_21) .ret) .skip)) (.reg r3_22))) (.seq (.reg r3_23) (.cond (.t 92) (.reg r3_24) (.seq (.seq (.reg r3_25) (.cond (.t 59) (.exit 1) .skip)) (.seq (.reg r3_26) (.seq (.seq (.reg r3_27) (.cond (.t 70) (.seq (.reg r3_28) .ret) .skip)) (.reg r3_29)))))))))) (.seq (.reg r3_30) (.block 5 (.loop l3_37))))))))) (.reg r3_38))))
def r3_40 : List AOper := [
  ⟨(some 130), none, (.call 15 [])⟩,
  ⟨(some 2), none, (.val (.t 130))⟩]
def a3 : AFun := ⟨131, [(.tmp 2)], (.seq (.reg r3_0) (.seq (.reg r3_1) (.seq (.seq (.reg r3_2) (.cond (.t 26) (.seq (.reg r3_3) .ret) .skip)) (.seq (.reg r3_4) (.seq (.seq (.reg r3_5) (.block 0 (.loop l3_39))) (.seq (.reg r3_40) .ret))))))⟩
theorem a3_ok : cfun Try.prog 3 = some a3 := by kernel_rfl
/-- futtock/futtocklaw08.PermitFlags -/
def r4_0 : List AOper := [
  ⟨(some 2), none, (.val (.c (.b false)))⟩]
def r4_1 : List AOper := [
  ⟨(some 11), none, (.call 7 [(.c (.i .i64 4))])⟩,
  ⟨(some 10), none, (.val (.t 11))⟩,
  ⟨(some 12), none, (.ext (.t 10) 0)⟩,
  ⟨(some 13), none, (.ext (.t 10) 1)⟩,
  ⟨(some 3), none, (.val (.t 12))⟩,
  ⟨(some 4), none, (.val (.t 13))⟩]
def r4_2 : List AOper := [
  ⟨(some 14), none, (.val (.t 3))⟩,
  ⟨(some 15), none, (.eqn 0 false (.t 14) (.c (.p none)))⟩,
  ⟨(some 16), none, (.val (.t 15))⟩,
  ⟨(some 17), (some (16, false)), (.val (.t 4))⟩,
  ⟨(some 18), (some (16, false)), (.bin .neq (.t 17) (.c (.i .i64 0)))⟩,
  ⟨(some 19), none, (.pick (.t 16) (.c (.b true)) (.t 18))⟩]
def r4_3 : List AOper := [
  ⟨(some 2), none, (.val (.c (.b false)))⟩]
def r4_4 : List AOper := [
  ⟨(some 5), none, (.alloc [(.b false), (.b false), (.b false), (.b false)])⟩]
def r4_5 : List AOper := [
  ⟨(some 20), none, (.val (.t 0))⟩,
  ⟨(some 21), none, (.call 8 [(.t 20)])⟩,
  ⟨(some 22), none, (.len (.t 21))⟩,
  ⟨(some 23), none, (.val (.c (.i .i64 0)))⟩]
def r4_6 : List AOper := [
  ⟨(some 24), none, (.bin .lss (.t 23) (.t 22))⟩]
def r4_7 : List AOper := [
  ⟨(some 25), none, (.ia 2 (.t 21) (.t 23))⟩,
  ⟨(some 26), none, (.ld (some 2) (.t 25))⟩,
  ⟨(some 7), none, (.alloc [(.i .u8 0), (.i .i64 0)])⟩,
  ⟨none, none, (.st 2 (.t 7) (.t 26))⟩]
def r4_8 : List AOper := [
  ⟨(some 27), none, (.fa 1 (.t 7))⟩,
  ⟨(some 28), none, (.ld none (.t 27))⟩,
  ⟨(some 29), none, (.bin .and (.t 28) (.c (.i .i64 3)))⟩,
  ⟨(some 8), none, (.val (.t 29))⟩]
def r4_9 : List AOper := [
  ⟨(some 30), none, (.fa 0 (.t 7))⟩,
  ⟨(some 31), none, (.ld none (.t 30))⟩,
  ⟨(some 32), none, (.bin .rem (.t 31) (.c (.i .u8 5)))⟩]
def r4_10 : List AOper := [
  ⟨(some 37), none, (.bin .eql (.t 32) (.c (.i .u8 2)))⟩,
  ⟨(some 36), none, (.val (.t 37))⟩]
def r4_11 : List AOper := [
  ⟨(some 38), none, (.val (.t 3))⟩,
  ⟨(some 39), none, (.val (.t 8))⟩,
  ⟨(some 40), none, (.call 16 [(.t 38), (.t 39)])⟩]
def r4_12 : List AOper := [
  ⟨(some 41), none, (.val (.t 3))⟩,
  ⟨(some 42), none, (.val (.t 8))⟩,
  ⟨(some 43), none, (.call 11 [(.t 41), (.t 42)])⟩]
def r4_13 : List AOper := [
  ⟨(some 2), none, (.val (.c (.b false)))⟩]
def r4_14 : List AOper := [
  ⟨(some 44), none, (.val (.t 8))⟩,
  ⟨(some 45), none, (.iaa 4 1 (.t 5) (.t 44))⟩,
  ⟨none, none, (.st 1 (.t 45) (.c (.b true)))⟩]
def r4_15 : List AOper := [
  ⟨(some 47), none, (.bin .eql (.t 32) (.c (.i .u8 3)))⟩,
  ⟨(some 46), none, (.val (.t 47))⟩]
def r4_16 : List (AOper × List Nat) := [
  (⟨(some 48), none, (.val (.t 3))⟩, []),
  (⟨(some 49), none, (.val (.t 8))⟩, []),
  (⟨(some 50), none, (.call 13 [(.t 48), (.t 49)])⟩, []),
  (⟨(some 51), none, (.val (.t 8))⟩, []),
  (⟨(some 52), none, (.iaa 4 1 (.t 5) (.t 51))⟩, []),
  (⟨(some 53), none, (.ld none (.t 52))⟩, [2]),
  (⟨(some 54), none, (.eqb true (.t 50) (.t 53))⟩, [])]
def r4_17 : List AOper := [
  ⟨(some 2), none, (.val (.c (.b false)))⟩]
def r4_18 : List AOper := [
  ⟨(some 55), none, (.val (.t 8))⟩,
  ⟨(some 56), none, (.iaa 4 1 (.t 5) (.t 55))⟩,
  ⟨none, none, (.st 1 (.t 56) (.c (.b false)))⟩]
def r4_19 : List AOper := [
  ⟨(some 33), none, (.val (.t 3))⟩,
  ⟨(some 34), none, (.val (.t 8))⟩,
  ⟨(some 35), none, (.call 14 [(.t 33), (.t 34)])⟩]
def r4_20 : List AOper := [
  ⟨(some 57), none, (.val (.c (.i .i64 0)))⟩]
def r4_21 : List AOper := [
  ⟨(some 58), none, (.bin .lss (.t 57) (.c (.i .i64 4)))⟩]
def r4_22 : List AOper := [
  ⟨(some 59), none, (.val (.t 57))⟩,
  ⟨(some 9), none, (.val (.t 59))⟩]
def r4_23 : List (AOper × List Nat) := [
  (⟨(some 60), none, (.val (.t 3))⟩, []),
  (⟨(some 61), none, (.val (.t 9))⟩, []),
  (⟨(some 62), none, (.call 10 [(.t 60), (.t 61)])⟩, []),
  (⟨(some 63), none, (.val (.t 9))⟩, []),
  (⟨(some 64), none, (.iaa 4 1 (.t 5) (.t 63))⟩, []),
  (⟨(some 65), none, (.ld none (.t 64))⟩, [2]),
  (⟨(some 66), none, (.eqb true (.t 62) (.t 65))⟩, [])]
def r4_24 : List AOper := [
  ⟨(some 2), none, (.val (.c (.b false)))⟩]
def r4_25 : List AOper := [
  ⟨(some 67), none, (.bin .add (.t 57) (.c (.i .i64 1)))⟩,
  ⟨(some 57), none, (.val (.t 67))⟩]
def l4_26 : ACode := (.seq (.reg r4_21) (.seq (.cond (.t 58) .skip (.exit 3)) (.seq (.block 4 (.seq (.reg r4_22) (.seq (.drw r4_23) (.cond (.t 66) (.seq (.reg r4_24) .ret) .skip)))) (.reg r4_25))))
def r4_27 : List AOper := [
  ⟨(some 68), none, (.bin .add (.t 23) (.c (.i .i64 1)))⟩,
  ⟨(some 23), none, (.val (.t 68))⟩]
def l4_28 : ACode := (.seq (.reg r4_6) (.seq (.cond (.t 24) .skip (.exit 0)) (.seq (.block 1 (.seq (.reg r4_7) (.seq (.reg r4_8) (.seq (.seq (.reg r4_9) (.block 2 (.seq (.reg r4_10) (.cond (.t 36) (.seq (.reg r4_11) (.seq (.seq (.reg r4_12) (.cond (.t 43) (.seq (.reg r4_13) .ret) .skip)) (.reg r4_14))) (.seq (.reg r4_15) (.cond (.t 46) (.seq (.seq (.drw r4_16) (.cond (.t 54) (.seq (.reg r4_17) .ret) .skip)) (.reg r4_18)) (.reg r4_19))))))) (.seq (.reg r4_20) (.block 3 (.loop l4_26))))))) (.reg r4_27))))
def r4_29 : List AOper := [
  ⟨(some 69), none, (.call 15 [])⟩,
  ⟨(some 2), none, (.val (.t 69))⟩]
def a4 : AFun := ⟨70, [(.tmp 2)], (.seq (.reg r4_0) (.seq (.reg r4_1) (.seq (.seq (.reg r4_2) (.cond (.t 19) (.seq (.reg r4_3) .ret) .skip)) (.seq (.reg r4_4) (.seq (.seq (.reg r4_5) (.block 0 (.loop l4_28))) (.seq (.reg r4_29) .ret))))))⟩
theorem a4_ok : cfun Try.prog 4 = some a4 := by kernel_rfl
/-- futtock/futtocklaw08.PermitPlays -/
def r5_0 : List AOper := [
  ⟨(some 4), none, (.val (.c (.b false)))⟩]
def r5_1 : List AOper := [
  ⟨(some 29), none, (.val (.t 0))⟩,
  ⟨(some 30), none, (.call 7 [(.t 29)])⟩,
  ⟨(some 28), none, (.val (.t 30))⟩,
  ⟨(some 31), none, (.ext (.t 28) 0)⟩,
  ⟨(some 32), none, (.ext (.t 28) 1)⟩,
  ⟨(some 5), none, (.val (.t 31))⟩,
  ⟨(some 6), none, (.val (.t 32))⟩]
def r5_2 : List AOper := [
  ⟨(some 34), none, (.val (.t 0))⟩,
  ⟨(some 35), none, (.call 17 [(.t 34)])⟩,
  ⟨(some 33), none, (.val (.t 35))⟩,
  ⟨(some 36), none, (.ext (.t 33) 0)⟩,
  ⟨(some 37), none, (.ext (.t 33) 1)⟩,
  ⟨(some 7), none, (.alloc [(.sl none 0 0 true 0), (.sl none 0 0 true 0), (.sl none 0 0 true 0)])⟩,
  ⟨none, none, (.st 3 (.t 7) (.t 36))⟩,
  ⟨(some 8), none, (.val (.t 37))⟩]
def r5_3 : List AOper := [
  ⟨(some 38), none, (.val (.t 6))⟩,
  ⟨(some 39), none, (.val (.t 8))⟩,
  ⟨(some 40), none, (.bin .neq (.t 38) (.t 39))⟩,
  ⟨(some 41), none, (.val (.t 40))⟩,
  ⟨(some 42), (some (41, false)), (.val (.t 8))⟩,
  ⟨(some 43), (some (41, false)), (.bin .neq (.t 42) (.c (.i .i64 0)))⟩,
  ⟨(some 44), none, (.pick (.t 41) (.c (.b true)) (.t 43))⟩,
  ⟨(some 45), none, (.val (.t 44))⟩,
  ⟨(some 46), (some (45, false)), (.val (.t 5))⟩,
  ⟨(some 47), (some (45, false)), (.eqn 0 false (.t 46) (.c (.p none)))⟩,
  ⟨(some 48), none, (.pick (.t 45) (.c (.b true)) (.t 47))⟩]
def r5_4 : List AOper := [
  ⟨(some 49), none, (.val (.t 6))⟩,
  ⟨(some 50), none, (.val (.t 8))⟩,
  ⟨(some 51), none, (.bin .eql (.t 49) (.t 50))⟩,
  ⟨(some 52), none, (.val (.t 51))⟩,
  ⟨(some 53), (some (52, true)), (.val (.t 5))⟩,
  ⟨(some 54), (some (52, true)), (.eqn 0 true (.t 53) (.c (.p none)))⟩,
  ⟨(some 55), (some (52, true)), (.val (.t 8))⟩,
  ⟨(some 56), (some (52, true)), (.bin .eql (.t 55) (.c (.i .i64 0)))⟩,
  ⟨(some 57), (some (52, true)), (.eqb false (.t 54) (.t 56))⟩,
  ⟨(some 58), none, (.pick (.t 52) (.t 57) (.c (.b false)))⟩,
  ⟨(some 59), none, (.val (.t 58))⟩,
  ⟨(some 60), (some (59, true)), (.call 15 [])⟩,
  ⟨(some 61), none, (.pick (.t 59) (.t 60) (.c (.b false)))⟩,
  ⟨(some 4), none, (.val (.t 61))⟩]
def r5_5 : List AOper := [
  ⟨(some 62), none, (.val (.t 1))⟩,
  ⟨(some 63), none, (.call 8 [(.t 62)])⟩,
  ⟨(some 64), none, (.len (.t 63))⟩,
  ⟨(some 65), none, (.val (.c (.i .i64 0)))⟩]
def r5_6 : List AOper := [
  ⟨(some 66), none, (.bin .lss (.t 65) (.t 64))⟩]
def r5_7 : List AOper := [
  ⟨(some 67), none, (.ia 2 (.t 63) (.t 65))⟩,
  ⟨(some 68), none, (.ld (some 2) (.t 67))⟩,
  ⟨(some 10), none, (.alloc [(.i .u8 0), (.i .i64 0)])⟩,
  ⟨none, none, (.st 2 (.t 10) (.t 68))⟩]
def r5_8 : List AOper := [
  ⟨(some 11), none, (.val (.c (.b false)))⟩]
def r5_9 : List AOper := [
  ⟨(some 69), none, (.fa 0 (.t 10))⟩,
  ⟨(some 70), none, (.ld none (.t 69))⟩,
  ⟨(some 71), none, (.bin .rem (.t 70) (.c (.i .u8 5)))⟩]
def r5_10 : List AOper := [
  ⟨(some 94), none, (.bin .eql (.t 71) (.c (.i .u8 1)))⟩,
  ⟨(some 93), none, (.val (.t 94))⟩]
def r5_11 : List AOper := [
  ⟨(some 96), none, (.val (.t 5))⟩,
  ⟨(some 97), none, (.fa 1 (.t 10))⟩,
  ⟨(some 98), none, (.ld none (.t 97))⟩,
  ⟨(some 99), none, (.call 12 [(.t 96), (.t 98)])⟩,
  ⟨(some 95), none, (.val (.t 99))⟩,
  ⟨(some 100), none, (.ext (.t 95) 0)⟩,
  ⟨(some 101), none, (.ext (.t 95) 1)⟩,
  ⟨(some 12), none, (.val (.t 100))⟩,
  ⟨(some 13), none, (.val (.t 101))⟩]
def r5_12 : List AOper := [
  ⟨(some 103), none, (.fa 1 (.t 10))⟩,
  ⟨(some 104), none, (.ld none (.t 103))⟩,
  ⟨(some 105), none, (.call 18 [(.t 7), (.t 104)])⟩,
  ⟨(some 102), none, (.val (.t 105))⟩,
  ⟨(some 106), none, (.ext (.t 102) 0)⟩,
  ⟨(some 107), none, (.ext (.t 102) 1)⟩,
  ⟨(some 14), none, (.val (.t 106))⟩,
  ⟨(some 15), none, (.val (.t 107))⟩]
def r5_13 : List AOper := [
  ⟨(some 108), none, (.val (.t 12))⟩,
  ⟨(some 109), none, (.val (.t 14))⟩,
  ⟨(some 110), none, (.eqb false (.t 108) (.t 109))⟩,
  ⟨(some 111), none, (.val (.t 110))⟩,
  ⟨(some 112), (some (111, true)), (.val (.t 13))⟩,
  ⟨(some 113), (some (111, true)), (.val (.t 15))⟩,
  ⟨(some 114), (some (111, true)), (.bin .eql (.t 112) (.t 113))⟩,
  ⟨(some 115), none, (.pick (.t 111) (.t 114) (.c (.b false)))⟩,
  ⟨(some 11), none, (.val (.t 115))⟩]
def r5_14 : List AOper := [
  ⟨(some 117), none, (.bin .eql (.t 71) (.c (.i .u8 2)))⟩,
  ⟨(some 116), none, (.val (.t 117))⟩]
def r5_15 : List AOper := [
  ⟨(some 119), none, (.val (.t 5))⟩,
  ⟨(some 120), none, (.fa 1 (.t 10))⟩,
  ⟨(some 121), none, (.ld none (.t 120))⟩,
  ⟨(some 122), none, (.call 16 [(.t 119), (.t 121)])⟩,
  ⟨(some 118), none, (.val (.t 122))⟩,
  ⟨(some 123), none, (.ext (.t 118) 0)⟩,
  ⟨(some 124), none, (.ext (.t 118) 1)⟩,
  ⟨(some 16), none, (.val (.t 123))⟩,
  ⟨(some 17), none, (.val (.t 124))⟩]
def r5_16 : List AOper := [
  ⟨(some 126), none, (.fa 1 (.t 10))⟩,
  ⟨(some 127), none, (.ld none (.t 126))⟩,
  ⟨(some 128), none, (.call 19 [(.t 7), (.t 127)])⟩,
  ⟨(some 125), none, (.val (.t 128))⟩,
  ⟨(some 129), none, (.ext (.t 125) 0)⟩,
  ⟨(some 130), none, (.ext (.t 125) 1)⟩,
  ⟨(some 18), none, (.val (.t 129))⟩,
  ⟨(some 19), none, (.val (.t 130))⟩]
def r5_17 : List AOper := [
  ⟨(some 131), none, (.val (.t 16))⟩,
  ⟨(some 132), none, (.val (.t 18))⟩,
  ⟨(some 133), none, (.eqb false (.t 131) (.t 132))⟩,
  ⟨(some 134), none, (.val (.t 133))⟩,
  ⟨(some 135), (some (134, true)), (.val (.t 17))⟩,
  ⟨(some 136), (some (134, true)), (.val (.t 19))⟩,
  ⟨(some 137), (some (134, true)), (.bin .eql (.t 135) (.t 136))⟩,
  ⟨(some 138), none, (.pick (.t 134) (.t 137) (.c (.b false)))⟩,
  ⟨(some 11), none, (.val (.t 138))⟩]
def r5_18 : List AOper := [
  ⟨(some 140), none, (.bin .eql (.t 71) (.c (.i .u8 3)))⟩,
  ⟨(some 139), none, (.val (.t 140))⟩]
def r5_19 : List (AOper × List Nat) := [
  (⟨(some 141), none, (.val (.t 5))⟩, []),
  (⟨(some 142), none, (.fa 1 (.t 10))⟩, []),
  (⟨(some 143), none, (.ld none (.t 142))⟩, [1]),
  (⟨(some 144), none, (.call 13 [(.t 141), (.t 143)])⟩, []),
  (⟨(some 145), none, (.fa 1 (.t 10))⟩, []),
  (⟨(some 146), none, (.ld none (.t 145))⟩, [2]),
  (⟨(some 147), none, (.call 20 [(.t 7), (.t 146)])⟩, []),
  (⟨(some 148), none, (.eqb false (.t 144) (.t 147))⟩, []),
  (⟨(some 11), none, (.val (.t 148))⟩, [])]
def r5_20 : List AOper := [
  ⟨(some 73), none, (.val (.t 5))⟩,
  ⟨(some 74), none, (.fa 1 (.t 10))⟩,
  ⟨(some 75), none, (.ld none (.t 74))⟩,
  ⟨(some 76), none, (.call 14 [(.t 73), (.t 75)])⟩,
  ⟨(some 72), none, (.val (.t 76))⟩,
  ⟨(some 77), none, (.ext (.t 72) 0)⟩,
  ⟨(some 78), none, (.ext (.t 72) 1)⟩,
  ⟨(some 20), none, (.val (.t 77))⟩,
  ⟨(some 21), none, (.val (.t 78))⟩]
def r5_21 : List AOper := [
  ⟨(some 80), none, (.fa 1 (.t 10))⟩,
  ⟨(some 81), none, (.ld none (.t 80))⟩,
  ⟨(some 82), none, (.call 21 [(.t 7), (.t 81)])⟩,
  ⟨(some 79), none, (.val (.t 82))⟩,
  ⟨(some 83), none, (.ext (.t 79) 0)⟩,
  ⟨(some 84), none, (.ext (.t 79) 1)⟩,
  ⟨(some 22), none, (.val (.t 83))⟩,
  ⟨(some 23), none, (.val (.t 84))⟩]
def r5_22 : List AOper := [
  ⟨(some 85), none, (.val (.t 20))⟩,
  ⟨(some 86), none, (.val (.t 22))⟩,
  ⟨(some 87), none, (.eqb false (.t 85) (.t 86))⟩,
  ⟨(some 88), none, (.val (.t 87))⟩,
  ⟨(some 89), (some (88, true)), (.val (.t 21))⟩,
  ⟨(some 90), (some (88, true)), (.val (.t 23))⟩,
  ⟨(some 91), (some (88, true)), (.bin .eql (.t 89) (.t 90))⟩,
  ⟨(some 92), none, (.pick (.t 88) (.t 91) (.c (.b false)))⟩,
  ⟨(some 11), none, (.val (.t 92))⟩]
def r5_23 : List AOper := [
  ⟨(some 24), none, (.alloc [(.b false), (.b false), (.b false)])⟩]
def r5_24 : List AOper := [
  ⟨(some 149), none, (.fa 1 (.t 10))⟩,
  ⟨(some 150), none, (.ld none (.t 149))⟩,
  ⟨(some 151), none, (.call 22 [(.t 7), (.t 150)])⟩]
def r5_25 : List (AOper × List Nat) := [
  (⟨(some 152), none, (.fa 0 (.t 7))⟩, []),
  (⟨(some 153), none, (.ld none (.t 152))⟩, [1]),
  (⟨(some 154), none, (.fa 1 (.t 10))⟩, []),
  (⟨(some 155), none, (.ld none (.t 154))⟩, [1]),
  (⟨(some 156), none, (.ia 1 (.t 153) (.t 155))⟩, []),
  (⟨(some 157), none, (.ld none (.t 156))⟩, [1]),
  (⟨(some 158), none, (.fa 1 (.t 7))⟩, []),
  (⟨(some 159), none, (.ld none (.t 158))⟩, [1]),
  (⟨(some 160), none, (.fa 1 (.t 10))⟩, []),
  (⟨(some 161), none, (.ld none (.t 160))⟩, [1]),
  (⟨(some 162), none, (.ia 1 (.t 159) (.t 161))⟩, []),
  (⟨(some 163), none, (.ld none (.t 162))⟩, [1]),
  (⟨(some 164), none, (.fa 2 (.t 7))⟩, []),
  (⟨(some 165), none, (.ld none (.t 164))⟩, [1]),
  (⟨(some 166), none, (.fa 1 (.t 10))⟩, []),
  (⟨(some 167), none, (.ld none (.t 166))⟩, [1]),
  (⟨(some 168), none, (.ia 1 (.t 165) (.t 167))⟩, []),
  (⟨(some 169), none, (.ld none (.t 168))⟩, [1]),
  (⟨(some 170), none, (.build [(.b false), (.b false), (.b false)] [(0, 1, (.t 157)), (1, 1, (.t 163)), (2, 1, (.t 169))])⟩, []),
  (⟨none, none, (.st 3 (.t 24) (.t 170))⟩, [])]
def r5_26 : List (AOper × List Nat) := [
  (⟨(some 171), none, (.val (.t 11))⟩, []),
  (⟨(some 172), none, (.un .not (.t 171))⟩, []),
  (⟨(some 173), none, (.val (.t 172))⟩, []),
  (⟨(some 174), (some (173, false)), (.val (.t 5))⟩, []),
  (⟨(some 175), (some (173, false)), (.fa 1 (.t 10))⟩, []),
  (⟨(some 176), (some (173, false)), (.ld none (.t 175))⟩, [1]),
  (⟨(some 177), (some (173, false)), (.call 9 [(.t 174), (.t 176)])⟩, []),
  (⟨(some 178), (some (173, false)), (.iaa 3 1 (.t 24) (.c (.i .i64 0)))⟩, []),
  (⟨(some 179), (some (173, false)), (.ld none (.t 178))⟩, [2]),
  (⟨(some 180), (some (173, false)), (.eqb true (.t 177) (.t 179))⟩, []),
  (⟨(some 181), none, (.pick (.t 173) (.c (.b true)) (.t 180))⟩, []),
  (⟨(some 182), none, (.val (.t 181))⟩, []),
  (⟨(some 183), (some (182, false)), (.val (.t 5))⟩, []),
  (⟨(some 184), (some (182, false)), (.fa 1 (.t 10))⟩, []),
  (⟨(some 185), (some (182, false)), (.ld none (.t 184))⟩, [1]),
  (⟨(some 186), (some (182, false)), (.call 10 [(.t 183), (.t 185)])⟩, []),
  (⟨(some 187), (some (182, false)), (.iaa 3 1 (.t 24) (.c (.i .i64 1)))⟩, []),
  (⟨(some 188), (some (182, false)), (.ld none (.t 187))⟩, [2]),
  (⟨(some 189), (some (182, false)), (.eqb true (.t 186) (.t 188))⟩, []),
  (⟨(some 190), none, (.pick (.t 182) (.c (.b true)) (.t 189))⟩, []),
  (⟨(some 191), none, (.val (.t 190))⟩, []),
  (⟨(some 192), (some (191, false)), (.val (.t 5))⟩, []),
  (⟨(some 193), (some (191, false)), (.fa 1 (.t 10))⟩, []),
  (⟨(some 194), (some (191, false)), (.ld none (.t 193))⟩, [1]),
  (⟨(some 195), (some (191, false)), (.call 11 [(.t 192), (.t 194)])⟩, []),
  (⟨(some 196), (some (191, false)), (.iaa 3 1 (.t 24) (.c (.i .i64 2)))⟩, []),
  (⟨(some 197), (some (191, false)), (.ld none (.t 196))⟩, [2]),
  (⟨(some 198), (some (191, false)), (.eqb true (.t 195) (.t 197))⟩, []),
  (⟨(some 199), none, (.pick (.t 191) (.c (.b true)) (.t 198))⟩, [])]
def r5_27 : List AOper := [
  ⟨(some 4), none, (.val (.c (.b false)))⟩]
def r5_28 : List AOper := [
  ⟨(some 25), none, (.val (.c (.i .i64 0)))⟩]
def r5_29 : List AOper := [
  ⟨(some 200), none, (.val (.t 5))⟩,
  ⟨(some 201), none, (.call 23 [(.t 200)])⟩,
  ⟨(some 202), none, (.len (.t 201))⟩,
  ⟨(some 203), none, (.val (.c (.i .i64 0)))⟩]
def r5_30 : List AOper := [
  ⟨(some 204), none, (.bin .lss (.t 203) (.t 202))⟩]
def r5_31 : List AOper := [
  ⟨(some 205), none, (.ia 1 (.t 201) (.t 203))⟩,
  ⟨(some 206), none, (.ld none (.t 205))⟩,
  ⟨(some 27), none, (.val (.t 206))⟩]
def r5_32 : List AOper := [
  ⟨(some 207), none, (.val (.t 27))⟩,
  ⟨(some 208), none, (.call 22 [(.t 7), (.t 207)])⟩,
  ⟨(some 209), none, (.un .not (.t 208))⟩,
  ⟨(some 210), none, (.val (.t 209))⟩,
  ⟨(some 211), (some (210, false)), (.fa 2 (.t 7))⟩,
  ⟨(some 212), (some (210, false)), (.ld none (.t 211))⟩,
  ⟨(some 213), (some (210, false)), (.val (.t 27))⟩,
  ⟨(some 214), (some (210, false)), (.ia 1 (.t 212) (.t 213))⟩,
  ⟨(some 215), (some (210, false)), (.ld none (.t 214))⟩,
  ⟨(some 216), (some (210, false)), (.un .not (.t 215))⟩,
  ⟨(some 217), none, (.pick (.t 210) (.c (.b true)) (.t 216))⟩,
  ⟨(some 218), none, (.val (.t 217))⟩,
  ⟨(some 219), (some (218, false)), (.val (.t 27))⟩,
  ⟨(some 220), (some (218, false)), (.val (.t 25))⟩,
  ⟨(some 221), (some (218, false)), (.bin .lss (.t 219) (.t 220))⟩,
  ⟨(some 222), none, (.pick (.t 218) (.c (.b true)) (.t 221))⟩]
def r5_33 : List AOper := [
  ⟨(some 4), none, (.val (.c (.b false)))⟩]
def r5_34 : List AOper := [
  ⟨(some 223), none, (.val (.t 27))⟩,
  ⟨(some 224), none, (.bin .add (.t 223) (.c (.i .i64 1)))⟩,
  ⟨(some 25), none, (.val (.t 224))⟩]
def r5_35 : List AOper := [
  ⟨(some 225), none, (.bin .add (.t 203) (.c (.i .i64 1)))⟩,
  ⟨(some 203), none, (.val (.t 225))⟩]
def l5_36 : ACode := (.seq (.reg r5_30) (.seq (.cond (.t 204) .skip (.exit 3)) (.seq (.block 4 (.seq (.reg r5_31) (.seq (.seq (.reg r5_32) (.cond (.t 222) (.seq (.reg r5_33) .ret) .skip)) (.reg r5_34)))) (.reg r5_35))))
def r5_37 : List AOper := [
  ⟨(some 226), none, (.bin .add (.t 65) (.c (.i .i64 1)))⟩,
  ⟨(some 65), none, (.val (.t 226))⟩]
def l5_38 : ACode := (.seq (.reg r5_6) (.seq (.cond (.t 66) .skip (.exit 0)) (.seq (.block 1 (.seq (.reg r5_7) (.seq (.reg r5_8) (.seq (.seq (.reg r5_9) (.block 2 (.seq (.reg r5_10) (.cond (.t 93) (.seq (.reg r5_11) (.seq (.reg r5_12) (.reg r5_13))) (.seq (.reg r5_14) (.cond (.t 116) (.seq (.reg r5_15) (.seq (.reg r5_16) (.reg r5_17))) (.seq (.reg r5_18) (.cond (.t 139) (.drw r5_19) (.seq (.reg r5_20) (.seq (.reg r5_21) (.reg r5_22))))))))))) (.seq (.reg r5_23) (.seq (.seq (.reg r5_24) (.cond (.t 151) (.drw r5_25) .skip)) (.seq (.seq (.drw r5_26) (.cond (.t 199) (.seq (.reg r5_27) .ret) .skip)) (.seq (.reg r5_28) (.seq (.reg r5_29) (.block 3 (.loop l5_36))))))))))) (.reg r5_37))))
def r5_39 : List AOper := [
  ⟨(some 227), none, (.call 15 [])⟩,
  ⟨(some 4), none, (.val (.t 227))⟩]
def a5 : AFun := ⟨228, [(.tmp 4)], (.seq (.reg r5_0) (.seq (.reg r5_1) (.seq (.reg r5_2) (.seq (.seq (.reg r5_3) (.cond (.t 48) (.seq (.reg r5_4) .ret) .skip)) (.seq (.seq (.reg r5_5) (.block 0 (.loop l5_38))) (.seq (.reg r5_39) .ret))))))⟩
theorem a5_ok : cfun Try.prog 5 = some a5 := by kernel_rfl
/-- futtock/futtocklaw08.PermitNobody -/
def r6_0 : List AOper := [
  ⟨(some 2), none, (.val (.c (.b false)))⟩]
def r6_1 : List AOper := [
  ⟨(some 11), none, (.build [(.sl none 0 0 true 0)] [])⟩,
  ⟨(some 12), none, (.box (.t 11))⟩,
  ⟨(some 13), none, (.bsl [(.p none)] 2 [(0, 1, (.c (.p none))), (1, 1, (.t 12))])⟩,
  ⟨(some 14), none, (.len (.t 13))⟩,
  ⟨(some 15), none, (.val (.c (.i .i64 0)))⟩]
def r6_2 : List AOper := [
  ⟨(some 16), none, (.bin .lss (.t 15) (.t 14))⟩]
def r6_3 : List AOper := [
  ⟨(some 17), none, (.ia 1 (.t 13) (.t 15))⟩,
  ⟨(some 18), none, (.ld none (.t 17))⟩,
  ⟨(some 4), none, (.val (.t 18))⟩]
def r6_4 : List AOper := [
  ⟨(some 20), none, (.val (.t 4))⟩,
  ⟨(some 21), none, (.val (.t 0))⟩,
  ⟨(some 22), none, (.call 14 [(.t 20), (.t 21)])⟩,
  ⟨(some 19), none, (.val (.t 22))⟩,
  ⟨(some 23), none, (.ext (.t 19) 0)⟩,
  ⟨(some 24), none, (.ext (.t 19) 1)⟩,
  ⟨(some 5), none, (.val (.t 23))⟩,
  ⟨(some 6), none, (.val (.t 24))⟩]
def r6_5 : List AOper := [
  ⟨(some 26), none, (.val (.t 4))⟩,
  ⟨(some 27), none, (.val (.t 0))⟩,
  ⟨(some 28), none, (.call 12 [(.t 26), (.t 27)])⟩,
  ⟨(some 25), none, (.val (.t 28))⟩,
  ⟨(some 29), none, (.ext (.t 25) 0)⟩,
  ⟨(some 30), none, (.ext (.t 25) 1)⟩,
  ⟨(some 7), none, (.val (.t 29))⟩,
  ⟨(some 8), none, (.val (.t 30))⟩]
def r6_6 : List AOper := [
  ⟨(some 32), none, (.val (.t 4))⟩,
  ⟨(some 33), none, (.val (.t 0))⟩,
  ⟨(some 34), none, (.call 16 [(.t 32), (.t 33)])⟩,
  ⟨(some 31), none, (.val (.t 34))⟩,
  ⟨(some 35), none, (.ext (.t 31) 0)⟩,
  ⟨(some 36), none, (.ext (.t 31) 1)⟩,
  ⟨(some 9), none, (.val (.t 35))⟩,
  ⟨(some 10), none, (.val (.t 36))⟩]
def r6_7 : List AOper := [
  ⟨(some 37), none, (.val (.t 5))⟩,
  ⟨(some 38), none, (.val (.t 37))⟩,
  ⟨(some 39), (some (38, false)), (.val (.t 6))⟩,
  ⟨(some 40), (some (38, false)), (.bin .neq (.t 39) (.c (.i .i64 2)))⟩,
  ⟨(some 41), none, (.pick (.t 38) (.c (.b true)) (.t 40))⟩,
  ⟨(some 42), none, (.val (.t 41))⟩,
  ⟨(some 43), (some (42, false)), (.val (.t 7))⟩,
  ⟨(some 44), none, (.pick (.t 42) (.c (.b true)) (.t 43))⟩,
  ⟨(some 45), none, (.val (.t 44))⟩,
  ⟨(some 46), (some (45, false)), (.val (.t 8))⟩,
  ⟨(some 47), (some (45, false)), (.bin .neq (.t 46) (.c (.i .i64 2)))⟩,
  ⟨(some 48), none, (.pick (.t 45) (.c (.b true)) (.t 47))⟩,
  ⟨(some 49), none, (.val (.t 48))⟩,
  ⟨(some 50), (some (49, false)), (.val (.t 9))⟩,
  ⟨(some 51), none, (.pick (.t 49) (.c (.b true)) (.t 50))⟩,
  ⟨(some 52), none, (.val (.t 51))⟩,
  ⟨(some 53), (some (52, false)), (.val (.t 10))⟩,
  ⟨(some 54), (some (52, false)), (.bin .neq (.t 53) (.c (.i .i64 2)))⟩,
  ⟨(some 55), none, (.pick (.t 52) (.c (.b true)) (.t 54))⟩,
  ⟨(some 56), none, (.val (.t 55))⟩,
  ⟨(some 57), (some (56, false)), (.val (.t 4))⟩,
  ⟨(some 58), (some (56, false)), (.val (.t 0))⟩,
  ⟨(some 59), (some (56, false)), (.call 11 [(.t 57), (.t 58)])⟩,
  ⟨(some 60), none, (.pick (.t 56) (.c (.b true)) (.t 59))⟩,
  ⟨(some 61), none, (.val (.t 60))⟩,
  ⟨(some 62), (some (61, false)), (.val (.t 4))⟩,
  ⟨(some 63), (some (61, false)), (.val (.t 0))⟩,
  ⟨(some 64), (some (61, false)), (.call 9 [(.t 62), (.t 63)])⟩,
  ⟨(some 65), none, (.pick (.t 61) (.c (.b true)) (.t 64))⟩,
  ⟨(some 66), none, (.val (.t 65))⟩,
  ⟨(some 67), (some (66, false)), (.val (.t 4))⟩,
  ⟨(some 68), (some (66, false)), (.val (.t 0))⟩,
  ⟨(some 69), (some (66, false)), (.call 10 [(.t 67), (.t 68)])⟩,
  ⟨(some 70), none, (.pick (.t 66) (.c (.b true)) (.t 69))⟩,
  ⟨(some 71), none, (.val (.t 70))⟩,
  ⟨(some 72), (some (71, false)), (.val (.t 4))⟩,
  ⟨(some 73), (some (71, false)), (.val (.t 0))⟩,
  ⟨(some 74), (some (71, false)), (.call 13 [(.t 72), (.t 73)])⟩,
  ⟨(some 75), none, (.pick (.t 71) (.c (.b true)) (.t 74))⟩,
  ⟨(some 76), none, (.val (.t 75))⟩,
  ⟨(some 77), (some (76, false)), (.val (.t 4))⟩,
  ⟨(some 78), (some (76, false)), (.call 23 [(.t 77)])⟩,
  ⟨(some 79), (some (76, false)), (.len (.t 78))⟩,
  ⟨(some 80), (some (76, false)), (.bin .neq (.t 79) (.c (.i .i64 0)))⟩,
  ⟨(some 81), none, (.pick (.t 76) (.c (.b true)) (.t 80))⟩]
def r6_8 : List AOper := [
  ⟨(some 2), none, (.val (.c (.b false)))⟩]
def r6_9 : List AOper := [
  ⟨(some 82), none, (.bin .add (.t 15) (.c (.i .i64 1)))⟩,
  ⟨(some 15), none, (.val (.t 82))⟩]
def l6_10 : ACode := (.seq (.reg r6_2) (.seq (.cond (.t 16) .skip (.exit 0)) (.seq (.block 1 (.seq (.reg r6_3) (.seq (.reg r6_4) (.seq (.reg r6_5) (.seq (.reg r6_6) (.seq (.reg r6_7) (.cond (.t 81) (.seq (.reg r6_8) .ret) .skip))))))) (.reg r6_9))))
def r6_11 : List AOper := [
  ⟨(some 83), none, (.call 15 [])⟩,
  ⟨(some 2), none, (.val (.t 83))⟩]
def a6 : AFun := ⟨84, [(.tmp 2)], (.seq (.reg r6_0) (.seq (.seq (.reg r6_1) (.block 0 (.loop l6_10))) (.seq (.reg r6_11) .ret)))⟩
theorem a6_ok : cfun Try.prog 6 = some a6 := by kernel_rfl
/-- futtock/permit.New -/
def r7_0 : List AOper := [
  ⟨(some 2), none, (.val (.c (.p none)))⟩,
  ⟨(some 3), none, (.val (.c (.i .i64 0)))⟩]
def r7_1 : List AOper := [
  ⟨(some 4), none, (.val (.t 0))⟩,
  ⟨(some 5), none, (.bin .lss (.t 4) (.c (.i .i64 1)))⟩,
  ⟨(some 6), none, (.val (.t 5))⟩,
  ⟨(some 7), (some (6, false)), (.val (.t 0))⟩,
  ⟨(some 8), (some (6, false)), (.bin .gtr (.t 7) (.c (.i .i64 256)))⟩,
  ⟨(some 9), none, (.pick (.t 6) (.c (.b true)) (.t 8))⟩]
def r7_2 : List AOper := [
  ⟨(some 2), none, (.val (.c (.p none)))⟩,
  ⟨(some 3), none, (.val (.c (.i .i64 1)))⟩]
def r7_3 : List AOper := [
  ⟨(some 10), none, (.val (.t 0))⟩,
  ⟨(some 11), none, (.mks [(.b false), (.b false), (.b false)] 3 (.t 10) (.t 10))⟩,
  ⟨(some 12), none, (.build [(.sl none 0 0 true 0)] [(0, 1, (.t 11))])⟩,
  ⟨(some 13), none, (.box (.t 12))⟩,
  ⟨(some 2), none, (.val (.t 13))⟩,
  ⟨(some 3), none, (.val (.c (.i .i64 0)))⟩]
def a7 : AFun := ⟨14, [(.tmp 2), (.tmp 3)], (.seq (.reg r7_0) (.seq (.seq (.reg r7_1) (.cond (.t 9) (.seq (.reg r7_2) .ret) .skip)) (.seq (.reg r7_3) .ret)))⟩
theorem a7_ok : cfun Try.prog 7 = some a7 := by kernel_rfl
/-- futtock/futtocklaw08.short -/
def r8_0 : List AOper := [
  ⟨(some 2), none, (.val (.c (.sl none 0 0 true 0)))⟩]
def r8_1 : List AOper := [
  ⟨(some 3), none, (.val (.t 0))⟩,
  ⟨(some 4), none, (.val (.t 0))⟩,
  ⟨(some 5), none, (.len (.t 4))⟩,
  ⟨(some 6), none, (.mm false [(.t 5), (.c (.i .i64 300))])⟩,
  ⟨(some 7), none, (.sls 2 (.t 3) none (some (.t 6)) none)⟩,
  ⟨(some 2), none, (.val (.t 7))⟩]
def a8 : AFun := ⟨8, [(.tmp 2)], (.seq (.reg r8_0) (.seq (.reg r8_1) .ret))⟩
theorem a8_ok : cfun Try.prog 8 = some a8 := by kernel_rfl
/-- (*futtock/permit.Table).Permit -/
def r9_0 : List AOper := [
  ⟨(some 4), none, (.val (.c (.b false)))⟩]
def r9_1 : List AOper := [
  ⟨(some 5), none, (.val (.t 0))⟩,
  ⟨(some 6), none, (.val (.t 1))⟩,
  ⟨(some 7), none, (.call 24 [(.t 5), (.t 6)])⟩,
  ⟨(some 8), none, (.fd none 0 (.t 7))⟩,
  ⟨(some 4), none, (.val (.t 8))⟩]
def a9 : AFun := ⟨9, [(.tmp 4)], (.seq (.reg r9_0) (.seq (.reg r9_1) .ret))⟩
theorem a9_ok : cfun Try.prog 9 = some a9 := by kernel_rfl
/-- (*futtock/permit.Table).Flag -/
def r10_0 : List AOper := [
  ⟨(some 4), none, (.val (.c (.b false)))⟩]
def r10_1 : List AOper := [
  ⟨(some 5), none, (.val (.t 0))⟩,
  ⟨(some 6), none, (.val (.t 1))⟩,
  ⟨(some 7), none, (.call 24 [(.t 5), (.t 6)])⟩,
  ⟨(some 8), none, (.fd none 1 (.t 7))⟩,
  ⟨(some 4), none, (.val (.t 8))⟩]
def a10 : AFun := ⟨9, [(.tmp 4)], (.seq (.reg r10_0) (.seq (.reg r10_1) .ret))⟩
theorem a10_ok : cfun Try.prog 10 = some a10 := by kernel_rfl
/-- (*futtock/permit.Table).Asleep -/
def r11_0 : List AOper := [
  ⟨(some 4), none, (.val (.c (.b false)))⟩]
def r11_1 : List AOper := [
  ⟨(some 5), none, (.val (.t 0))⟩,
  ⟨(some 6), none, (.val (.t 1))⟩,
  ⟨(some 7), none, (.call 24 [(.t 5), (.t 6)])⟩,
  ⟨(some 8), none, (.fd none 2 (.t 7))⟩,
  ⟨(some 4), none, (.val (.t 8))⟩]
def a11 : AFun := ⟨9, [(.tmp 4)], (.seq (.reg r11_0) (.seq (.reg r11_1) .ret))⟩
theorem a11_ok : cfun Try.prog 11 = some a11 := by kernel_rfl
/-- (*futtock/permit.Table).Unpark -/
def r12_0 : List AOper := [
  ⟨(some 4), none, (.val (.c (.b false)))⟩,
  ⟨(some 5), none, (.val (.c (.i .i64 0)))⟩]
def r12_1 : List AOper := [
  ⟨(some 10), none, (.val (.t 0))⟩,
  ⟨(some 11), none, (.val (.t 1))⟩,
  ⟨(some 12), none, (.call 25 [(.t 10), (.t 11)])⟩,
  ⟨(some 9), none, (.val (.t 12))⟩,
  ⟨(some 13), none, (.ext (.t 9) 0)⟩,
  ⟨(some 14), none, (.ext (.t 9) 1)⟩,
  ⟨(some 6), none, (.val (.t 13))⟩,
  ⟨(some 7), none, (.val (.t 14))⟩]
def r12_2 : List AOper := [
  ⟨(some 15), none, (.val (.t 7))⟩,
  ⟨(some 16), none, (.bin .neq (.t 15) (.c (.i .i64 0)))⟩]
def r12_3 : List AOper := [
  ⟨(some 17), none, (.val (.t 7))⟩,
  ⟨(some 4), none, (.val (.c (.b false)))⟩,
  ⟨(some 5), none, (.val (.t 17))⟩]
def r12_4 : List AOper := [
  ⟨(some 18), none, (.val (.t 6))⟩,
  ⟨(some 19), none, (.nilc (.t 18))⟩,
  ⟨(some 20), none, (.fa 2 (.t 19))⟩,
  ⟨(some 21), none, (.ld none (.t 20))⟩,
  ⟨(some 8), none, (.val (.t 21))⟩]
def r12_5 : List AOper := [
  ⟨(some 22), none, (.val (.t 6))⟩,
  ⟨(some 23), none, (.nilc (.t 22))⟩,
  ⟨(some 24), none, (.fa 2 (.t 23))⟩,
  ⟨none, none, (.st 1 (.t 24) (.c (.b false)))⟩]
def r12_6 : List AOper := [
  ⟨(some 25), none, (.val (.t 6))⟩,
  ⟨(some 26), none, (.val (.t 6))⟩,
  ⟨(some 27), none, (.nilc (.t 26))⟩,
  ⟨(some 28), none, (.fa 0 (.t 27))⟩,
  ⟨(some 29), none, (.ld none (.t 28))⟩,
  ⟨(some 30), none, (.val (.t 29))⟩,
  ⟨(some 31), (some (30, false)), (.val (.t 8))⟩,
  ⟨(some 32), (some (30, false)), (.un .not (.t 31))⟩,
  ⟨(some 33), none, (.pick (.t 30) (.c (.b true)) (.t 32))⟩,
  ⟨(some 34), none, (.nilc (.t 25))⟩,
  ⟨(some 35), none, (.fa 0 (.t 34))⟩,
  ⟨none, none, (.st 1 (.t 35) (.t 33))⟩]
def r12_7 : List AOper := [
  ⟨(some 36), none, (.val (.t 8))⟩,
  ⟨(some 4), none, (.val (.t 36))⟩,
  ⟨(some 5), none, (.val (.c (.i .i64 0)))⟩]
def a12 : AFun := ⟨37, [(.tmp 4), (.tmp 5)], (.seq (.reg r12_0) (.seq (.reg r12_1) (.seq (.seq (.reg r12_2) (.cond (.t 16) (.seq (.reg r12_3) .ret) .skip)) (.seq (.reg r12_4) (.seq (.reg r12_5) (.seq (.reg r12_6) (.seq (.reg r12_7) .ret)))))))⟩
theorem a12_ok : cfun Try.prog 12 = some a12 := by kernel_rfl
/-- (*futtock/permit.Table).Take -/
def r13_0 : List AOper := [
  ⟨(some 4), none, (.val (.c (.b false)))⟩]
def r13_1 : List AOper := [
  ⟨(some 9), none, (.val (.t 0))⟩,
  ⟨(some 10), none, (.val (.t 1))⟩,
  ⟨(some 11), none, (.call 25 [(.t 9), (.t 10)])⟩,
  ⟨(some 8), none, (.val (.t 11))⟩,
  ⟨(some 12), none, (.ext (.t 8) 0)⟩,
  ⟨(some 13), none, (.ext (.t 8) 1)⟩,
  ⟨(some 5), none, (.val (.t 12))⟩,
  ⟨(some 6), none, (.val (.t 13))⟩]
def r13_2 : List AOper := [
  ⟨(some 14), none, (.val (.t 6))⟩,
  ⟨(some 15), none, (.bin .neq (.t 14) (.c (.i .i64 0)))⟩]
def r13_3 : List AOper := [
  ⟨(some 4), none, (.val (.c (.b false)))⟩]
def r13_4 : List AOper := [
  ⟨(some 16), none, (.val (.t 5))⟩,
  ⟨(some 17), none, (.nilc (.t 16))⟩,
  ⟨(some 18), none, (.fa 1 (.t 17))⟩,
  ⟨(some 19), none, (.ld none (.t 18))⟩,
  ⟨(some 7), none, (.val (.t 19))⟩]
def r13_5 : List AOper := [
  ⟨(some 20), none, (.val (.t 5))⟩,
  ⟨(some 21), none, (.nilc (.t 20))⟩,
  ⟨(some 22), none, (.fa 1 (.t 21))⟩,
  ⟨none, none, (.st 1 (.t 22) (.c (.b false)))⟩]
def r13_6 : List AOper := [
  ⟨(some 23), none, (.val (.t 7))⟩,
  ⟨(some 4), none, (.val (.t 23))⟩]
def a13 : AFun := ⟨24, [(.tmp 4)], (.seq (.reg r13_0) (.seq (.reg r13_1) (.seq (.seq (.reg r13_2) (.cond (.t 15) (.seq (.reg r13_3) .ret) .skip)) (.seq (.reg r13_4) (.seq (.reg r13_5) (.seq (.reg r13_6) .ret))))))⟩
theorem a13_ok : cfun Try.prog 13 = some a13 := by kernel_rfl
/-- (*futtock/permit.Table).Park -/
def r14_0 : List AOper := [
  ⟨(some 4), none, (.val (.c (.b false)))⟩,
  ⟨(some 5), none, (.val (.c (.i .i64 0)))⟩]
def r14_1 : List AOper := [
  ⟨(some 9), none, (.val (.t 0))⟩,
  ⟨(some 10), none, (.val (.t 1))⟩,
  ⟨(some 11), none, (.call 25 [(.t 9), (.t 10)])⟩,
  ⟨(some 8), none, (.val (.t 11))⟩,
  ⟨(some 12), none, (.ext (.t 8) 0)⟩,
  ⟨(some 13), none, (.ext (.t 8) 1)⟩,
  ⟨(some 6), none, (.val (.t 12))⟩,
  ⟨(some 7), none, (.val (.t 13))⟩]
def r14_2 : List AOper := [
  ⟨(some 14), none, (.val (.t 7))⟩,
  ⟨(some 15), none, (.bin .neq (.t 14) (.c (.i .i64 0)))⟩]
def r14_3 : List AOper := [
  ⟨(some 16), none, (.val (.t 7))⟩,
  ⟨(some 4), none, (.val (.c (.b false)))⟩,
  ⟨(some 5), none, (.val (.t 16))⟩]
def r14_4 : List AOper := [
  ⟨(some 17), none, (.val (.t 6))⟩,
  ⟨(some 18), none, (.val (.t 6))⟩,
  ⟨(some 19), none, (.nilc (.t 18))⟩,
  ⟨(some 20), none, (.fa 2 (.t 19))⟩,
  ⟨(some 21), none, (.ld none (.t 20))⟩,
  ⟨(some 22), none, (.val (.t 21))⟩,
  ⟨(some 23), (some (22, false)), (.val (.t 6))⟩,
  ⟨(some 24), (some (22, false)), (.nilc (.t 23))⟩,
  ⟨(some 25), (some (22, false)), (.fa 0 (.t 24))⟩,
  ⟨(some 26), (some (22, false)), (.ld none (.t 25))⟩,
  ⟨(some 27), (some (22, false)), (.un .not (.t 26))⟩,
  ⟨(some 28), none, (.pick (.t 22) (.c (.b true)) (.t 27))⟩,
  ⟨(some 29), none, (.nilc (.t 17))⟩,
  ⟨(some 30), none, (.fa 2 (.t 29))⟩,
  ⟨none, none, (.st 1 (.t 30) (.t 28))⟩]
def r14_5 : List AOper := [
  ⟨(some 31), none, (.val (.t 6))⟩,
  ⟨(some 32), none, (.nilc (.t 31))⟩,
  ⟨(some 33), none, (.fa 0 (.t 32))⟩,
  ⟨none, none, (.st 1 (.t 33) (.c (.b false)))⟩]
def r14_6 : List AOper := [
  ⟨(some 34), none, (.val (.t 6))⟩,
  ⟨(some 35), none, (.nilc (.t 34))⟩,
  ⟨(some 36), none, (.fa 2 (.t 35))⟩,
  ⟨(some 37), none, (.ld none (.t 36))⟩,
  ⟨(some 4), none, (.val (.t 37))⟩,
  ⟨(some 5), none, (.val (.c (.i .i64 0)))⟩]
def a14 : AFun := ⟨38, [(.tmp 4), (.tmp 5)], (.seq (.reg r14_0) (.seq (.reg r14_1) (.seq (.seq (.reg r14_2) (.cond (.t 15) (.seq (.reg r14_3) .ret) .skip)) (.seq (.reg r14_4) (.seq (.reg r14_5) (.seq (.reg r14_6) .ret))))))⟩
theorem a14_ok : cfun Try.prog 14 = some a14 := by kernel_rfl
/-- futtock/futtocklaw08.alive -/
def r15_0 : List AOper := [
  ⟨(some 0), none, (.val (.c (.b false)))⟩]
def r15_1 : List AOper := [
  ⟨(some 12), none, (.call 7 [(.c (.i .i64 2))])⟩,
  ⟨(some 11), none, (.val (.t 12))⟩,
  ⟨(some 13), none, (.ext (.t 11) 0)⟩,
  ⟨(some 14), none, (.ext (.t 11) 1)⟩,
  ⟨(some 1), none, (.val (.t 13))⟩,
  ⟨(some 2), none, (.val (.t 14))⟩]
def r15_2 : List AOper := [
  ⟨(some 15), none, (.val (.t 1))⟩,
  ⟨(some 16), none, (.eqn 0 false (.t 15) (.c (.p none)))⟩,
  ⟨(some 17), none, (.val (.t 16))⟩,
  ⟨(some 18), (some (17, false)), (.val (.t 2))⟩,
  ⟨(some 19), (some (17, false)), (.bin .neq (.t 18) (.c (.i .i64 0)))⟩,
  ⟨(some 20), none, (.pick (.t 17) (.c (.b true)) (.t 19))⟩]
def r15_3 : List AOper := [
  ⟨(some 0), none, (.val (.c (.b false)))⟩]
def r15_4 : List AOper := [
  ⟨(some 22), none, (.val (.t 1))⟩,
  ⟨(some 23), none, (.call 12 [(.t 22), (.c (.i .i64 0))])⟩,
  ⟨(some 21), none, (.val (.t 23))⟩,
  ⟨(some 24), none, (.ext (.t 21) 0)⟩,
  ⟨(some 25), none, (.ext (.t 21) 1)⟩,
  ⟨(some 3), none, (.val (.t 24))⟩,
  ⟨(some 4), none, (.val (.t 25))⟩]
def r15_5 : List AOper := [
  ⟨(some 27), none, (.val (.t 1))⟩,
  ⟨(some 28), none, (.call 14 [(.t 27), (.c (.i .i64 0))])⟩,
  ⟨(some 26), none, (.val (.t 28))⟩,
  ⟨(some 29), none, (.ext (.t 26) 0)⟩,
  ⟨(some 30), none, (.ext (.t 26) 1)⟩,
  ⟨(some 5), none, (.val (.t 29))⟩,
  ⟨(some 6), none, (.val (.t 30))⟩]
def r15_6 : List AOper := [
  ⟨(some 32), none, (.val (.t 1))⟩,
  ⟨(some 33), none, (.call 14 [(.t 32), (.c (.i .i64 0))])⟩,
  ⟨(some 31), none, (.val (.t 33))⟩,
  ⟨(some 34), none, (.ext (.t 31) 0)⟩,
  ⟨(some 35), none, (.ext (.t 31) 1)⟩,
  ⟨(some 7), none, (.val (.t 34))⟩,
  ⟨(some 8), none, (.val (.t 35))⟩]
def r15_7 : List AOper := [
  ⟨(some 37), none, (.val (.t 1))⟩,
  ⟨(some 38), none, (.call 12 [(.t 37), (.c (.i .i64 0))])⟩,
  ⟨(some 36), none, (.val (.t 38))⟩,
  ⟨(some 39), none, (.ext (.t 36) 0)⟩,
  ⟨(some 40), none, (.ext (.t 36) 1)⟩,
  ⟨(some 9), none, (.val (.t 39))⟩,
  ⟨(some 10), none, (.val (.t 40))⟩]
def r15_8 : List AOper := [
  ⟨(some 41), none, (.val (.t 3))⟩,
  ⟨(some 42), none, (.un .not (.t 41))⟩,
  ⟨(some 43), none, (.val (.t 42))⟩,
  ⟨(some 44), (some (43, true)), (.val (.t 5))⟩,
  ⟨(some 45), (some (43, true)), (.un .not (.t 44))⟩,
  ⟨(some 46), none, (.pick (.t 43) (.t 45) (.c (.b false)))⟩,
  ⟨(some 47), none, (.val (.t 46))⟩,
  ⟨(some 48), (some (47, true)), (.val (.t 7))⟩,
  ⟨(some 49), none, (.pick (.t 47) (.t 48) (.c (.b false)))⟩,
  ⟨(some 50), none, (.val (.t 49))⟩,
  ⟨(some 51), (some (50, true)), (.val (.t 9))⟩,
  ⟨(some 52), none, (.pick (.t 50) (.t 51) (.c (.b false)))⟩,
  ⟨(some 53), none, (.val (.t 52))⟩,
  ⟨(some 54), (some (53, true)), (.val (.t 1))⟩,
  ⟨(some 55), (some (53, true)), (.call 23 [(.t 54)])⟩,
  ⟨(some 56), (some (53, true)), (.len (.t 55))⟩,
  ⟨(some 57), (some (53, true)), (.bin .eql (.t 56) (.c (.i .i64 0)))⟩,
  ⟨(some 58), none, (.pick (.t 53) (.t 57) (.c (.b false)))⟩,
  ⟨(some 0), none, (.val (.t 58))⟩]
def a15 : AFun := ⟨59, [(.tmp 0)], (.seq (.reg r15_0) (.seq (.reg r15_1) (.seq (.seq (.reg r15_2) (.cond (.t 20) (.seq (.reg r15_3) .ret) .skip)) (.seq (.reg r15_4) (.seq (.reg r15_5) (.seq (.reg r15_6) (.seq (.reg r15_7) (.seq (.reg r15_8) .ret))))))))⟩
theorem a15_ok : cfun Try.prog 15 = some a15 := by kernel_rfl
/-- (*futtock/permit.Table).Interrupt -/
def r16_0 : List AOper := [
  ⟨(some 4), none, (.val (.c (.b false)))⟩,
  ⟨(some 5), none, (.val (.c (.i .i64 0)))⟩]
def r16_1 : List AOper := [
  ⟨(some 9), none, (.val (.t 0))⟩,
  ⟨(some 10), none, (.val (.t 1))⟩,
  ⟨(some 11), none, (.call 25 [(.t 9), (.t 10)])⟩,
  ⟨(some 8), none, (.val (.t 11))⟩,
  ⟨(some 12), none, (.ext (.t 8) 0)⟩,
  ⟨(some 13), none, (.ext (.t 8) 1)⟩,
  ⟨(some 6), none, (.val (.t 12))⟩,
  ⟨(some 7), none, (.val (.t 13))⟩]
def r16_2 : List AOper := [
  ⟨(some 14), none, (.val (.t 7))⟩,
  ⟨(some 15), none, (.bin .neq (.t 14) (.c (.i .i64 0)))⟩]
def r16_3 : List AOper := [
  ⟨(some 16), none, (.val (.t 7))⟩,
  ⟨(some 4), none, (.val (.c (.b false)))⟩,
  ⟨(some 5), none, (.val (.t 16))⟩]
def r16_4 : List AOper := [
  ⟨(some 17), none, (.val (.t 6))⟩,
  ⟨(some 18), none, (.nilc (.t 17))⟩,
  ⟨(some 19), none, (.fa 1 (.t 18))⟩,
  ⟨none, none, (.st 1 (.t 19) (.c (.b true)))⟩]
def r16_5 : List AOper := [
  ⟨(some 20), none, (.val (.t 0))⟩,
  ⟨(some 21), none, (.val (.t 1))⟩,
  ⟨(some 22), none, (.call 12 [(.t 20), (.t 21)])⟩,
  ⟨(some 23), none, (.ext (.t 22) 0)⟩,
  ⟨(some 24), none, (.ext (.t 22) 1)⟩,
  ⟨(some 4), none, (.val (.t 23))⟩,
  ⟨(some 5), none, (.val (.t 24))⟩]
def a16 : AFun := ⟨25, [(.tmp 4), (.tmp 5)], (.seq (.reg r16_0) (.seq (.reg r16_1) (.seq (.seq (.reg r16_2) (.cond (.t 15) (.seq (.reg r16_3) .ret) .skip)) (.seq (.reg r16_4) (.seq (.reg r16_5) .ret)))))⟩
theorem a16_ok : cfun Try.prog 16 = some a16 := by kernel_rfl
/-- futtock/futtockref08.New -/
def r17_0 : List AOper := [
  ⟨(some 2), none, (.alloc [(.sl none 0 0 true 0), (.sl none 0 0 true 0), (.sl none 0 0 true 0)])⟩,
  ⟨(some 3), none, (.val (.c (.i .i64 0)))⟩]
def r17_1 : List AOper := [
  ⟨(some 4), none, (.val (.t 0))⟩,
  ⟨(some 5), none, (.bin .lss (.t 4) (.c (.i .i64 1)))⟩,
  ⟨(some 6), none, (.val (.t 5))⟩,
  ⟨(some 7), (some (6, false)), (.val (.t 0))⟩,
  ⟨(some 8), (some (6, false)), (.bin .gtr (.t 7) (.c (.i .i64 256)))⟩,
  ⟨(some 9), none, (.pick (.t 6) (.c (.b true)) (.t 8))⟩]
def r17_2 : List AOper := [
  ⟨(some 10), none, (.build [(.sl none 0 0 true 0), (.sl none 0 0 true 0), (.sl none 0 0 true 0)] [])⟩,
  ⟨none, none, (.st 3 (.t 2) (.t 10))⟩,
  ⟨(some 3), none, (.val (.c (.i .i64 1)))⟩]
def r17_3 : List (AOper × List Nat) := [
  (⟨(some 11), none, (.val (.t 0))⟩, []),
  (⟨(some 12), none, (.mks [(.b false)] 1 (.t 11) (.t 11))⟩, []),
  (⟨(some 13), none, (.val (.t 0))⟩, []),
  (⟨(some 14), none, (.mks [(.b false)] 1 (.t 13) (.t 13))⟩, []),
  (⟨(some 15), none, (.val (.t 0))⟩, []),
  (⟨(some 16), none, (.mks [(.b false)] 1 (.t 15) (.t 15))⟩, []),
  (⟨(some 17), none, (.build [(.sl none 0 0 true 0), (.sl none 0 0 true 0), (.sl none 0 0 true 0)] [(0, 1, (.t 12)), (1, 1, (.t 14)), (2, 1, (.t 16))])⟩, []),
  (⟨none, none, (.st 3 (.t 2) (.t 17))⟩, []),
  (⟨(some 3), none, (.val (.c (.i .i64 0)))⟩, [])]
def a17 : AFun := ⟨18, [(.cell 2 (some 3)), (.tmp 3)], (.seq (.reg r17_0) (.seq (.seq (.reg r17_1) (.cond (.t 9) (.seq (.reg r17_2) .ret) .skip)) (.seq (.drw r17_3) .ret)))⟩
theorem a17_ok : cfun Try.prog 17 = some a17 := by kernel_rfl
/-- (*futtock/futtockref08.Table).Unpark -/
def r18_0 : List AOper := [
  ⟨(some 4), none, (.val (.c (.b false)))⟩,
  ⟨(some 5), none, (.val (.c (.i .i64 0)))⟩]
def r18_1 : List AOper := [
  ⟨(some 6), none, (.val (.t 0))⟩,
  ⟨(some 7), none, (.val (.t 1))⟩,
  ⟨(some 8), none, (.call 22 [(.t 6), (.t 7)])⟩,
  ⟨(some 9), none, (.un .not (.t 8))⟩]
def r18_2 : List AOper := [
  ⟨(some 4), none, (.val (.c (.b false)))⟩,
  ⟨(some 5), none, (.val (.c (.i .i64 1)))⟩]
def r18_3 : List AOper := [
  ⟨(some 10), none, (.val (.t 0))⟩,
  ⟨(some 11), none, (.nilc (.t 10))⟩,
  ⟨(some 12), none, (.fa 2 (.t 11))⟩,
  ⟨(some 13), none, (.ld none (.t 12))⟩,
  ⟨(some 14), none, (.val (.t 1))⟩,
  ⟨(some 15), none, (.ia 1 (.t 13) (.t 14))⟩,
  ⟨(some 16), none, (.ld none (.t 15))⟩]
def r18_4 : List AOper := [
  ⟨(some 17), none, (.val (.t 0))⟩,
  ⟨(some 18), none, (.nilc (.t 17))⟩,
  ⟨(some 19), none, (.fa 2 (.t 18))⟩,
  ⟨(some 20), none, (.ld none (.t 19))⟩,
  ⟨(some 21), none, (.val (.t 1))⟩,
  ⟨(some 22), none, (.ia 1 (.t 20) (.t 21))⟩,
  ⟨none, none, (.st 1 (.t 22) (.c (.b false)))⟩]
def r18_5 : List AOper := [
  ⟨(some 4), none, (.val (.c (.b true)))⟩,
  ⟨(some 5), none, (.val (.c (.i .i64 0)))⟩]
def r18_6 : List AOper := [
  ⟨(some 23), none, (.val (.t 0))⟩,
  ⟨(some 24), none, (.nilc (.t 23))⟩,
  ⟨(some 25), none, (.fa 0 (.t 24))⟩,
  ⟨(some 26), none, (.ld none (.t 25))⟩,
  ⟨(some 27), none, (.val (.t 1))⟩,
  ⟨(some 28), none, (.ia 1 (.t 26) (.t 27))⟩,
  ⟨none, none, (.st 1 (.t 28) (.c (.b true)))⟩]
def r18_7 : List AOper := [
  ⟨(some 4), none, (.val (.c (.b false)))⟩,
  ⟨(some 5), none, (.val (.c (.i .i64 0)))⟩]
def a18 : AFun := ⟨29, [(.tmp 4), (.tmp 5)], (.seq (.reg r18_0) (.seq (.seq (.reg r18_1) (.cond (.t 9) (.seq (.reg r18_2) .ret) .skip)) (.seq (.seq (.reg r18_3) (.cond (.t 16) (.seq (.reg r18_4) (.seq (.reg r18_5) .ret)) .skip)) (.seq (.reg r18_6) (.seq (.reg r18_7) .ret)))))⟩
theorem a18_ok : cfun Try.prog 18 = some a18 := by kernel_rfl
/-- (*futtock/futtockref08.Table).Interrupt -/
def r19_0 : List AOper := [
  ⟨(some 4), none, (.val (.c (.b false)))⟩,
  ⟨(some 5), none, (.val (.c (.i .i64 0)))⟩]
def r19_1 : List AOper := [
  ⟨(some 6), none, (.val (.t 0))⟩,
  ⟨(some 7), none, (.val (.t 1))⟩,
  ⟨(some 8), none, (.call 22 [(.t 6), (.t 7)])⟩,
  ⟨(some 9), none, (.un .not (.t 8))⟩]
def r19_2 : List AOper := [
  ⟨(some 4), none, (.val (.c (.b false)))⟩,
  ⟨(some 5), none, (.val (.c (.i .i64 1)))⟩]
def r19_3 : List AOper := [
  ⟨(some 10), none, (.val (.t 0))⟩,
  ⟨(some 11), none, (.nilc (.t 10))⟩,
  ⟨(some 12), none, (.fa 1 (.t 11))⟩,
  ⟨(some 13), none, (.ld none (.t 12))⟩,
  ⟨(some 14), none, (.val (.t 1))⟩,
  ⟨(some 15), none, (.ia 1 (.t 13) (.t 14))⟩,
  ⟨none, none, (.st 1 (.t 15) (.c (.b true)))⟩]
def r19_4 : List AOper := [
  ⟨(some 16), none, (.val (.t 0))⟩,
  ⟨(some 17), none, (.val (.t 1))⟩,
  ⟨(some 18), none, (.call 18 [(.t 16), (.t 17)])⟩,
  ⟨(some 19), none, (.ext (.t 18) 0)⟩,
  ⟨(some 20), none, (.ext (.t 18) 1)⟩,
  ⟨(some 4), none, (.val (.t 19))⟩,
  ⟨(some 5), none, (.val (.t 20))⟩]
def a19 : AFun := ⟨21, [(.tmp 4), (.tmp 5)], (.seq (.reg r19_0) (.seq (.seq (.reg r19_1) (.cond (.t 9) (.seq (.reg r19_2) .ret) .skip)) (.seq (.reg r19_3) (.seq (.reg r19_4) .ret))))⟩
theorem a19_ok : cfun Try.prog 19 = some a19 := by kernel_rfl
/-- (*futtock/futtockref08.Table).Take -/
def r20_0 : List AOper := [
  ⟨(some 4), none, (.val (.c (.b false)))⟩]
def r20_1 : List AOper := [
  ⟨(some 5), none, (.val (.t 0))⟩,
  ⟨(some 6), none, (.val (.t 1))⟩,
  ⟨(some 7), none, (.call 22 [(.t 5), (.t 6)])⟩,
  ⟨(some 8), none, (.un .not (.t 7))⟩,
  ⟨(some 9), none, (.val (.t 8))⟩,
  ⟨(some 10), (some (9, false)), (.val (.t 0))⟩,
  ⟨(some 11), (some (9, false)), (.nilc (.t 10))⟩,
  ⟨(some 12), (some (9, false)), (.fa 1 (.t 11))⟩,
  ⟨(some 13), (some (9, false)), (.ld none (.t 12))⟩,
  ⟨(some 14), (some (9, false)), (.val (.t 1))⟩,
  ⟨(some 15), (some (9, false)), (.ia 1 (.t 13) (.t 14))⟩,
  ⟨(some 16), (some (9, false)), (.ld none (.t 15))⟩,
  ⟨(some 17), (some (9, false)), (.un .not (.t 16))⟩,
  ⟨(some 18), none, (.pick (.t 9) (.c (.b true)) (.t 17))⟩]
def r20_2 : List AOper := [
  ⟨(some 4), none, (.val (.c (.b false)))⟩]
def r20_3 : List AOper := [
  ⟨(some 19), none, (.val (.t 0))⟩,
  ⟨(some 20), none, (.nilc (.t 19))⟩,
  ⟨(some 21), none, (.fa 1 (.t 20))⟩,
  ⟨(some 22), none, (.ld none (.t 21))⟩,
  ⟨(some 23), none, (.val (.t 1))⟩,
  ⟨(some 24), none, (.ia 1 (.t 22) (.t 23))⟩,
  ⟨none, none, (.st 1 (.t 24) (.c (.b false)))⟩]
def r20_4 : List AOper := [
  ⟨(some 4), none, (.val (.c (.b true)))⟩]
def a20 : AFun := ⟨25, [(.tmp 4)], (.seq (.reg r20_0) (.seq (.seq (.reg r20_1) (.cond (.t 18) (.seq (.reg r20_2) .ret) .skip)) (.seq (.reg r20_3) (.seq (.reg r20_4) .ret))))⟩
theorem a20_ok : cfun Try.prog 20 = some a20 := by kernel_rfl
/-- (*futtock/futtockref08.Table).Park -/
def r21_0 : List AOper := [
  ⟨(some 4), none, (.val (.c (.b false)))⟩,
  ⟨(some 5), none, (.val (.c (.i .i64 0)))⟩]
def r21_1 : List AOper := [
  ⟨(some 6), none, (.val (.t 0))⟩,
  ⟨(some 7), none, (.val (.t 1))⟩,
  ⟨(some 8), none, (.call 22 [(.t 6), (.t 7)])⟩,
  ⟨(some 9), none, (.un .not (.t 8))⟩]
def r21_2 : List AOper := [
  ⟨(some 4), none, (.val (.c (.b false)))⟩,
  ⟨(some 5), none, (.val (.c (.i .i64 1)))⟩]
def r21_3 : List AOper := [
  ⟨(some 10), none, (.val (.t 0))⟩,
  ⟨(some 11), none, (.nilc (.t 10))⟩,
  ⟨(some 12), none, (.fa 0 (.t 11))⟩,
  ⟨(some 13), none, (.ld none (.t 12))⟩,
  ⟨(some 14), none, (.val (.t 1))⟩,
  ⟨(some 15), none, (.ia 1 (.t 13) (.t 14))⟩,
  ⟨(some 16), none, (.ld none (.t 15))⟩]
def r21_4 : List AOper := [
  ⟨(some 17), none, (.val (.t 0))⟩,
  ⟨(some 18), none, (.nilc (.t 17))⟩,
  ⟨(some 19), none, (.fa 0 (.t 18))⟩,
  ⟨(some 20), none, (.ld none (.t 19))⟩,
  ⟨(some 21), none, (.val (.t 1))⟩,
  ⟨(some 22), none, (.ia 1 (.t 20) (.t 21))⟩,
  ⟨none, none, (.st 1 (.t 22) (.c (.b false)))⟩]
def r21_5 : List AOper := [
  ⟨(some 4), none, (.val (.c (.b false)))⟩,
  ⟨(some 5), none, (.val (.c (.i .i64 0)))⟩]
def r21_6 : List AOper := [
  ⟨(some 23), none, (.val (.t 0))⟩,
  ⟨(some 24), none, (.nilc (.t 23))⟩,
  ⟨(some 25), none, (.fa 2 (.t 24))⟩,
  ⟨(some 26), none, (.ld none (.t 25))⟩,
  ⟨(some 27), none, (.val (.t 1))⟩,
  ⟨(some 28), none, (.ia 1 (.t 26) (.t 27))⟩,
  ⟨none, none, (.st 1 (.t 28) (.c (.b true)))⟩]
def r21_7 : List AOper := [
  ⟨(some 4), none, (.val (.c (.b true)))⟩,
  ⟨(some 5), none, (.val (.c (.i .i64 0)))⟩]
def a21 : AFun := ⟨29, [(.tmp 4), (.tmp 5)], (.seq (.reg r21_0) (.seq (.seq (.reg r21_1) (.cond (.t 9) (.seq (.reg r21_2) .ret) .skip)) (.seq (.seq (.reg r21_3) (.cond (.t 16) (.seq (.reg r21_4) (.seq (.reg r21_5) .ret)) .skip)) (.seq (.reg r21_6) (.seq (.reg r21_7) .ret)))))⟩
theorem a21_ok : cfun Try.prog 21 = some a21 := by kernel_rfl
/-- (*futtock/futtockref08.Table).Has -/
def r22_0 : List AOper := [
  ⟨(some 4), none, (.val (.c (.b false)))⟩]
def r22_1 : List AOper := [
  ⟨(some 5), none, (.val (.t 1))⟩,
  ⟨(some 6), none, (.bin .geq (.t 5) (.c (.i .i64 0)))⟩,
  ⟨(some 7), none, (.val (.t 6))⟩,
  ⟨(some 8), (some (7, true)), (.val (.t 1))⟩,
  ⟨(some 9), (some (7, true)), (.val (.t 0))⟩,
  ⟨(some 10), (some (7, true)), (.nilc (.t 9))⟩,
  ⟨(some 11), (some (7, true)), (.fa 0 (.t 10))⟩,
  ⟨(some 12), (some (7, true)), (.ld none (.t 11))⟩,
  ⟨(some 13), (some (7, true)), (.len (.t 12))⟩,
  ⟨(some 14), (some (7, true)), (.bin .lss (.t 8) (.t 13))⟩,
  ⟨(some 15), none, (.pick (.t 7) (.t 14) (.c (.b false)))⟩,
  ⟨(some 4), none, (.val (.t 15))⟩]
def a22 : AFun := ⟨16, [(.tmp 4)], (.seq (.reg r22_0) (.seq (.reg r22_1) .ret))⟩
theorem a22_ok : cfun Try.prog 22 = some a22 := by kernel_rfl
/-- (*futtock/permit.Table).Sleepers -/
def r23_0 : List AOper := [
  ⟨(some 2), none, (.val (.c (.sl none 0 0 true 0)))⟩]
def r23_1 : List AOper := [
  ⟨(some 7), none, (.val (.t 0))⟩,
  ⟨(some 8), none, (.eqn 0 false (.t 7) (.c (.p none)))⟩]
def r23_2 : List AOper := [
  ⟨(some 2), none, (.val (.c (.sl none 0 0 true 0)))⟩]
def r23_3 : List AOper := [
  ⟨(some 3), none, (.alloc [(.sl none 0 0 true 0)])⟩]
def r23_4 : List AOper := [
  ⟨(some 9), none, (.mkf (.func 26) [] [(.t 3)])⟩,
  ⟨(some 4), none, (.val (.t 9))⟩]
def r23_5 : List AOper := [
  ⟨(some 10), none, (.val (.t 0))⟩,
  ⟨(some 11), none, (.nilc (.t 10))⟩,
  ⟨(some 12), none, (.fa 0 (.t 11))⟩,
  ⟨(some 13), none, (.ld none (.t 12))⟩,
  ⟨(some 14), none, (.len (.t 13))⟩,
  ⟨(some 15), none, (.val (.c (.i .i64 0)))⟩]
def r23_6 : List AOper := [
  ⟨(some 16), none, (.bin .lss (.t 15) (.t 14))⟩]
def r23_7 : List AOper := [
  ⟨(some 17), none, (.val (.t 15))⟩,
  ⟨(some 18), none, (.ia 3 (.t 13) (.t 15))⟩,
  ⟨(some 19), none, (.ld (some 3) (.t 18))⟩,
  ⟨(some 6), none, (.alloc [(.b false), (.b false), (.b false)])⟩,
  ⟨(some 5), none, (.val (.t 17))⟩,
  ⟨none, none, (.st 3 (.t 6) (.t 19))⟩]
def r23_8 : List AOper := [
  ⟨(some 20), none, (.val (.t 4))⟩,
  ⟨(some 21), none, (.val (.t 5))⟩,
  ⟨(some 22), none, (.fa 2 (.t 6))⟩,
  ⟨(some 23), none, (.ld none (.t 22))⟩,
  ⟨(some 24), none, (.callv (.t 20) [(.t 21), (.t 23)])⟩]
def r23_9 : List AOper := [
  ⟨(some 25), none, (.bin .add (.t 15) (.c (.i .i64 1)))⟩,
  ⟨(some 15), none, (.val (.t 25))⟩]
def l23_10 : ACode := (.seq (.reg r23_6) (.seq (.cond (.t 16) .skip (.exit 0)) (.seq (.block 1 (.seq (.reg r23_7) (.reg r23_8))) (.reg r23_9))))
def r23_11 : List AOper := [
  ⟨(some 26), none, (.ld none (.t 3))⟩,
  ⟨(some 2), none, (.val (.t 26))⟩]
def a23 : AFun := ⟨27, [(.tmp 2)], (.seq (.reg r23_0) (.seq (.seq (.reg r23_1) (.cond (.t 8) (.seq (.reg r23_2) .ret) .skip)) (.seq (.reg r23_3) (.seq (.reg r23_4) (.seq (.seq (.reg r23_5) (.block 0 (.loop l23_10))) (.seq (.reg r23_11) .ret))))))⟩
theorem a23_ok : cfun Try.prog 23 = some a23 := by kernel_rfl
/-- (*futtock/permit.Table).look -/
def r24_0 : List AOper := [
  ⟨(some 4), none, (.alloc [(.b false), (.b false), (.b false)])⟩]
def r24_1 : List AOper := [
  ⟨(some 8), none, (.val (.t 0))⟩,
  ⟨(some 9), none, (.val (.t 1))⟩,
  ⟨(some 10), none, (.call 25 [(.t 8), (.t 9)])⟩,
  ⟨(some 7), none, (.val (.t 10))⟩,
  ⟨(some 11), none, (.ext (.t 7) 0)⟩,
  ⟨(some 12), none, (.ext (.t 7) 1)⟩,
  ⟨(some 5), none, (.val (.t 11))⟩,
  ⟨(some 6), none, (.val (.t 12))⟩]
def r24_2 : List AOper := [
  ⟨(some 13), none, (.val (.t 6))⟩,
  ⟨(some 14), none, (.bin .neq (.t 13) (.c (.i .i64 0)))⟩]
def r24_3 : List AOper := [
  ⟨(some 15), none, (.build [(.b false), (.b false), (.b false)] [])⟩,
  ⟨none, none, (.st 3 (.t 4) (.t 15))⟩]
def r24_4 : List AOper := [
  ⟨(some 16), none, (.val (.t 5))⟩,
  ⟨(some 17), none, (.nilc (.t 16))⟩,
  ⟨(some 18), none, (.ld (some 3) (.t 17))⟩,
  ⟨none, none, (.st 3 (.t 4) (.t 18))⟩]
def a24 : AFun := ⟨19, [(.cell 4 (some 3))], (.seq (.reg r24_0) (.seq (.reg r24_1) (.seq (.seq (.reg r24_2) (.cond (.t 14) (.seq (.reg r24_3) .ret) .skip)) (.seq (.reg r24_4) .ret))))⟩
theorem a24_ok : cfun Try.prog 24 = some a24 := by kernel_rfl
/-- (*futtock/permit.Table).find -/
def r25_0 : List AOper := [
  ⟨(some 4), none, (.val (.c (.p none)))⟩,
  ⟨(some 5), none, (.val (.c (.i .i64 0)))⟩]
def r25_1 : List AOper := [
  ⟨(some 7), none, (.val (.t 0))⟩,
  ⟨(some 8), none, (.eqn 0 false (.t 7) (.c (.p none)))⟩,
  ⟨(some 9), none, (.val (.t 8))⟩,
  ⟨(some 10), (some (9, false)), (.val (.t 0))⟩,
  ⟨(some 11), (some (9, false)), (.nilc (.t 10))⟩,
  ⟨(some 12), (some (9, false)), (.fa 0 (.t 11))⟩,
  ⟨(some 13), (some (9, false)), (.ld none (.t 12))⟩,
  ⟨(some 14), (some (9, false)), (.len (.t 13))⟩,
  ⟨(some 15), (some (9, false)), (.bin .eql (.t 14) (.c (.i .i64 0)))⟩,
  ⟨(some 16), none, (.pick (.t 9) (.c (.b true)) (.t 15))⟩,
  ⟨(some 6), none, (.val (.t 16))⟩]
def r25_2 : List AOper := [
  ⟨(some 4), none, (.val (.c (.p none)))⟩,
  ⟨(some 5), none, (.val (.c (.i .i64 2)))⟩]
def r25_3 : List AOper := [
  ⟨(some 18), none, (.val (.t 1))⟩,
  ⟨(some 19), none, (.bin .lss (.t 18) (.c (.i .i64 0)))⟩,
  ⟨(some 20), none, (.val (.t 19))⟩,
  ⟨(some 21), (some (20, false)), (.val (.t 1))⟩,
  ⟨(some 22), (some (20, false)), (.val (.t 0))⟩,
  ⟨(some 23), (some (20, false)), (.nilc (.t 22))⟩,
  ⟨(some 24), (some (20, false)), (.fa 0 (.t 23))⟩,
  ⟨(some 25), (some (20, false)), (.ld none (.t 24))⟩,
  ⟨(some 26), (some (20, false)), (.len (.t 25))⟩,
  ⟨(some 27), (some (20, false)), (.bin .geq (.t 21) (.t 26))⟩,
  ⟨(some 28), none, (.pick (.t 20) (.c (.b true)) (.t 27))⟩,
  ⟨(some 17), none, (.val (.t 28))⟩]
def r25_4 : List AOper := [
  ⟨(some 4), none, (.val (.c (.p none)))⟩,
  ⟨(some 5), none, (.val (.c (.i .i64 1)))⟩]
def r25_5 : List AOper := [
  ⟨(some 29), none, (.val (.t 0))⟩,
  ⟨(some 30), none, (.nilc (.t 29))⟩,
  ⟨(some 31), none, (.fa 0 (.t 30))⟩,
  ⟨(some 32), none, (.ld none (.t 31))⟩,
  ⟨(some 33), none, (.val (.t 1))⟩,
  ⟨(some 34), none, (.ia 3 (.t 32) (.t 33))⟩,
  ⟨(some 4), none, (.val (.t 34))⟩,
  ⟨(some 5), none, (.val (.c (.i .i64 0)))⟩]
def a25 : AFun := ⟨35, [(.tmp 4), (.tmp 5)], (.seq (.reg r25_0) (.seq (.block 0 (.seq (.reg r25_1) (.cond (.t 6) (.seq (.reg r25_2) .ret) (.seq (.reg r25_3) (.cond (.t 17) (.seq (.reg r25_4) .ret) .skip))))) (.seq (.reg r25_5) .ret)))⟩
theorem a25_ok : cfun Try.prog 25 = some a25 := by kernel_rfl
/-- (*futtock/permit.Table).Sleepers$1 -/
def r26_0 : List AOper := [
  ⟨(some 5), none, (.val (.t 1))⟩]
def r26_1 : List AOper := [
  ⟨(some 6), none, (.ld none (.t 2))⟩,
  ⟨(some 7), none, (.val (.t 0))⟩,
  ⟨(some 8), none, (.bsl [(.i .i64 0)] 1 [(0, 1, (.t 7))])⟩,
  ⟨(some 9), none, (.app [(.i .i64 0)] 8 (.t 6) (.t 8))⟩,
  ⟨none, none, (.st 1 (.t 2) (.t 9))⟩]
def a26 : AFun := ⟨10, [], (.seq (.reg r26_0) (.cond (.t 5) (.reg r26_1) .skip))⟩
theorem a26_ok : cfun Try.prog 26 = some a26 := by kernel_rfl
/-- All of them. -/
def tbl : Tbl
  | 3 => some a3
  | 4 => some a4
  | 5 => some a5
  | 6 => some a6
  | 7 => some a7
  | 8 => some a8
  | 9 => some a9
  | 10 => some a10
  | 11 => some a11
  | 12 => some a12
  | 13 => some a13
  | 14 => some a14
  | 15 => some a15
  | 16 => some a16
  | 17 => some a17
  | 18 => some a18
  | 19 => some a19
  | 20 => some a20
  | 21 => some a21
  | 22 => some a22
  | 23 => some a23
  | 24 => some a24
  | 25 => some a25
  | 26 => some a26
  | _ => none
/-- The heap behind a call of which the value alone is told. -/
noncomputable def hC (n : FuncId) (args : List AV) (H : AH) : AH := hAft (callR tbl n args H)
theorem hC_of {n : FuncId} {args : List AV} {H : AH} {v : AV} (h : ∃ H', callR tbl n args H = some (v, H')) : callR tbl n args H = some (v, hC n args H) := aft_of h
theorem tbl3 : tbl 3 = some a3 := rfl
theorem c3 {x0 : AV} {H : AH} : callR tbl 3 [x0] H = runR tbl a3 [.code a3.body] (ainit [x0]) H := callR_of tbl3 (Nat.le_of_ble_eq_true rfl)
theorem b3 : a3.body = (.seq (.reg r3_0) (.seq (.reg r3_1) (.seq (.seq (.reg r3_2) (.cond (.t 26) (.seq (.reg r3_3) .ret) .skip)) (.seq (.reg r3_4) (.seq (.seq (.reg r3_5) (.block 0 (.loop l3_39))) (.seq (.reg r3_40) .ret)))))) := rfl
theorem s3 : a3.res = [(.tmp 2)] := rfl
theorem tbl4 : tbl 4 = some a4 := rfl
theorem c4 {x0 : AV} {H : AH} : callR tbl 4 [x0] H = runR tbl a4 [.code a4.body] (ainit [x0]) H := callR_of tbl4 (Nat.le_of_ble_eq_true rfl)
theorem b4 : a4.body = (.seq (.reg r4_0) (.seq (.reg r4_1) (.seq (.seq (.reg r4_2) (.cond (.t 19) (.seq (.reg r4_3) .ret) .skip)) (.seq (.reg r4_4) (.seq (.seq (.reg r4_5) (.block 0 (.loop l4_28))) (.seq (.reg r4_29) .ret)))))) := rfl
theorem s4 : a4.res = [(.tmp 2)] := rfl
theorem tbl5 : tbl 5 = some a5 := rfl
theorem c5 {x0 x1 : AV} {H : AH} : callR tbl 5 [x0, x1] H = runR tbl a5 [.code a5.body] (ainit [x0, x1]) H := callR_of tbl5 (Nat.le_of_ble_eq_true rfl)
theorem b5 : a5.body = (.seq (.reg r5_0) (.seq (.reg r5_1) (.seq (.reg r5_2) (.seq (.seq (.reg r5_3) (.cond (.t 48) (.seq (.reg r5_4) .ret) .skip)) (.seq (.seq (.reg r5_5) (.block 0 (.loop l5_38))) (.seq (.reg r5_39) .ret)))))) := rfl
theorem s5 : a5.res = [(.tmp 4)] := rfl
theorem tbl6 : tbl 6 = some a6 := rfl
theorem c6 {x0 : AV} {H : AH} : callR tbl 6 [x0] H = runR tbl a6 [.code a6.body] (ainit [x0]) H := callR_of tbl6 (Nat.le_of_ble_eq_true rfl)
theorem b6 : a6.body = (.seq (.reg r6_0) (.seq (.seq (.reg r6_1) (.block 0 (.loop l6_10))) (.seq (.reg r6_11) .ret))) := rfl
theorem s6 : a6.res = [(.tmp 2)] := rfl
theorem tbl7 : tbl 7 = some a7 := rfl
theorem c7 {x0 : AV} {H : AH} : callR tbl 7 [x0] H = runR tbl a7 [.code a7.body] (ainit [x0]) H := callR_of tbl7 (Nat.le_of_ble_eq_true rfl)
theorem b7 : a7.body = (.seq (.reg r7_0) (.seq (.seq (.reg r7_1) (.cond (.t 9) (.seq (.reg r7_2) .ret) .skip)) (.seq (.reg r7_3) .ret))) := rfl
theorem s7 : a7.res = [(.tmp 2), (.tmp 3)] := rfl
theorem tbl8 : tbl 8 = some a8 := rfl
theorem c8 {x0 : AV} {H : AH} : callR tbl 8 [x0] H = runR tbl a8 [.code a8.body] (ainit [x0]) H := callR_of tbl8 (Nat.le_of_ble_eq_true rfl)
theorem b8 : a8.body = (.seq (.reg r8_0) (.seq (.reg r8_1) .ret)) := rfl
theorem s8 : a8.res = [(.tmp 2)] := rfl
theorem tbl9 : tbl 9 = some a9 := rfl
theorem c9 {x0 x1 : AV} {H : AH} : callR tbl 9 [x0, x1] H = runR tbl a9 [.code a9.body] (ainit [x0, x1]) H := callR_of tbl9 (Nat.le_of_ble_eq_true rfl)
theorem b9 : a9.body = (.seq (.reg r9_0) (.seq (.reg r9_1) .ret)) := rfl
theorem s9 : a9.res = [(.tmp 4)] := rfl
theorem tbl10 : tbl 10 = some a10 := rfl
theorem c10 {x0 x1 : AV} {H : AH} : callR tbl 10 [x0, x1] H = runR tbl a10 [.code a10.body] (ainit [x0, x1]) H := callR_of tbl10 (Nat.le_of_ble_eq_true rfl)
theorem b10 : a10.body = (.seq (.reg r10_0) (.seq (.reg r10_1) .ret)) := rfl
theorem s10 : a10.res = [(.tmp 4)] := rfl
theorem tbl11 : tbl 11 = some a11 := rfl
theorem c11 {x0 x1 : AV} {H : AH} : callR tbl 11 [x0, x1] H = runR tbl a11 [.code a11.body] (ainit [x0, x1]) H := callR_of tbl11 (Nat.le_of_ble_eq_true rfl)
theorem b11 : a11.body = (.seq (.reg r11_0) (.seq (.reg r11_1) .ret)) := rfl
theorem s11 : a11.res = [(.tmp 4)] := rfl
theorem tbl12 : tbl 12 = some a12 := rfl
theorem c12 {x0 x1 : AV} {H : AH} : callR tbl 12 [x0, x1] H = runR tbl a12 [.code a12.body] (ainit [x0, x1]) H := callR_of tbl12 (Nat.le_of_ble_eq_true rfl)
theorem b12 : a12.body = (.seq (.reg r12_0) (.seq (.reg r12_1) (.seq (.seq (.reg r12_2) (.cond (.t 16) (.seq (.reg r12_3) .ret) .skip)) (.seq (.reg r12_4) (.seq (.reg r12_5) (.seq (.reg r12_6) (.seq (.reg r12_7) .ret))))))) := rfl
theorem s12 : a12.res = [(.tmp 4), (.tmp 5)] := rfl
theorem tbl13 : tbl 13 = some a13 := rfl
theorem c13 {x0 x1 : AV} {H : AH} : callR tbl 13 [x0, x1] H = runR tbl a13 [.code a13.body] (ainit [x0, x1]) H := callR_of tbl13 (Nat.le_of_ble_eq_true rfl)
theorem b13 : a13.body = (.seq (.reg r13_0) (.seq (.reg r13_1) (.seq (.seq (.reg r13_2) (.cond (.t 15) (.seq (.reg r13_3) .ret) .skip)) (.seq (.reg r13_4) (.seq (.reg r13_5) (.seq (.reg r13_6) .ret)))))) := rfl
theorem s13 : a13.res = [(.tmp 4)] := rfl
theorem tbl14 : tbl 14 = some a14 := rfl
theorem c14 {x0 x1 : AV} {H : AH} : callR tbl 14 [x0, x1] H = runR tbl a14 [.code a14.body] (ainit [x0, x1]) H := callR_of tbl14 (Nat.le_of_ble_eq_true rfl)
theorem b14 : a14.body = (.seq (.reg r14_0) (.seq (.reg r14_1) (.seq (.seq (.reg r14_2) (.cond (.t 15) (.seq (.reg r14_3) .ret) .skip)) (.seq (.reg r14_4) (.seq (.reg r14_5) (.seq (.reg r14_6) .ret)))))) := rfl
theorem s14 : a14.res = [(.tmp 4), (.tmp 5)] := rfl
theorem tbl15 : tbl 15 = some a15 := rfl
theorem c15 {H : AH} : callR tbl 15 [] H = runR tbl a15 [.code a15.body] (ainit []) H := callR_of tbl15 (Nat.le_of_ble_eq_true rfl)
theorem b15 : a15.body = (.seq (.reg r15_0) (.seq (.reg r15_1) (.seq (.seq (.reg r15_2) (.cond (.t 20) (.seq (.reg r15_3) .ret) .skip)) (.seq (.reg r15_4) (.seq (.reg r15_5) (.seq (.reg r15_6) (.seq (.reg r15_7) (.seq (.reg r15_8) .ret)))))))) := rfl
theorem s15 : a15.res = [(.tmp 0)] := rfl
theorem tbl16 : tbl 16 = some a16 := rfl
theorem c16 {x0 x1 : AV} {H : AH} : callR tbl 16 [x0, x1] H = runR tbl a16 [.code a16.body] (ainit [x0, x1]) H := callR_of tbl16 (Nat.le_of_ble_eq_true rfl)
theorem b16 : a16.body = (.seq (.reg r16_0) (.seq (.reg r16_1) (.seq (.seq (.reg r16_2) (.cond (.t 15) (.seq (.reg r16_3) .ret) .skip)) (.seq (.reg r16_4) (.seq (.reg r16_5) .ret))))) := rfl
theorem s16 : a16.res = [(.tmp 4), (.tmp 5)] := rfl
theorem tbl17 : tbl 17 = some a17 := rfl
theorem c17 {x0 : AV} {H : AH} : callR tbl 17 [x0] H = runR tbl a17 [.code a17.body] (ainit [x0]) H := callR_of tbl17 (Nat.le_of_ble_eq_true rfl)
theorem b17 : a17.body = (.seq (.reg r17_0) (.seq (.seq (.reg r17_1) (.cond (.t 9) (.seq (.reg r17_2) .ret) .skip)) (.seq (.drw r17_3) .ret))) := rfl
theorem s17 : a17.res = [(.cell 2 (some 3)), (.tmp 3)] := rfl
theorem tbl18 : tbl 18 = some a18 := rfl
theorem c18 {x0 x1 : AV} {H : AH} : callR tbl 18 [x0, x1] H = runR tbl a18 [.code a18.body] (ainit [x0, x1]) H := callR_of tbl18 (Nat.le_of_ble_eq_true rfl)
theorem b18 : a18.body = (.seq (.reg r18_0) (.seq (.seq (.reg r18_1) (.cond (.t 9) (.seq (.reg r18_2) .ret) .skip)) (.seq (.seq (.reg r18_3) (.cond (.t 16) (.seq (.reg r18_4) (.seq (.reg r18_5) .ret)) .skip)) (.seq (.reg r18_6) (.seq (.reg r18_7) .ret))))) := rfl
theorem s18 : a18.res = [(.tmp 4), (.tmp 5)] := rfl
theorem tbl19 : tbl 19 = some a19 := rfl
theorem c19 {x0 x1 : AV} {H : AH} : callR tbl 19 [x0, x1] H = runR tbl a19 [.code a19.body] (ainit [x0, x1]) H := callR_of tbl19 (Nat.le_of_ble_eq_true rfl)
theorem b19 : a19.body = (.seq (.reg r19_0) (.seq (.seq (.reg r19_1) (.cond (.t 9) (.seq (.reg r19_2) .ret) .skip)) (.seq (.reg r19_3) (.seq (.reg r19_4) .ret)))) := rfl
theorem s19 : a19.res = [(.tmp 4), (.tmp 5)] := rfl
theorem tbl20 : tbl 20 = some a20 := rfl
theorem c20 {x0 x1 : AV} {H : AH} : callR tbl 20 [x0, x1] H = runR tbl a20 [.code a20.body] (ainit [x0, x1]) H := callR_of tbl20 (Nat.le_of_ble_eq_true rfl)
theorem b20 : a20.body = (.seq (.reg r20_0) (.seq (.seq (.reg r20_1) (.cond (.t 18) (.seq (.reg r20_2) .ret) .skip)) (.seq (.reg r20_3) (.seq (.reg r20_4) .ret)))) := rfl
theorem s20 : a20.res = [(.tmp 4)] := rfl
theorem tbl21 : tbl 21 = some a21 := rfl
theorem c21 {x0 x1 : AV} {H : AH} : callR tbl 21 [x0, x1] H = runR tbl a21 [.code a21.body] (ainit [x0, x1]) H := callR_of tbl21 (Nat.le_of_ble_eq_true rfl)
theorem b21 : a21.body = (.seq (.reg r21_0) (.seq (.seq (.reg r21_1) (.cond (.t 9) (.seq (.reg r21_2) .ret) .skip)) (.seq (.seq (.reg r21_3) (.cond (.t 16) (.seq (.reg r21_4) (.seq (.reg r21_5) .ret)) .skip)) (.seq (.reg r21_6) (.seq (.reg r21_7) .ret))))) := rfl
theorem s21 : a21.res = [(.tmp 4), (.tmp 5)] := rfl
theorem tbl22 : tbl 22 = some a22 := rfl
theorem c22 {x0 x1 : AV} {H : AH} : callR tbl 22 [x0, x1] H = runR tbl a22 [.code a22.body] (ainit [x0, x1]) H := callR_of tbl22 (Nat.le_of_ble_eq_true rfl)
theorem b22 : a22.body = (.seq (.reg r22_0) (.seq (.reg r22_1) .ret)) := rfl
theorem s22 : a22.res = [(.tmp 4)] := rfl
theorem tbl23 : tbl 23 = some a23 := rfl
theorem c23 {x0 : AV} {H : AH} : callR tbl 23 [x0] H = runR tbl a23 [.code a23.body] (ainit [x0]) H := callR_of tbl23 (Nat.le_of_ble_eq_true rfl)
theorem b23 : a23.body = (.seq (.reg r23_0) (.seq (.seq (.reg r23_1) (.cond (.t 8) (.seq (.reg r23_2) .ret) .skip)) (.seq (.reg r23_3) (.seq (.reg r23_4) (.seq (.seq (.reg r23_5) (.block 0 (.loop l23_10))) (.seq (.reg r23_11) .ret)))))) := rfl
theorem s23 : a23.res = [(.tmp 2)] := rfl
theorem tbl24 : tbl 24 = some a24 := rfl
theorem c24 {x0 x1 : AV} {H : AH} : callR tbl 24 [x0, x1] H = runR tbl a24 [.code a24.body] (ainit [x0, x1]) H := callR_of tbl24 (Nat.le_of_ble_eq_true rfl)
theorem b24 : a24.body = (.seq (.reg r24_0) (.seq (.reg r24_1) (.seq (.seq (.reg r24_2) (.cond (.t 14) (.seq (.reg r24_3) .ret) .skip)) (.seq (.reg r24_4) .ret)))) := rfl
theorem s24 : a24.res = [(.cell 4 (some 3))] := rfl
theorem tbl25 : tbl 25 = some a25 := rfl
theorem c25 {x0 x1 : AV} {H : AH} : callR tbl 25 [x0, x1] H = runR tbl a25 [.code a25.body] (ainit [x0, x1]) H := callR_of tbl25 (Nat.le_of_ble_eq_true rfl)
theorem b25 : a25.body = (.seq (.reg r25_0) (.seq (.block 0 (.seq (.reg r25_1) (.cond (.t 6) (.seq (.reg r25_2) .ret) (.seq (.reg r25_3) (.cond (.t 17) (.seq (.reg r25_4) .ret) .skip))))) (.seq (.reg r25_5) .ret))) := rfl
theorem s25 : a25.res = [(.tmp 4), (.tmp 5)] := rfl
theorem tbl26 : tbl 26 = some a26 := rfl
theorem c26 {x0 x1 x2 : AV} {H : AH} : callR tbl 26 [x0, x1, x2] H = runR tbl a26 [.code a26.body] (ainit [x0, x1, x2]) H := callR_of tbl26 (Nat.le_of_ble_eq_true rfl)
theorem b26 : a26.body = (.seq (.reg r26_0) (.cond (.t 5) (.reg r26_1) .skip)) := rfl
theorem s26 : a26.res = [] := rfl
theorem tbl_ok : ∀ f a, tbl f = some a → cfun Try.prog f = some a := by
  intro f a h
  unfold tbl at h
  split at h
  · cases h; exact a3_ok
  · cases h; exact a4_ok
  · cases h; exact a5_ok
  · cases h; exact a6_ok
  · cases h; exact a7_ok
  · cases h; exact a8_ok
  · cases h; exact a9_ok
  · cases h; exact a10_ok
  · cases h; exact a11_ok
  · cases h; exact a12_ok
  · cases h; exact a13_ok
  · cases h; exact a14_ok
  · cases h; exact a15_ok
  · cases h; exact a16_ok
  · cases h; exact a17_ok
  · cases h; exact a18_ok
  · cases h; exact a19_ok
  · cases h; exact a20_ok
  · cases h; exact a21_ok
  · cases h; exact a22_ok
  · cases h; exact a23_ok
  · cases h; exact a24_ok
  · cases h; exact a25_ok
  · cases h; exact a26_ok
  · cases h
end Go.Proofs.Ytgbmkfdijcmpgaa.Abs
