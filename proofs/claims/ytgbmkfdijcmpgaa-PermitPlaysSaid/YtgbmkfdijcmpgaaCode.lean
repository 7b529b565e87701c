/- The functions that the laws of this seat reach, in the plain machine's form, and that they are the loaded ones. Printed by a program of this seat's own (gencode.py). No condition of its own. -/
import Derived.Test.YtgbmkfdijcmpgaaProg
import Derived.Test.YtgbmkfdijcmpgaaAbs3
import Derived.Test.YtgbmkfdijcmpgaaEval
import Derived.KernelRfl
namespace Go.Proofs.Ytgbmkfdijcmpgaa.Abs
set_option linter.unusedVariables false
set_option maxRecDepth 100000
/-- futtock/futtocklaw08.PermitKept -/
def d3_0 : List AOper := [
  ⟨(some 2), none, (.val (.c (.b false)))⟩]
theorem r3_0 {fn : AFun} {K : List AItem} {t : Nat → AV} {H : AH} {T : Tbl} : runR T fn (.code (.reg d3_0) :: K) t H = regR T fn K (aops (callR T) [
  ⟨(some 2), none, (.val (.c (.b false)))⟩] t H) := runR_reg'
def d3_1 : List AOper := [
  ⟨(some 18), none, (.call 7 [(.c (.i .i64 4))])⟩,
  ⟨(some 17), none, (.val (.t 18))⟩,
  ⟨(some 19), none, (.ext (.t 17) 0)⟩,
  ⟨(some 20), none, (.ext (.t 17) 1)⟩,
  ⟨(some 3), none, (.val (.t 19))⟩,
  ⟨(some 4), none, (.val (.t 20))⟩]
theorem r3_1 {fn : AFun} {K : List AItem} {t : Nat → AV} {H : AH} {T : Tbl} : runR T fn (.code (.reg d3_1) :: K) t H = regR T fn K (aops (callR T) [
  ⟨(some 18), none, (.call 7 [(.c (.i .i64 4))])⟩,
  ⟨(some 17), none, (.val (.t 18))⟩,
  ⟨(some 19), none, (.ext (.t 17) 0)⟩,
  ⟨(some 20), none, (.ext (.t 17) 1)⟩,
  ⟨(some 3), none, (.val (.t 19))⟩,
  ⟨(some 4), none, (.val (.t 20))⟩] t H) := runR_reg'
def d3_2 : List AOper := [
  ⟨(some 21), none, (.val (.t 3))⟩,
  ⟨(some 22), none, (.eqn 0 false (.t 21) (.c (.p none)))⟩,
  ⟨(some 23), none, (.val (.t 22))⟩,
  ⟨(some 24), (some (23, false)), (.val (.t 4))⟩,
  ⟨(some 25), (some (23, false)), (.bin .neq (.t 24) (.c (.i .i64 0)))⟩,
  ⟨(some 26), none, (.pick (.t 23) (.c (.b true)) (.t 25))⟩]
theorem r3_2 {fn : AFun} {K : List AItem} {t : Nat → AV} {H : AH} {T : Tbl} : runR T fn (.code (.reg d3_2) :: K) t H = regR T fn K (aops (callR T) [
  ⟨(some 21), none, (.val (.t 3))⟩,
  ⟨(some 22), none, (.eqn 0 false (.t 21) (.c (.p none)))⟩,
  ⟨(some 23), none, (.val (.t 22))⟩,
  ⟨(some 24), (some (23, false)), (.val (.t 4))⟩,
  ⟨(some 25), (some (23, false)), (.bin .neq (.t 24) (.c (.i .i64 0)))⟩,
  ⟨(some 26), none, (.pick (.t 23) (.c (.b true)) (.t 25))⟩] t H) := runR_reg'
def d3_3 : List AOper := [
  ⟨(some 2), none, (.val (.c (.b false)))⟩]
theorem r3_3 {fn : AFun} {K : List AItem} {t : Nat → AV} {H : AH} {T : Tbl} : runR T fn (.code (.reg d3_3) :: K) t H = regR T fn K (aops (callR T) [
  ⟨(some 2), none, (.val (.c (.b false)))⟩] t H) := runR_reg'
def d3_4 : List AOper := [
  ⟨(some 5), none, (.alloc [(.b false), (.b false), (.b false), (.b false)])⟩]
theorem r3_4 {fn : AFun} {K : List AItem} {t : Nat → AV} {H : AH} {T : Tbl} : runR T fn (.code (.reg d3_4) :: K) t H = regR T fn K (aops (callR T) [
  ⟨(some 5), none, (.alloc [(.b false), (.b false), (.b false), (.b false)])⟩] t H) := runR_reg'
def d3_5 : List AOper := [
  ⟨(some 27), none, (.val (.t 0))⟩,
  ⟨(some 28), none, (.call 8 [(.t 27)])⟩,
  ⟨(some 29), none, (.len (.t 28))⟩,
  ⟨(some 30), none, (.val (.c (.i .i64 0)))⟩]
theorem r3_5 {fn : AFun} {K : List AItem} {t : Nat → AV} {H : AH} {T : Tbl} : runR T fn (.code (.reg d3_5) :: K) t H = regR T fn K (aops (callR T) [
  ⟨(some 27), none, (.val (.t 0))⟩,
  ⟨(some 28), none, (.call 8 [(.t 27)])⟩,
  ⟨(some 29), none, (.len (.t 28))⟩,
  ⟨(some 30), none, (.val (.c (.i .i64 0)))⟩] t H) := runR_reg'
def d3_6 : List AOper := [
  ⟨(some 31), none, (.bin .lss (.t 30) (.t 29))⟩]
theorem r3_6 {fn : AFun} {K : List AItem} {t : Nat → AV} {H : AH} {T : Tbl} : runR T fn (.code (.reg d3_6) :: K) t H = regR T fn K (aops (callR T) [
  ⟨(some 31), none, (.bin .lss (.t 30) (.t 29))⟩] t H) := runR_reg'
def d3_7 : List AOper := [
  ⟨(some 32), none, (.ia 2 (.t 28) (.t 30))⟩,
  ⟨(some 33), none, (.ld (some 2) (.t 32))⟩,
  ⟨(some 7), none, (.alloc [(.i .u8 0), (.i .i64 0)])⟩,
  ⟨none, none, (.st 2 (.t 7) (.t 33))⟩]
theorem r3_7 {fn : AFun} {K : List AItem} {t : Nat → AV} {H : AH} {T : Tbl} : runR T fn (.code (.reg d3_7) :: K) t H = regR T fn K (aops (callR T) [
  ⟨(some 32), none, (.ia 2 (.t 28) (.t 30))⟩,
  ⟨(some 33), none, (.ld (some 2) (.t 32))⟩,
  ⟨(some 7), none, (.alloc [(.i .u8 0), (.i .i64 0)])⟩,
  ⟨none, none, (.st 2 (.t 7) (.t 33))⟩] t H) := runR_reg'
def d3_8 : List AOper := [
  ⟨(some 34), none, (.fa 1 (.t 7))⟩,
  ⟨(some 35), none, (.ld none (.t 34))⟩,
  ⟨(some 36), none, (.bin .and (.t 35) (.c (.i .i64 3)))⟩,
  ⟨(some 8), none, (.val (.t 36))⟩]
theorem r3_8 {fn : AFun} {K : List AItem} {t : Nat → AV} {H : AH} {T : Tbl} : runR T fn (.code (.reg d3_8) :: K) t H = regR T fn K (aops (callR T) [
  ⟨(some 34), none, (.fa 1 (.t 7))⟩,
  ⟨(some 35), none, (.ld none (.t 34))⟩,
  ⟨(some 36), none, (.bin .and (.t 35) (.c (.i .i64 3)))⟩,
  ⟨(some 8), none, (.val (.t 36))⟩] t H) := runR_reg'
def d3_9 : List AOper := [
  ⟨(some 9), none, (.alloc [(.b false), (.b false), (.b false), (.b false), (.b false), (.b false), (.b false), (.b false), (.b false), (.b false), (.b false), (.b false)])⟩]
theorem r3_9 {fn : AFun} {K : List AItem} {t : Nat → AV} {H : AH} {T : Tbl} : runR T fn (.code (.reg d3_9) :: K) t H = regR T fn K (aops (callR T) [
  ⟨(some 9), none, (.alloc [(.b false), (.b false), (.b false), (.b false), (.b false), (.b false), (.b false), (.b false), (.b false), (.b false), (.b false), (.b false)])⟩] t H) := runR_reg'
def d3_10 : List AOper := [
  ⟨(some 37), none, (.val (.c (.i .i64 0)))⟩]
theorem r3_10 {fn : AFun} {K : List AItem} {t : Nat → AV} {H : AH} {T : Tbl} : runR T fn (.code (.reg d3_10) :: K) t H = regR T fn K (aops (callR T) [
  ⟨(some 37), none, (.val (.c (.i .i64 0)))⟩] t H) := runR_reg'
def d3_11 : List AOper := [
  ⟨(some 38), none, (.bin .lss (.t 37) (.c (.i .i64 4)))⟩]
theorem r3_11 {fn : AFun} {K : List AItem} {t : Nat → AV} {H : AH} {T : Tbl} : runR T fn (.code (.reg d3_11) :: K) t H = regR T fn K (aops (callR T) [
  ⟨(some 38), none, (.bin .lss (.t 37) (.c (.i .i64 4)))⟩] t H) := runR_reg'
def d3_12 : List AOper := [
  ⟨(some 39), none, (.val (.t 37))⟩,
  ⟨(some 10), none, (.val (.t 39))⟩]
theorem r3_12 {fn : AFun} {K : List AItem} {t : Nat → AV} {H : AH} {T : Tbl} : runR T fn (.code (.reg d3_12) :: K) t H = regR T fn K (aops (callR T) [
  ⟨(some 39), none, (.val (.t 37))⟩,
  ⟨(some 10), none, (.val (.t 39))⟩] t H) := runR_reg'
def d3_13 : List AOper := [
  ⟨(some 40), none, (.val (.t 10))⟩,
  ⟨(some 41), none, (.val (.t 3))⟩,
  ⟨(some 42), none, (.val (.t 10))⟩,
  ⟨(some 43), none, (.call 9 [(.t 41), (.t 42)])⟩,
  ⟨(some 44), none, (.val (.t 3))⟩,
  ⟨(some 45), none, (.val (.t 10))⟩,
  ⟨(some 46), none, (.call 10 [(.t 44), (.t 45)])⟩,
  ⟨(some 47), none, (.val (.t 3))⟩,
  ⟨(some 48), none, (.val (.t 10))⟩,
  ⟨(some 49), none, (.call 11 [(.t 47), (.t 48)])⟩,
  ⟨(some 50), none, (.build [(.b false), (.b false), (.b false)] [(0, 1, (.t 43)), (1, 1, (.t 46)), (2, 1, (.t 49))])⟩,
  ⟨(some 51), none, (.iaa 4 3 (.t 9) (.t 40))⟩,
  ⟨none, none, (.st 3 (.t 51) (.t 50))⟩]
theorem r3_13 {fn : AFun} {K : List AItem} {t : Nat → AV} {H : AH} {T : Tbl} : runR T fn (.code (.reg d3_13) :: K) t H = regR T fn K (aops (callR T) [
  ⟨(some 40), none, (.val (.t 10))⟩,
  ⟨(some 41), none, (.val (.t 3))⟩,
  ⟨(some 42), none, (.val (.t 10))⟩,
  ⟨(some 43), none, (.call 9 [(.t 41), (.t 42)])⟩,
  ⟨(some 44), none, (.val (.t 3))⟩,
  ⟨(some 45), none, (.val (.t 10))⟩,
  ⟨(some 46), none, (.call 10 [(.t 44), (.t 45)])⟩,
  ⟨(some 47), none, (.val (.t 3))⟩,
  ⟨(some 48), none, (.val (.t 10))⟩,
  ⟨(some 49), none, (.call 11 [(.t 47), (.t 48)])⟩,
  ⟨(some 50), none, (.build [(.b false), (.b false), (.b false)] [(0, 1, (.t 43)), (1, 1, (.t 46)), (2, 1, (.t 49))])⟩,
  ⟨(some 51), none, (.iaa 4 3 (.t 9) (.t 40))⟩,
  ⟨none, none, (.st 3 (.t 51) (.t 50))⟩] t H) := runR_reg'
def d3_14 : List AOper := [
  ⟨(some 52), none, (.bin .add (.t 37) (.c (.i .i64 1)))⟩,
  ⟨(some 37), none, (.val (.t 52))⟩]
theorem r3_14 {fn : AFun} {K : List AItem} {t : Nat → AV} {H : AH} {T : Tbl} : runR T fn (.code (.reg d3_14) :: K) t H = regR T fn K (aops (callR T) [
  ⟨(some 52), none, (.bin .add (.t 37) (.c (.i .i64 1)))⟩,
  ⟨(some 37), none, (.val (.t 52))⟩] t H) := runR_reg'
def l3_15 : ACode := (.seq (.reg d3_11) (.seq (.cond (.t 38) .skip (.exit 2)) (.seq (.block 3 (.seq (.reg d3_12) (.reg d3_13))) (.reg d3_14))))
def d3_16 : List AOper := [
  ⟨(some 53), none, (.fa 0 (.t 7))⟩,
  ⟨(some 54), none, (.ld none (.t 53))⟩,
  ⟨(some 55), none, (.bin .rem (.t 54) (.c (.i .u8 5)))⟩]
theorem r3_16 {fn : AFun} {K : List AItem} {t : Nat → AV} {H : AH} {T : Tbl} : runR T fn (.code (.reg d3_16) :: K) t H = regR T fn K (aops (callR T) [
  ⟨(some 53), none, (.fa 0 (.t 7))⟩,
  ⟨(some 54), none, (.ld none (.t 53))⟩,
  ⟨(some 55), none, (.bin .rem (.t 54) (.c (.i .u8 5)))⟩] t H) := runR_reg'
def d3_17 : List AOper := [
  ⟨(some 74), none, (.bin .eql (.t 55) (.c (.i .u8 1)))⟩,
  ⟨(some 73), none, (.val (.t 74))⟩]
theorem r3_17 {fn : AFun} {K : List AItem} {t : Nat → AV} {H : AH} {T : Tbl} : runR T fn (.code (.reg d3_17) :: K) t H = regR T fn K (aops (callR T) [
  ⟨(some 74), none, (.bin .eql (.t 55) (.c (.i .u8 1)))⟩,
  ⟨(some 73), none, (.val (.t 74))⟩] t H) := runR_reg'
def d3_18 : List AOper := [
  ⟨(some 75), none, (.bin .eql (.t 55) (.c (.i .u8 2)))⟩,
  ⟨(some 73), none, (.val (.t 75))⟩]
theorem r3_18 {fn : AFun} {K : List AItem} {t : Nat → AV} {H : AH} {T : Tbl} : runR T fn (.code (.reg d3_18) :: K) t H = regR T fn K (aops (callR T) [
  ⟨(some 75), none, (.bin .eql (.t 55) (.c (.i .u8 2)))⟩,
  ⟨(some 73), none, (.val (.t 75))⟩] t H) := runR_reg'
def d3_19 : List AOper := [
  ⟨(some 77), none, (.val (.t 3))⟩,
  ⟨(some 78), none, (.val (.t 8))⟩,
  ⟨(some 79), none, (.call 12 [(.t 77), (.t 78)])⟩,
  ⟨(some 76), none, (.val (.t 79))⟩,
  ⟨(some 80), none, (.ext (.t 76) 0)⟩,
  ⟨(some 81), none, (.ext (.t 76) 1)⟩,
  ⟨(some 11), none, (.val (.t 80))⟩,
  ⟨(some 12), none, (.val (.t 81))⟩]
theorem r3_19 {fn : AFun} {K : List AItem} {t : Nat → AV} {H : AH} {T : Tbl} : runR T fn (.code (.reg d3_19) :: K) t H = regR T fn K (aops (callR T) [
  ⟨(some 77), none, (.val (.t 3))⟩,
  ⟨(some 78), none, (.val (.t 8))⟩,
  ⟨(some 79), none, (.call 12 [(.t 77), (.t 78)])⟩,
  ⟨(some 76), none, (.val (.t 79))⟩,
  ⟨(some 80), none, (.ext (.t 76) 0)⟩,
  ⟨(some 81), none, (.ext (.t 76) 1)⟩,
  ⟨(some 11), none, (.val (.t 80))⟩,
  ⟨(some 12), none, (.val (.t 81))⟩] t H) := runR_reg'
def d3_20 : List AOper := [
  ⟨(some 82), none, (.val (.t 11))⟩,
  ⟨(some 83), none, (.val (.t 8))⟩,
  ⟨(some 84), none, (.iaa 4 3 (.t 9) (.t 83))⟩,
  ⟨(some 85), none, (.iaa 3 1 (.t 84) (.c (.i .i64 2)))⟩,
  ⟨(some 86), none, (.ld none (.t 85))⟩,
  ⟨(some 87), none, (.eqb true (.t 82) (.t 86))⟩]
theorem r3_20 {fn : AFun} {K : List AItem} {t : Nat → AV} {H : AH} {T : Tbl} : runR T fn (.code (.reg d3_20) :: K) t H = regR T fn K (aops (callR T) [
  ⟨(some 82), none, (.val (.t 11))⟩,
  ⟨(some 83), none, (.val (.t 8))⟩,
  ⟨(some 84), none, (.iaa 4 3 (.t 9) (.t 83))⟩,
  ⟨(some 85), none, (.iaa 3 1 (.t 84) (.c (.i .i64 2)))⟩,
  ⟨(some 86), none, (.ld none (.t 85))⟩,
  ⟨(some 87), none, (.eqb true (.t 82) (.t 86))⟩] t H) := runR_reg'
def d3_21 : List AOper := [
  ⟨(some 2), none, (.val (.c (.b false)))⟩]
theorem r3_21 {fn : AFun} {K : List AItem} {t : Nat → AV} {H : AH} {T : Tbl} : runR T fn (.code (.reg d3_21) :: K) t H = regR T fn K (aops (callR T) [
  ⟨(some 2), none, (.val (.c (.b false)))⟩] t H) := runR_reg'
def d3_22 : List AOper := [
  ⟨(some 88), none, (.val (.t 8))⟩,
  ⟨(some 89), none, (.val (.t 11))⟩,
  ⟨(some 90), none, (.un .not (.t 89))⟩,
  ⟨(some 91), none, (.iaa 4 1 (.t 5) (.t 88))⟩,
  ⟨none, none, (.st 1 (.t 91) (.t 90))⟩]
theorem r3_22 {fn : AFun} {K : List AItem} {t : Nat → AV} {H : AH} {T : Tbl} : runR T fn (.code (.reg d3_22) :: K) t H = regR T fn K (aops (callR T) [
  ⟨(some 88), none, (.val (.t 8))⟩,
  ⟨(some 89), none, (.val (.t 11))⟩,
  ⟨(some 90), none, (.un .not (.t 89))⟩,
  ⟨(some 91), none, (.iaa 4 1 (.t 5) (.t 88))⟩,
  ⟨none, none, (.st 1 (.t 91) (.t 90))⟩] t H) := runR_reg'
def d3_23 : List AOper := [
  ⟨(some 93), none, (.bin .eql (.t 55) (.c (.i .u8 3)))⟩,
  ⟨(some 92), none, (.val (.t 93))⟩]
theorem r3_23 {fn : AFun} {K : List AItem} {t : Nat → AV} {H : AH} {T : Tbl} : runR T fn (.code (.reg d3_23) :: K) t H = regR T fn K (aops (callR T) [
  ⟨(some 93), none, (.bin .eql (.t 55) (.c (.i .u8 3)))⟩,
  ⟨(some 92), none, (.val (.t 93))⟩] t H) := runR_reg'
def d3_24 : List AOper := [
  ⟨(some 94), none, (.val (.t 3))⟩,
  ⟨(some 95), none, (.val (.t 8))⟩,
  ⟨(some 96), none, (.call 13 [(.t 94), (.t 95)])⟩]
theorem r3_24 {fn : AFun} {K : List AItem} {t : Nat → AV} {H : AH} {T : Tbl} : runR T fn (.code (.reg d3_24) :: K) t H = regR T fn K (aops (callR T) [
  ⟨(some 94), none, (.val (.t 3))⟩,
  ⟨(some 95), none, (.val (.t 8))⟩,
  ⟨(some 96), none, (.call 13 [(.t 94), (.t 95)])⟩] t H) := runR_reg'
def d3_25 : List AOper := [
  ⟨(some 56), none, (.val (.t 8))⟩,
  ⟨(some 57), none, (.iaa 4 3 (.t 9) (.t 56))⟩,
  ⟨(some 58), none, (.iaa 3 1 (.t 57) (.c (.i .i64 2)))⟩,
  ⟨(some 59), none, (.ld none (.t 58))⟩]
theorem r3_25 {fn : AFun} {K : List AItem} {t : Nat → AV} {H : AH} {T : Tbl} : runR T fn (.code (.reg d3_25) :: K) t H = regR T fn K (aops (callR T) [
  ⟨(some 56), none, (.val (.t 8))⟩,
  ⟨(some 57), none, (.iaa 4 3 (.t 9) (.t 56))⟩,
  ⟨(some 58), none, (.iaa 3 1 (.t 57) (.c (.i .i64 2)))⟩,
  ⟨(some 59), none, (.ld none (.t 58))⟩] t H) := runR_reg'
def d3_26 : List AOper := [
  ⟨(some 61), none, (.val (.t 3))⟩,
  ⟨(some 62), none, (.val (.t 8))⟩,
  ⟨(some 63), none, (.call 14 [(.t 61), (.t 62)])⟩,
  ⟨(some 60), none, (.val (.t 63))⟩,
  ⟨(some 64), none, (.ext (.t 60) 0)⟩,
  ⟨(some 65), none, (.ext (.t 60) 1)⟩,
  ⟨(some 13), none, (.val (.t 64))⟩,
  ⟨(some 14), none, (.val (.t 65))⟩]
theorem r3_26 {fn : AFun} {K : List AItem} {t : Nat → AV} {H : AH} {T : Tbl} : runR T fn (.code (.reg d3_26) :: K) t H = regR T fn K (aops (callR T) [
  ⟨(some 61), none, (.val (.t 3))⟩,
  ⟨(some 62), none, (.val (.t 8))⟩,
  ⟨(some 63), none, (.call 14 [(.t 61), (.t 62)])⟩,
  ⟨(some 60), none, (.val (.t 63))⟩,
  ⟨(some 64), none, (.ext (.t 60) 0)⟩,
  ⟨(some 65), none, (.ext (.t 60) 1)⟩,
  ⟨(some 13), none, (.val (.t 64))⟩,
  ⟨(some 14), none, (.val (.t 65))⟩] t H) := runR_reg'
def d3_27 : List AOper := [
  ⟨(some 66), none, (.val (.t 13))⟩,
  ⟨(some 67), none, (.val (.t 8))⟩,
  ⟨(some 68), none, (.iaa 4 1 (.t 5) (.t 67))⟩,
  ⟨(some 69), none, (.ld none (.t 68))⟩,
  ⟨(some 70), none, (.eqb false (.t 66) (.t 69))⟩]
theorem r3_27 {fn : AFun} {K : List AItem} {t : Nat → AV} {H : AH} {T : Tbl} : runR T fn (.code (.reg d3_27) :: K) t H = regR T fn K (aops (callR T) [
  ⟨(some 66), none, (.val (.t 13))⟩,
  ⟨(some 67), none, (.val (.t 8))⟩,
  ⟨(some 68), none, (.iaa 4 1 (.t 5) (.t 67))⟩,
  ⟨(some 69), none, (.ld none (.t 68))⟩,
  ⟨(some 70), none, (.eqb false (.t 66) (.t 69))⟩] t H) := runR_reg'
def d3_28 : List AOper := [
  ⟨(some 2), none, (.val (.c (.b false)))⟩]
theorem r3_28 {fn : AFun} {K : List AItem} {t : Nat → AV} {H : AH} {T : Tbl} : runR T fn (.code (.reg d3_28) :: K) t H = regR T fn K (aops (callR T) [
  ⟨(some 2), none, (.val (.c (.b false)))⟩] t H) := runR_reg'
def d3_29 : List AOper := [
  ⟨(some 71), none, (.val (.t 8))⟩,
  ⟨(some 72), none, (.iaa 4 1 (.t 5) (.t 71))⟩,
  ⟨none, none, (.st 1 (.t 72) (.c (.b false)))⟩]
theorem r3_29 {fn : AFun} {K : List AItem} {t : Nat → AV} {H : AH} {T : Tbl} : runR T fn (.code (.reg d3_29) :: K) t H = regR T fn K (aops (callR T) [
  ⟨(some 71), none, (.val (.t 8))⟩,
  ⟨(some 72), none, (.iaa 4 1 (.t 5) (.t 71))⟩,
  ⟨none, none, (.st 1 (.t 72) (.c (.b false)))⟩] t H) := runR_reg'
def d3_30 : List AOper := [
  ⟨(some 97), none, (.val (.c (.i .i64 0)))⟩]
theorem r3_30 {fn : AFun} {K : List AItem} {t : Nat → AV} {H : AH} {T : Tbl} : runR T fn (.code (.reg d3_30) :: K) t H = regR T fn K (aops (callR T) [
  ⟨(some 97), none, (.val (.c (.i .i64 0)))⟩] t H) := runR_reg'
def d3_31 : List AOper := [
  ⟨(some 98), none, (.bin .lss (.t 97) (.c (.i .i64 4)))⟩]
theorem r3_31 {fn : AFun} {K : List AItem} {t : Nat → AV} {H : AH} {T : Tbl} : runR T fn (.code (.reg d3_31) :: K) t H = regR T fn K (aops (callR T) [
  ⟨(some 98), none, (.bin .lss (.t 97) (.c (.i .i64 4)))⟩] t H) := runR_reg'
def d3_32 : List AOper := [
  ⟨(some 99), none, (.val (.t 97))⟩,
  ⟨(some 15), none, (.val (.t 99))⟩]
theorem r3_32 {fn : AFun} {K : List AItem} {t : Nat → AV} {H : AH} {T : Tbl} : runR T fn (.code (.reg d3_32) :: K) t H = regR T fn K (aops (callR T) [
  ⟨(some 99), none, (.val (.t 97))⟩,
  ⟨(some 15), none, (.val (.t 99))⟩] t H) := runR_reg'
def d3_33 : List AOper := [
  ⟨(some 100), none, (.val (.t 3))⟩,
  ⟨(some 101), none, (.val (.t 15))⟩,
  ⟨(some 102), none, (.call 9 [(.t 100), (.t 101)])⟩,
  ⟨(some 103), none, (.val (.t 3))⟩,
  ⟨(some 104), none, (.val (.t 15))⟩,
  ⟨(some 105), none, (.call 10 [(.t 103), (.t 104)])⟩,
  ⟨(some 106), none, (.val (.t 3))⟩,
  ⟨(some 107), none, (.val (.t 15))⟩,
  ⟨(some 108), none, (.call 11 [(.t 106), (.t 107)])⟩,
  ⟨(some 109), none, (.build [(.b false), (.b false), (.b false)] [(0, 1, (.t 102)), (1, 1, (.t 105)), (2, 1, (.t 108))])⟩,
  ⟨(some 16), none, (.alloc [(.b false), (.b false), (.b false)])⟩,
  ⟨none, none, (.st 3 (.t 16) (.t 109))⟩]
theorem r3_33 {fn : AFun} {K : List AItem} {t : Nat → AV} {H : AH} {T : Tbl} : runR T fn (.code (.reg d3_33) :: K) t H = regR T fn K (aops (callR T) [
  ⟨(some 100), none, (.val (.t 3))⟩,
  ⟨(some 101), none, (.val (.t 15))⟩,
  ⟨(some 102), none, (.call 9 [(.t 100), (.t 101)])⟩,
  ⟨(some 103), none, (.val (.t 3))⟩,
  ⟨(some 104), none, (.val (.t 15))⟩,
  ⟨(some 105), none, (.call 10 [(.t 103), (.t 104)])⟩,
  ⟨(some 106), none, (.val (.t 3))⟩,
  ⟨(some 107), none, (.val (.t 15))⟩,
  ⟨(some 108), none, (.call 11 [(.t 106), (.t 107)])⟩,
  ⟨(some 109), none, (.build [(.b false), (.b false), (.b false)] [(0, 1, (.t 102)), (1, 1, (.t 105)), (2, 1, (.t 108))])⟩,
  ⟨(some 16), none, (.alloc [(.b false), (.b false), (.b false)])⟩,
  ⟨none, none, (.st 3 (.t 16) (.t 109))⟩] t H) := runR_reg'
def d3_34 : List (AOper × List Nat) := [
  (⟨(some 110), none, (.val (.t 15))⟩, []),
  (⟨(some 111), none, (.val (.t 8))⟩, []),
  (⟨(some 112), none, (.bin .neq (.t 110) (.t 111))⟩, []),
  (⟨(some 113), none, (.val (.t 112))⟩, []),
  (⟨(some 114), (some (113, true)), (.ld (some 3) (.t 16))⟩, [1]),
  (⟨(some 115), (some (113, true)), (.val (.t 15))⟩, []),
  (⟨(some 116), (some (113, true)), (.iaa 4 3 (.t 9) (.t 115))⟩, []),
  (⟨(some 117), (some (113, true)), (.ld (some 3) (.t 116))⟩, [1]),
  (⟨(some 118), (some (113, true)), (.eqc [1, 1, 1] true (.t 114) (.t 117))⟩, []),
  (⟨(some 119), none, (.pick (.t 113) (.t 118) (.c (.b false)))⟩, []),
  (⟨(some 120), none, (.val (.t 119))⟩, []),
  (⟨(some 121), (some (120, false)), (.iaa 3 1 (.t 16) (.c (.i .i64 0)))⟩, []),
  (⟨(some 122), (some (120, false)), (.ld none (.t 121))⟩, [1]),
  (⟨(some 123), (some (120, false)), (.val (.t 122))⟩, []),
  (⟨(some 124), (some (123, true)), (.iaa 3 1 (.t 16) (.c (.i .i64 2)))⟩, []),
  (⟨(some 125), (some (123, true)), (.ld none (.t 124))⟩, [1]),
  (⟨(some 126), (some (120, false)), (.pick (.t 123) (.t 125) (.c (.b false)))⟩, []),
  (⟨(some 127), none, (.pick (.t 120) (.c (.b true)) (.t 126))⟩, [])]
theorem r3_34 {fn : AFun} {K : List AItem} {t : Nat → AV} {H : AH} {T : Tbl} : runR T fn (.code (.drw d3_34) :: K) t H = regR T fn K (aops (callR T) [
  ⟨(some 110), none, (.val (.t 15))⟩,
  ⟨(some 111), none, (.val (.t 8))⟩,
  ⟨(some 112), none, (.bin .neq (.t 110) (.t 111))⟩,
  ⟨(some 113), none, (.val (.t 112))⟩,
  ⟨(some 114), (some (113, true)), (.ld (some 3) (.t 16))⟩,
  ⟨(some 115), (some (113, true)), (.val (.t 15))⟩,
  ⟨(some 116), (some (113, true)), (.iaa 4 3 (.t 9) (.t 115))⟩,
  ⟨(some 117), (some (113, true)), (.ld (some 3) (.t 116))⟩,
  ⟨(some 118), (some (113, true)), (.eqc [1, 1, 1] true (.t 114) (.t 117))⟩,
  ⟨(some 119), none, (.pick (.t 113) (.t 118) (.c (.b false)))⟩,
  ⟨(some 120), none, (.val (.t 119))⟩,
  ⟨(some 121), (some (120, false)), (.iaa 3 1 (.t 16) (.c (.i .i64 0)))⟩,
  ⟨(some 122), (some (120, false)), (.ld none (.t 121))⟩,
  ⟨(some 123), (some (120, false)), (.val (.t 122))⟩,
  ⟨(some 124), (some (123, true)), (.iaa 3 1 (.t 16) (.c (.i .i64 2)))⟩,
  ⟨(some 125), (some (123, true)), (.ld none (.t 124))⟩,
  ⟨(some 126), (some (120, false)), (.pick (.t 123) (.t 125) (.c (.b false)))⟩,
  ⟨(some 127), none, (.pick (.t 120) (.c (.b true)) (.t 126))⟩] t H) := runR_plain rfl
def d3_35 : List AOper := [
  ⟨(some 2), none, (.val (.c (.b false)))⟩]
theorem r3_35 {fn : AFun} {K : List AItem} {t : Nat → AV} {H : AH} {T : Tbl} : runR T fn (.code (.reg d3_35) :: K) t H = regR T fn K (aops (callR T) [
  ⟨(some 2), none, (.val (.c (.b false)))⟩] t H) := runR_reg'
def d3_36 : List AOper := [
  ⟨(some 128), none, (.bin .add (.t 97) (.c (.i .i64 1)))⟩,
  ⟨(some 97), none, (.val (.t 128))⟩]
theorem r3_36 {fn : AFun} {K : List AItem} {t : Nat → AV} {H : AH} {T : Tbl} : runR T fn (.code (.reg d3_36) :: K) t H = regR T fn K (aops (callR T) [
  ⟨(some 128), none, (.bin .add (.t 97) (.c (.i .i64 1)))⟩,
  ⟨(some 97), none, (.val (.t 128))⟩] t H) := runR_reg'
def l3_37 : ACode := (.seq (.reg d3_31) (.seq (.cond (.t 98) .skip (.exit 5)) (.seq (.block 6 (.seq (.reg d3_32) (.seq (.reg d3_33) (.seq (.drw d3_34) (.cond (.t 127) (.seq (.reg d3_35) .ret) .skip))))) (.reg d3_36))))
def d3_38 : List AOper := [
  ⟨(some 129), none, (.bin .add (.t 30) (.c (.i .i64 1)))⟩,
  ⟨(some 30), none, (.val (.t 129))⟩]
theorem r3_38 {fn : AFun} {K : List AItem} {t : Nat → AV} {H : AH} {T : Tbl} : runR T fn (.code (.reg d3_38) :: K) t H = regR T fn K (aops (callR T) [
  ⟨(some 129), none, (.bin .add (.t 30) (.c (.i .i64 1)))⟩,
  ⟨(some 30), none, (.val (.t 129))⟩] t H) := runR_reg'
def l3_39 : ACode := (.seq (.reg d3_6) (.seq (.cond (.t 31) .skip (.exit 0)) (.seq (.block 1 (.seq (.reg d3_7) (.seq (.reg d3_8) (.seq (.reg d3_9) (.seq (.seq (.reg d3_10) (.block 2 (.loop l3_15))) (.seq (.seq (.reg d3_16) (.block 4 (.seq (.seq (.reg d3_17) (.cond (.t 73) .skip (.reg d3_18))) (.cond (.t 73) (.seq (.reg d3_19) (.seq (.seq (.reg d3_20) (.cond (.t 87) (.seq (.reg d3_21) .ret) .skip)) (.reg d3_22))) (.seq (.reg d3_23) (.cond (.t 92) (.reg d3_24) (.seq (.seq (.reg d3_25) (.cond (.t 59) (.exit 1) .skip)) (.seq (.reg d3_26) (.seq (.seq (.reg d3_27) (.cond (.t 70) (.seq (.reg d3_28) .ret) .skip)) (.reg d3_29)))))))))) (.seq (.reg d3_30) (.block 5 (.loop l3_37))))))))) (.reg d3_38))))
def d3_40 : List AOper := [
  ⟨(some 130), none, (.call 15 [])⟩,
  ⟨(some 2), none, (.val (.t 130))⟩]
theorem r3_40 {fn : AFun} {K : List AItem} {t : Nat → AV} {H : AH} {T : Tbl} : runR T fn (.code (.reg d3_40) :: K) t H = regR T fn K (aops (callR T) [
  ⟨(some 130), none, (.call 15 [])⟩,
  ⟨(some 2), none, (.val (.t 130))⟩] t H) := runR_reg'
def a3 : AFun := ⟨131, [(.tmp 2)], (.seq (.reg d3_0) (.seq (.reg d3_1) (.seq (.seq (.reg d3_2) (.cond (.t 26) (.seq (.reg d3_3) .ret) .skip)) (.seq (.reg d3_4) (.seq (.seq (.reg d3_5) (.block 0 (.loop l3_39))) (.seq (.reg d3_40) .ret))))))⟩
theorem a3_ok : cfun Try.prog 3 = some a3 := by kernel_rfl
/-- futtock/futtocklaw08.PermitFlags -/
def d4_0 : List AOper := [
  ⟨(some 2), none, (.val (.c (.b false)))⟩]
theorem r4_0 {fn : AFun} {K : List AItem} {t : Nat → AV} {H : AH} {T : Tbl} : runR T fn (.code (.reg d4_0) :: K) t H = regR T fn K (aops (callR T) [
  ⟨(some 2), none, (.val (.c (.b false)))⟩] t H) := runR_reg'
def d4_1 : List AOper := [
  ⟨(some 11), none, (.call 7 [(.c (.i .i64 4))])⟩,
  ⟨(some 10), none, (.val (.t 11))⟩,
  ⟨(some 12), none, (.ext (.t 10) 0)⟩,
  ⟨(some 13), none, (.ext (.t 10) 1)⟩,
  ⟨(some 3), none, (.val (.t 12))⟩,
  ⟨(some 4), none, (.val (.t 13))⟩]
theorem r4_1 {fn : AFun} {K : List AItem} {t : Nat → AV} {H : AH} {T : Tbl} : runR T fn (.code (.reg d4_1) :: K) t H = regR T fn K (aops (callR T) [
  ⟨(some 11), none, (.call 7 [(.c (.i .i64 4))])⟩,
  ⟨(some 10), none, (.val (.t 11))⟩,
  ⟨(some 12), none, (.ext (.t 10) 0)⟩,
  ⟨(some 13), none, (.ext (.t 10) 1)⟩,
  ⟨(some 3), none, (.val (.t 12))⟩,
  ⟨(some 4), none, (.val (.t 13))⟩] t H) := runR_reg'
def d4_2 : List AOper := [
  ⟨(some 14), none, (.val (.t 3))⟩,
  ⟨(some 15), none, (.eqn 0 false (.t 14) (.c (.p none)))⟩,
  ⟨(some 16), none, (.val (.t 15))⟩,
  ⟨(some 17), (some (16, false)), (.val (.t 4))⟩,
  ⟨(some 18), (some (16, false)), (.bin .neq (.t 17) (.c (.i .i64 0)))⟩,
  ⟨(some 19), none, (.pick (.t 16) (.c (.b true)) (.t 18))⟩]
theorem r4_2 {fn : AFun} {K : List AItem} {t : Nat → AV} {H : AH} {T : Tbl} : runR T fn (.code (.reg d4_2) :: K) t H = regR T fn K (aops (callR T) [
  ⟨(some 14), none, (.val (.t 3))⟩,
  ⟨(some 15), none, (.eqn 0 false (.t 14) (.c (.p none)))⟩,
  ⟨(some 16), none, (.val (.t 15))⟩,
  ⟨(some 17), (some (16, false)), (.val (.t 4))⟩,
  ⟨(some 18), (some (16, false)), (.bin .neq (.t 17) (.c (.i .i64 0)))⟩,
  ⟨(some 19), none, (.pick (.t 16) (.c (.b true)) (.t 18))⟩] t H) := runR_reg'
def d4_3 : List AOper := [
  ⟨(some 2), none, (.val (.c (.b false)))⟩]
theorem r4_3 {fn : AFun} {K : List AItem} {t : Nat → AV} {H : AH} {T : Tbl} : runR T fn (.code (.reg d4_3) :: K) t H = regR T fn K (aops (callR T) [
  ⟨(some 2), none, (.val (.c (.b false)))⟩] t H) := runR_reg'
def d4_4 : List AOper := [
  ⟨(some 5), none, (.alloc [(.b false), (.b false), (.b false), (.b false)])⟩]
theorem r4_4 {fn : AFun} {K : List AItem} {t : Nat → AV} {H : AH} {T : Tbl} : runR T fn (.code (.reg d4_4) :: K) t H = regR T fn K (aops (callR T) [
  ⟨(some 5), none, (.alloc [(.b false), (.b false), (.b false), (.b false)])⟩] t H) := runR_reg'
def d4_5 : List AOper := [
  ⟨(some 20), none, (.val (.t 0))⟩,
  ⟨(some 21), none, (.call 8 [(.t 20)])⟩,
  ⟨(some 22), none, (.len (.t 21))⟩,
  ⟨(some 23), none, (.val (.c (.i .i64 0)))⟩]
theorem r4_5 {fn : AFun} {K : List AItem} {t : Nat → AV} {H : AH} {T : Tbl} : runR T fn (.code (.reg d4_5) :: K) t H = regR T fn K (aops (callR T) [
  ⟨(some 20), none, (.val (.t 0))⟩,
  ⟨(some 21), none, (.call 8 [(.t 20)])⟩,
  ⟨(some 22), none, (.len (.t 21))⟩,
  ⟨(some 23), none, (.val (.c (.i .i64 0)))⟩] t H) := runR_reg'
def d4_6 : List AOper := [
  ⟨(some 24), none, (.bin .lss (.t 23) (.t 22))⟩]
theorem r4_6 {fn : AFun} {K : List AItem} {t : Nat → AV} {H : AH} {T : Tbl} : runR T fn (.code (.reg d4_6) :: K) t H = regR T fn K (aops (callR T) [
  ⟨(some 24), none, (.bin .lss (.t 23) (.t 22))⟩] t H) := runR_reg'
def d4_7 : List AOper := [
  ⟨(some 25), none, (.ia 2 (.t 21) (.t 23))⟩,
  ⟨(some 26), none, (.ld (some 2) (.t 25))⟩,
  ⟨(some 7), none, (.alloc [(.i .u8 0), (.i .i64 0)])⟩,
  ⟨none, none, (.st 2 (.t 7) (.t 26))⟩]
theorem r4_7 {fn : AFun} {K : List AItem} {t : Nat → AV} {H : AH} {T : Tbl} : runR T fn (.code (.reg d4_7) :: K) t H = regR T fn K (aops (callR T) [
  ⟨(some 25), none, (.ia 2 (.t 21) (.t 23))⟩,
  ⟨(some 26), none, (.ld (some 2) (.t 25))⟩,
  ⟨(some 7), none, (.alloc [(.i .u8 0), (.i .i64 0)])⟩,
  ⟨none, none, (.st 2 (.t 7) (.t 26))⟩] t H) := runR_reg'
def d4_8 : List AOper := [
  ⟨(some 27), none, (.fa 1 (.t 7))⟩,
  ⟨(some 28), none, (.ld none (.t 27))⟩,
  ⟨(some 29), none, (.bin .and (.t 28) (.c (.i .i64 3)))⟩,
  ⟨(some 8), none, (.val (.t 29))⟩]
theorem r4_8 {fn : AFun} {K : List AItem} {t : Nat → AV} {H : AH} {T : Tbl} : runR T fn (.code (.reg d4_8) :: K) t H = regR T fn K (aops (callR T) [
  ⟨(some 27), none, (.fa 1 (.t 7))⟩,
  ⟨(some 28), none, (.ld none (.t 27))⟩,
  ⟨(some 29), none, (.bin .and (.t 28) (.c (.i .i64 3)))⟩,
  ⟨(some 8), none, (.val (.t 29))⟩] t H) := runR_reg'
def d4_9 : List AOper := [
  ⟨(some 30), none, (.fa 0 (.t 7))⟩,
  ⟨(some 31), none, (.ld none (.t 30))⟩,
  ⟨(some 32), none, (.bin .rem (.t 31) (.c (.i .u8 5)))⟩]
theorem r4_9 {fn : AFun} {K : List AItem} {t : Nat → AV} {H : AH} {T : Tbl} : runR T fn (.code (.reg d4_9) :: K) t H = regR T fn K (aops (callR T) [
  ⟨(some 30), none, (.fa 0 (.t 7))⟩,
  ⟨(some 31), none, (.ld none (.t 30))⟩,
  ⟨(some 32), none, (.bin .rem (.t 31) (.c (.i .u8 5)))⟩] t H) := runR_reg'
def d4_10 : List AOper := [
  ⟨(some 37), none, (.bin .eql (.t 32) (.c (.i .u8 2)))⟩,
  ⟨(some 36), none, (.val (.t 37))⟩]
theorem r4_10 {fn : AFun} {K : List AItem} {t : Nat → AV} {H : AH} {T : Tbl} : runR T fn (.code (.reg d4_10) :: K) t H = regR T fn K (aops (callR T) [
  ⟨(some 37), none, (.bin .eql (.t 32) (.c (.i .u8 2)))⟩,
  ⟨(some 36), none, (.val (.t 37))⟩] t H) := runR_reg'
def d4_11 : List AOper := [
  ⟨(some 38), none, (.val (.t 3))⟩,
  ⟨(some 39), none, (.val (.t 8))⟩,
  ⟨(some 40), none, (.call 16 [(.t 38), (.t 39)])⟩]
theorem r4_11 {fn : AFun} {K : List AItem} {t : Nat → AV} {H : AH} {T : Tbl} : runR T fn (.code (.reg d4_11) :: K) t H = regR T fn K (aops (callR T) [
  ⟨(some 38), none, (.val (.t 3))⟩,
  ⟨(some 39), none, (.val (.t 8))⟩,
  ⟨(some 40), none, (.call 16 [(.t 38), (.t 39)])⟩] t H) := runR_reg'
def d4_12 : List AOper := [
  ⟨(some 41), none, (.val (.t 3))⟩,
  ⟨(some 42), none, (.val (.t 8))⟩,
  ⟨(some 43), none, (.call 11 [(.t 41), (.t 42)])⟩]
theorem r4_12 {fn : AFun} {K : List AItem} {t : Nat → AV} {H : AH} {T : Tbl} : runR T fn (.code (.reg d4_12) :: K) t H = regR T fn K (aops (callR T) [
  ⟨(some 41), none, (.val (.t 3))⟩,
  ⟨(some 42), none, (.val (.t 8))⟩,
  ⟨(some 43), none, (.call 11 [(.t 41), (.t 42)])⟩] t H) := runR_reg'
def d4_13 : List AOper := [
  ⟨(some 2), none, (.val (.c (.b false)))⟩]
theorem r4_13 {fn : AFun} {K : List AItem} {t : Nat → AV} {H : AH} {T : Tbl} : runR T fn (.code (.reg d4_13) :: K) t H = regR T fn K (aops (callR T) [
  ⟨(some 2), none, (.val (.c (.b false)))⟩] t H) := runR_reg'
def d4_14 : List AOper := [
  ⟨(some 44), none, (.val (.t 8))⟩,
  ⟨(some 45), none, (.iaa 4 1 (.t 5) (.t 44))⟩,
  ⟨none, none, (.st 1 (.t 45) (.c (.b true)))⟩]
theorem r4_14 {fn : AFun} {K : List AItem} {t : Nat → AV} {H : AH} {T : Tbl} : runR T fn (.code (.reg d4_14) :: K) t H = regR T fn K (aops (callR T) [
  ⟨(some 44), none, (.val (.t 8))⟩,
  ⟨(some 45), none, (.iaa 4 1 (.t 5) (.t 44))⟩,
  ⟨none, none, (.st 1 (.t 45) (.c (.b true)))⟩] t H) := runR_reg'
def d4_15 : List AOper := [
  ⟨(some 47), none, (.bin .eql (.t 32) (.c (.i .u8 3)))⟩,
  ⟨(some 46), none, (.val (.t 47))⟩]
theorem r4_15 {fn : AFun} {K : List AItem} {t : Nat → AV} {H : AH} {T : Tbl} : runR T fn (.code (.reg d4_15) :: K) t H = regR T fn K (aops (callR T) [
  ⟨(some 47), none, (.bin .eql (.t 32) (.c (.i .u8 3)))⟩,
  ⟨(some 46), none, (.val (.t 47))⟩] t H) := runR_reg'
def d4_16 : List (AOper × List Nat) := [
  (⟨(some 48), none, (.val (.t 3))⟩, []),
  (⟨(some 49), none, (.val (.t 8))⟩, []),
  (⟨(some 50), none, (.call 13 [(.t 48), (.t 49)])⟩, []),
  (⟨(some 51), none, (.val (.t 8))⟩, []),
  (⟨(some 52), none, (.iaa 4 1 (.t 5) (.t 51))⟩, []),
  (⟨(some 53), none, (.ld none (.t 52))⟩, [2]),
  (⟨(some 54), none, (.eqb true (.t 50) (.t 53))⟩, [])]
theorem r4_16 {fn : AFun} {K : List AItem} {t : Nat → AV} {H : AH} {T : Tbl} : runR T fn (.code (.drw d4_16) :: K) t H = regR T fn K (adrn (callR T) [
  (⟨(some 48), none, (.val (.t 3))⟩, []),
  (⟨(some 49), none, (.val (.t 8))⟩, []),
  (⟨(some 50), none, (.call 13 [(.t 48), (.t 49)])⟩, []),
  (⟨(some 51), none, (.val (.t 8))⟩, []),
  (⟨(some 52), none, (.iaa 4 1 (.t 5) (.t 51))⟩, []),
  (⟨(some 53), none, (.ld none (.t 52))⟩, [2]),
  (⟨(some 54), none, (.eqb true (.t 50) (.t 53))⟩, [])] t H [H]) := runR_free rfl
def d4_17 : List AOper := [
  ⟨(some 2), none, (.val (.c (.b false)))⟩]
theorem r4_17 {fn : AFun} {K : List AItem} {t : Nat → AV} {H : AH} {T : Tbl} : runR T fn (.code (.reg d4_17) :: K) t H = regR T fn K (aops (callR T) [
  ⟨(some 2), none, (.val (.c (.b false)))⟩] t H) := runR_reg'
def d4_18 : List AOper := [
  ⟨(some 55), none, (.val (.t 8))⟩,
  ⟨(some 56), none, (.iaa 4 1 (.t 5) (.t 55))⟩,
  ⟨none, none, (.st 1 (.t 56) (.c (.b false)))⟩]
theorem r4_18 {fn : AFun} {K : List AItem} {t : Nat → AV} {H : AH} {T : Tbl} : runR T fn (.code (.reg d4_18) :: K) t H = regR T fn K (aops (callR T) [
  ⟨(some 55), none, (.val (.t 8))⟩,
  ⟨(some 56), none, (.iaa 4 1 (.t 5) (.t 55))⟩,
  ⟨none, none, (.st 1 (.t 56) (.c (.b false)))⟩] t H) := runR_reg'
def d4_19 : List AOper := [
  ⟨(some 33), none, (.val (.t 3))⟩,
  ⟨(some 34), none, (.val (.t 8))⟩,
  ⟨(some 35), none, (.call 14 [(.t 33), (.t 34)])⟩]
theorem r4_19 {fn : AFun} {K : List AItem} {t : Nat → AV} {H : AH} {T : Tbl} : runR T fn (.code (.reg d4_19) :: K) t H = regR T fn K (aops (callR T) [
  ⟨(some 33), none, (.val (.t 3))⟩,
  ⟨(some 34), none, (.val (.t 8))⟩,
  ⟨(some 35), none, (.call 14 [(.t 33), (.t 34)])⟩] t H) := runR_reg'
def d4_20 : List AOper := [
  ⟨(some 57), none, (.val (.c (.i .i64 0)))⟩]
theorem r4_20 {fn : AFun} {K : List AItem} {t : Nat → AV} {H : AH} {T : Tbl} : runR T fn (.code (.reg d4_20) :: K) t H = regR T fn K (aops (callR T) [
  ⟨(some 57), none, (.val (.c (.i .i64 0)))⟩] t H) := runR_reg'
def d4_21 : List AOper := [
  ⟨(some 58), none, (.bin .lss (.t 57) (.c (.i .i64 4)))⟩]
theorem r4_21 {fn : AFun} {K : List AItem} {t : Nat → AV} {H : AH} {T : Tbl} : runR T fn (.code (.reg d4_21) :: K) t H = regR T fn K (aops (callR T) [
  ⟨(some 58), none, (.bin .lss (.t 57) (.c (.i .i64 4)))⟩] t H) := runR_reg'
def d4_22 : List AOper := [
  ⟨(some 59), none, (.val (.t 57))⟩,
  ⟨(some 9), none, (.val (.t 59))⟩]
theorem r4_22 {fn : AFun} {K : List AItem} {t : Nat → AV} {H : AH} {T : Tbl} : runR T fn (.code (.reg d4_22) :: K) t H = regR T fn K (aops (callR T) [
  ⟨(some 59), none, (.val (.t 57))⟩,
  ⟨(some 9), none, (.val (.t 59))⟩] t H) := runR_reg'
def d4_23 : List (AOper × List Nat) := [
  (⟨(some 60), none, (.val (.t 3))⟩, []),
  (⟨(some 61), none, (.val (.t 9))⟩, []),
  (⟨(some 62), none, (.call 10 [(.t 60), (.t 61)])⟩, []),
  (⟨(some 63), none, (.val (.t 9))⟩, []),
  (⟨(some 64), none, (.iaa 4 1 (.t 5) (.t 63))⟩, []),
  (⟨(some 65), none, (.ld none (.t 64))⟩, [2]),
  (⟨(some 66), none, (.eqb true (.t 62) (.t 65))⟩, [])]
theorem r4_23 {fn : AFun} {K : List AItem} {t : Nat → AV} {H : AH} {T : Tbl} : runR T fn (.code (.drw d4_23) :: K) t H = regR T fn K (adrn (callR T) [
  (⟨(some 60), none, (.val (.t 3))⟩, []),
  (⟨(some 61), none, (.val (.t 9))⟩, []),
  (⟨(some 62), none, (.call 10 [(.t 60), (.t 61)])⟩, []),
  (⟨(some 63), none, (.val (.t 9))⟩, []),
  (⟨(some 64), none, (.iaa 4 1 (.t 5) (.t 63))⟩, []),
  (⟨(some 65), none, (.ld none (.t 64))⟩, [2]),
  (⟨(some 66), none, (.eqb true (.t 62) (.t 65))⟩, [])] t H [H]) := runR_free rfl
def d4_24 : List AOper := [
  ⟨(some 2), none, (.val (.c (.b false)))⟩]
theorem r4_24 {fn : AFun} {K : List AItem} {t : Nat → AV} {H : AH} {T : Tbl} : runR T fn (.code (.reg d4_24) :: K) t H = regR T fn K (aops (callR T) [
  ⟨(some 2), none, (.val (.c (.b false)))⟩] t H) := runR_reg'
def d4_25 : List AOper := [
  ⟨(some 67), none, (.bin .add (.t 57) (.c (.i .i64 1)))⟩,
  ⟨(some 57), none, (.val (.t 67))⟩]
theorem r4_25 {fn : AFun} {K : List AItem} {t : Nat → AV} {H : AH} {T : Tbl} : runR T fn (.code (.reg d4_25) :: K) t H = regR T fn K (aops (callR T) [
  ⟨(some 67), none, (.bin .add (.t 57) (.c (.i .i64 1)))⟩,
  ⟨(some 57), none, (.val (.t 67))⟩] t H) := runR_reg'
def l4_26 : ACode := (.seq (.reg d4_21) (.seq (.cond (.t 58) .skip (.exit 3)) (.seq (.block 4 (.seq (.reg d4_22) (.seq (.drw d4_23) (.cond (.t 66) (.seq (.reg d4_24) .ret) .skip)))) (.reg d4_25))))
def d4_27 : List AOper := [
  ⟨(some 68), none, (.bin .add (.t 23) (.c (.i .i64 1)))⟩,
  ⟨(some 23), none, (.val (.t 68))⟩]
theorem r4_27 {fn : AFun} {K : List AItem} {t : Nat → AV} {H : AH} {T : Tbl} : runR T fn (.code (.reg d4_27) :: K) t H = regR T fn K (aops (callR T) [
  ⟨(some 68), none, (.bin .add (.t 23) (.c (.i .i64 1)))⟩,
  ⟨(some 23), none, (.val (.t 68))⟩] t H) := runR_reg'
def l4_28 : ACode := (.seq (.reg d4_6) (.seq (.cond (.t 24) .skip (.exit 0)) (.seq (.block 1 (.seq (.reg d4_7) (.seq (.reg d4_8) (.seq (.seq (.reg d4_9) (.block 2 (.seq (.reg d4_10) (.cond (.t 36) (.seq (.reg d4_11) (.seq (.seq (.reg d4_12) (.cond (.t 43) (.seq (.reg d4_13) .ret) .skip)) (.reg d4_14))) (.seq (.reg d4_15) (.cond (.t 46) (.seq (.seq (.drw d4_16) (.cond (.t 54) (.seq (.reg d4_17) .ret) .skip)) (.reg d4_18)) (.reg d4_19))))))) (.seq (.reg d4_20) (.block 3 (.loop l4_26))))))) (.reg d4_27))))
def d4_29 : List AOper := [
  ⟨(some 69), none, (.call 15 [])⟩,
  ⟨(some 2), none, (.val (.t 69))⟩]
theorem r4_29 {fn : AFun} {K : List AItem} {t : Nat → AV} {H : AH} {T : Tbl} : runR T fn (.code (.reg d4_29) :: K) t H = regR T fn K (aops (callR T) [
  ⟨(some 69), none, (.call 15 [])⟩,
  ⟨(some 2), none, (.val (.t 69))⟩] t H) := runR_reg'
def a4 : AFun := ⟨70, [(.tmp 2)], (.seq (.reg d4_0) (.seq (.reg d4_1) (.seq (.seq (.reg d4_2) (.cond (.t 19) (.seq (.reg d4_3) .ret) .skip)) (.seq (.reg d4_4) (.seq (.seq (.reg d4_5) (.block 0 (.loop l4_28))) (.seq (.reg d4_29) .ret))))))⟩
theorem a4_ok : cfun Try.prog 4 = some a4 := by kernel_rfl
/-- futtock/futtocklaw08.PermitPlays -/
def d5_0 : List AOper := [
  ⟨(some 4), none, (.val (.c (.b false)))⟩]
theorem r5_0 {fn : AFun} {K : List AItem} {t : Nat → AV} {H : AH} {T : Tbl} : runR T fn (.code (.reg d5_0) :: K) t H = regR T fn K (aops (callR T) [
  ⟨(some 4), none, (.val (.c (.b false)))⟩] t H) := runR_reg'
def d5_1 : List AOper := [
  ⟨(some 29), none, (.val (.t 0))⟩,
  ⟨(some 30), none, (.call 7 [(.t 29)])⟩,
  ⟨(some 28), none, (.val (.t 30))⟩,
  ⟨(some 31), none, (.ext (.t 28) 0)⟩,
  ⟨(some 32), none, (.ext (.t 28) 1)⟩,
  ⟨(some 5), none, (.val (.t 31))⟩,
  ⟨(some 6), none, (.val (.t 32))⟩]
theorem r5_1 {fn : AFun} {K : List AItem} {t : Nat → AV} {H : AH} {T : Tbl} : runR T fn (.code (.reg d5_1) :: K) t H = regR T fn K (aops (callR T) [
  ⟨(some 29), none, (.val (.t 0))⟩,
  ⟨(some 30), none, (.call 7 [(.t 29)])⟩,
  ⟨(some 28), none, (.val (.t 30))⟩,
  ⟨(some 31), none, (.ext (.t 28) 0)⟩,
  ⟨(some 32), none, (.ext (.t 28) 1)⟩,
  ⟨(some 5), none, (.val (.t 31))⟩,
  ⟨(some 6), none, (.val (.t 32))⟩] t H) := runR_reg'
def d5_2 : List AOper := [
  ⟨(some 34), none, (.val (.t 0))⟩,
  ⟨(some 35), none, (.call 17 [(.t 34)])⟩,
  ⟨(some 33), none, (.val (.t 35))⟩,
  ⟨(some 36), none, (.ext (.t 33) 0)⟩,
  ⟨(some 37), none, (.ext (.t 33) 1)⟩,
  ⟨(some 7), none, (.alloc [(.sl none 0 0 true 0), (.sl none 0 0 true 0), (.sl none 0 0 true 0)])⟩,
  ⟨none, none, (.st 3 (.t 7) (.t 36))⟩,
  ⟨(some 8), none, (.val (.t 37))⟩]
theorem r5_2 {fn : AFun} {K : List AItem} {t : Nat → AV} {H : AH} {T : Tbl} : runR T fn (.code (.reg d5_2) :: K) t H = regR T fn K (aops (callR T) [
  ⟨(some 34), none, (.val (.t 0))⟩,
  ⟨(some 35), none, (.call 17 [(.t 34)])⟩,
  ⟨(some 33), none, (.val (.t 35))⟩,
  ⟨(some 36), none, (.ext (.t 33) 0)⟩,
  ⟨(some 37), none, (.ext (.t 33) 1)⟩,
  ⟨(some 7), none, (.alloc [(.sl none 0 0 true 0), (.sl none 0 0 true 0), (.sl none 0 0 true 0)])⟩,
  ⟨none, none, (.st 3 (.t 7) (.t 36))⟩,
  ⟨(some 8), none, (.val (.t 37))⟩] t H) := runR_reg'
def d5_3 : List AOper := [
  ⟨(some 38), none, (.val (.t 6))⟩,
  ⟨(some 39), none, (.val (.t 8))⟩,
  ⟨(some 40), none, (.bin .neq (.t 38) (.t 39))⟩,
  ⟨(some 41), none, (.val (.t 40))⟩,
  ⟨(some 42), (some (41, false)), (.val (.t 8))⟩,
  ⟨(some 43), (some (41, false)), (.bin .neq (.t 42) (.c (.i .i64 0)))⟩,
  ⟨(some 44), none, (.pick (.t 41) (.c (.b true)) (.t 43))⟩,
  ⟨(some 45), none, (.val (.t 44))⟩,
  ⟨(some 46), (some (45, false)), (.val (.t 5))⟩,
  ⟨(some 47), (some (45, false)), (.eqn 0 false (.t 46) (.c (.p none)))⟩,
  ⟨(some 48), none, (.pick (.t 45) (.c (.b true)) (.t 47))⟩]
theorem r5_3 {fn : AFun} {K : List AItem} {t : Nat → AV} {H : AH} {T : Tbl} : runR T fn (.code (.reg d5_3) :: K) t H = regR T fn K (aops (callR T) [
  ⟨(some 38), none, (.val (.t 6))⟩,
  ⟨(some 39), none, (.val (.t 8))⟩,
  ⟨(some 40), none, (.bin .neq (.t 38) (.t 39))⟩,
  ⟨(some 41), none, (.val (.t 40))⟩,
  ⟨(some 42), (some (41, false)), (.val (.t 8))⟩,
  ⟨(some 43), (some (41, false)), (.bin .neq (.t 42) (.c (.i .i64 0)))⟩,
  ⟨(some 44), none, (.pick (.t 41) (.c (.b true)) (.t 43))⟩,
  ⟨(some 45), none, (.val (.t 44))⟩,
  ⟨(some 46), (some (45, false)), (.val (.t 5))⟩,
  ⟨(some 47), (some (45, false)), (.eqn 0 false (.t 46) (.c (.p none)))⟩,
  ⟨(some 48), none, (.pick (.t 45) (.c (.b true)) (.t 47))⟩] t H) := runR_reg'
def d5_4 : List AOper := [
  ⟨(some 49), none, (.val (.t 6))⟩,
  ⟨(some 50), none, (.val (.t 8))⟩,
  ⟨(some 51), none, (.bin .eql (.t 49) (.t 50))⟩,
  ⟨(some 52), none, (.val (.t 51))⟩,
  ⟨(some 53), (some (52, true)), (.val (.t 5))⟩,
  ⟨(some 54), (some (52, true)), (.eqn 0 true (.t 53) (.c (.p none)))⟩,
  ⟨(some 55), (some (52, true)), (.val (.t 8))⟩,
  ⟨(some 56), (some (52, true)), (.bin .eql (.t 55) (.c (.i .i64 0)))⟩,
  ⟨(some 57), (some (52, true)), (.eqb false (.t 54) (.t 56))⟩,
  ⟨(some 58), none, (.pick (.t 52) (.t 57) (.c (.b false)))⟩,
  ⟨(some 59), none, (.val (.t 58))⟩,
  ⟨(some 60), (some (59, true)), (.call 15 [])⟩,
  ⟨(some 61), none, (.pick (.t 59) (.t 60) (.c (.b false)))⟩,
  ⟨(some 4), none, (.val (.t 61))⟩]
theorem r5_4 {fn : AFun} {K : List AItem} {t : Nat → AV} {H : AH} {T : Tbl} : runR T fn (.code (.reg d5_4) :: K) t H = regR T fn K (aops (callR T) [
  ⟨(some 49), none, (.val (.t 6))⟩,
  ⟨(some 50), none, (.val (.t 8))⟩,
  ⟨(some 51), none, (.bin .eql (.t 49) (.t 50))⟩,
  ⟨(some 52), none, (.val (.t 51))⟩,
  ⟨(some 53), (some (52, true)), (.val (.t 5))⟩,
  ⟨(some 54), (some (52, true)), (.eqn 0 true (.t 53) (.c (.p none)))⟩,
  ⟨(some 55), (some (52, true)), (.val (.t 8))⟩,
  ⟨(some 56), (some (52, true)), (.bin .eql (.t 55) (.c (.i .i64 0)))⟩,
  ⟨(some 57), (some (52, true)), (.eqb false (.t 54) (.t 56))⟩,
  ⟨(some 58), none, (.pick (.t 52) (.t 57) (.c (.b false)))⟩,
  ⟨(some 59), none, (.val (.t 58))⟩,
  ⟨(some 60), (some (59, true)), (.call 15 [])⟩,
  ⟨(some 61), none, (.pick (.t 59) (.t 60) (.c (.b false)))⟩,
  ⟨(some 4), none, (.val (.t 61))⟩] t H) := runR_reg'
def d5_5 : List AOper := [
  ⟨(some 62), none, (.val (.t 1))⟩,
  ⟨(some 63), none, (.call 8 [(.t 62)])⟩,
  ⟨(some 64), none, (.len (.t 63))⟩,
  ⟨(some 65), none, (.val (.c (.i .i64 0)))⟩]
theorem r5_5 {fn : AFun} {K : List AItem} {t : Nat → AV} {H : AH} {T : Tbl} : runR T fn (.code (.reg d5_5) :: K) t H = regR T fn K (aops (callR T) [
  ⟨(some 62), none, (.val (.t 1))⟩,
  ⟨(some 63), none, (.call 8 [(.t 62)])⟩,
  ⟨(some 64), none, (.len (.t 63))⟩,
  ⟨(some 65), none, (.val (.c (.i .i64 0)))⟩] t H) := runR_reg'
def d5_6 : List AOper := [
  ⟨(some 66), none, (.bin .lss (.t 65) (.t 64))⟩]
theorem r5_6 {fn : AFun} {K : List AItem} {t : Nat → AV} {H : AH} {T : Tbl} : runR T fn (.code (.reg d5_6) :: K) t H = regR T fn K (aops (callR T) [
  ⟨(some 66), none, (.bin .lss (.t 65) (.t 64))⟩] t H) := runR_reg'
def d5_7 : List AOper := [
  ⟨(some 67), none, (.ia 2 (.t 63) (.t 65))⟩,
  ⟨(some 68), none, (.ld (some 2) (.t 67))⟩,
  ⟨(some 10), none, (.alloc [(.i .u8 0), (.i .i64 0)])⟩,
  ⟨none, none, (.st 2 (.t 10) (.t 68))⟩]
theorem r5_7 {fn : AFun} {K : List AItem} {t : Nat → AV} {H : AH} {T : Tbl} : runR T fn (.code (.reg d5_7) :: K) t H = regR T fn K (aops (callR T) [
  ⟨(some 67), none, (.ia 2 (.t 63) (.t 65))⟩,
  ⟨(some 68), none, (.ld (some 2) (.t 67))⟩,
  ⟨(some 10), none, (.alloc [(.i .u8 0), (.i .i64 0)])⟩,
  ⟨none, none, (.st 2 (.t 10) (.t 68))⟩] t H) := runR_reg'
def d5_8 : List AOper := [
  ⟨(some 11), none, (.val (.c (.b false)))⟩]
theorem r5_8 {fn : AFun} {K : List AItem} {t : Nat → AV} {H : AH} {T : Tbl} : runR T fn (.code (.reg d5_8) :: K) t H = regR T fn K (aops (callR T) [
  ⟨(some 11), none, (.val (.c (.b false)))⟩] t H) := runR_reg'
def d5_9 : List AOper := [
  ⟨(some 69), none, (.fa 0 (.t 10))⟩,
  ⟨(some 70), none, (.ld none (.t 69))⟩,
  ⟨(some 71), none, (.bin .rem (.t 70) (.c (.i .u8 5)))⟩]
theorem r5_9 {fn : AFun} {K : List AItem} {t : Nat → AV} {H : AH} {T : Tbl} : runR T fn (.code (.reg d5_9) :: K) t H = regR T fn K (aops (callR T) [
  ⟨(some 69), none, (.fa 0 (.t 10))⟩,
  ⟨(some 70), none, (.ld none (.t 69))⟩,
  ⟨(some 71), none, (.bin .rem (.t 70) (.c (.i .u8 5)))⟩] t H) := runR_reg'
def d5_10 : List AOper := [
  ⟨(some 94), none, (.bin .eql (.t 71) (.c (.i .u8 1)))⟩,
  ⟨(some 93), none, (.val (.t 94))⟩]
theorem r5_10 {fn : AFun} {K : List AItem} {t : Nat → AV} {H : AH} {T : Tbl} : runR T fn (.code (.reg d5_10) :: K) t H = regR T fn K (aops (callR T) [
  ⟨(some 94), none, (.bin .eql (.t 71) (.c (.i .u8 1)))⟩,
  ⟨(some 93), none, (.val (.t 94))⟩] t H) := runR_reg'
def d5_11 : List AOper := [
  ⟨(some 96), none, (.val (.t 5))⟩,
  ⟨(some 97), none, (.fa 1 (.t 10))⟩,
  ⟨(some 98), none, (.ld none (.t 97))⟩,
  ⟨(some 99), none, (.call 12 [(.t 96), (.t 98)])⟩,
  ⟨(some 95), none, (.val (.t 99))⟩,
  ⟨(some 100), none, (.ext (.t 95) 0)⟩,
  ⟨(some 101), none, (.ext (.t 95) 1)⟩,
  ⟨(some 12), none, (.val (.t 100))⟩,
  ⟨(some 13), none, (.val (.t 101))⟩]
theorem r5_11 {fn : AFun} {K : List AItem} {t : Nat → AV} {H : AH} {T : Tbl} : runR T fn (.code (.reg d5_11) :: K) t H = regR T fn K (aops (callR T) [
  ⟨(some 96), none, (.val (.t 5))⟩,
  ⟨(some 97), none, (.fa 1 (.t 10))⟩,
  ⟨(some 98), none, (.ld none (.t 97))⟩,
  ⟨(some 99), none, (.call 12 [(.t 96), (.t 98)])⟩,
  ⟨(some 95), none, (.val (.t 99))⟩,
  ⟨(some 100), none, (.ext (.t 95) 0)⟩,
  ⟨(some 101), none, (.ext (.t 95) 1)⟩,
  ⟨(some 12), none, (.val (.t 100))⟩,
  ⟨(some 13), none, (.val (.t 101))⟩] t H) := runR_reg'
def d5_12 : List AOper := [
  ⟨(some 103), none, (.fa 1 (.t 10))⟩,
  ⟨(some 104), none, (.ld none (.t 103))⟩,
  ⟨(some 105), none, (.call 18 [(.t 7), (.t 104)])⟩,
  ⟨(some 102), none, (.val (.t 105))⟩,
  ⟨(some 106), none, (.ext (.t 102) 0)⟩,
  ⟨(some 107), none, (.ext (.t 102) 1)⟩,
  ⟨(some 14), none, (.val (.t 106))⟩,
  ⟨(some 15), none, (.val (.t 107))⟩]
theorem r5_12 {fn : AFun} {K : List AItem} {t : Nat → AV} {H : AH} {T : Tbl} : runR T fn (.code (.reg d5_12) :: K) t H = regR T fn K (aops (callR T) [
  ⟨(some 103), none, (.fa 1 (.t 10))⟩,
  ⟨(some 104), none, (.ld none (.t 103))⟩,
  ⟨(some 105), none, (.call 18 [(.t 7), (.t 104)])⟩,
  ⟨(some 102), none, (.val (.t 105))⟩,
  ⟨(some 106), none, (.ext (.t 102) 0)⟩,
  ⟨(some 107), none, (.ext (.t 102) 1)⟩,
  ⟨(some 14), none, (.val (.t 106))⟩,
  ⟨(some 15), none, (.val (.t 107))⟩] t H) := runR_reg'
def d5_13 : List AOper := [
  ⟨(some 108), none, (.val (.t 12))⟩,
  ⟨(some 109), none, (.val (.t 14))⟩,
  ⟨(some 110), none, (.eqb false (.t 108) (.t 109))⟩,
  ⟨(some 111), none, (.val (.t 110))⟩,
  ⟨(some 112), (some (111, true)), (.val (.t 13))⟩,
  ⟨(some 113), (some (111, true)), (.val (.t 15))⟩,
  ⟨(some 114), (some (111, true)), (.bin .eql (.t 112) (.t 113))⟩,
  ⟨(some 115), none, (.pick (.t 111) (.t 114) (.c (.b false)))⟩,
  ⟨(some 11), none, (.val (.t 115))⟩]
theorem r5_13 {fn : AFun} {K : List AItem} {t : Nat → AV} {H : AH} {T : Tbl} : runR T fn (.code (.reg d5_13) :: K) t H = regR T fn K (aops (callR T) [
  ⟨(some 108), none, (.val (.t 12))⟩,
  ⟨(some 109), none, (.val (.t 14))⟩,
  ⟨(some 110), none, (.eqb false (.t 108) (.t 109))⟩,
  ⟨(some 111), none, (.val (.t 110))⟩,
  ⟨(some 112), (some (111, true)), (.val (.t 13))⟩,
  ⟨(some 113), (some (111, true)), (.val (.t 15))⟩,
  ⟨(some 114), (some (111, true)), (.bin .eql (.t 112) (.t 113))⟩,
  ⟨(some 115), none, (.pick (.t 111) (.t 114) (.c (.b false)))⟩,
  ⟨(some 11), none, (.val (.t 115))⟩] t H) := runR_reg'
def d5_14 : List AOper := [
  ⟨(some 117), none, (.bin .eql (.t 71) (.c (.i .u8 2)))⟩,
  ⟨(some 116), none, (.val (.t 117))⟩]
theorem r5_14 {fn : AFun} {K : List AItem} {t : Nat → AV} {H : AH} {T : Tbl} : runR T fn (.code (.reg d5_14) :: K) t H = regR T fn K (aops (callR T) [
  ⟨(some 117), none, (.bin .eql (.t 71) (.c (.i .u8 2)))⟩,
  ⟨(some 116), none, (.val (.t 117))⟩] t H) := runR_reg'
def d5_15 : List AOper := [
  ⟨(some 119), none, (.val (.t 5))⟩,
  ⟨(some 120), none, (.fa 1 (.t 10))⟩,
  ⟨(some 121), none, (.ld none (.t 120))⟩,
  ⟨(some 122), none, (.call 16 [(.t 119), (.t 121)])⟩,
  ⟨(some 118), none, (.val (.t 122))⟩,
  ⟨(some 123), none, (.ext (.t 118) 0)⟩,
  ⟨(some 124), none, (.ext (.t 118) 1)⟩,
  ⟨(some 16), none, (.val (.t 123))⟩,
  ⟨(some 17), none, (.val (.t 124))⟩]
theorem r5_15 {fn : AFun} {K : List AItem} {t : Nat → AV} {H : AH} {T : Tbl} : runR T fn (.code (.reg d5_15) :: K) t H = regR T fn K (aops (callR T) [
  ⟨(some 119), none, (.val (.t 5))⟩,
  ⟨(some 120), none, (.fa 1 (.t 10))⟩,
  ⟨(some 121), none, (.ld none (.t 120))⟩,
  ⟨(some 122), none, (.call 16 [(.t 119), (.t 121)])⟩,
  ⟨(some 118), none, (.val (.t 122))⟩,
  ⟨(some 123), none, (.ext (.t 118) 0)⟩,
  ⟨(some 124), none, (.ext (.t 118) 1)⟩,
  ⟨(some 16), none, (.val (.t 123))⟩,
  ⟨(some 17), none, (.val (.t 124))⟩] t H) := runR_reg'
def d5_16 : List AOper := [
  ⟨(some 126), none, (.fa 1 (.t 10))⟩,
  ⟨(some 127), none, (.ld none (.t 126))⟩,
  ⟨(some 128), none, (.call 19 [(.t 7), (.t 127)])⟩,
  ⟨(some 125), none, (.val (.t 128))⟩,
  ⟨(some 129), none, (.ext (.t 125) 0)⟩,
  ⟨(some 130), none, (.ext (.t 125) 1)⟩,
  ⟨(some 18), none, (.val (.t 129))⟩,
  ⟨(some 19), none, (.val (.t 130))⟩]
theorem r5_16 {fn : AFun} {K : List AItem} {t : Nat → AV} {H : AH} {T : Tbl} : runR T fn (.code (.reg d5_16) :: K) t H = regR T fn K (aops (callR T) [
  ⟨(some 126), none, (.fa 1 (.t 10))⟩,
  ⟨(some 127), none, (.ld none (.t 126))⟩,
  ⟨(some 128), none, (.call 19 [(.t 7), (.t 127)])⟩,
  ⟨(some 125), none, (.val (.t 128))⟩,
  ⟨(some 129), none, (.ext (.t 125) 0)⟩,
  ⟨(some 130), none, (.ext (.t 125) 1)⟩,
  ⟨(some 18), none, (.val (.t 129))⟩,
  ⟨(some 19), none, (.val (.t 130))⟩] t H) := runR_reg'
def d5_17 : List AOper := [
  ⟨(some 131), none, (.val (.t 16))⟩,
  ⟨(some 132), none, (.val (.t 18))⟩,
  ⟨(some 133), none, (.eqb false (.t 131) (.t 132))⟩,
  ⟨(some 134), none, (.val (.t 133))⟩,
  ⟨(some 135), (some (134, true)), (.val (.t 17))⟩,
  ⟨(some 136), (some (134, true)), (.val (.t 19))⟩,
  ⟨(some 137), (some (134, true)), (.bin .eql (.t 135) (.t 136))⟩,
  ⟨(some 138), none, (.pick (.t 134) (.t 137) (.c (.b false)))⟩,
  ⟨(some 11), none, (.val (.t 138))⟩]
theorem r5_17 {fn : AFun} {K : List AItem} {t : Nat → AV} {H : AH} {T : Tbl} : runR T fn (.code (.reg d5_17) :: K) t H = regR T fn K (aops (callR T) [
  ⟨(some 131), none, (.val (.t 16))⟩,
  ⟨(some 132), none, (.val (.t 18))⟩,
  ⟨(some 133), none, (.eqb false (.t 131) (.t 132))⟩,
  ⟨(some 134), none, (.val (.t 133))⟩,
  ⟨(some 135), (some (134, true)), (.val (.t 17))⟩,
  ⟨(some 136), (some (134, true)), (.val (.t 19))⟩,
  ⟨(some 137), (some (134, true)), (.bin .eql (.t 135) (.t 136))⟩,
  ⟨(some 138), none, (.pick (.t 134) (.t 137) (.c (.b false)))⟩,
  ⟨(some 11), none, (.val (.t 138))⟩] t H) := runR_reg'
def d5_18 : List AOper := [
  ⟨(some 140), none, (.bin .eql (.t 71) (.c (.i .u8 3)))⟩,
  ⟨(some 139), none, (.val (.t 140))⟩]
theorem r5_18 {fn : AFun} {K : List AItem} {t : Nat → AV} {H : AH} {T : Tbl} : runR T fn (.code (.reg d5_18) :: K) t H = regR T fn K (aops (callR T) [
  ⟨(some 140), none, (.bin .eql (.t 71) (.c (.i .u8 3)))⟩,
  ⟨(some 139), none, (.val (.t 140))⟩] t H) := runR_reg'
def d5_19 : List (AOper × List Nat) := [
  (⟨(some 141), none, (.val (.t 5))⟩, []),
  (⟨(some 142), none, (.fa 1 (.t 10))⟩, []),
  (⟨(some 143), none, (.ld none (.t 142))⟩, [1]),
  (⟨(some 144), none, (.call 13 [(.t 141), (.t 143)])⟩, []),
  (⟨(some 145), none, (.fa 1 (.t 10))⟩, []),
  (⟨(some 146), none, (.ld none (.t 145))⟩, [2]),
  (⟨(some 147), none, (.call 20 [(.t 7), (.t 146)])⟩, []),
  (⟨(some 148), none, (.eqb false (.t 144) (.t 147))⟩, []),
  (⟨(some 11), none, (.val (.t 148))⟩, [])]
theorem r5_19 {fn : AFun} {K : List AItem} {t : Nat → AV} {H : AH} {T : Tbl} : runR T fn (.code (.drw d5_19) :: K) t H = regR T fn K (adrn (callR T) [
  (⟨(some 141), none, (.val (.t 5))⟩, []),
  (⟨(some 142), none, (.fa 1 (.t 10))⟩, []),
  (⟨(some 143), none, (.ld none (.t 142))⟩, [1]),
  (⟨(some 144), none, (.call 13 [(.t 141), (.t 143)])⟩, []),
  (⟨(some 145), none, (.fa 1 (.t 10))⟩, []),
  (⟨(some 146), none, (.ld none (.t 145))⟩, [2]),
  (⟨(some 147), none, (.call 20 [(.t 7), (.t 146)])⟩, []),
  (⟨(some 148), none, (.eqb false (.t 144) (.t 147))⟩, []),
  (⟨(some 11), none, (.val (.t 148))⟩, [])] t H [H]) := runR_free rfl
def d5_20 : List AOper := [
  ⟨(some 73), none, (.val (.t 5))⟩,
  ⟨(some 74), none, (.fa 1 (.t 10))⟩,
  ⟨(some 75), none, (.ld none (.t 74))⟩,
  ⟨(some 76), none, (.call 14 [(.t 73), (.t 75)])⟩,
  ⟨(some 72), none, (.val (.t 76))⟩,
  ⟨(some 77), none, (.ext (.t 72) 0)⟩,
  ⟨(some 78), none, (.ext (.t 72) 1)⟩,
  ⟨(some 20), none, (.val (.t 77))⟩,
  ⟨(some 21), none, (.val (.t 78))⟩]
theorem r5_20 {fn : AFun} {K : List AItem} {t : Nat → AV} {H : AH} {T : Tbl} : runR T fn (.code (.reg d5_20) :: K) t H = regR T fn K (aops (callR T) [
  ⟨(some 73), none, (.val (.t 5))⟩,
  ⟨(some 74), none, (.fa 1 (.t 10))⟩,
  ⟨(some 75), none, (.ld none (.t 74))⟩,
  ⟨(some 76), none, (.call 14 [(.t 73), (.t 75)])⟩,
  ⟨(some 72), none, (.val (.t 76))⟩,
  ⟨(some 77), none, (.ext (.t 72) 0)⟩,
  ⟨(some 78), none, (.ext (.t 72) 1)⟩,
  ⟨(some 20), none, (.val (.t 77))⟩,
  ⟨(some 21), none, (.val (.t 78))⟩] t H) := runR_reg'
def d5_21 : List AOper := [
  ⟨(some 80), none, (.fa 1 (.t 10))⟩,
  ⟨(some 81), none, (.ld none (.t 80))⟩,
  ⟨(some 82), none, (.call 21 [(.t 7), (.t 81)])⟩,
  ⟨(some 79), none, (.val (.t 82))⟩,
  ⟨(some 83), none, (.ext (.t 79) 0)⟩,
  ⟨(some 84), none, (.ext (.t 79) 1)⟩,
  ⟨(some 22), none, (.val (.t 83))⟩,
  ⟨(some 23), none, (.val (.t 84))⟩]
theorem r5_21 {fn : AFun} {K : List AItem} {t : Nat → AV} {H : AH} {T : Tbl} : runR T fn (.code (.reg d5_21) :: K) t H = regR T fn K (aops (callR T) [
  ⟨(some 80), none, (.fa 1 (.t 10))⟩,
  ⟨(some 81), none, (.ld none (.t 80))⟩,
  ⟨(some 82), none, (.call 21 [(.t 7), (.t 81)])⟩,
  ⟨(some 79), none, (.val (.t 82))⟩,
  ⟨(some 83), none, (.ext (.t 79) 0)⟩,
  ⟨(some 84), none, (.ext (.t 79) 1)⟩,
  ⟨(some 22), none, (.val (.t 83))⟩,
  ⟨(some 23), none, (.val (.t 84))⟩] t H) := runR_reg'
def d5_22 : List AOper := [
  ⟨(some 85), none, (.val (.t 20))⟩,
  ⟨(some 86), none, (.val (.t 22))⟩,
  ⟨(some 87), none, (.eqb false (.t 85) (.t 86))⟩,
  ⟨(some 88), none, (.val (.t 87))⟩,
  ⟨(some 89), (some (88, true)), (.val (.t 21))⟩,
  ⟨(some 90), (some (88, true)), (.val (.t 23))⟩,
  ⟨(some 91), (some (88, true)), (.bin .eql (.t 89) (.t 90))⟩,
  ⟨(some 92), none, (.pick (.t 88) (.t 91) (.c (.b false)))⟩,
  ⟨(some 11), none, (.val (.t 92))⟩]
theorem r5_22 {fn : AFun} {K : List AItem} {t : Nat → AV} {H : AH} {T : Tbl} : runR T fn (.code (.reg d5_22) :: K) t H = regR T fn K (aops (callR T) [
  ⟨(some 85), none, (.val (.t 20))⟩,
  ⟨(some 86), none, (.val (.t 22))⟩,
  ⟨(some 87), none, (.eqb false (.t 85) (.t 86))⟩,
  ⟨(some 88), none, (.val (.t 87))⟩,
  ⟨(some 89), (some (88, true)), (.val (.t 21))⟩,
  ⟨(some 90), (some (88, true)), (.val (.t 23))⟩,
  ⟨(some 91), (some (88, true)), (.bin .eql (.t 89) (.t 90))⟩,
  ⟨(some 92), none, (.pick (.t 88) (.t 91) (.c (.b false)))⟩,
  ⟨(some 11), none, (.val (.t 92))⟩] t H) := runR_reg'
def d5_23 : List AOper := [
  ⟨(some 24), none, (.alloc [(.b false), (.b false), (.b false)])⟩]
theorem r5_23 {fn : AFun} {K : List AItem} {t : Nat → AV} {H : AH} {T : Tbl} : runR T fn (.code (.reg d5_23) :: K) t H = regR T fn K (aops (callR T) [
  ⟨(some 24), none, (.alloc [(.b false), (.b false), (.b false)])⟩] t H) := runR_reg'
def d5_24 : List AOper := [
  ⟨(some 149), none, (.fa 1 (.t 10))⟩,
  ⟨(some 150), none, (.ld none (.t 149))⟩,
  ⟨(some 151), none, (.call 22 [(.t 7), (.t 150)])⟩]
theorem r5_24 {fn : AFun} {K : List AItem} {t : Nat → AV} {H : AH} {T : Tbl} : runR T fn (.code (.reg d5_24) :: K) t H = regR T fn K (aops (callR T) [
  ⟨(some 149), none, (.fa 1 (.t 10))⟩,
  ⟨(some 150), none, (.ld none (.t 149))⟩,
  ⟨(some 151), none, (.call 22 [(.t 7), (.t 150)])⟩] t H) := runR_reg'
def d5_25 : List (AOper × List Nat) := [
  (⟨(some 152), none, (.fa 0 (.t 7))⟩, []),
  (⟨(some 153), none, (.ld none (.t 152))⟩, [1]),
  (⟨(some 154), none, (.fa 1 (.t 10))⟩, []),
  (⟨(some 155), none, (.ld none (.t 154))⟩, [1]),
  (⟨(some 156), none, (.ia 1 (.t 153) (.t 155))⟩, []),
  (⟨(some 157), none, (.ld none (.t 156))⟩, [1]),
  (⟨(some 158), none, (.fa 1 (.t 7))⟩, []),
  (⟨(some 159), none, (.ld none (.t 158))⟩, [1]),
  (⟨(some 160), none, (.fa 1 (.t 10))⟩, []),
  (⟨(some 161), none, (.ld none (.t 160))⟩, [1]),
  (⟨(some 162), none, (.ia 1 (.t 159) (.t 161))⟩, []),
  (⟨(some 163), none, (.ld none (.t 162))⟩, [1]),
  (⟨(some 164), none, (.fa 2 (.t 7))⟩, []),
  (⟨(some 165), none, (.ld none (.t 164))⟩, [1]),
  (⟨(some 166), none, (.fa 1 (.t 10))⟩, []),
  (⟨(some 167), none, (.ld none (.t 166))⟩, [1]),
  (⟨(some 168), none, (.ia 1 (.t 165) (.t 167))⟩, []),
  (⟨(some 169), none, (.ld none (.t 168))⟩, [1]),
  (⟨(some 170), none, (.build [(.b false), (.b false), (.b false)] [(0, 1, (.t 157)), (1, 1, (.t 163)), (2, 1, (.t 169))])⟩, []),
  (⟨none, none, (.st 3 (.t 24) (.t 170))⟩, [])]
theorem r5_25 {fn : AFun} {K : List AItem} {t : Nat → AV} {H : AH} {T : Tbl} : runR T fn (.code (.drw d5_25) :: K) t H = regR T fn K (aops (callR T) [
  ⟨(some 152), none, (.fa 0 (.t 7))⟩,
  ⟨(some 153), none, (.ld none (.t 152))⟩,
  ⟨(some 154), none, (.fa 1 (.t 10))⟩,
  ⟨(some 155), none, (.ld none (.t 154))⟩,
  ⟨(some 156), none, (.ia 1 (.t 153) (.t 155))⟩,
  ⟨(some 157), none, (.ld none (.t 156))⟩,
  ⟨(some 158), none, (.fa 1 (.t 7))⟩,
  ⟨(some 159), none, (.ld none (.t 158))⟩,
  ⟨(some 160), none, (.fa 1 (.t 10))⟩,
  ⟨(some 161), none, (.ld none (.t 160))⟩,
  ⟨(some 162), none, (.ia 1 (.t 159) (.t 161))⟩,
  ⟨(some 163), none, (.ld none (.t 162))⟩,
  ⟨(some 164), none, (.fa 2 (.t 7))⟩,
  ⟨(some 165), none, (.ld none (.t 164))⟩,
  ⟨(some 166), none, (.fa 1 (.t 10))⟩,
  ⟨(some 167), none, (.ld none (.t 166))⟩,
  ⟨(some 168), none, (.ia 1 (.t 165) (.t 167))⟩,
  ⟨(some 169), none, (.ld none (.t 168))⟩,
  ⟨(some 170), none, (.build [(.b false), (.b false), (.b false)] [(0, 1, (.t 157)), (1, 1, (.t 163)), (2, 1, (.t 169))])⟩,
  ⟨none, none, (.st 3 (.t 24) (.t 170))⟩] t H) := runR_plain rfl
def d5_26 : List (AOper × List Nat) := [
  (⟨(some 171), none, (.val (.t 11))⟩, []),
  (⟨(some 172), none, (.un .not (.t 171))⟩, []),
  (⟨(some 173), none, (.val (.t 172))⟩, []),
  (⟨(some 174), (some (173, false)), (.val (.t 5))⟩, []),
  (⟨(some 175), (some (173, false)), (.fa 1 (.t 10))⟩, []),
  (⟨(some 176), (some (173, false)), (.ld none (.t 175))⟩, [1]),
  (⟨(some 177), (some (173, false)), (.call 9 [(.t 174), (.t 176)])⟩, []),
  (⟨(some 178), (some (173, false)), (.iaa 3 1 (.t 24) (.c (.i .i64 0)))⟩, []),
  (⟨(some 179), (some (173, false)), (.ld none (.t 178))⟩, [2]),
  (⟨(some 180), (some (173, false)), (.eqb true (.t 177) (.t 179))⟩, []),
  (⟨(some 181), none, (.pick (.t 173) (.c (.b true)) (.t 180))⟩, []),
  (⟨(some 182), none, (.val (.t 181))⟩, []),
  (⟨(some 183), (some (182, false)), (.val (.t 5))⟩, []),
  (⟨(some 184), (some (182, false)), (.fa 1 (.t 10))⟩, []),
  (⟨(some 185), (some (182, false)), (.ld none (.t 184))⟩, [1]),
  (⟨(some 186), (some (182, false)), (.call 10 [(.t 183), (.t 185)])⟩, []),
  (⟨(some 187), (some (182, false)), (.iaa 3 1 (.t 24) (.c (.i .i64 1)))⟩, []),
  (⟨(some 188), (some (182, false)), (.ld none (.t 187))⟩, [2]),
  (⟨(some 189), (some (182, false)), (.eqb true (.t 186) (.t 188))⟩, []),
  (⟨(some 190), none, (.pick (.t 182) (.c (.b true)) (.t 189))⟩, []),
  (⟨(some 191), none, (.val (.t 190))⟩, []),
  (⟨(some 192), (some (191, false)), (.val (.t 5))⟩, []),
  (⟨(some 193), (some (191, false)), (.fa 1 (.t 10))⟩, []),
  (⟨(some 194), (some (191, false)), (.ld none (.t 193))⟩, [1]),
  (⟨(some 195), (some (191, false)), (.call 11 [(.t 192), (.t 194)])⟩, []),
  (⟨(some 196), (some (191, false)), (.iaa 3 1 (.t 24) (.c (.i .i64 2)))⟩, []),
  (⟨(some 197), (some (191, false)), (.ld none (.t 196))⟩, [2]),
  (⟨(some 198), (some (191, false)), (.eqb true (.t 195) (.t 197))⟩, []),
  (⟨(some 199), none, (.pick (.t 191) (.c (.b true)) (.t 198))⟩, [])]
theorem r5_26 {fn : AFun} {K : List AItem} {t : Nat → AV} {H : AH} {T : Tbl} : runR T fn (.code (.drw d5_26) :: K) t H = regR T fn K (adrn (callR T) [
  (⟨(some 171), none, (.val (.t 11))⟩, []),
  (⟨(some 172), none, (.un .not (.t 171))⟩, []),
  (⟨(some 173), none, (.val (.t 172))⟩, []),
  (⟨(some 174), (some (173, false)), (.val (.t 5))⟩, []),
  (⟨(some 175), (some (173, false)), (.fa 1 (.t 10))⟩, []),
  (⟨(some 176), (some (173, false)), (.ld none (.t 175))⟩, [1]),
  (⟨(some 177), (some (173, false)), (.call 9 [(.t 174), (.t 176)])⟩, []),
  (⟨(some 178), (some (173, false)), (.iaa 3 1 (.t 24) (.c (.i .i64 0)))⟩, []),
  (⟨(some 179), (some (173, false)), (.ld none (.t 178))⟩, [2]),
  (⟨(some 180), (some (173, false)), (.eqb true (.t 177) (.t 179))⟩, []),
  (⟨(some 181), none, (.pick (.t 173) (.c (.b true)) (.t 180))⟩, []),
  (⟨(some 182), none, (.val (.t 181))⟩, []),
  (⟨(some 183), (some (182, false)), (.val (.t 5))⟩, []),
  (⟨(some 184), (some (182, false)), (.fa 1 (.t 10))⟩, []),
  (⟨(some 185), (some (182, false)), (.ld none (.t 184))⟩, [1]),
  (⟨(some 186), (some (182, false)), (.call 10 [(.t 183), (.t 185)])⟩, []),
  (⟨(some 187), (some (182, false)), (.iaa 3 1 (.t 24) (.c (.i .i64 1)))⟩, []),
  (⟨(some 188), (some (182, false)), (.ld none (.t 187))⟩, [2]),
  (⟨(some 189), (some (182, false)), (.eqb true (.t 186) (.t 188))⟩, []),
  (⟨(some 190), none, (.pick (.t 182) (.c (.b true)) (.t 189))⟩, []),
  (⟨(some 191), none, (.val (.t 190))⟩, []),
  (⟨(some 192), (some (191, false)), (.val (.t 5))⟩, []),
  (⟨(some 193), (some (191, false)), (.fa 1 (.t 10))⟩, []),
  (⟨(some 194), (some (191, false)), (.ld none (.t 193))⟩, [1]),
  (⟨(some 195), (some (191, false)), (.call 11 [(.t 192), (.t 194)])⟩, []),
  (⟨(some 196), (some (191, false)), (.iaa 3 1 (.t 24) (.c (.i .i64 2)))⟩, []),
  (⟨(some 197), (some (191, false)), (.ld none (.t 196))⟩, [2]),
  (⟨(some 198), (some (191, false)), (.eqb true (.t 195) (.t 197))⟩, []),
  (⟨(some 199), none, (.pick (.t 191) (.c (.b true)) (.t 198))⟩, [])] t H [H]) := runR_free rfl
def d5_27 : List AOper := [
  ⟨(some 4), none, (.val (.c (.b false)))⟩]
theorem r5_27 {fn : AFun} {K : List AItem} {t : Nat → AV} {H : AH} {T : Tbl} : runR T fn (.code (.reg d5_27) :: K) t H = regR T fn K (aops (callR T) [
  ⟨(some 4), none, (.val (.c (.b false)))⟩] t H) := runR_reg'
def d5_28 : List AOper := [
  ⟨(some 25), none, (.val (.c (.i .i64 0)))⟩]
theorem r5_28 {fn : AFun} {K : List AItem} {t : Nat → AV} {H : AH} {T : Tbl} : runR T fn (.code (.reg d5_28) :: K) t H = regR T fn K (aops (callR T) [
  ⟨(some 25), none, (.val (.c (.i .i64 0)))⟩] t H) := runR_reg'
def d5_29 : List AOper := [
  ⟨(some 200), none, (.val (.t 5))⟩,
  ⟨(some 201), none, (.call 23 [(.t 200)])⟩,
  ⟨(some 202), none, (.len (.t 201))⟩,
  ⟨(some 203), none, (.val (.c (.i .i64 0)))⟩]
theorem r5_29 {fn : AFun} {K : List AItem} {t : Nat → AV} {H : AH} {T : Tbl} : runR T fn (.code (.reg d5_29) :: K) t H = regR T fn K (aops (callR T) [
  ⟨(some 200), none, (.val (.t 5))⟩,
  ⟨(some 201), none, (.call 23 [(.t 200)])⟩,
  ⟨(some 202), none, (.len (.t 201))⟩,
  ⟨(some 203), none, (.val (.c (.i .i64 0)))⟩] t H) := runR_reg'
def d5_30 : List AOper := [
  ⟨(some 204), none, (.bin .lss (.t 203) (.t 202))⟩]
theorem r5_30 {fn : AFun} {K : List AItem} {t : Nat → AV} {H : AH} {T : Tbl} : runR T fn (.code (.reg d5_30) :: K) t H = regR T fn K (aops (callR T) [
  ⟨(some 204), none, (.bin .lss (.t 203) (.t 202))⟩] t H) := runR_reg'
def d5_31 : List AOper := [
  ⟨(some 205), none, (.ia 1 (.t 201) (.t 203))⟩,
  ⟨(some 206), none, (.ld none (.t 205))⟩,
  ⟨(some 27), none, (.val (.t 206))⟩]
theorem r5_31 {fn : AFun} {K : List AItem} {t : Nat → AV} {H : AH} {T : Tbl} : runR T fn (.code (.reg d5_31) :: K) t H = regR T fn K (aops (callR T) [
  ⟨(some 205), none, (.ia 1 (.t 201) (.t 203))⟩,
  ⟨(some 206), none, (.ld none (.t 205))⟩,
  ⟨(some 27), none, (.val (.t 206))⟩] t H) := runR_reg'
def d5_32 : List AOper := [
  ⟨(some 207), none, (.val (.t 27))⟩,
  ⟨(some 208), none, (.call 22 [(.t 7), (.t 207)])⟩,
  ⟨(some 209), none, (.un .not (.t 208))⟩,
  ⟨(some 210), none, (.val (.t 209))⟩,
  ⟨(some 211), (some (210, false)), (.fa 2 (.t 7))⟩,
  ⟨(some 212), (some (210, false)), (.ld none (.t 211))⟩,
  ⟨(some 213), (some (210, false)), (.val (.t 27))⟩,
  ⟨(some 214), (some (210, false)), (.ia 1 (.t 212) (.t 213))⟩,
  ⟨(some 215), (some (210, false)), (.ld none (.t 214))⟩,
  ⟨(some 216), (some (210, false)), (.un .not (.t 215))⟩,
  ⟨(some 217), none, (.pick (.t 210) (.c (.b true)) (.t 216))⟩,
  ⟨(some 218), none, (.val (.t 217))⟩,
  ⟨(some 219), (some (218, false)), (.val (.t 27))⟩,
  ⟨(some 220), (some (218, false)), (.val (.t 25))⟩,
  ⟨(some 221), (some (218, false)), (.bin .lss (.t 219) (.t 220))⟩,
  ⟨(some 222), none, (.pick (.t 218) (.c (.b true)) (.t 221))⟩]
theorem r5_32 {fn : AFun} {K : List AItem} {t : Nat → AV} {H : AH} {T : Tbl} : runR T fn (.code (.reg d5_32) :: K) t H = regR T fn K (aops (callR T) [
  ⟨(some 207), none, (.val (.t 27))⟩,
  ⟨(some 208), none, (.call 22 [(.t 7), (.t 207)])⟩,
  ⟨(some 209), none, (.un .not (.t 208))⟩,
  ⟨(some 210), none, (.val (.t 209))⟩,
  ⟨(some 211), (some (210, false)), (.fa 2 (.t 7))⟩,
  ⟨(some 212), (some (210, false)), (.ld none (.t 211))⟩,
  ⟨(some 213), (some (210, false)), (.val (.t 27))⟩,
  ⟨(some 214), (some (210, false)), (.ia 1 (.t 212) (.t 213))⟩,
  ⟨(some 215), (some (210, false)), (.ld none (.t 214))⟩,
  ⟨(some 216), (some (210, false)), (.un .not (.t 215))⟩,
  ⟨(some 217), none, (.pick (.t 210) (.c (.b true)) (.t 216))⟩,
  ⟨(some 218), none, (.val (.t 217))⟩,
  ⟨(some 219), (some (218, false)), (.val (.t 27))⟩,
  ⟨(some 220), (some (218, false)), (.val (.t 25))⟩,
  ⟨(some 221), (some (218, false)), (.bin .lss (.t 219) (.t 220))⟩,
  ⟨(some 222), none, (.pick (.t 218) (.c (.b true)) (.t 221))⟩] t H) := runR_reg'
def d5_33 : List AOper := [
  ⟨(some 4), none, (.val (.c (.b false)))⟩]
theorem r5_33 {fn : AFun} {K : List AItem} {t : Nat → AV} {H : AH} {T : Tbl} : runR T fn (.code (.reg d5_33) :: K) t H = regR T fn K (aops (callR T) [
  ⟨(some 4), none, (.val (.c (.b false)))⟩] t H) := runR_reg'
def d5_34 : List AOper := [
  ⟨(some 223), none, (.val (.t 27))⟩,
  ⟨(some 224), none, (.bin .add (.t 223) (.c (.i .i64 1)))⟩,
  ⟨(some 25), none, (.val (.t 224))⟩]
theorem r5_34 {fn : AFun} {K : List AItem} {t : Nat → AV} {H : AH} {T : Tbl} : runR T fn (.code (.reg d5_34) :: K) t H = regR T fn K (aops (callR T) [
  ⟨(some 223), none, (.val (.t 27))⟩,
  ⟨(some 224), none, (.bin .add (.t 223) (.c (.i .i64 1)))⟩,
  ⟨(some 25), none, (.val (.t 224))⟩] t H) := runR_reg'
def d5_35 : List AOper := [
  ⟨(some 225), none, (.bin .add (.t 203) (.c (.i .i64 1)))⟩,
  ⟨(some 203), none, (.val (.t 225))⟩]
theorem r5_35 {fn : AFun} {K : List AItem} {t : Nat → AV} {H : AH} {T : Tbl} : runR T fn (.code (.reg d5_35) :: K) t H = regR T fn K (aops (callR T) [
  ⟨(some 225), none, (.bin .add (.t 203) (.c (.i .i64 1)))⟩,
  ⟨(some 203), none, (.val (.t 225))⟩] t H) := runR_reg'
def l5_36 : ACode := (.seq (.reg d5_30) (.seq (.cond (.t 204) .skip (.exit 3)) (.seq (.block 4 (.seq (.reg d5_31) (.seq (.seq (.reg d5_32) (.cond (.t 222) (.seq (.reg d5_33) .ret) .skip)) (.reg d5_34)))) (.reg d5_35))))
def d5_37 : List AOper := [
  ⟨(some 226), none, (.bin .add (.t 65) (.c (.i .i64 1)))⟩,
  ⟨(some 65), none, (.val (.t 226))⟩]
theorem r5_37 {fn : AFun} {K : List AItem} {t : Nat → AV} {H : AH} {T : Tbl} : runR T fn (.code (.reg d5_37) :: K) t H = regR T fn K (aops (callR T) [
  ⟨(some 226), none, (.bin .add (.t 65) (.c (.i .i64 1)))⟩,
  ⟨(some 65), none, (.val (.t 226))⟩] t H) := runR_reg'
def l5_38 : ACode := (.seq (.reg d5_6) (.seq (.cond (.t 66) .skip (.exit 0)) (.seq (.block 1 (.seq (.reg d5_7) (.seq (.reg d5_8) (.seq (.seq (.reg d5_9) (.block 2 (.seq (.reg d5_10) (.cond (.t 93) (.seq (.reg d5_11) (.seq (.reg d5_12) (.reg d5_13))) (.seq (.reg d5_14) (.cond (.t 116) (.seq (.reg d5_15) (.seq (.reg d5_16) (.reg d5_17))) (.seq (.reg d5_18) (.cond (.t 139) (.drw d5_19) (.seq (.reg d5_20) (.seq (.reg d5_21) (.reg d5_22))))))))))) (.seq (.reg d5_23) (.seq (.seq (.reg d5_24) (.cond (.t 151) (.drw d5_25) .skip)) (.seq (.seq (.drw d5_26) (.cond (.t 199) (.seq (.reg d5_27) .ret) .skip)) (.seq (.reg d5_28) (.seq (.reg d5_29) (.block 3 (.loop l5_36))))))))))) (.reg d5_37))))
def d5_39 : List AOper := [
  ⟨(some 227), none, (.call 15 [])⟩,
  ⟨(some 4), none, (.val (.t 227))⟩]
theorem r5_39 {fn : AFun} {K : List AItem} {t : Nat → AV} {H : AH} {T : Tbl} : runR T fn (.code (.reg d5_39) :: K) t H = regR T fn K (aops (callR T) [
  ⟨(some 227), none, (.call 15 [])⟩,
  ⟨(some 4), none, (.val (.t 227))⟩] t H) := runR_reg'
def a5 : AFun := ⟨228, [(.tmp 4)], (.seq (.reg d5_0) (.seq (.reg d5_1) (.seq (.reg d5_2) (.seq (.seq (.reg d5_3) (.cond (.t 48) (.seq (.reg d5_4) .ret) .skip)) (.seq (.seq (.reg d5_5) (.block 0 (.loop l5_38))) (.seq (.reg d5_39) .ret))))))⟩
theorem a5_ok : cfun Try.prog 5 = some a5 := by kernel_rfl
/-- futtock/futtocklaw08.PermitNobody -/
def d6_0 : List AOper := [
  ⟨(some 2), none, (.val (.c (.b false)))⟩]
theorem r6_0 {fn : AFun} {K : List AItem} {t : Nat → AV} {H : AH} {T : Tbl} : runR T fn (.code (.reg d6_0) :: K) t H = regR T fn K (aops (callR T) [
  ⟨(some 2), none, (.val (.c (.b false)))⟩] t H) := runR_reg'
def d6_1 : List AOper := [
  ⟨(some 11), none, (.build [(.sl none 0 0 true 0)] [])⟩,
  ⟨(some 12), none, (.box (.t 11))⟩,
  ⟨(some 13), none, (.bsl [(.p none)] 2 [(0, 1, (.c (.p none))), (1, 1, (.t 12))])⟩,
  ⟨(some 14), none, (.len (.t 13))⟩,
  ⟨(some 15), none, (.val (.c (.i .i64 0)))⟩]
theorem r6_1 {fn : AFun} {K : List AItem} {t : Nat → AV} {H : AH} {T : Tbl} : runR T fn (.code (.reg d6_1) :: K) t H = regR T fn K (aops (callR T) [
  ⟨(some 11), none, (.build [(.sl none 0 0 true 0)] [])⟩,
  ⟨(some 12), none, (.box (.t 11))⟩,
  ⟨(some 13), none, (.bsl [(.p none)] 2 [(0, 1, (.c (.p none))), (1, 1, (.t 12))])⟩,
  ⟨(some 14), none, (.len (.t 13))⟩,
  ⟨(some 15), none, (.val (.c (.i .i64 0)))⟩] t H) := runR_reg'
def d6_2 : List AOper := [
  ⟨(some 16), none, (.bin .lss (.t 15) (.t 14))⟩]
theorem r6_2 {fn : AFun} {K : List AItem} {t : Nat → AV} {H : AH} {T : Tbl} : runR T fn (.code (.reg d6_2) :: K) t H = regR T fn K (aops (callR T) [
  ⟨(some 16), none, (.bin .lss (.t 15) (.t 14))⟩] t H) := runR_reg'
def d6_3 : List AOper := [
  ⟨(some 17), none, (.ia 1 (.t 13) (.t 15))⟩,
  ⟨(some 18), none, (.ld none (.t 17))⟩,
  ⟨(some 4), none, (.val (.t 18))⟩]
theorem r6_3 {fn : AFun} {K : List AItem} {t : Nat → AV} {H : AH} {T : Tbl} : runR T fn (.code (.reg d6_3) :: K) t H = regR T fn K (aops (callR T) [
  ⟨(some 17), none, (.ia 1 (.t 13) (.t 15))⟩,
  ⟨(some 18), none, (.ld none (.t 17))⟩,
  ⟨(some 4), none, (.val (.t 18))⟩] t H) := runR_reg'
def d6_4 : List AOper := [
  ⟨(some 20), none, (.val (.t 4))⟩,
  ⟨(some 21), none, (.val (.t 0))⟩,
  ⟨(some 22), none, (.call 14 [(.t 20), (.t 21)])⟩,
  ⟨(some 19), none, (.val (.t 22))⟩,
  ⟨(some 23), none, (.ext (.t 19) 0)⟩,
  ⟨(some 24), none, (.ext (.t 19) 1)⟩,
  ⟨(some 5), none, (.val (.t 23))⟩,
  ⟨(some 6), none, (.val (.t 24))⟩]
theorem r6_4 {fn : AFun} {K : List AItem} {t : Nat → AV} {H : AH} {T : Tbl} : runR T fn (.code (.reg d6_4) :: K) t H = regR T fn K (aops (callR T) [
  ⟨(some 20), none, (.val (.t 4))⟩,
  ⟨(some 21), none, (.val (.t 0))⟩,
  ⟨(some 22), none, (.call 14 [(.t 20), (.t 21)])⟩,
  ⟨(some 19), none, (.val (.t 22))⟩,
  ⟨(some 23), none, (.ext (.t 19) 0)⟩,
  ⟨(some 24), none, (.ext (.t 19) 1)⟩,
  ⟨(some 5), none, (.val (.t 23))⟩,
  ⟨(some 6), none, (.val (.t 24))⟩] t H) := runR_reg'
def d6_5 : List AOper := [
  ⟨(some 26), none, (.val (.t 4))⟩,
  ⟨(some 27), none, (.val (.t 0))⟩,
  ⟨(some 28), none, (.call 12 [(.t 26), (.t 27)])⟩,
  ⟨(some 25), none, (.val (.t 28))⟩,
  ⟨(some 29), none, (.ext (.t 25) 0)⟩,
  ⟨(some 30), none, (.ext (.t 25) 1)⟩,
  ⟨(some 7), none, (.val (.t 29))⟩,
  ⟨(some 8), none, (.val (.t 30))⟩]
theorem r6_5 {fn : AFun} {K : List AItem} {t : Nat → AV} {H : AH} {T : Tbl} : runR T fn (.code (.reg d6_5) :: K) t H = regR T fn K (aops (callR T) [
  ⟨(some 26), none, (.val (.t 4))⟩,
  ⟨(some 27), none, (.val (.t 0))⟩,
  ⟨(some 28), none, (.call 12 [(.t 26), (.t 27)])⟩,
  ⟨(some 25), none, (.val (.t 28))⟩,
  ⟨(some 29), none, (.ext (.t 25) 0)⟩,
  ⟨(some 30), none, (.ext (.t 25) 1)⟩,
  ⟨(some 7), none, (.val (.t 29))⟩,
  ⟨(some 8), none, (.val (.t 30))⟩] t H) := runR_reg'
def d6_6 : List AOper := [
  ⟨(some 32), none, (.val (.t 4))⟩,
  ⟨(some 33), none, (.val (.t 0))⟩,
  ⟨(some 34), none, (.call 16 [(.t 32), (.t 33)])⟩,
  ⟨(some 31), none, (.val (.t 34))⟩,
  ⟨(some 35), none, (.ext (.t 31) 0)⟩,
  ⟨(some 36), none, (.ext (.t 31) 1)⟩,
  ⟨(some 9), none, (.val (.t 35))⟩,
  ⟨(some 10), none, (.val (.t 36))⟩]
theorem r6_6 {fn : AFun} {K : List AItem} {t : Nat → AV} {H : AH} {T : Tbl} : runR T fn (.code (.reg d6_6) :: K) t H = regR T fn K (aops (callR T) [
  ⟨(some 32), none, (.val (.t 4))⟩,
  ⟨(some 33), none, (.val (.t 0))⟩,
  ⟨(some 34), none, (.call 16 [(.t 32), (.t 33)])⟩,
  ⟨(some 31), none, (.val (.t 34))⟩,
  ⟨(some 35), none, (.ext (.t 31) 0)⟩,
  ⟨(some 36), none, (.ext (.t 31) 1)⟩,
  ⟨(some 9), none, (.val (.t 35))⟩,
  ⟨(some 10), none, (.val (.t 36))⟩] t H) := runR_reg'
def d6_7 : List AOper := [
  ⟨(some 37), none, (.val (.t 5))⟩,
  ⟨(some 38), none, (.val (.t 37))⟩,
  ⟨(some 39), (some (38, false)), (.val (.t 6))⟩,
  ⟨(some 40), (some (38, false)), (.bin .neq (.t 39) (.c (.i .i64 2)))⟩,
  ⟨(some 41), none, (.pick (.t 38) (.c (.b true)) (.t 40))⟩,
  ⟨(some 42), none, (.val (.t 41))⟩,
  ⟨(some 43), (some (42, false)), (.val (.t 7))⟩,
  ⟨(some 44), none, (.pick (.t 42) (.c (.b true)) (.t 43))⟩,
  ⟨(some 45), none, (.val (.t 44))⟩,
  ⟨(some 46), (some (45, false)), (.val (.t 8))⟩,
  ⟨(some 47), (some (45, false)), (.bin .neq (.t 46) (.c (.i .i64 2)))⟩,
  ⟨(some 48), none, (.pick (.t 45) (.c (.b true)) (.t 47))⟩,
  ⟨(some 49), none, (.val (.t 48))⟩,
  ⟨(some 50), (some (49, false)), (.val (.t 9))⟩,
  ⟨(some 51), none, (.pick (.t 49) (.c (.b true)) (.t 50))⟩,
  ⟨(some 52), none, (.val (.t 51))⟩,
  ⟨(some 53), (some (52, false)), (.val (.t 10))⟩,
  ⟨(some 54), (some (52, false)), (.bin .neq (.t 53) (.c (.i .i64 2)))⟩,
  ⟨(some 55), none, (.pick (.t 52) (.c (.b true)) (.t 54))⟩,
  ⟨(some 56), none, (.val (.t 55))⟩,
  ⟨(some 57), (some (56, false)), (.val (.t 4))⟩,
  ⟨(some 58), (some (56, false)), (.val (.t 0))⟩,
  ⟨(some 59), (some (56, false)), (.call 11 [(.t 57), (.t 58)])⟩,
  ⟨(some 60), none, (.pick (.t 56) (.c (.b true)) (.t 59))⟩,
  ⟨(some 61), none, (.val (.t 60))⟩,
  ⟨(some 62), (some (61, false)), (.val (.t 4))⟩,
  ⟨(some 63), (some (61, false)), (.val (.t 0))⟩,
  ⟨(some 64), (some (61, false)), (.call 9 [(.t 62), (.t 63)])⟩,
  ⟨(some 65), none, (.pick (.t 61) (.c (.b true)) (.t 64))⟩,
  ⟨(some 66), none, (.val (.t 65))⟩,
  ⟨(some 67), (some (66, false)), (.val (.t 4))⟩,
  ⟨(some 68), (some (66, false)), (.val (.t 0))⟩,
  ⟨(some 69), (some (66, false)), (.call 10 [(.t 67), (.t 68)])⟩,
  ⟨(some 70), none, (.pick (.t 66) (.c (.b true)) (.t 69))⟩,
  ⟨(some 71), none, (.val (.t 70))⟩,
  ⟨(some 72), (some (71, false)), (.val (.t 4))⟩,
  ⟨(some 73), (some (71, false)), (.val (.t 0))⟩,
  ⟨(some 74), (some (71, false)), (.call 13 [(.t 72), (.t 73)])⟩,
  ⟨(some 75), none, (.pick (.t 71) (.c (.b true)) (.t 74))⟩,
  ⟨(some 76), none, (.val (.t 75))⟩,
  ⟨(some 77), (some (76, false)), (.val (.t 4))⟩,
  ⟨(some 78), (some (76, false)), (.call 23 [(.t 77)])⟩,
  ⟨(some 79), (some (76, false)), (.len (.t 78))⟩,
  ⟨(some 80), (some (76, false)), (.bin .neq (.t 79) (.c (.i .i64 0)))⟩,
  ⟨(some 81), none, (.pick (.t 76) (.c (.b true)) (.t 80))⟩]
theorem r6_7 {fn : AFun} {K : List AItem} {t : Nat → AV} {H : AH} {T : Tbl} : runR T fn (.code (.reg d6_7) :: K) t H = regR T fn K (aops (callR T) [
  ⟨(some 37), none, (.val (.t 5))⟩,
  ⟨(some 38), none, (.val (.t 37))⟩,
  ⟨(some 39), (some (38, false)), (.val (.t 6))⟩,
  ⟨(some 40), (some (38, false)), (.bin .neq (.t 39) (.c (.i .i64 2)))⟩,
  ⟨(some 41), none, (.pick (.t 38) (.c (.b true)) (.t 40))⟩,
  ⟨(some 42), none, (.val (.t 41))⟩,
  ⟨(some 43), (some (42, false)), (.val (.t 7))⟩,
  ⟨(some 44), none, (.pick (.t 42) (.c (.b true)) (.t 43))⟩,
  ⟨(some 45), none, (.val (.t 44))⟩,
  ⟨(some 46), (some (45, false)), (.val (.t 8))⟩,
  ⟨(some 47), (some (45, false)), (.bin .neq (.t 46) (.c (.i .i64 2)))⟩,
  ⟨(some 48), none, (.pick (.t 45) (.c (.b true)) (.t 47))⟩,
  ⟨(some 49), none, (.val (.t 48))⟩,
  ⟨(some 50), (some (49, false)), (.val (.t 9))⟩,
  ⟨(some 51), none, (.pick (.t 49) (.c (.b true)) (.t 50))⟩,
  ⟨(some 52), none, (.val (.t 51))⟩,
  ⟨(some 53), (some (52, false)), (.val (.t 10))⟩,
  ⟨(some 54), (some (52, false)), (.bin .neq (.t 53) (.c (.i .i64 2)))⟩,
  ⟨(some 55), none, (.pick (.t 52) (.c (.b true)) (.t 54))⟩,
  ⟨(some 56), none, (.val (.t 55))⟩,
  ⟨(some 57), (some (56, false)), (.val (.t 4))⟩,
  ⟨(some 58), (some (56, false)), (.val (.t 0))⟩,
  ⟨(some 59), (some (56, false)), (.call 11 [(.t 57), (.t 58)])⟩,
  ⟨(some 60), none, (.pick (.t 56) (.c (.b true)) (.t 59))⟩,
  ⟨(some 61), none, (.val (.t 60))⟩,
  ⟨(some 62), (some (61, false)), (.val (.t 4))⟩,
  ⟨(some 63), (some (61, false)), (.val (.t 0))⟩,
  ⟨(some 64), (some (61, false)), (.call 9 [(.t 62), (.t 63)])⟩,
  ⟨(some 65), none, (.pick (.t 61) (.c (.b true)) (.t 64))⟩,
  ⟨(some 66), none, (.val (.t 65))⟩,
  ⟨(some 67), (some (66, false)), (.val (.t 4))⟩,
  ⟨(some 68), (some (66, false)), (.val (.t 0))⟩,
  ⟨(some 69), (some (66, false)), (.call 10 [(.t 67), (.t 68)])⟩,
  ⟨(some 70), none, (.pick (.t 66) (.c (.b true)) (.t 69))⟩,
  ⟨(some 71), none, (.val (.t 70))⟩,
  ⟨(some 72), (some (71, false)), (.val (.t 4))⟩,
  ⟨(some 73), (some (71, false)), (.val (.t 0))⟩,
  ⟨(some 74), (some (71, false)), (.call 13 [(.t 72), (.t 73)])⟩,
  ⟨(some 75), none, (.pick (.t 71) (.c (.b true)) (.t 74))⟩,
  ⟨(some 76), none, (.val (.t 75))⟩,
  ⟨(some 77), (some (76, false)), (.val (.t 4))⟩,
  ⟨(some 78), (some (76, false)), (.call 23 [(.t 77)])⟩,
  ⟨(some 79), (some (76, false)), (.len (.t 78))⟩,
  ⟨(some 80), (some (76, false)), (.bin .neq (.t 79) (.c (.i .i64 0)))⟩,
  ⟨(some 81), none, (.pick (.t 76) (.c (.b true)) (.t 80))⟩] t H) := runR_reg'
def d6_8 : List AOper := [
  ⟨(some 2), none, (.val (.c (.b false)))⟩]
theorem r6_8 {fn : AFun} {K : List AItem} {t : Nat → AV} {H : AH} {T : Tbl} : runR T fn (.code (.reg d6_8) :: K) t H = regR T fn K (aops (callR T) [
  ⟨(some 2), none, (.val (.c (.b false)))⟩] t H) := runR_reg'
def d6_9 : List AOper := [
  ⟨(some 82), none, (.bin .add (.t 15) (.c (.i .i64 1)))⟩,
  ⟨(some 15), none, (.val (.t 82))⟩]
theorem r6_9 {fn : AFun} {K : List AItem} {t : Nat → AV} {H : AH} {T : Tbl} : runR T fn (.code (.reg d6_9) :: K) t H = regR T fn K (aops (callR T) [
  ⟨(some 82), none, (.bin .add (.t 15) (.c (.i .i64 1)))⟩,
  ⟨(some 15), none, (.val (.t 82))⟩] t H) := runR_reg'
def l6_10 : ACode := (.seq (.reg d6_2) (.seq (.cond (.t 16) .skip (.exit 0)) (.seq (.block 1 (.seq (.reg d6_3) (.seq (.reg d6_4) (.seq (.reg d6_5) (.seq (.reg d6_6) (.seq (.reg d6_7) (.cond (.t 81) (.seq (.reg d6_8) .ret) .skip))))))) (.reg d6_9))))
def d6_11 : List AOper := [
  ⟨(some 83), none, (.call 15 [])⟩,
  ⟨(some 2), none, (.val (.t 83))⟩]
theorem r6_11 {fn : AFun} {K : List AItem} {t : Nat → AV} {H : AH} {T : Tbl} : runR T fn (.code (.reg d6_11) :: K) t H = regR T fn K (aops (callR T) [
  ⟨(some 83), none, (.call 15 [])⟩,
  ⟨(some 2), none, (.val (.t 83))⟩] t H) := runR_reg'
def a6 : AFun := ⟨84, [(.tmp 2)], (.seq (.reg d6_0) (.seq (.seq (.reg d6_1) (.block 0 (.loop l6_10))) (.seq (.reg d6_11) .ret)))⟩
theorem a6_ok : cfun Try.prog 6 = some a6 := by kernel_rfl
/-- futtock/permit.New -/
def d7_0 : List AOper := [
  ⟨(some 2), none, (.val (.c (.p none)))⟩,
  ⟨(some 3), none, (.val (.c (.i .i64 0)))⟩]
theorem r7_0 {fn : AFun} {K : List AItem} {t : Nat → AV} {H : AH} {T : Tbl} : runR T fn (.code (.reg d7_0) :: K) t H = regR T fn K (aops (callR T) [
  ⟨(some 2), none, (.val (.c (.p none)))⟩,
  ⟨(some 3), none, (.val (.c (.i .i64 0)))⟩] t H) := runR_reg'
def d7_1 : List AOper := [
  ⟨(some 4), none, (.val (.t 0))⟩,
  ⟨(some 5), none, (.bin .lss (.t 4) (.c (.i .i64 1)))⟩,
  ⟨(some 6), none, (.val (.t 5))⟩,
  ⟨(some 7), (some (6, false)), (.val (.t 0))⟩,
  ⟨(some 8), (some (6, false)), (.bin .gtr (.t 7) (.c (.i .i64 256)))⟩,
  ⟨(some 9), none, (.pick (.t 6) (.c (.b true)) (.t 8))⟩]
theorem r7_1 {fn : AFun} {K : List AItem} {t : Nat → AV} {H : AH} {T : Tbl} : runR T fn (.code (.reg d7_1) :: K) t H = regR T fn K (aops (callR T) [
  ⟨(some 4), none, (.val (.t 0))⟩,
  ⟨(some 5), none, (.bin .lss (.t 4) (.c (.i .i64 1)))⟩,
  ⟨(some 6), none, (.val (.t 5))⟩,
  ⟨(some 7), (some (6, false)), (.val (.t 0))⟩,
  ⟨(some 8), (some (6, false)), (.bin .gtr (.t 7) (.c (.i .i64 256)))⟩,
  ⟨(some 9), none, (.pick (.t 6) (.c (.b true)) (.t 8))⟩] t H) := runR_reg'
def d7_2 : List AOper := [
  ⟨(some 2), none, (.val (.c (.p none)))⟩,
  ⟨(some 3), none, (.val (.c (.i .i64 1)))⟩]
theorem r7_2 {fn : AFun} {K : List AItem} {t : Nat → AV} {H : AH} {T : Tbl} : runR T fn (.code (.reg d7_2) :: K) t H = regR T fn K (aops (callR T) [
  ⟨(some 2), none, (.val (.c (.p none)))⟩,
  ⟨(some 3), none, (.val (.c (.i .i64 1)))⟩] t H) := runR_reg'
def d7_3 : List AOper := [
  ⟨(some 10), none, (.val (.t 0))⟩,
  ⟨(some 11), none, (.mks [(.b false), (.b false), (.b false)] 3 (.t 10) (.t 10))⟩,
  ⟨(some 12), none, (.build [(.sl none 0 0 true 0)] [(0, 1, (.t 11))])⟩,
  ⟨(some 13), none, (.box (.t 12))⟩,
  ⟨(some 2), none, (.val (.t 13))⟩,
  ⟨(some 3), none, (.val (.c (.i .i64 0)))⟩]
theorem r7_3 {fn : AFun} {K : List AItem} {t : Nat → AV} {H : AH} {T : Tbl} : runR T fn (.code (.reg d7_3) :: K) t H = regR T fn K (aops (callR T) [
  ⟨(some 10), none, (.val (.t 0))⟩,
  ⟨(some 11), none, (.mks [(.b false), (.b false), (.b false)] 3 (.t 10) (.t 10))⟩,
  ⟨(some 12), none, (.build [(.sl none 0 0 true 0)] [(0, 1, (.t 11))])⟩,
  ⟨(some 13), none, (.box (.t 12))⟩,
  ⟨(some 2), none, (.val (.t 13))⟩,
  ⟨(some 3), none, (.val (.c (.i .i64 0)))⟩] t H) := runR_reg'
def a7 : AFun := ⟨14, [(.tmp 2), (.tmp 3)], (.seq (.reg d7_0) (.seq (.seq (.reg d7_1) (.cond (.t 9) (.seq (.reg d7_2) .ret) .skip)) (.seq (.reg d7_3) .ret)))⟩
theorem a7_ok : cfun Try.prog 7 = some a7 := by kernel_rfl
/-- futtock/futtocklaw08.short -/
def d8_0 : List AOper := [
  ⟨(some 2), none, (.val (.c (.sl none 0 0 true 0)))⟩]
theorem r8_0 {fn : AFun} {K : List AItem} {t : Nat → AV} {H : AH} {T : Tbl} : runR T fn (.code (.reg d8_0) :: K) t H = regR T fn K (aops (callR T) [
  ⟨(some 2), none, (.val (.c (.sl none 0 0 true 0)))⟩] t H) := runR_reg'
def d8_1 : List AOper := [
  ⟨(some 3), none, (.val (.t 0))⟩,
  ⟨(some 4), none, (.val (.t 0))⟩,
  ⟨(some 5), none, (.len (.t 4))⟩,
  ⟨(some 6), none, (.mm false [(.t 5), (.c (.i .i64 300))])⟩,
  ⟨(some 7), none, (.sls 2 (.t 3) none (some (.t 6)) none)⟩,
  ⟨(some 2), none, (.val (.t 7))⟩]
theorem r8_1 {fn : AFun} {K : List AItem} {t : Nat → AV} {H : AH} {T : Tbl} : runR T fn (.code (.reg d8_1) :: K) t H = regR T fn K (aops (callR T) [
  ⟨(some 3), none, (.val (.t 0))⟩,
  ⟨(some 4), none, (.val (.t 0))⟩,
  ⟨(some 5), none, (.len (.t 4))⟩,
  ⟨(some 6), none, (.mm false [(.t 5), (.c (.i .i64 300))])⟩,
  ⟨(some 7), none, (.sls 2 (.t 3) none (some (.t 6)) none)⟩,
  ⟨(some 2), none, (.val (.t 7))⟩] t H) := runR_reg'
def a8 : AFun := ⟨8, [(.tmp 2)], (.seq (.reg d8_0) (.seq (.reg d8_1) .ret))⟩
theorem a8_ok : cfun Try.prog 8 = some a8 := by kernel_rfl
/-- (*futtock/permit.Table).Permit -/
def d9_0 : List AOper := [
  ⟨(some 4), none, (.val (.c (.b false)))⟩]
theorem r9_0 {fn : AFun} {K : List AItem} {t : Nat → AV} {H : AH} {T : Tbl} : runR T fn (.code (.reg d9_0) :: K) t H = regR T fn K (aops (callR T) [
  ⟨(some 4), none, (.val (.c (.b false)))⟩] t H) := runR_reg'
def d9_1 : List AOper := [
  ⟨(some 5), none, (.val (.t 0))⟩,
  ⟨(some 6), none, (.val (.t 1))⟩,
  ⟨(some 7), none, (.call 24 [(.t 5), (.t 6)])⟩,
  ⟨(some 8), none, (.fd none 0 (.t 7))⟩,
  ⟨(some 4), none, (.val (.t 8))⟩]
theorem r9_1 {fn : AFun} {K : List AItem} {t : Nat → AV} {H : AH} {T : Tbl} : runR T fn (.code (.reg d9_1) :: K) t H = regR T fn K (aops (callR T) [
  ⟨(some 5), none, (.val (.t 0))⟩,
  ⟨(some 6), none, (.val (.t 1))⟩,
  ⟨(some 7), none, (.call 24 [(.t 5), (.t 6)])⟩,
  ⟨(some 8), none, (.fd none 0 (.t 7))⟩,
  ⟨(some 4), none, (.val (.t 8))⟩] t H) := runR_reg'
def a9 : AFun := ⟨9, [(.tmp 4)], (.seq (.reg d9_0) (.seq (.reg d9_1) .ret))⟩
theorem a9_ok : cfun Try.prog 9 = some a9 := by kernel_rfl
/-- (*futtock/permit.Table).Flag -/
def d10_0 : List AOper := [
  ⟨(some 4), none, (.val (.c (.b false)))⟩]
theorem r10_0 {fn : AFun} {K : List AItem} {t : Nat → AV} {H : AH} {T : Tbl} : runR T fn (.code (.reg d10_0) :: K) t H = regR T fn K (aops (callR T) [
  ⟨(some 4), none, (.val (.c (.b false)))⟩] t H) := runR_reg'
def d10_1 : List AOper := [
  ⟨(some 5), none, (.val (.t 0))⟩,
  ⟨(some 6), none, (.val (.t 1))⟩,
  ⟨(some 7), none, (.call 24 [(.t 5), (.t 6)])⟩,
  ⟨(some 8), none, (.fd none 1 (.t 7))⟩,
  ⟨(some 4), none, (.val (.t 8))⟩]
theorem r10_1 {fn : AFun} {K : List AItem} {t : Nat → AV} {H : AH} {T : Tbl} : runR T fn (.code (.reg d10_1) :: K) t H = regR T fn K (aops (callR T) [
  ⟨(some 5), none, (.val (.t 0))⟩,
  ⟨(some 6), none, (.val (.t 1))⟩,
  ⟨(some 7), none, (.call 24 [(.t 5), (.t 6)])⟩,
  ⟨(some 8), none, (.fd none 1 (.t 7))⟩,
  ⟨(some 4), none, (.val (.t 8))⟩] t H) := runR_reg'
def a10 : AFun := ⟨9, [(.tmp 4)], (.seq (.reg d10_0) (.seq (.reg d10_1) .ret))⟩
theorem a10_ok : cfun Try.prog 10 = some a10 := by kernel_rfl
/-- (*futtock/permit.Table).Asleep -/
def d11_0 : List AOper := [
  ⟨(some 4), none, (.val (.c (.b false)))⟩]
theorem r11_0 {fn : AFun} {K : List AItem} {t : Nat → AV} {H : AH} {T : Tbl} : runR T fn (.code (.reg d11_0) :: K) t H = regR T fn K (aops (callR T) [
  ⟨(some 4), none, (.val (.c (.b false)))⟩] t H) := runR_reg'
def d11_1 : List AOper := [
  ⟨(some 5), none, (.val (.t 0))⟩,
  ⟨(some 6), none, (.val (.t 1))⟩,
  ⟨(some 7), none, (.call 24 [(.t 5), (.t 6)])⟩,
  ⟨(some 8), none, (.fd none 2 (.t 7))⟩,
  ⟨(some 4), none, (.val (.t 8))⟩]
theorem r11_1 {fn : AFun} {K : List AItem} {t : Nat → AV} {H : AH} {T : Tbl} : runR T fn (.code (.reg d11_1) :: K) t H = regR T fn K (aops (callR T) [
  ⟨(some 5), none, (.val (.t 0))⟩,
  ⟨(some 6), none, (.val (.t 1))⟩,
  ⟨(some 7), none, (.call 24 [(.t 5), (.t 6)])⟩,
  ⟨(some 8), none, (.fd none 2 (.t 7))⟩,
  ⟨(some 4), none, (.val (.t 8))⟩] t H) := runR_reg'
def a11 : AFun := ⟨9, [(.tmp 4)], (.seq (.reg d11_0) (.seq (.reg d11_1) .ret))⟩
theorem a11_ok : cfun Try.prog 11 = some a11 := by kernel_rfl
/-- (*futtock/permit.Table).Unpark -/
def d12_0 : List AOper := [
  ⟨(some 4), none, (.val (.c (.b false)))⟩,
  ⟨(some 5), none, (.val (.c (.i .i64 0)))⟩]
theorem r12_0 {fn : AFun} {K : List AItem} {t : Nat → AV} {H : AH} {T : Tbl} : runR T fn (.code (.reg d12_0) :: K) t H = regR T fn K (aops (callR T) [
  ⟨(some 4), none, (.val (.c (.b false)))⟩,
  ⟨(some 5), none, (.val (.c (.i .i64 0)))⟩] t H) := runR_reg'
def d12_1 : List AOper := [
  ⟨(some 10), none, (.val (.t 0))⟩,
  ⟨(some 11), none, (.val (.t 1))⟩,
  ⟨(some 12), none, (.call 25 [(.t 10), (.t 11)])⟩,
  ⟨(some 9), none, (.val (.t 12))⟩,
  ⟨(some 13), none, (.ext (.t 9) 0)⟩,
  ⟨(some 14), none, (.ext (.t 9) 1)⟩,
  ⟨(some 6), none, (.val (.t 13))⟩,
  ⟨(some 7), none, (.val (.t 14))⟩]
theorem r12_1 {fn : AFun} {K : List AItem} {t : Nat → AV} {H : AH} {T : Tbl} : runR T fn (.code (.reg d12_1) :: K) t H = regR T fn K (aops (callR T) [
  ⟨(some 10), none, (.val (.t 0))⟩,
  ⟨(some 11), none, (.val (.t 1))⟩,
  ⟨(some 12), none, (.call 25 [(.t 10), (.t 11)])⟩,
  ⟨(some 9), none, (.val (.t 12))⟩,
  ⟨(some 13), none, (.ext (.t 9) 0)⟩,
  ⟨(some 14), none, (.ext (.t 9) 1)⟩,
  ⟨(some 6), none, (.val (.t 13))⟩,
  ⟨(some 7), none, (.val (.t 14))⟩] t H) := runR_reg'
def d12_2 : List AOper := [
  ⟨(some 15), none, (.val (.t 7))⟩,
  ⟨(some 16), none, (.bin .neq (.t 15) (.c (.i .i64 0)))⟩]
theorem r12_2 {fn : AFun} {K : List AItem} {t : Nat → AV} {H : AH} {T : Tbl} : runR T fn (.code (.reg d12_2) :: K) t H = regR T fn K (aops (callR T) [
  ⟨(some 15), none, (.val (.t 7))⟩,
  ⟨(some 16), none, (.bin .neq (.t 15) (.c (.i .i64 0)))⟩] t H) := runR_reg'
def d12_3 : List AOper := [
  ⟨(some 17), none, (.val (.t 7))⟩,
  ⟨(some 4), none, (.val (.c (.b false)))⟩,
  ⟨(some 5), none, (.val (.t 17))⟩]
theorem r12_3 {fn : AFun} {K : List AItem} {t : Nat → AV} {H : AH} {T : Tbl} : runR T fn (.code (.reg d12_3) :: K) t H = regR T fn K (aops (callR T) [
  ⟨(some 17), none, (.val (.t 7))⟩,
  ⟨(some 4), none, (.val (.c (.b false)))⟩,
  ⟨(some 5), none, (.val (.t 17))⟩] t H) := runR_reg'
def d12_4 : List AOper := [
  ⟨(some 18), none, (.val (.t 6))⟩,
  ⟨(some 19), none, (.nilc (.t 18))⟩,
  ⟨(some 20), none, (.fa 2 (.t 19))⟩,
  ⟨(some 21), none, (.ld none (.t 20))⟩,
  ⟨(some 8), none, (.val (.t 21))⟩]
theorem r12_4 {fn : AFun} {K : List AItem} {t : Nat → AV} {H : AH} {T : Tbl} : runR T fn (.code (.reg d12_4) :: K) t H = regR T fn K (aops (callR T) [
  ⟨(some 18), none, (.val (.t 6))⟩,
  ⟨(some 19), none, (.nilc (.t 18))⟩,
  ⟨(some 20), none, (.fa 2 (.t 19))⟩,
  ⟨(some 21), none, (.ld none (.t 20))⟩,
  ⟨(some 8), none, (.val (.t 21))⟩] t H) := runR_reg'
def d12_5 : List AOper := [
  ⟨(some 22), none, (.val (.t 6))⟩,
  ⟨(some 23), none, (.nilc (.t 22))⟩,
  ⟨(some 24), none, (.fa 2 (.t 23))⟩,
  ⟨none, none, (.st 1 (.t 24) (.c (.b false)))⟩]
theorem r12_5 {fn : AFun} {K : List AItem} {t : Nat → AV} {H : AH} {T : Tbl} : runR T fn (.code (.reg d12_5) :: K) t H = regR T fn K (aops (callR T) [
  ⟨(some 22), none, (.val (.t 6))⟩,
  ⟨(some 23), none, (.nilc (.t 22))⟩,
  ⟨(some 24), none, (.fa 2 (.t 23))⟩,
  ⟨none, none, (.st 1 (.t 24) (.c (.b false)))⟩] t H) := runR_reg'
def d12_6 : List AOper := [
  ⟨(some 25), none, (.val (.t 6))⟩,
  ⟨(some 26), none, (.val (.t 6))⟩,
  ⟨(some 27), none, (.nilc (.t 26))⟩,
  ⟨(some 28), none, (.fa 0 (.t 27))⟩,
  ⟨(some 29), none, (.ld none (.t 28))⟩,
  ⟨(some 30), none, (.val (.t 29))⟩,
  ⟨(some 31), (some (30, false)), (.val (.t 8))⟩,
  ⟨(some 32), (some (30, false)), (.un .not (.t 31))⟩,
  ⟨(some 33), none, (.pick (.t 30) (.c (.b true)) (.t 32))⟩,
  ⟨(some 34), none, (.nilc (.t 25))⟩,
  ⟨(some 35), none, (.fa 0 (.t 34))⟩,
  ⟨none, none, (.st 1 (.t 35) (.t 33))⟩]
theorem r12_6 {fn : AFun} {K : List AItem} {t : Nat → AV} {H : AH} {T : Tbl} : runR T fn (.code (.reg d12_6) :: K) t H = regR T fn K (aops (callR T) [
  ⟨(some 25), none, (.val (.t 6))⟩,
  ⟨(some 26), none, (.val (.t 6))⟩,
  ⟨(some 27), none, (.nilc (.t 26))⟩,
  ⟨(some 28), none, (.fa 0 (.t 27))⟩,
  ⟨(some 29), none, (.ld none (.t 28))⟩,
  ⟨(some 30), none, (.val (.t 29))⟩,
  ⟨(some 31), (some (30, false)), (.val (.t 8))⟩,
  ⟨(some 32), (some (30, false)), (.un .not (.t 31))⟩,
  ⟨(some 33), none, (.pick (.t 30) (.c (.b true)) (.t 32))⟩,
  ⟨(some 34), none, (.nilc (.t 25))⟩,
  ⟨(some 35), none, (.fa 0 (.t 34))⟩,
  ⟨none, none, (.st 1 (.t 35) (.t 33))⟩] t H) := runR_reg'
def d12_7 : List AOper := [
  ⟨(some 36), none, (.val (.t 8))⟩,
  ⟨(some 4), none, (.val (.t 36))⟩,
  ⟨(some 5), none, (.val (.c (.i .i64 0)))⟩]
theorem r12_7 {fn : AFun} {K : List AItem} {t : Nat → AV} {H : AH} {T : Tbl} : runR T fn (.code (.reg d12_7) :: K) t H = regR T fn K (aops (callR T) [
  ⟨(some 36), none, (.val (.t 8))⟩,
  ⟨(some 4), none, (.val (.t 36))⟩,
  ⟨(some 5), none, (.val (.c (.i .i64 0)))⟩] t H) := runR_reg'
def a12 : AFun := ⟨37, [(.tmp 4), (.tmp 5)], (.seq (.reg d12_0) (.seq (.reg d12_1) (.seq (.seq (.reg d12_2) (.cond (.t 16) (.seq (.reg d12_3) .ret) .skip)) (.seq (.reg d12_4) (.seq (.reg d12_5) (.seq (.reg d12_6) (.seq (.reg d12_7) .ret)))))))⟩
theorem a12_ok : cfun Try.prog 12 = some a12 := by kernel_rfl
/-- (*futtock/permit.Table).Take -/
def d13_0 : List AOper := [
  ⟨(some 4), none, (.val (.c (.b false)))⟩]
theorem r13_0 {fn : AFun} {K : List AItem} {t : Nat → AV} {H : AH} {T : Tbl} : runR T fn (.code (.reg d13_0) :: K) t H = regR T fn K (aops (callR T) [
  ⟨(some 4), none, (.val (.c (.b false)))⟩] t H) := runR_reg'
def d13_1 : List AOper := [
  ⟨(some 9), none, (.val (.t 0))⟩,
  ⟨(some 10), none, (.val (.t 1))⟩,
  ⟨(some 11), none, (.call 25 [(.t 9), (.t 10)])⟩,
  ⟨(some 8), none, (.val (.t 11))⟩,
  ⟨(some 12), none, (.ext (.t 8) 0)⟩,
  ⟨(some 13), none, (.ext (.t 8) 1)⟩,
  ⟨(some 5), none, (.val (.t 12))⟩,
  ⟨(some 6), none, (.val (.t 13))⟩]
theorem r13_1 {fn : AFun} {K : List AItem} {t : Nat → AV} {H : AH} {T : Tbl} : runR T fn (.code (.reg d13_1) :: K) t H = regR T fn K (aops (callR T) [
  ⟨(some 9), none, (.val (.t 0))⟩,
  ⟨(some 10), none, (.val (.t 1))⟩,
  ⟨(some 11), none, (.call 25 [(.t 9), (.t 10)])⟩,
  ⟨(some 8), none, (.val (.t 11))⟩,
  ⟨(some 12), none, (.ext (.t 8) 0)⟩,
  ⟨(some 13), none, (.ext (.t 8) 1)⟩,
  ⟨(some 5), none, (.val (.t 12))⟩,
  ⟨(some 6), none, (.val (.t 13))⟩] t H) := runR_reg'
def d13_2 : List AOper := [
  ⟨(some 14), none, (.val (.t 6))⟩,
  ⟨(some 15), none, (.bin .neq (.t 14) (.c (.i .i64 0)))⟩]
theorem r13_2 {fn : AFun} {K : List AItem} {t : Nat → AV} {H : AH} {T : Tbl} : runR T fn (.code (.reg d13_2) :: K) t H = regR T fn K (aops (callR T) [
  ⟨(some 14), none, (.val (.t 6))⟩,
  ⟨(some 15), none, (.bin .neq (.t 14) (.c (.i .i64 0)))⟩] t H) := runR_reg'
def d13_3 : List AOper := [
  ⟨(some 4), none, (.val (.c (.b false)))⟩]
theorem r13_3 {fn : AFun} {K : List AItem} {t : Nat → AV} {H : AH} {T : Tbl} : runR T fn (.code (.reg d13_3) :: K) t H = regR T fn K (aops (callR T) [
  ⟨(some 4), none, (.val (.c (.b false)))⟩] t H) := runR_reg'
def d13_4 : List AOper := [
  ⟨(some 16), none, (.val (.t 5))⟩,
  ⟨(some 17), none, (.nilc (.t 16))⟩,
  ⟨(some 18), none, (.fa 1 (.t 17))⟩,
  ⟨(some 19), none, (.ld none (.t 18))⟩,
  ⟨(some 7), none, (.val (.t 19))⟩]
theorem r13_4 {fn : AFun} {K : List AItem} {t : Nat → AV} {H : AH} {T : Tbl} : runR T fn (.code (.reg d13_4) :: K) t H = regR T fn K (aops (callR T) [
  ⟨(some 16), none, (.val (.t 5))⟩,
  ⟨(some 17), none, (.nilc (.t 16))⟩,
  ⟨(some 18), none, (.fa 1 (.t 17))⟩,
  ⟨(some 19), none, (.ld none (.t 18))⟩,
  ⟨(some 7), none, (.val (.t 19))⟩] t H) := runR_reg'
def d13_5 : List AOper := [
  ⟨(some 20), none, (.val (.t 5))⟩,
  ⟨(some 21), none, (.nilc (.t 20))⟩,
  ⟨(some 22), none, (.fa 1 (.t 21))⟩,
  ⟨none, none, (.st 1 (.t 22) (.c (.b false)))⟩]
theorem r13_5 {fn : AFun} {K : List AItem} {t : Nat → AV} {H : AH} {T : Tbl} : runR T fn (.code (.reg d13_5) :: K) t H = regR T fn K (aops (callR T) [
  ⟨(some 20), none, (.val (.t 5))⟩,
  ⟨(some 21), none, (.nilc (.t 20))⟩,
  ⟨(some 22), none, (.fa 1 (.t 21))⟩,
  ⟨none, none, (.st 1 (.t 22) (.c (.b false)))⟩] t H) := runR_reg'
def d13_6 : List AOper := [
  ⟨(some 23), none, (.val (.t 7))⟩,
  ⟨(some 4), none, (.val (.t 23))⟩]
theorem r13_6 {fn : AFun} {K : List AItem} {t : Nat → AV} {H : AH} {T : Tbl} : runR T fn (.code (.reg d13_6) :: K) t H = regR T fn K (aops (callR T) [
  ⟨(some 23), none, (.val (.t 7))⟩,
  ⟨(some 4), none, (.val (.t 23))⟩] t H) := runR_reg'
def a13 : AFun := ⟨24, [(.tmp 4)], (.seq (.reg d13_0) (.seq (.reg d13_1) (.seq (.seq (.reg d13_2) (.cond (.t 15) (.seq (.reg d13_3) .ret) .skip)) (.seq (.reg d13_4) (.seq (.reg d13_5) (.seq (.reg d13_6) .ret))))))⟩
theorem a13_ok : cfun Try.prog 13 = some a13 := by kernel_rfl
/-- (*futtock/permit.Table).Park -/
def d14_0 : List AOper := [
  ⟨(some 4), none, (.val (.c (.b false)))⟩,
  ⟨(some 5), none, (.val (.c (.i .i64 0)))⟩]
theorem r14_0 {fn : AFun} {K : List AItem} {t : Nat → AV} {H : AH} {T : Tbl} : runR T fn (.code (.reg d14_0) :: K) t H = regR T fn K (aops (callR T) [
  ⟨(some 4), none, (.val (.c (.b false)))⟩,
  ⟨(some 5), none, (.val (.c (.i .i64 0)))⟩] t H) := runR_reg'
def d14_1 : List AOper := [
  ⟨(some 9), none, (.val (.t 0))⟩,
  ⟨(some 10), none, (.val (.t 1))⟩,
  ⟨(some 11), none, (.call 25 [(.t 9), (.t 10)])⟩,
  ⟨(some 8), none, (.val (.t 11))⟩,
  ⟨(some 12), none, (.ext (.t 8) 0)⟩,
  ⟨(some 13), none, (.ext (.t 8) 1)⟩,
  ⟨(some 6), none, (.val (.t 12))⟩,
  ⟨(some 7), none, (.val (.t 13))⟩]
theorem r14_1 {fn : AFun} {K : List AItem} {t : Nat → AV} {H : AH} {T : Tbl} : runR T fn (.code (.reg d14_1) :: K) t H = regR T fn K (aops (callR T) [
  ⟨(some 9), none, (.val (.t 0))⟩,
  ⟨(some 10), none, (.val (.t 1))⟩,
  ⟨(some 11), none, (.call 25 [(.t 9), (.t 10)])⟩,
  ⟨(some 8), none, (.val (.t 11))⟩,
  ⟨(some 12), none, (.ext (.t 8) 0)⟩,
  ⟨(some 13), none, (.ext (.t 8) 1)⟩,
  ⟨(some 6), none, (.val (.t 12))⟩,
  ⟨(some 7), none, (.val (.t 13))⟩] t H) := runR_reg'
def d14_2 : List AOper := [
  ⟨(some 14), none, (.val (.t 7))⟩,
  ⟨(some 15), none, (.bin .neq (.t 14) (.c (.i .i64 0)))⟩]
theorem r14_2 {fn : AFun} {K : List AItem} {t : Nat → AV} {H : AH} {T : Tbl} : runR T fn (.code (.reg d14_2) :: K) t H = regR T fn K (aops (callR T) [
  ⟨(some 14), none, (.val (.t 7))⟩,
  ⟨(some 15), none, (.bin .neq (.t 14) (.c (.i .i64 0)))⟩] t H) := runR_reg'
def d14_3 : List AOper := [
  ⟨(some 16), none, (.val (.t 7))⟩,
  ⟨(some 4), none, (.val (.c (.b false)))⟩,
  ⟨(some 5), none, (.val (.t 16))⟩]
theorem r14_3 {fn : AFun} {K : List AItem} {t : Nat → AV} {H : AH} {T : Tbl} : runR T fn (.code (.reg d14_3) :: K) t H = regR T fn K (aops (callR T) [
  ⟨(some 16), none, (.val (.t 7))⟩,
  ⟨(some 4), none, (.val (.c (.b false)))⟩,
  ⟨(some 5), none, (.val (.t 16))⟩] t H) := runR_reg'
def d14_4 : List AOper := [
  ⟨(some 17), none, (.val (.t 6))⟩,
  ⟨(some 18), none, (.val (.t 6))⟩,
  ⟨(some 19), none, (.nilc (.t 18))⟩,
  ⟨(some 20), none, (.fa 2 (.t 19))⟩,
  ⟨(some 21), none, (.ld none (.t 20))⟩,
  ⟨(some 22), none, (.val (.t 21))⟩,
  ⟨(some 23), (some (22, false)), (.val (.t 6))⟩,
  ⟨(some 24), (some (22, false)), (.nilc (.t 23))⟩,
  ⟨(some 25), (some (22, false)), (.fa 0 (.t 24))⟩,
  ⟨(some 26), (some (22, false)), (.ld none (.t 25))⟩,
  ⟨(some 27), (some (22, false)), (.un .not (.t 26))⟩,
  ⟨(some 28), none, (.pick (.t 22) (.c (.b true)) (.t 27))⟩,
  ⟨(some 29), none, (.nilc (.t 17))⟩,
  ⟨(some 30), none, (.fa 2 (.t 29))⟩,
  ⟨none, none, (.st 1 (.t 30) (.t 28))⟩]
theorem r14_4 {fn : AFun} {K : List AItem} {t : Nat → AV} {H : AH} {T : Tbl} : runR T fn (.code (.reg d14_4) :: K) t H = regR T fn K (aops (callR T) [
  ⟨(some 17), none, (.val (.t 6))⟩,
  ⟨(some 18), none, (.val (.t 6))⟩,
  ⟨(some 19), none, (.nilc (.t 18))⟩,
  ⟨(some 20), none, (.fa 2 (.t 19))⟩,
  ⟨(some 21), none, (.ld none (.t 20))⟩,
  ⟨(some 22), none, (.val (.t 21))⟩,
  ⟨(some 23), (some (22, false)), (.val (.t 6))⟩,
  ⟨(some 24), (some (22, false)), (.nilc (.t 23))⟩,
  ⟨(some 25), (some (22, false)), (.fa 0 (.t 24))⟩,
  ⟨(some 26), (some (22, false)), (.ld none (.t 25))⟩,
  ⟨(some 27), (some (22, false)), (.un .not (.t 26))⟩,
  ⟨(some 28), none, (.pick (.t 22) (.c (.b true)) (.t 27))⟩,
  ⟨(some 29), none, (.nilc (.t 17))⟩,
  ⟨(some 30), none, (.fa 2 (.t 29))⟩,
  ⟨none, none, (.st 1 (.t 30) (.t 28))⟩] t H) := runR_reg'
def d14_5 : List AOper := [
  ⟨(some 31), none, (.val (.t 6))⟩,
  ⟨(some 32), none, (.nilc (.t 31))⟩,
  ⟨(some 33), none, (.fa 0 (.t 32))⟩,
  ⟨none, none, (.st 1 (.t 33) (.c (.b false)))⟩]
theorem r14_5 {fn : AFun} {K : List AItem} {t : Nat → AV} {H : AH} {T : Tbl} : runR T fn (.code (.reg d14_5) :: K) t H = regR T fn K (aops (callR T) [
  ⟨(some 31), none, (.val (.t 6))⟩,
  ⟨(some 32), none, (.nilc (.t 31))⟩,
  ⟨(some 33), none, (.fa 0 (.t 32))⟩,
  ⟨none, none, (.st 1 (.t 33) (.c (.b false)))⟩] t H) := runR_reg'
def d14_6 : List AOper := [
  ⟨(some 34), none, (.val (.t 6))⟩,
  ⟨(some 35), none, (.nilc (.t 34))⟩,
  ⟨(some 36), none, (.fa 2 (.t 35))⟩,
  ⟨(some 37), none, (.ld none (.t 36))⟩,
  ⟨(some 4), none, (.val (.t 37))⟩,
  ⟨(some 5), none, (.val (.c (.i .i64 0)))⟩]
theorem r14_6 {fn : AFun} {K : List AItem} {t : Nat → AV} {H : AH} {T : Tbl} : runR T fn (.code (.reg d14_6) :: K) t H = regR T fn K (aops (callR T) [
  ⟨(some 34), none, (.val (.t 6))⟩,
  ⟨(some 35), none, (.nilc (.t 34))⟩,
  ⟨(some 36), none, (.fa 2 (.t 35))⟩,
  ⟨(some 37), none, (.ld none (.t 36))⟩,
  ⟨(some 4), none, (.val (.t 37))⟩,
  ⟨(some 5), none, (.val (.c (.i .i64 0)))⟩] t H) := runR_reg'
def a14 : AFun := ⟨38, [(.tmp 4), (.tmp 5)], (.seq (.reg d14_0) (.seq (.reg d14_1) (.seq (.seq (.reg d14_2) (.cond (.t 15) (.seq (.reg d14_3) .ret) .skip)) (.seq (.reg d14_4) (.seq (.reg d14_5) (.seq (.reg d14_6) .ret))))))⟩
theorem a14_ok : cfun Try.prog 14 = some a14 := by kernel_rfl
/-- futtock/futtocklaw08.alive -/
def d15_0 : List AOper := [
  ⟨(some 0), none, (.val (.c (.b false)))⟩]
theorem r15_0 {fn : AFun} {K : List AItem} {t : Nat → AV} {H : AH} {T : Tbl} : runR T fn (.code (.reg d15_0) :: K) t H = regR T fn K (aops (callR T) [
  ⟨(some 0), none, (.val (.c (.b false)))⟩] t H) := runR_reg'
def d15_1 : List AOper := [
  ⟨(some 12), none, (.call 7 [(.c (.i .i64 2))])⟩,
  ⟨(some 11), none, (.val (.t 12))⟩,
  ⟨(some 13), none, (.ext (.t 11) 0)⟩,
  ⟨(some 14), none, (.ext (.t 11) 1)⟩,
  ⟨(some 1), none, (.val (.t 13))⟩,
  ⟨(some 2), none, (.val (.t 14))⟩]
theorem r15_1 {fn : AFun} {K : List AItem} {t : Nat → AV} {H : AH} {T : Tbl} : runR T fn (.code (.reg d15_1) :: K) t H = regR T fn K (aops (callR T) [
  ⟨(some 12), none, (.call 7 [(.c (.i .i64 2))])⟩,
  ⟨(some 11), none, (.val (.t 12))⟩,
  ⟨(some 13), none, (.ext (.t 11) 0)⟩,
  ⟨(some 14), none, (.ext (.t 11) 1)⟩,
  ⟨(some 1), none, (.val (.t 13))⟩,
  ⟨(some 2), none, (.val (.t 14))⟩] t H) := runR_reg'
def d15_2 : List AOper := [
  ⟨(some 15), none, (.val (.t 1))⟩,
  ⟨(some 16), none, (.eqn 0 false (.t 15) (.c (.p none)))⟩,
  ⟨(some 17), none, (.val (.t 16))⟩,
  ⟨(some 18), (some (17, false)), (.val (.t 2))⟩,
  ⟨(some 19), (some (17, false)), (.bin .neq (.t 18) (.c (.i .i64 0)))⟩,
  ⟨(some 20), none, (.pick (.t 17) (.c (.b true)) (.t 19))⟩]
theorem r15_2 {fn : AFun} {K : List AItem} {t : Nat → AV} {H : AH} {T : Tbl} : runR T fn (.code (.reg d15_2) :: K) t H = regR T fn K (aops (callR T) [
  ⟨(some 15), none, (.val (.t 1))⟩,
  ⟨(some 16), none, (.eqn 0 false (.t 15) (.c (.p none)))⟩,
  ⟨(some 17), none, (.val (.t 16))⟩,
  ⟨(some 18), (some (17, false)), (.val (.t 2))⟩,
  ⟨(some 19), (some (17, false)), (.bin .neq (.t 18) (.c (.i .i64 0)))⟩,
  ⟨(some 20), none, (.pick (.t 17) (.c (.b true)) (.t 19))⟩] t H) := runR_reg'
def d15_3 : List AOper := [
  ⟨(some 0), none, (.val (.c (.b false)))⟩]
theorem r15_3 {fn : AFun} {K : List AItem} {t : Nat → AV} {H : AH} {T : Tbl} : runR T fn (.code (.reg d15_3) :: K) t H = regR T fn K (aops (callR T) [
  ⟨(some 0), none, (.val (.c (.b false)))⟩] t H) := runR_reg'
def d15_4 : List AOper := [
  ⟨(some 22), none, (.val (.t 1))⟩,
  ⟨(some 23), none, (.call 12 [(.t 22), (.c (.i .i64 0))])⟩,
  ⟨(some 21), none, (.val (.t 23))⟩,
  ⟨(some 24), none, (.ext (.t 21) 0)⟩,
  ⟨(some 25), none, (.ext (.t 21) 1)⟩,
  ⟨(some 3), none, (.val (.t 24))⟩,
  ⟨(some 4), none, (.val (.t 25))⟩]
theorem r15_4 {fn : AFun} {K : List AItem} {t : Nat → AV} {H : AH} {T : Tbl} : runR T fn (.code (.reg d15_4) :: K) t H = regR T fn K (aops (callR T) [
  ⟨(some 22), none, (.val (.t 1))⟩,
  ⟨(some 23), none, (.call 12 [(.t 22), (.c (.i .i64 0))])⟩,
  ⟨(some 21), none, (.val (.t 23))⟩,
  ⟨(some 24), none, (.ext (.t 21) 0)⟩,
  ⟨(some 25), none, (.ext (.t 21) 1)⟩,
  ⟨(some 3), none, (.val (.t 24))⟩,
  ⟨(some 4), none, (.val (.t 25))⟩] t H) := runR_reg'
def d15_5 : List AOper := [
  ⟨(some 27), none, (.val (.t 1))⟩,
  ⟨(some 28), none, (.call 14 [(.t 27), (.c (.i .i64 0))])⟩,
  ⟨(some 26), none, (.val (.t 28))⟩,
  ⟨(some 29), none, (.ext (.t 26) 0)⟩,
  ⟨(some 30), none, (.ext (.t 26) 1)⟩,
  ⟨(some 5), none, (.val (.t 29))⟩,
  ⟨(some 6), none, (.val (.t 30))⟩]
theorem r15_5 {fn : AFun} {K : List AItem} {t : Nat → AV} {H : AH} {T : Tbl} : runR T fn (.code (.reg d15_5) :: K) t H = regR T fn K (aops (callR T) [
  ⟨(some 27), none, (.val (.t 1))⟩,
  ⟨(some 28), none, (.call 14 [(.t 27), (.c (.i .i64 0))])⟩,
  ⟨(some 26), none, (.val (.t 28))⟩,
  ⟨(some 29), none, (.ext (.t 26) 0)⟩,
  ⟨(some 30), none, (.ext (.t 26) 1)⟩,
  ⟨(some 5), none, (.val (.t 29))⟩,
  ⟨(some 6), none, (.val (.t 30))⟩] t H) := runR_reg'
def d15_6 : List AOper := [
  ⟨(some 32), none, (.val (.t 1))⟩,
  ⟨(some 33), none, (.call 14 [(.t 32), (.c (.i .i64 0))])⟩,
  ⟨(some 31), none, (.val (.t 33))⟩,
  ⟨(some 34), none, (.ext (.t 31) 0)⟩,
  ⟨(some 35), none, (.ext (.t 31) 1)⟩,
  ⟨(some 7), none, (.val (.t 34))⟩,
  ⟨(some 8), none, (.val (.t 35))⟩]
theorem r15_6 {fn : AFun} {K : List AItem} {t : Nat → AV} {H : AH} {T : Tbl} : runR T fn (.code (.reg d15_6) :: K) t H = regR T fn K (aops (callR T) [
  ⟨(some 32), none, (.val (.t 1))⟩,
  ⟨(some 33), none, (.call 14 [(.t 32), (.c (.i .i64 0))])⟩,
  ⟨(some 31), none, (.val (.t 33))⟩,
  ⟨(some 34), none, (.ext (.t 31) 0)⟩,
  ⟨(some 35), none, (.ext (.t 31) 1)⟩,
  ⟨(some 7), none, (.val (.t 34))⟩,
  ⟨(some 8), none, (.val (.t 35))⟩] t H) := runR_reg'
def d15_7 : List AOper := [
  ⟨(some 37), none, (.val (.t 1))⟩,
  ⟨(some 38), none, (.call 12 [(.t 37), (.c (.i .i64 0))])⟩,
  ⟨(some 36), none, (.val (.t 38))⟩,
  ⟨(some 39), none, (.ext (.t 36) 0)⟩,
  ⟨(some 40), none, (.ext (.t 36) 1)⟩,
  ⟨(some 9), none, (.val (.t 39))⟩,
  ⟨(some 10), none, (.val (.t 40))⟩]
theorem r15_7 {fn : AFun} {K : List AItem} {t : Nat → AV} {H : AH} {T : Tbl} : runR T fn (.code (.reg d15_7) :: K) t H = regR T fn K (aops (callR T) [
  ⟨(some 37), none, (.val (.t 1))⟩,
  ⟨(some 38), none, (.call 12 [(.t 37), (.c (.i .i64 0))])⟩,
  ⟨(some 36), none, (.val (.t 38))⟩,
  ⟨(some 39), none, (.ext (.t 36) 0)⟩,
  ⟨(some 40), none, (.ext (.t 36) 1)⟩,
  ⟨(some 9), none, (.val (.t 39))⟩,
  ⟨(some 10), none, (.val (.t 40))⟩] t H) := runR_reg'
def d15_8 : List AOper := [
  ⟨(some 41), none, (.val (.t 3))⟩,
  ⟨(some 42), none, (.un .not (.t 41))⟩,
  ⟨(some 43), none, (.val (.t 42))⟩,
  ⟨(some 44), (some (43, true)), (.val (.t 5))⟩,
  ⟨(some 45), (some (43, true)), (.un .not (.t 44))⟩,
  ⟨(some 46), none, (.pick (.t 43) (.t 45) (.c (.b false)))⟩,
  ⟨(some 47), none, (.val (.t 46))⟩,
  ⟨(some 48), (some (47, true)), (.val (.t 7))⟩,
  ⟨(some 49), none, (.pick (.t 47) (.t 48) (.c (.b false)))⟩,
  ⟨(some 50), none, (.val (.t 49))⟩,
  ⟨(some 51), (some (50, true)), (.val (.t 9))⟩,
  ⟨(some 52), none, (.pick (.t 50) (.t 51) (.c (.b false)))⟩,
  ⟨(some 53), none, (.val (.t 52))⟩,
  ⟨(some 54), (some (53, true)), (.val (.t 1))⟩,
  ⟨(some 55), (some (53, true)), (.call 23 [(.t 54)])⟩,
  ⟨(some 56), (some (53, true)), (.len (.t 55))⟩,
  ⟨(some 57), (some (53, true)), (.bin .eql (.t 56) (.c (.i .i64 0)))⟩,
  ⟨(some 58), none, (.pick (.t 53) (.t 57) (.c (.b false)))⟩,
  ⟨(some 0), none, (.val (.t 58))⟩]
theorem r15_8 {fn : AFun} {K : List AItem} {t : Nat → AV} {H : AH} {T : Tbl} : runR T fn (.code (.reg d15_8) :: K) t H = regR T fn K (aops (callR T) [
  ⟨(some 41), none, (.val (.t 3))⟩,
  ⟨(some 42), none, (.un .not (.t 41))⟩,
  ⟨(some 43), none, (.val (.t 42))⟩,
  ⟨(some 44), (some (43, true)), (.val (.t 5))⟩,
  ⟨(some 45), (some (43, true)), (.un .not (.t 44))⟩,
  ⟨(some 46), none, (.pick (.t 43) (.t 45) (.c (.b false)))⟩,
  ⟨(some 47), none, (.val (.t 46))⟩,
  ⟨(some 48), (some (47, true)), (.val (.t 7))⟩,
  ⟨(some 49), none, (.pick (.t 47) (.t 48) (.c (.b false)))⟩,
  ⟨(some 50), none, (.val (.t 49))⟩,
  ⟨(some 51), (some (50, true)), (.val (.t 9))⟩,
  ⟨(some 52), none, (.pick (.t 50) (.t 51) (.c (.b false)))⟩,
  ⟨(some 53), none, (.val (.t 52))⟩,
  ⟨(some 54), (some (53, true)), (.val (.t 1))⟩,
  ⟨(some 55), (some (53, true)), (.call 23 [(.t 54)])⟩,
  ⟨(some 56), (some (53, true)), (.len (.t 55))⟩,
  ⟨(some 57), (some (53, true)), (.bin .eql (.t 56) (.c (.i .i64 0)))⟩,
  ⟨(some 58), none, (.pick (.t 53) (.t 57) (.c (.b false)))⟩,
  ⟨(some 0), none, (.val (.t 58))⟩] t H) := runR_reg'
def a15 : AFun := ⟨59, [(.tmp 0)], (.seq (.reg d15_0) (.seq (.reg d15_1) (.seq (.seq (.reg d15_2) (.cond (.t 20) (.seq (.reg d15_3) .ret) .skip)) (.seq (.reg d15_4) (.seq (.reg d15_5) (.seq (.reg d15_6) (.seq (.reg d15_7) (.seq (.reg d15_8) .ret))))))))⟩
theorem a15_ok : cfun Try.prog 15 = some a15 := by kernel_rfl
/-- (*futtock/permit.Table).Interrupt -/
def d16_0 : List AOper := [
  ⟨(some 4), none, (.val (.c (.b false)))⟩,
  ⟨(some 5), none, (.val (.c (.i .i64 0)))⟩]
theorem r16_0 {fn : AFun} {K : List AItem} {t : Nat → AV} {H : AH} {T : Tbl} : runR T fn (.code (.reg d16_0) :: K) t H = regR T fn K (aops (callR T) [
  ⟨(some 4), none, (.val (.c (.b false)))⟩,
  ⟨(some 5), none, (.val (.c (.i .i64 0)))⟩] t H) := runR_reg'
def d16_1 : List AOper := [
  ⟨(some 9), none, (.val (.t 0))⟩,
  ⟨(some 10), none, (.val (.t 1))⟩,
  ⟨(some 11), none, (.call 25 [(.t 9), (.t 10)])⟩,
  ⟨(some 8), none, (.val (.t 11))⟩,
  ⟨(some 12), none, (.ext (.t 8) 0)⟩,
  ⟨(some 13), none, (.ext (.t 8) 1)⟩,
  ⟨(some 6), none, (.val (.t 12))⟩,
  ⟨(some 7), none, (.val (.t 13))⟩]
theorem r16_1 {fn : AFun} {K : List AItem} {t : Nat → AV} {H : AH} {T : Tbl} : runR T fn (.code (.reg d16_1) :: K) t H = regR T fn K (aops (callR T) [
  ⟨(some 9), none, (.val (.t 0))⟩,
  ⟨(some 10), none, (.val (.t 1))⟩,
  ⟨(some 11), none, (.call 25 [(.t 9), (.t 10)])⟩,
  ⟨(some 8), none, (.val (.t 11))⟩,
  ⟨(some 12), none, (.ext (.t 8) 0)⟩,
  ⟨(some 13), none, (.ext (.t 8) 1)⟩,
  ⟨(some 6), none, (.val (.t 12))⟩,
  ⟨(some 7), none, (.val (.t 13))⟩] t H) := runR_reg'
def d16_2 : List AOper := [
  ⟨(some 14), none, (.val (.t 7))⟩,
  ⟨(some 15), none, (.bin .neq (.t 14) (.c (.i .i64 0)))⟩]
theorem r16_2 {fn : AFun} {K : List AItem} {t : Nat → AV} {H : AH} {T : Tbl} : runR T fn (.code (.reg d16_2) :: K) t H = regR T fn K (aops (callR T) [
  ⟨(some 14), none, (.val (.t 7))⟩,
  ⟨(some 15), none, (.bin .neq (.t 14) (.c (.i .i64 0)))⟩] t H) := runR_reg'
def d16_3 : List AOper := [
  ⟨(some 16), none, (.val (.t 7))⟩,
  ⟨(some 4), none, (.val (.c (.b false)))⟩,
  ⟨(some 5), none, (.val (.t 16))⟩]
theorem r16_3 {fn : AFun} {K : List AItem} {t : Nat → AV} {H : AH} {T : Tbl} : runR T fn (.code (.reg d16_3) :: K) t H = regR T fn K (aops (callR T) [
  ⟨(some 16), none, (.val (.t 7))⟩,
  ⟨(some 4), none, (.val (.c (.b false)))⟩,
  ⟨(some 5), none, (.val (.t 16))⟩] t H) := runR_reg'
def d16_4 : List AOper := [
  ⟨(some 17), none, (.val (.t 6))⟩,
  ⟨(some 18), none, (.nilc (.t 17))⟩,
  ⟨(some 19), none, (.fa 1 (.t 18))⟩,
  ⟨none, none, (.st 1 (.t 19) (.c (.b true)))⟩]
theorem r16_4 {fn : AFun} {K : List AItem} {t : Nat → AV} {H : AH} {T : Tbl} : runR T fn (.code (.reg d16_4) :: K) t H = regR T fn K (aops (callR T) [
  ⟨(some 17), none, (.val (.t 6))⟩,
  ⟨(some 18), none, (.nilc (.t 17))⟩,
  ⟨(some 19), none, (.fa 1 (.t 18))⟩,
  ⟨none, none, (.st 1 (.t 19) (.c (.b true)))⟩] t H) := runR_reg'
def d16_5 : List AOper := [
  ⟨(some 20), none, (.val (.t 0))⟩,
  ⟨(some 21), none, (.val (.t 1))⟩,
  ⟨(some 22), none, (.call 12 [(.t 20), (.t 21)])⟩,
  ⟨(some 23), none, (.ext (.t 22) 0)⟩,
  ⟨(some 24), none, (.ext (.t 22) 1)⟩,
  ⟨(some 4), none, (.val (.t 23))⟩,
  ⟨(some 5), none, (.val (.t 24))⟩]
theorem r16_5 {fn : AFun} {K : List AItem} {t : Nat → AV} {H : AH} {T : Tbl} : runR T fn (.code (.reg d16_5) :: K) t H = regR T fn K (aops (callR T) [
  ⟨(some 20), none, (.val (.t 0))⟩,
  ⟨(some 21), none, (.val (.t 1))⟩,
  ⟨(some 22), none, (.call 12 [(.t 20), (.t 21)])⟩,
  ⟨(some 23), none, (.ext (.t 22) 0)⟩,
  ⟨(some 24), none, (.ext (.t 22) 1)⟩,
  ⟨(some 4), none, (.val (.t 23))⟩,
  ⟨(some 5), none, (.val (.t 24))⟩] t H) := runR_reg'
def a16 : AFun := ⟨25, [(.tmp 4), (.tmp 5)], (.seq (.reg d16_0) (.seq (.reg d16_1) (.seq (.seq (.reg d16_2) (.cond (.t 15) (.seq (.reg d16_3) .ret) .skip)) (.seq (.reg d16_4) (.seq (.reg d16_5) .ret)))))⟩
theorem a16_ok : cfun Try.prog 16 = some a16 := by kernel_rfl
/-- futtock/futtockref08.New -/
def d17_0 : List AOper := [
  ⟨(some 2), none, (.alloc [(.sl none 0 0 true 0), (.sl none 0 0 true 0), (.sl none 0 0 true 0)])⟩,
  ⟨(some 3), none, (.val (.c (.i .i64 0)))⟩]
theorem r17_0 {fn : AFun} {K : List AItem} {t : Nat → AV} {H : AH} {T : Tbl} : runR T fn (.code (.reg d17_0) :: K) t H = regR T fn K (aops (callR T) [
  ⟨(some 2), none, (.alloc [(.sl none 0 0 true 0), (.sl none 0 0 true 0), (.sl none 0 0 true 0)])⟩,
  ⟨(some 3), none, (.val (.c (.i .i64 0)))⟩] t H) := runR_reg'
def d17_1 : List AOper := [
  ⟨(some 4), none, (.val (.t 0))⟩,
  ⟨(some 5), none, (.bin .lss (.t 4) (.c (.i .i64 1)))⟩,
  ⟨(some 6), none, (.val (.t 5))⟩,
  ⟨(some 7), (some (6, false)), (.val (.t 0))⟩,
  ⟨(some 8), (some (6, false)), (.bin .gtr (.t 7) (.c (.i .i64 256)))⟩,
  ⟨(some 9), none, (.pick (.t 6) (.c (.b true)) (.t 8))⟩]
theorem r17_1 {fn : AFun} {K : List AItem} {t : Nat → AV} {H : AH} {T : Tbl} : runR T fn (.code (.reg d17_1) :: K) t H = regR T fn K (aops (callR T) [
  ⟨(some 4), none, (.val (.t 0))⟩,
  ⟨(some 5), none, (.bin .lss (.t 4) (.c (.i .i64 1)))⟩,
  ⟨(some 6), none, (.val (.t 5))⟩,
  ⟨(some 7), (some (6, false)), (.val (.t 0))⟩,
  ⟨(some 8), (some (6, false)), (.bin .gtr (.t 7) (.c (.i .i64 256)))⟩,
  ⟨(some 9), none, (.pick (.t 6) (.c (.b true)) (.t 8))⟩] t H) := runR_reg'
def d17_2 : List AOper := [
  ⟨(some 10), none, (.build [(.sl none 0 0 true 0), (.sl none 0 0 true 0), (.sl none 0 0 true 0)] [])⟩,
  ⟨none, none, (.st 3 (.t 2) (.t 10))⟩,
  ⟨(some 3), none, (.val (.c (.i .i64 1)))⟩]
theorem r17_2 {fn : AFun} {K : List AItem} {t : Nat → AV} {H : AH} {T : Tbl} : runR T fn (.code (.reg d17_2) :: K) t H = regR T fn K (aops (callR T) [
  ⟨(some 10), none, (.build [(.sl none 0 0 true 0), (.sl none 0 0 true 0), (.sl none 0 0 true 0)] [])⟩,
  ⟨none, none, (.st 3 (.t 2) (.t 10))⟩,
  ⟨(some 3), none, (.val (.c (.i .i64 1)))⟩] t H) := runR_reg'
def d17_3 : List (AOper × List Nat) := [
  (⟨(some 11), none, (.val (.t 0))⟩, []),
  (⟨(some 12), none, (.mks [(.b false)] 1 (.t 11) (.t 11))⟩, []),
  (⟨(some 13), none, (.val (.t 0))⟩, []),
  (⟨(some 14), none, (.mks [(.b false)] 1 (.t 13) (.t 13))⟩, []),
  (⟨(some 15), none, (.val (.t 0))⟩, []),
  (⟨(some 16), none, (.mks [(.b false)] 1 (.t 15) (.t 15))⟩, []),
  (⟨(some 17), none, (.build [(.sl none 0 0 true 0), (.sl none 0 0 true 0), (.sl none 0 0 true 0)] [(0, 1, (.t 12)), (1, 1, (.t 14)), (2, 1, (.t 16))])⟩, []),
  (⟨none, none, (.st 3 (.t 2) (.t 17))⟩, []),
  (⟨(some 3), none, (.val (.c (.i .i64 0)))⟩, [])]
theorem r17_3 {fn : AFun} {K : List AItem} {t : Nat → AV} {H : AH} {T : Tbl} : runR T fn (.code (.drw d17_3) :: K) t H = regR T fn K (aops (callR T) [
  ⟨(some 11), none, (.val (.t 0))⟩,
  ⟨(some 12), none, (.mks [(.b false)] 1 (.t 11) (.t 11))⟩,
  ⟨(some 13), none, (.val (.t 0))⟩,
  ⟨(some 14), none, (.mks [(.b false)] 1 (.t 13) (.t 13))⟩,
  ⟨(some 15), none, (.val (.t 0))⟩,
  ⟨(some 16), none, (.mks [(.b false)] 1 (.t 15) (.t 15))⟩,
  ⟨(some 17), none, (.build [(.sl none 0 0 true 0), (.sl none 0 0 true 0), (.sl none 0 0 true 0)] [(0, 1, (.t 12)), (1, 1, (.t 14)), (2, 1, (.t 16))])⟩,
  ⟨none, none, (.st 3 (.t 2) (.t 17))⟩,
  ⟨(some 3), none, (.val (.c (.i .i64 0)))⟩] t H) := runR_plain rfl
def a17 : AFun := ⟨18, [(.cell 2 (some 3)), (.tmp 3)], (.seq (.reg d17_0) (.seq (.seq (.reg d17_1) (.cond (.t 9) (.seq (.reg d17_2) .ret) .skip)) (.seq (.drw d17_3) .ret)))⟩
theorem a17_ok : cfun Try.prog 17 = some a17 := by kernel_rfl
/-- (*futtock/futtockref08.Table).Unpark -/
def d18_0 : List AOper := [
  ⟨(some 4), none, (.val (.c (.b false)))⟩,
  ⟨(some 5), none, (.val (.c (.i .i64 0)))⟩]
theorem r18_0 {fn : AFun} {K : List AItem} {t : Nat → AV} {H : AH} {T : Tbl} : runR T fn (.code (.reg d18_0) :: K) t H = regR T fn K (aops (callR T) [
  ⟨(some 4), none, (.val (.c (.b false)))⟩,
  ⟨(some 5), none, (.val (.c (.i .i64 0)))⟩] t H) := runR_reg'
def d18_1 : List AOper := [
  ⟨(some 6), none, (.val (.t 0))⟩,
  ⟨(some 7), none, (.val (.t 1))⟩,
  ⟨(some 8), none, (.call 22 [(.t 6), (.t 7)])⟩,
  ⟨(some 9), none, (.un .not (.t 8))⟩]
theorem r18_1 {fn : AFun} {K : List AItem} {t : Nat → AV} {H : AH} {T : Tbl} : runR T fn (.code (.reg d18_1) :: K) t H = regR T fn K (aops (callR T) [
  ⟨(some 6), none, (.val (.t 0))⟩,
  ⟨(some 7), none, (.val (.t 1))⟩,
  ⟨(some 8), none, (.call 22 [(.t 6), (.t 7)])⟩,
  ⟨(some 9), none, (.un .not (.t 8))⟩] t H) := runR_reg'
def d18_2 : List AOper := [
  ⟨(some 4), none, (.val (.c (.b false)))⟩,
  ⟨(some 5), none, (.val (.c (.i .i64 1)))⟩]
theorem r18_2 {fn : AFun} {K : List AItem} {t : Nat → AV} {H : AH} {T : Tbl} : runR T fn (.code (.reg d18_2) :: K) t H = regR T fn K (aops (callR T) [
  ⟨(some 4), none, (.val (.c (.b false)))⟩,
  ⟨(some 5), none, (.val (.c (.i .i64 1)))⟩] t H) := runR_reg'
def d18_3 : List AOper := [
  ⟨(some 10), none, (.val (.t 0))⟩,
  ⟨(some 11), none, (.nilc (.t 10))⟩,
  ⟨(some 12), none, (.fa 2 (.t 11))⟩,
  ⟨(some 13), none, (.ld none (.t 12))⟩,
  ⟨(some 14), none, (.val (.t 1))⟩,
  ⟨(some 15), none, (.ia 1 (.t 13) (.t 14))⟩,
  ⟨(some 16), none, (.ld none (.t 15))⟩]
theorem r18_3 {fn : AFun} {K : List AItem} {t : Nat → AV} {H : AH} {T : Tbl} : runR T fn (.code (.reg d18_3) :: K) t H = regR T fn K (aops (callR T) [
  ⟨(some 10), none, (.val (.t 0))⟩,
  ⟨(some 11), none, (.nilc (.t 10))⟩,
  ⟨(some 12), none, (.fa 2 (.t 11))⟩,
  ⟨(some 13), none, (.ld none (.t 12))⟩,
  ⟨(some 14), none, (.val (.t 1))⟩,
  ⟨(some 15), none, (.ia 1 (.t 13) (.t 14))⟩,
  ⟨(some 16), none, (.ld none (.t 15))⟩] t H) := runR_reg'
def d18_4 : List AOper := [
  ⟨(some 17), none, (.val (.t 0))⟩,
  ⟨(some 18), none, (.nilc (.t 17))⟩,
  ⟨(some 19), none, (.fa 2 (.t 18))⟩,
  ⟨(some 20), none, (.ld none (.t 19))⟩,
  ⟨(some 21), none, (.val (.t 1))⟩,
  ⟨(some 22), none, (.ia 1 (.t 20) (.t 21))⟩,
  ⟨none, none, (.st 1 (.t 22) (.c (.b false)))⟩]
theorem r18_4 {fn : AFun} {K : List AItem} {t : Nat → AV} {H : AH} {T : Tbl} : runR T fn (.code (.reg d18_4) :: K) t H = regR T fn K (aops (callR T) [
  ⟨(some 17), none, (.val (.t 0))⟩,
  ⟨(some 18), none, (.nilc (.t 17))⟩,
  ⟨(some 19), none, (.fa 2 (.t 18))⟩,
  ⟨(some 20), none, (.ld none (.t 19))⟩,
  ⟨(some 21), none, (.val (.t 1))⟩,
  ⟨(some 22), none, (.ia 1 (.t 20) (.t 21))⟩,
  ⟨none, none, (.st 1 (.t 22) (.c (.b false)))⟩] t H) := runR_reg'
def d18_5 : List AOper := [
  ⟨(some 4), none, (.val (.c (.b true)))⟩,
  ⟨(some 5), none, (.val (.c (.i .i64 0)))⟩]
theorem r18_5 {fn : AFun} {K : List AItem} {t : Nat → AV} {H : AH} {T : Tbl} : runR T fn (.code (.reg d18_5) :: K) t H = regR T fn K (aops (callR T) [
  ⟨(some 4), none, (.val (.c (.b true)))⟩,
  ⟨(some 5), none, (.val (.c (.i .i64 0)))⟩] t H) := runR_reg'
def d18_6 : List AOper := [
  ⟨(some 23), none, (.val (.t 0))⟩,
  ⟨(some 24), none, (.nilc (.t 23))⟩,
  ⟨(some 25), none, (.fa 0 (.t 24))⟩,
  ⟨(some 26), none, (.ld none (.t 25))⟩,
  ⟨(some 27), none, (.val (.t 1))⟩,
  ⟨(some 28), none, (.ia 1 (.t 26) (.t 27))⟩,
  ⟨none, none, (.st 1 (.t 28) (.c (.b true)))⟩]
theorem r18_6 {fn : AFun} {K : List AItem} {t : Nat → AV} {H : AH} {T : Tbl} : runR T fn (.code (.reg d18_6) :: K) t H = regR T fn K (aops (callR T) [
  ⟨(some 23), none, (.val (.t 0))⟩,
  ⟨(some 24), none, (.nilc (.t 23))⟩,
  ⟨(some 25), none, (.fa 0 (.t 24))⟩,
  ⟨(some 26), none, (.ld none (.t 25))⟩,
  ⟨(some 27), none, (.val (.t 1))⟩,
  ⟨(some 28), none, (.ia 1 (.t 26) (.t 27))⟩,
  ⟨none, none, (.st 1 (.t 28) (.c (.b true)))⟩] t H) := runR_reg'
def d18_7 : List AOper := [
  ⟨(some 4), none, (.val (.c (.b false)))⟩,
  ⟨(some 5), none, (.val (.c (.i .i64 0)))⟩]
theorem r18_7 {fn : AFun} {K : List AItem} {t : Nat → AV} {H : AH} {T : Tbl} : runR T fn (.code (.reg d18_7) :: K) t H = regR T fn K (aops (callR T) [
  ⟨(some 4), none, (.val (.c (.b false)))⟩,
  ⟨(some 5), none, (.val (.c (.i .i64 0)))⟩] t H) := runR_reg'
def a18 : AFun := ⟨29, [(.tmp 4), (.tmp 5)], (.seq (.reg d18_0) (.seq (.seq (.reg d18_1) (.cond (.t 9) (.seq (.reg d18_2) .ret) .skip)) (.seq (.seq (.reg d18_3) (.cond (.t 16) (.seq (.reg d18_4) (.seq (.reg d18_5) .ret)) .skip)) (.seq (.reg d18_6) (.seq (.reg d18_7) .ret)))))⟩
theorem a18_ok : cfun Try.prog 18 = some a18 := by kernel_rfl
/-- (*futtock/futtockref08.Table).Interrupt -/
def d19_0 : List AOper := [
  ⟨(some 4), none, (.val (.c (.b false)))⟩,
  ⟨(some 5), none, (.val (.c (.i .i64 0)))⟩]
theorem r19_0 {fn : AFun} {K : List AItem} {t : Nat → AV} {H : AH} {T : Tbl} : runR T fn (.code (.reg d19_0) :: K) t H = regR T fn K (aops (callR T) [
  ⟨(some 4), none, (.val (.c (.b false)))⟩,
  ⟨(some 5), none, (.val (.c (.i .i64 0)))⟩] t H) := runR_reg'
def d19_1 : List AOper := [
  ⟨(some 6), none, (.val (.t 0))⟩,
  ⟨(some 7), none, (.val (.t 1))⟩,
  ⟨(some 8), none, (.call 22 [(.t 6), (.t 7)])⟩,
  ⟨(some 9), none, (.un .not (.t 8))⟩]
theorem r19_1 {fn : AFun} {K : List AItem} {t : Nat → AV} {H : AH} {T : Tbl} : runR T fn (.code (.reg d19_1) :: K) t H = regR T fn K (aops (callR T) [
  ⟨(some 6), none, (.val (.t 0))⟩,
  ⟨(some 7), none, (.val (.t 1))⟩,
  ⟨(some 8), none, (.call 22 [(.t 6), (.t 7)])⟩,
  ⟨(some 9), none, (.un .not (.t 8))⟩] t H) := runR_reg'
def d19_2 : List AOper := [
  ⟨(some 4), none, (.val (.c (.b false)))⟩,
  ⟨(some 5), none, (.val (.c (.i .i64 1)))⟩]
theorem r19_2 {fn : AFun} {K : List AItem} {t : Nat → AV} {H : AH} {T : Tbl} : runR T fn (.code (.reg d19_2) :: K) t H = regR T fn K (aops (callR T) [
  ⟨(some 4), none, (.val (.c (.b false)))⟩,
  ⟨(some 5), none, (.val (.c (.i .i64 1)))⟩] t H) := runR_reg'
def d19_3 : List AOper := [
  ⟨(some 10), none, (.val (.t 0))⟩,
  ⟨(some 11), none, (.nilc (.t 10))⟩,
  ⟨(some 12), none, (.fa 1 (.t 11))⟩,
  ⟨(some 13), none, (.ld none (.t 12))⟩,
  ⟨(some 14), none, (.val (.t 1))⟩,
  ⟨(some 15), none, (.ia 1 (.t 13) (.t 14))⟩,
  ⟨none, none, (.st 1 (.t 15) (.c (.b true)))⟩]
theorem r19_3 {fn : AFun} {K : List AItem} {t : Nat → AV} {H : AH} {T : Tbl} : runR T fn (.code (.reg d19_3) :: K) t H = regR T fn K (aops (callR T) [
  ⟨(some 10), none, (.val (.t 0))⟩,
  ⟨(some 11), none, (.nilc (.t 10))⟩,
  ⟨(some 12), none, (.fa 1 (.t 11))⟩,
  ⟨(some 13), none, (.ld none (.t 12))⟩,
  ⟨(some 14), none, (.val (.t 1))⟩,
  ⟨(some 15), none, (.ia 1 (.t 13) (.t 14))⟩,
  ⟨none, none, (.st 1 (.t 15) (.c (.b true)))⟩] t H) := runR_reg'
def d19_4 : List AOper := [
  ⟨(some 16), none, (.val (.t 0))⟩,
  ⟨(some 17), none, (.val (.t 1))⟩,
  ⟨(some 18), none, (.call 18 [(.t 16), (.t 17)])⟩,
  ⟨(some 19), none, (.ext (.t 18) 0)⟩,
  ⟨(some 20), none, (.ext (.t 18) 1)⟩,
  ⟨(some 4), none, (.val (.t 19))⟩,
  ⟨(some 5), none, (.val (.t 20))⟩]
theorem r19_4 {fn : AFun} {K : List AItem} {t : Nat → AV} {H : AH} {T : Tbl} : runR T fn (.code (.reg d19_4) :: K) t H = regR T fn K (aops (callR T) [
  ⟨(some 16), none, (.val (.t 0))⟩,
  ⟨(some 17), none, (.val (.t 1))⟩,
  ⟨(some 18), none, (.call 18 [(.t 16), (.t 17)])⟩,
  ⟨(some 19), none, (.ext (.t 18) 0)⟩,
  ⟨(some 20), none, (.ext (.t 18) 1)⟩,
  ⟨(some 4), none, (.val (.t 19))⟩,
  ⟨(some 5), none, (.val (.t 20))⟩] t H) := runR_reg'
def a19 : AFun := ⟨21, [(.tmp 4), (.tmp 5)], (.seq (.reg d19_0) (.seq (.seq (.reg d19_1) (.cond (.t 9) (.seq (.reg d19_2) .ret) .skip)) (.seq (.reg d19_3) (.seq (.reg d19_4) .ret))))⟩
theorem a19_ok : cfun Try.prog 19 = some a19 := by kernel_rfl
/-- (*futtock/futtockref08.Table).Take -/
def d20_0 : List AOper := [
  ⟨(some 4), none, (.val (.c (.b false)))⟩]
theorem r20_0 {fn : AFun} {K : List AItem} {t : Nat → AV} {H : AH} {T : Tbl} : runR T fn (.code (.reg d20_0) :: K) t H = regR T fn K (aops (callR T) [
  ⟨(some 4), none, (.val (.c (.b false)))⟩] t H) := runR_reg'
def d20_1 : List AOper := [
  ⟨(some 5), none, (.val (.t 0))⟩,
  ⟨(some 6), none, (.val (.t 1))⟩,
  ⟨(some 7), none, (.call 22 [(.t 5), (.t 6)])⟩,
  ⟨(some 8), none, (.un .not (.t 7))⟩,
  ⟨(some 9), none, (.val (.t 8))⟩,
  ⟨(some 10), (some (9, false)), (.val (.t 0))⟩,
  ⟨(some 11), (some (9, false)), (.nilc (.t 10))⟩,
  ⟨(some 12), (some (9, false)), (.fa 1 (.t 11))⟩,
  ⟨(some 13), (some (9, false)), (.ld none (.t 12))⟩,
  ⟨(some 14), (some (9, false)), (.val (.t 1))⟩,
  ⟨(some 15), (some (9, false)), (.ia 1 (.t 13) (.t 14))⟩,
  ⟨(some 16), (some (9, false)), (.ld none (.t 15))⟩,
  ⟨(some 17), (some (9, false)), (.un .not (.t 16))⟩,
  ⟨(some 18), none, (.pick (.t 9) (.c (.b true)) (.t 17))⟩]
theorem r20_1 {fn : AFun} {K : List AItem} {t : Nat → AV} {H : AH} {T : Tbl} : runR T fn (.code (.reg d20_1) :: K) t H = regR T fn K (aops (callR T) [
  ⟨(some 5), none, (.val (.t 0))⟩,
  ⟨(some 6), none, (.val (.t 1))⟩,
  ⟨(some 7), none, (.call 22 [(.t 5), (.t 6)])⟩,
  ⟨(some 8), none, (.un .not (.t 7))⟩,
  ⟨(some 9), none, (.val (.t 8))⟩,
  ⟨(some 10), (some (9, false)), (.val (.t 0))⟩,
  ⟨(some 11), (some (9, false)), (.nilc (.t 10))⟩,
  ⟨(some 12), (some (9, false)), (.fa 1 (.t 11))⟩,
  ⟨(some 13), (some (9, false)), (.ld none (.t 12))⟩,
  ⟨(some 14), (some (9, false)), (.val (.t 1))⟩,
  ⟨(some 15), (some (9, false)), (.ia 1 (.t 13) (.t 14))⟩,
  ⟨(some 16), (some (9, false)), (.ld none (.t 15))⟩,
  ⟨(some 17), (some (9, false)), (.un .not (.t 16))⟩,
  ⟨(some 18), none, (.pick (.t 9) (.c (.b true)) (.t 17))⟩] t H) := runR_reg'
def d20_2 : List AOper := [
  ⟨(some 4), none, (.val (.c (.b false)))⟩]
theorem r20_2 {fn : AFun} {K : List AItem} {t : Nat → AV} {H : AH} {T : Tbl} : runR T fn (.code (.reg d20_2) :: K) t H = regR T fn K (aops (callR T) [
  ⟨(some 4), none, (.val (.c (.b false)))⟩] t H) := runR_reg'
def d20_3 : List AOper := [
  ⟨(some 19), none, (.val (.t 0))⟩,
  ⟨(some 20), none, (.nilc (.t 19))⟩,
  ⟨(some 21), none, (.fa 1 (.t 20))⟩,
  ⟨(some 22), none, (.ld none (.t 21))⟩,
  ⟨(some 23), none, (.val (.t 1))⟩,
  ⟨(some 24), none, (.ia 1 (.t 22) (.t 23))⟩,
  ⟨none, none, (.st 1 (.t 24) (.c (.b false)))⟩]
theorem r20_3 {fn : AFun} {K : List AItem} {t : Nat → AV} {H : AH} {T : Tbl} : runR T fn (.code (.reg d20_3) :: K) t H = regR T fn K (aops (callR T) [
  ⟨(some 19), none, (.val (.t 0))⟩,
  ⟨(some 20), none, (.nilc (.t 19))⟩,
  ⟨(some 21), none, (.fa 1 (.t 20))⟩,
  ⟨(some 22), none, (.ld none (.t 21))⟩,
  ⟨(some 23), none, (.val (.t 1))⟩,
  ⟨(some 24), none, (.ia 1 (.t 22) (.t 23))⟩,
  ⟨none, none, (.st 1 (.t 24) (.c (.b false)))⟩] t H) := runR_reg'
def d20_4 : List AOper := [
  ⟨(some 4), none, (.val (.c (.b true)))⟩]
theorem r20_4 {fn : AFun} {K : List AItem} {t : Nat → AV} {H : AH} {T : Tbl} : runR T fn (.code (.reg d20_4) :: K) t H = regR T fn K (aops (callR T) [
  ⟨(some 4), none, (.val (.c (.b true)))⟩] t H) := runR_reg'
def a20 : AFun := ⟨25, [(.tmp 4)], (.seq (.reg d20_0) (.seq (.seq (.reg d20_1) (.cond (.t 18) (.seq (.reg d20_2) .ret) .skip)) (.seq (.reg d20_3) (.seq (.reg d20_4) .ret))))⟩
theorem a20_ok : cfun Try.prog 20 = some a20 := by kernel_rfl
/-- (*futtock/futtockref08.Table).Park -/
def d21_0 : List AOper := [
  ⟨(some 4), none, (.val (.c (.b false)))⟩,
  ⟨(some 5), none, (.val (.c (.i .i64 0)))⟩]
theorem r21_0 {fn : AFun} {K : List AItem} {t : Nat → AV} {H : AH} {T : Tbl} : runR T fn (.code (.reg d21_0) :: K) t H = regR T fn K (aops (callR T) [
  ⟨(some 4), none, (.val (.c (.b false)))⟩,
  ⟨(some 5), none, (.val (.c (.i .i64 0)))⟩] t H) := runR_reg'
def d21_1 : List AOper := [
  ⟨(some 6), none, (.val (.t 0))⟩,
  ⟨(some 7), none, (.val (.t 1))⟩,
  ⟨(some 8), none, (.call 22 [(.t 6), (.t 7)])⟩,
  ⟨(some 9), none, (.un .not (.t 8))⟩]
theorem r21_1 {fn : AFun} {K : List AItem} {t : Nat → AV} {H : AH} {T : Tbl} : runR T fn (.code (.reg d21_1) :: K) t H = regR T fn K (aops (callR T) [
  ⟨(some 6), none, (.val (.t 0))⟩,
  ⟨(some 7), none, (.val (.t 1))⟩,
  ⟨(some 8), none, (.call 22 [(.t 6), (.t 7)])⟩,
  ⟨(some 9), none, (.un .not (.t 8))⟩] t H) := runR_reg'
def d21_2 : List AOper := [
  ⟨(some 4), none, (.val (.c (.b false)))⟩,
  ⟨(some 5), none, (.val (.c (.i .i64 1)))⟩]
theorem r21_2 {fn : AFun} {K : List AItem} {t : Nat → AV} {H : AH} {T : Tbl} : runR T fn (.code (.reg d21_2) :: K) t H = regR T fn K (aops (callR T) [
  ⟨(some 4), none, (.val (.c (.b false)))⟩,
  ⟨(some 5), none, (.val (.c (.i .i64 1)))⟩] t H) := runR_reg'
def d21_3 : List AOper := [
  ⟨(some 10), none, (.val (.t 0))⟩,
  ⟨(some 11), none, (.nilc (.t 10))⟩,
  ⟨(some 12), none, (.fa 0 (.t 11))⟩,
  ⟨(some 13), none, (.ld none (.t 12))⟩,
  ⟨(some 14), none, (.val (.t 1))⟩,
  ⟨(some 15), none, (.ia 1 (.t 13) (.t 14))⟩,
  ⟨(some 16), none, (.ld none (.t 15))⟩]
theorem r21_3 {fn : AFun} {K : List AItem} {t : Nat → AV} {H : AH} {T : Tbl} : runR T fn (.code (.reg d21_3) :: K) t H = regR T fn K (aops (callR T) [
  ⟨(some 10), none, (.val (.t 0))⟩,
  ⟨(some 11), none, (.nilc (.t 10))⟩,
  ⟨(some 12), none, (.fa 0 (.t 11))⟩,
  ⟨(some 13), none, (.ld none (.t 12))⟩,
  ⟨(some 14), none, (.val (.t 1))⟩,
  ⟨(some 15), none, (.ia 1 (.t 13) (.t 14))⟩,
  ⟨(some 16), none, (.ld none (.t 15))⟩] t H) := runR_reg'
def d21_4 : List AOper := [
  ⟨(some 17), none, (.val (.t 0))⟩,
  ⟨(some 18), none, (.nilc (.t 17))⟩,
  ⟨(some 19), none, (.fa 0 (.t 18))⟩,
  ⟨(some 20), none, (.ld none (.t 19))⟩,
  ⟨(some 21), none, (.val (.t 1))⟩,
  ⟨(some 22), none, (.ia 1 (.t 20) (.t 21))⟩,
  ⟨none, none, (.st 1 (.t 22) (.c (.b false)))⟩]
theorem r21_4 {fn : AFun} {K : List AItem} {t : Nat → AV} {H : AH} {T : Tbl} : runR T fn (.code (.reg d21_4) :: K) t H = regR T fn K (aops (callR T) [
  ⟨(some 17), none, (.val (.t 0))⟩,
  ⟨(some 18), none, (.nilc (.t 17))⟩,
  ⟨(some 19), none, (.fa 0 (.t 18))⟩,
  ⟨(some 20), none, (.ld none (.t 19))⟩,
  ⟨(some 21), none, (.val (.t 1))⟩,
  ⟨(some 22), none, (.ia 1 (.t 20) (.t 21))⟩,
  ⟨none, none, (.st 1 (.t 22) (.c (.b false)))⟩] t H) := runR_reg'
def d21_5 : List AOper := [
  ⟨(some 4), none, (.val (.c (.b false)))⟩,
  ⟨(some 5), none, (.val (.c (.i .i64 0)))⟩]
theorem r21_5 {fn : AFun} {K : List AItem} {t : Nat → AV} {H : AH} {T : Tbl} : runR T fn (.code (.reg d21_5) :: K) t H = regR T fn K (aops (callR T) [
  ⟨(some 4), none, (.val (.c (.b false)))⟩,
  ⟨(some 5), none, (.val (.c (.i .i64 0)))⟩] t H) := runR_reg'
def d21_6 : List AOper := [
  ⟨(some 23), none, (.val (.t 0))⟩,
  ⟨(some 24), none, (.nilc (.t 23))⟩,
  ⟨(some 25), none, (.fa 2 (.t 24))⟩,
  ⟨(some 26), none, (.ld none (.t 25))⟩,
  ⟨(some 27), none, (.val (.t 1))⟩,
  ⟨(some 28), none, (.ia 1 (.t 26) (.t 27))⟩,
  ⟨none, none, (.st 1 (.t 28) (.c (.b true)))⟩]
theorem r21_6 {fn : AFun} {K : List AItem} {t : Nat → AV} {H : AH} {T : Tbl} : runR T fn (.code (.reg d21_6) :: K) t H = regR T fn K (aops (callR T) [
  ⟨(some 23), none, (.val (.t 0))⟩,
  ⟨(some 24), none, (.nilc (.t 23))⟩,
  ⟨(some 25), none, (.fa 2 (.t 24))⟩,
  ⟨(some 26), none, (.ld none (.t 25))⟩,
  ⟨(some 27), none, (.val (.t 1))⟩,
  ⟨(some 28), none, (.ia 1 (.t 26) (.t 27))⟩,
  ⟨none, none, (.st 1 (.t 28) (.c (.b true)))⟩] t H) := runR_reg'
def d21_7 : List AOper := [
  ⟨(some 4), none, (.val (.c (.b true)))⟩,
  ⟨(some 5), none, (.val (.c (.i .i64 0)))⟩]
theorem r21_7 {fn : AFun} {K : List AItem} {t : Nat → AV} {H : AH} {T : Tbl} : runR T fn (.code (.reg d21_7) :: K) t H = regR T fn K (aops (callR T) [
  ⟨(some 4), none, (.val (.c (.b true)))⟩,
  ⟨(some 5), none, (.val (.c (.i .i64 0)))⟩] t H) := runR_reg'
def a21 : AFun := ⟨29, [(.tmp 4), (.tmp 5)], (.seq (.reg d21_0) (.seq (.seq (.reg d21_1) (.cond (.t 9) (.seq (.reg d21_2) .ret) .skip)) (.seq (.seq (.reg d21_3) (.cond (.t 16) (.seq (.reg d21_4) (.seq (.reg d21_5) .ret)) .skip)) (.seq (.reg d21_6) (.seq (.reg d21_7) .ret)))))⟩
theorem a21_ok : cfun Try.prog 21 = some a21 := by kernel_rfl
/-- (*futtock/futtockref08.Table).Has -/
def d22_0 : List AOper := [
  ⟨(some 4), none, (.val (.c (.b false)))⟩]
theorem r22_0 {fn : AFun} {K : List AItem} {t : Nat → AV} {H : AH} {T : Tbl} : runR T fn (.code (.reg d22_0) :: K) t H = regR T fn K (aops (callR T) [
  ⟨(some 4), none, (.val (.c (.b false)))⟩] t H) := runR_reg'
def d22_1 : List AOper := [
  ⟨(some 5), none, (.val (.t 1))⟩,
  ⟨(some 6), none, (.bin .geq (.t 5) (.c (.i .i64 0)))⟩,
  ⟨(some 7), none, (.val (.t 6))⟩,
  ⟨(some 8), (some (7, true)), (.val (.t 1))⟩,
  ⟨(some 9), (some (7, true)), (.val (.t 0))⟩,
  ⟨(some 10), (some (7, true)), (.nilc (.t 9))⟩,
  ⟨(some 11), (some (7, true)), (.fa 0 (.t 10))⟩,
  ⟨(some 12), (some (7, true)), (.ld none (.t 11))⟩,
  ⟨(some 13), (some (7, true)), (.len (.t 12))⟩,
  ⟨(some 14), (some (7, true)), (.bin .lss (.t 8) (.t 13))⟩,
  ⟨(some 15), none, (.pick (.t 7) (.t 14) (.c (.b false)))⟩,
  ⟨(some 4), none, (.val (.t 15))⟩]
theorem r22_1 {fn : AFun} {K : List AItem} {t : Nat → AV} {H : AH} {T : Tbl} : runR T fn (.code (.reg d22_1) :: K) t H = regR T fn K (aops (callR T) [
  ⟨(some 5), none, (.val (.t 1))⟩,
  ⟨(some 6), none, (.bin .geq (.t 5) (.c (.i .i64 0)))⟩,
  ⟨(some 7), none, (.val (.t 6))⟩,
  ⟨(some 8), (some (7, true)), (.val (.t 1))⟩,
  ⟨(some 9), (some (7, true)), (.val (.t 0))⟩,
  ⟨(some 10), (some (7, true)), (.nilc (.t 9))⟩,
  ⟨(some 11), (some (7, true)), (.fa 0 (.t 10))⟩,
  ⟨(some 12), (some (7, true)), (.ld none (.t 11))⟩,
  ⟨(some 13), (some (7, true)), (.len (.t 12))⟩,
  ⟨(some 14), (some (7, true)), (.bin .lss (.t 8) (.t 13))⟩,
  ⟨(some 15), none, (.pick (.t 7) (.t 14) (.c (.b false)))⟩,
  ⟨(some 4), none, (.val (.t 15))⟩] t H) := runR_reg'
def a22 : AFun := ⟨16, [(.tmp 4)], (.seq (.reg d22_0) (.seq (.reg d22_1) .ret))⟩
theorem a22_ok : cfun Try.prog 22 = some a22 := by kernel_rfl
/-- (*futtock/permit.Table).Sleepers -/
def d23_0 : List AOper := [
  ⟨(some 2), none, (.val (.c (.sl none 0 0 true 0)))⟩]
theorem r23_0 {fn : AFun} {K : List AItem} {t : Nat → AV} {H : AH} {T : Tbl} : runR T fn (.code (.reg d23_0) :: K) t H = regR T fn K (aops (callR T) [
  ⟨(some 2), none, (.val (.c (.sl none 0 0 true 0)))⟩] t H) := runR_reg'
def d23_1 : List AOper := [
  ⟨(some 7), none, (.val (.t 0))⟩,
  ⟨(some 8), none, (.eqn 0 false (.t 7) (.c (.p none)))⟩]
theorem r23_1 {fn : AFun} {K : List AItem} {t : Nat → AV} {H : AH} {T : Tbl} : runR T fn (.code (.reg d23_1) :: K) t H = regR T fn K (aops (callR T) [
  ⟨(some 7), none, (.val (.t 0))⟩,
  ⟨(some 8), none, (.eqn 0 false (.t 7) (.c (.p none)))⟩] t H) := runR_reg'
def d23_2 : List AOper := [
  ⟨(some 2), none, (.val (.c (.sl none 0 0 true 0)))⟩]
theorem r23_2 {fn : AFun} {K : List AItem} {t : Nat → AV} {H : AH} {T : Tbl} : runR T fn (.code (.reg d23_2) :: K) t H = regR T fn K (aops (callR T) [
  ⟨(some 2), none, (.val (.c (.sl none 0 0 true 0)))⟩] t H) := runR_reg'
def d23_3 : List AOper := [
  ⟨(some 3), none, (.alloc [(.sl none 0 0 true 0)])⟩]
theorem r23_3 {fn : AFun} {K : List AItem} {t : Nat → AV} {H : AH} {T : Tbl} : runR T fn (.code (.reg d23_3) :: K) t H = regR T fn K (aops (callR T) [
  ⟨(some 3), none, (.alloc [(.sl none 0 0 true 0)])⟩] t H) := runR_reg'
def d23_4 : List AOper := [
  ⟨(some 9), none, (.mkf (.func 26) [] [(.t 3)])⟩,
  ⟨(some 4), none, (.val (.t 9))⟩]
theorem r23_4 {fn : AFun} {K : List AItem} {t : Nat → AV} {H : AH} {T : Tbl} : runR T fn (.code (.reg d23_4) :: K) t H = regR T fn K (aops (callR T) [
  ⟨(some 9), none, (.mkf (.func 26) [] [(.t 3)])⟩,
  ⟨(some 4), none, (.val (.t 9))⟩] t H) := runR_reg'
def d23_5 : List AOper := [
  ⟨(some 10), none, (.val (.t 0))⟩,
  ⟨(some 11), none, (.nilc (.t 10))⟩,
  ⟨(some 12), none, (.fa 0 (.t 11))⟩,
  ⟨(some 13), none, (.ld none (.t 12))⟩,
  ⟨(some 14), none, (.len (.t 13))⟩,
  ⟨(some 15), none, (.val (.c (.i .i64 0)))⟩]
theorem r23_5 {fn : AFun} {K : List AItem} {t : Nat → AV} {H : AH} {T : Tbl} : runR T fn (.code (.reg d23_5) :: K) t H = regR T fn K (aops (callR T) [
  ⟨(some 10), none, (.val (.t 0))⟩,
  ⟨(some 11), none, (.nilc (.t 10))⟩,
  ⟨(some 12), none, (.fa 0 (.t 11))⟩,
  ⟨(some 13), none, (.ld none (.t 12))⟩,
  ⟨(some 14), none, (.len (.t 13))⟩,
  ⟨(some 15), none, (.val (.c (.i .i64 0)))⟩] t H) := runR_reg'
def d23_6 : List AOper := [
  ⟨(some 16), none, (.bin .lss (.t 15) (.t 14))⟩]
theorem r23_6 {fn : AFun} {K : List AItem} {t : Nat → AV} {H : AH} {T : Tbl} : runR T fn (.code (.reg d23_6) :: K) t H = regR T fn K (aops (callR T) [
  ⟨(some 16), none, (.bin .lss (.t 15) (.t 14))⟩] t H) := runR_reg'
def d23_7 : List AOper := [
  ⟨(some 17), none, (.val (.t 15))⟩,
  ⟨(some 18), none, (.ia 3 (.t 13) (.t 15))⟩,
  ⟨(some 19), none, (.ld (some 3) (.t 18))⟩,
  ⟨(some 6), none, (.alloc [(.b false), (.b false), (.b false)])⟩,
  ⟨(some 5), none, (.val (.t 17))⟩,
  ⟨none, none, (.st 3 (.t 6) (.t 19))⟩]
theorem r23_7 {fn : AFun} {K : List AItem} {t : Nat → AV} {H : AH} {T : Tbl} : runR T fn (.code (.reg d23_7) :: K) t H = regR T fn K (aops (callR T) [
  ⟨(some 17), none, (.val (.t 15))⟩,
  ⟨(some 18), none, (.ia 3 (.t 13) (.t 15))⟩,
  ⟨(some 19), none, (.ld (some 3) (.t 18))⟩,
  ⟨(some 6), none, (.alloc [(.b false), (.b false), (.b false)])⟩,
  ⟨(some 5), none, (.val (.t 17))⟩,
  ⟨none, none, (.st 3 (.t 6) (.t 19))⟩] t H) := runR_reg'
def d23_8 : List AOper := [
  ⟨(some 20), none, (.val (.t 4))⟩,
  ⟨(some 21), none, (.val (.t 5))⟩,
  ⟨(some 22), none, (.fa 2 (.t 6))⟩,
  ⟨(some 23), none, (.ld none (.t 22))⟩,
  ⟨(some 24), none, (.callv (.t 20) [(.t 21), (.t 23)])⟩]
theorem r23_8 {fn : AFun} {K : List AItem} {t : Nat → AV} {H : AH} {T : Tbl} : runR T fn (.code (.reg d23_8) :: K) t H = regR T fn K (aops (callR T) [
  ⟨(some 20), none, (.val (.t 4))⟩,
  ⟨(some 21), none, (.val (.t 5))⟩,
  ⟨(some 22), none, (.fa 2 (.t 6))⟩,
  ⟨(some 23), none, (.ld none (.t 22))⟩,
  ⟨(some 24), none, (.callv (.t 20) [(.t 21), (.t 23)])⟩] t H) := runR_reg'
def d23_9 : List AOper := [
  ⟨(some 25), none, (.bin .add (.t 15) (.c (.i .i64 1)))⟩,
  ⟨(some 15), none, (.val (.t 25))⟩]
theorem r23_9 {fn : AFun} {K : List AItem} {t : Nat → AV} {H : AH} {T : Tbl} : runR T fn (.code (.reg d23_9) :: K) t H = regR T fn K (aops (callR T) [
  ⟨(some 25), none, (.bin .add (.t 15) (.c (.i .i64 1)))⟩,
  ⟨(some 15), none, (.val (.t 25))⟩] t H) := runR_reg'
def l23_10 : ACode := (.seq (.reg d23_6) (.seq (.cond (.t 16) .skip (.exit 0)) (.seq (.block 1 (.seq (.reg d23_7) (.reg d23_8))) (.reg d23_9))))
def d23_11 : List AOper := [
  ⟨(some 26), none, (.ld none (.t 3))⟩,
  ⟨(some 2), none, (.val (.t 26))⟩]
theorem r23_11 {fn : AFun} {K : List AItem} {t : Nat → AV} {H : AH} {T : Tbl} : runR T fn (.code (.reg d23_11) :: K) t H = regR T fn K (aops (callR T) [
  ⟨(some 26), none, (.ld none (.t 3))⟩,
  ⟨(some 2), none, (.val (.t 26))⟩] t H) := runR_reg'
def a23 : AFun := ⟨27, [(.tmp 2)], (.seq (.reg d23_0) (.seq (.seq (.reg d23_1) (.cond (.t 8) (.seq (.reg d23_2) .ret) .skip)) (.seq (.reg d23_3) (.seq (.reg d23_4) (.seq (.seq (.reg d23_5) (.block 0 (.loop l23_10))) (.seq (.reg d23_11) .ret))))))⟩
theorem a23_ok : cfun Try.prog 23 = some a23 := by kernel_rfl
/-- (*futtock/permit.Table).look -/
def d24_0 : List AOper := [
  ⟨(some 4), none, (.alloc [(.b false), (.b false), (.b false)])⟩]
theorem r24_0 {fn : AFun} {K : List AItem} {t : Nat → AV} {H : AH} {T : Tbl} : runR T fn (.code (.reg d24_0) :: K) t H = regR T fn K (aops (callR T) [
  ⟨(some 4), none, (.alloc [(.b false), (.b false), (.b false)])⟩] t H) := runR_reg'
def d24_1 : List AOper := [
  ⟨(some 8), none, (.val (.t 0))⟩,
  ⟨(some 9), none, (.val (.t 1))⟩,
  ⟨(some 10), none, (.call 25 [(.t 8), (.t 9)])⟩,
  ⟨(some 7), none, (.val (.t 10))⟩,
  ⟨(some 11), none, (.ext (.t 7) 0)⟩,
  ⟨(some 12), none, (.ext (.t 7) 1)⟩,
  ⟨(some 5), none, (.val (.t 11))⟩,
  ⟨(some 6), none, (.val (.t 12))⟩]
theorem r24_1 {fn : AFun} {K : List AItem} {t : Nat → AV} {H : AH} {T : Tbl} : runR T fn (.code (.reg d24_1) :: K) t H = regR T fn K (aops (callR T) [
  ⟨(some 8), none, (.val (.t 0))⟩,
  ⟨(some 9), none, (.val (.t 1))⟩,
  ⟨(some 10), none, (.call 25 [(.t 8), (.t 9)])⟩,
  ⟨(some 7), none, (.val (.t 10))⟩,
  ⟨(some 11), none, (.ext (.t 7) 0)⟩,
  ⟨(some 12), none, (.ext (.t 7) 1)⟩,
  ⟨(some 5), none, (.val (.t 11))⟩,
  ⟨(some 6), none, (.val (.t 12))⟩] t H) := runR_reg'
def d24_2 : List AOper := [
  ⟨(some 13), none, (.val (.t 6))⟩,
  ⟨(some 14), none, (.bin .neq (.t 13) (.c (.i .i64 0)))⟩]
theorem r24_2 {fn : AFun} {K : List AItem} {t : Nat → AV} {H : AH} {T : Tbl} : runR T fn (.code (.reg d24_2) :: K) t H = regR T fn K (aops (callR T) [
  ⟨(some 13), none, (.val (.t 6))⟩,
  ⟨(some 14), none, (.bin .neq (.t 13) (.c (.i .i64 0)))⟩] t H) := runR_reg'
def d24_3 : List AOper := [
  ⟨(some 15), none, (.build [(.b false), (.b false), (.b false)] [])⟩,
  ⟨none, none, (.st 3 (.t 4) (.t 15))⟩]
theorem r24_3 {fn : AFun} {K : List AItem} {t : Nat → AV} {H : AH} {T : Tbl} : runR T fn (.code (.reg d24_3) :: K) t H = regR T fn K (aops (callR T) [
  ⟨(some 15), none, (.build [(.b false), (.b false), (.b false)] [])⟩,
  ⟨none, none, (.st 3 (.t 4) (.t 15))⟩] t H) := runR_reg'
def d24_4 : List AOper := [
  ⟨(some 16), none, (.val (.t 5))⟩,
  ⟨(some 17), none, (.nilc (.t 16))⟩,
  ⟨(some 18), none, (.ld (some 3) (.t 17))⟩,
  ⟨none, none, (.st 3 (.t 4) (.t 18))⟩]
theorem r24_4 {fn : AFun} {K : List AItem} {t : Nat → AV} {H : AH} {T : Tbl} : runR T fn (.code (.reg d24_4) :: K) t H = regR T fn K (aops (callR T) [
  ⟨(some 16), none, (.val (.t 5))⟩,
  ⟨(some 17), none, (.nilc (.t 16))⟩,
  ⟨(some 18), none, (.ld (some 3) (.t 17))⟩,
  ⟨none, none, (.st 3 (.t 4) (.t 18))⟩] t H) := runR_reg'
def a24 : AFun := ⟨19, [(.cell 4 (some 3))], (.seq (.reg d24_0) (.seq (.reg d24_1) (.seq (.seq (.reg d24_2) (.cond (.t 14) (.seq (.reg d24_3) .ret) .skip)) (.seq (.reg d24_4) .ret))))⟩
theorem a24_ok : cfun Try.prog 24 = some a24 := by kernel_rfl
/-- (*futtock/permit.Table).find -/
def d25_0 : List AOper := [
  ⟨(some 4), none, (.val (.c (.p none)))⟩,
  ⟨(some 5), none, (.val (.c (.i .i64 0)))⟩]
theorem r25_0 {fn : AFun} {K : List AItem} {t : Nat → AV} {H : AH} {T : Tbl} : runR T fn (.code (.reg d25_0) :: K) t H = regR T fn K (aops (callR T) [
  ⟨(some 4), none, (.val (.c (.p none)))⟩,
  ⟨(some 5), none, (.val (.c (.i .i64 0)))⟩] t H) := runR_reg'
def d25_1 : List AOper := [
  ⟨(some 7), none, (.val (.t 0))⟩,
  ⟨(some 8), none, (.eqn 0 false (.t 7) (.c (.p none)))⟩,
  ⟨(some 9), none, (.val (.t 8))⟩,
  ⟨(some 10), (some (9, false)), (.val (.t 0))⟩,
  ⟨(some 11), (some (9, false)), (.nilc (.t 10))⟩,
  ⟨(some 12), (some (9, false)), (.fa 0 (.t 11))⟩,
  ⟨(some 13), (some (9, false)), (.ld none (.t 12))⟩,
  ⟨(some 14), (some (9, false)), (.len (.t 13))⟩,
  ⟨(some 15), (some (9, false)), (.bin .eql (.t 14) (.c (.i .i64 0)))⟩,
  ⟨(some 16), none, (.pick (.t 9) (.c (.b true)) (.t 15))⟩,
  ⟨(some 6), none, (.val (.t 16))⟩]
theorem r25_1 {fn : AFun} {K : List AItem} {t : Nat → AV} {H : AH} {T : Tbl} : runR T fn (.code (.reg d25_1) :: K) t H = regR T fn K (aops (callR T) [
  ⟨(some 7), none, (.val (.t 0))⟩,
  ⟨(some 8), none, (.eqn 0 false (.t 7) (.c (.p none)))⟩,
  ⟨(some 9), none, (.val (.t 8))⟩,
  ⟨(some 10), (some (9, false)), (.val (.t 0))⟩,
  ⟨(some 11), (some (9, false)), (.nilc (.t 10))⟩,
  ⟨(some 12), (some (9, false)), (.fa 0 (.t 11))⟩,
  ⟨(some 13), (some (9, false)), (.ld none (.t 12))⟩,
  ⟨(some 14), (some (9, false)), (.len (.t 13))⟩,
  ⟨(some 15), (some (9, false)), (.bin .eql (.t 14) (.c (.i .i64 0)))⟩,
  ⟨(some 16), none, (.pick (.t 9) (.c (.b true)) (.t 15))⟩,
  ⟨(some 6), none, (.val (.t 16))⟩] t H) := runR_reg'
def d25_2 : List AOper := [
  ⟨(some 4), none, (.val (.c (.p none)))⟩,
  ⟨(some 5), none, (.val (.c (.i .i64 2)))⟩]
theorem r25_2 {fn : AFun} {K : List AItem} {t : Nat → AV} {H : AH} {T : Tbl} : runR T fn (.code (.reg d25_2) :: K) t H = regR T fn K (aops (callR T) [
  ⟨(some 4), none, (.val (.c (.p none)))⟩,
  ⟨(some 5), none, (.val (.c (.i .i64 2)))⟩] t H) := runR_reg'
def d25_3 : List AOper := [
  ⟨(some 18), none, (.val (.t 1))⟩,
  ⟨(some 19), none, (.bin .lss (.t 18) (.c (.i .i64 0)))⟩,
  ⟨(some 20), none, (.val (.t 19))⟩,
  ⟨(some 21), (some (20, false)), (.val (.t 1))⟩,
  ⟨(some 22), (some (20, false)), (.val (.t 0))⟩,
  ⟨(some 23), (some (20, false)), (.nilc (.t 22))⟩,
  ⟨(some 24), (some (20, false)), (.fa 0 (.t 23))⟩,
  ⟨(some 25), (some (20, false)), (.ld none (.t 24))⟩,
  ⟨(some 26), (some (20, false)), (.len (.t 25))⟩,
  ⟨(some 27), (some (20, false)), (.bin .geq (.t 21) (.t 26))⟩,
  ⟨(some 28), none, (.pick (.t 20) (.c (.b true)) (.t 27))⟩,
  ⟨(some 17), none, (.val (.t 28))⟩]
theorem r25_3 {fn : AFun} {K : List AItem} {t : Nat → AV} {H : AH} {T : Tbl} : runR T fn (.code (.reg d25_3) :: K) t H = regR T fn K (aops (callR T) [
  ⟨(some 18), none, (.val (.t 1))⟩,
  ⟨(some 19), none, (.bin .lss (.t 18) (.c (.i .i64 0)))⟩,
  ⟨(some 20), none, (.val (.t 19))⟩,
  ⟨(some 21), (some (20, false)), (.val (.t 1))⟩,
  ⟨(some 22), (some (20, false)), (.val (.t 0))⟩,
  ⟨(some 23), (some (20, false)), (.nilc (.t 22))⟩,
  ⟨(some 24), (some (20, false)), (.fa 0 (.t 23))⟩,
  ⟨(some 25), (some (20, false)), (.ld none (.t 24))⟩,
  ⟨(some 26), (some (20, false)), (.len (.t 25))⟩,
  ⟨(some 27), (some (20, false)), (.bin .geq (.t 21) (.t 26))⟩,
  ⟨(some 28), none, (.pick (.t 20) (.c (.b true)) (.t 27))⟩,
  ⟨(some 17), none, (.val (.t 28))⟩] t H) := runR_reg'
def d25_4 : List AOper := [
  ⟨(some 4), none, (.val (.c (.p none)))⟩,
  ⟨(some 5), none, (.val (.c (.i .i64 1)))⟩]
theorem r25_4 {fn : AFun} {K : List AItem} {t : Nat → AV} {H : AH} {T : Tbl} : runR T fn (.code (.reg d25_4) :: K) t H = regR T fn K (aops (callR T) [
  ⟨(some 4), none, (.val (.c (.p none)))⟩,
  ⟨(some 5), none, (.val (.c (.i .i64 1)))⟩] t H) := runR_reg'
def d25_5 : List AOper := [
  ⟨(some 29), none, (.val (.t 0))⟩,
  ⟨(some 30), none, (.nilc (.t 29))⟩,
  ⟨(some 31), none, (.fa 0 (.t 30))⟩,
  ⟨(some 32), none, (.ld none (.t 31))⟩,
  ⟨(some 33), none, (.val (.t 1))⟩,
  ⟨(some 34), none, (.ia 3 (.t 32) (.t 33))⟩,
  ⟨(some 4), none, (.val (.t 34))⟩,
  ⟨(some 5), none, (.val (.c (.i .i64 0)))⟩]
theorem r25_5 {fn : AFun} {K : List AItem} {t : Nat → AV} {H : AH} {T : Tbl} : runR T fn (.code (.reg d25_5) :: K) t H = regR T fn K (aops (callR T) [
  ⟨(some 29), none, (.val (.t 0))⟩,
  ⟨(some 30), none, (.nilc (.t 29))⟩,
  ⟨(some 31), none, (.fa 0 (.t 30))⟩,
  ⟨(some 32), none, (.ld none (.t 31))⟩,
  ⟨(some 33), none, (.val (.t 1))⟩,
  ⟨(some 34), none, (.ia 3 (.t 32) (.t 33))⟩,
  ⟨(some 4), none, (.val (.t 34))⟩,
  ⟨(some 5), none, (.val (.c (.i .i64 0)))⟩] t H) := runR_reg'
def a25 : AFun := ⟨35, [(.tmp 4), (.tmp 5)], (.seq (.reg d25_0) (.seq (.block 0 (.seq (.reg d25_1) (.cond (.t 6) (.seq (.reg d25_2) .ret) (.seq (.reg d25_3) (.cond (.t 17) (.seq (.reg d25_4) .ret) .skip))))) (.seq (.reg d25_5) .ret)))⟩
theorem a25_ok : cfun Try.prog 25 = some a25 := by kernel_rfl
/-- (*futtock/permit.Table).Sleepers$1 -/
def d26_0 : List AOper := [
  ⟨(some 5), none, (.val (.t 1))⟩]
theorem r26_0 {fn : AFun} {K : List AItem} {t : Nat → AV} {H : AH} {T : Tbl} : runR T fn (.code (.reg d26_0) :: K) t H = regR T fn K (aops (callR T) [
  ⟨(some 5), none, (.val (.t 1))⟩] t H) := runR_reg'
def d26_1 : List AOper := [
  ⟨(some 6), none, (.ld none (.t 2))⟩,
  ⟨(some 7), none, (.val (.t 0))⟩,
  ⟨(some 8), none, (.bsl [(.i .i64 0)] 1 [(0, 1, (.t 7))])⟩,
  ⟨(some 9), none, (.app [(.i .i64 0)] 8 (.t 6) (.t 8))⟩,
  ⟨none, none, (.st 1 (.t 2) (.t 9))⟩]
theorem r26_1 {fn : AFun} {K : List AItem} {t : Nat → AV} {H : AH} {T : Tbl} : runR T fn (.code (.reg d26_1) :: K) t H = regR T fn K (aops (callR T) [
  ⟨(some 6), none, (.ld none (.t 2))⟩,
  ⟨(some 7), none, (.val (.t 0))⟩,
  ⟨(some 8), none, (.bsl [(.i .i64 0)] 1 [(0, 1, (.t 7))])⟩,
  ⟨(some 9), none, (.app [(.i .i64 0)] 8 (.t 6) (.t 8))⟩,
  ⟨none, none, (.st 1 (.t 2) (.t 9))⟩] t H) := runR_reg'
def a26 : AFun := ⟨10, [], (.seq (.reg d26_0) (.cond (.t 5) (.reg d26_1) .skip))⟩
theorem a26_ok : cfun Try.prog 26 = some a26 := by kernel_rfl
/-- All of them. -/
def tbl : Tbl
  | 3 => some a3
  | 4 => some a4
  | 5 => some a5
  | 6 => some a6
  | 7 => some a7
  | 8 => some a8
  | 9 => some a9
  | 10 => some a10
  | 11 => some a11
  | 12 => some a12
  | 13 => some a13
  | 14 => some a14
  | 15 => some a15
  | 16 => some a16
  | 17 => some a17
  | 18 => some a18
  | 19 => some a19
  | 20 => some a20
  | 21 => some a21
  | 22 => some a22
  | 23 => some a23
  | 24 => some a24
  | 25 => some a25
  | 26 => some a26
  | _ => none
/-- The heap behind a call of which the value alone is told. -/
noncomputable def hC (n : FuncId) (args : List AV) (H : AH) : AH := hAft (callR tbl n args H)
theorem hC_of {n : FuncId} {args : List AV} {H : AH} {v : AV} (h : ∃ H', callR tbl n args H = some (v, H')) : callR tbl n args H = some (v, hC n args H) := aft_of h
theorem tbl3 : tbl 3 = some a3 := rfl
theorem c3 {x0 : AV} {H : AH} : callR tbl 3 [x0] H = runR tbl a3 [.code a3.body] (ainit [x0]) H := callR_of tbl3 (Nat.le_of_ble_eq_true rfl)
theorem b3 : a3.body = (.seq (.reg d3_0) (.seq (.reg d3_1) (.seq (.seq (.reg d3_2) (.cond (.t 26) (.seq (.reg d3_3) .ret) .skip)) (.seq (.reg d3_4) (.seq (.seq (.reg d3_5) (.block 0 (.loop l3_39))) (.seq (.reg d3_40) .ret)))))) := rfl
theorem s3 : a3.res = [(.tmp 2)] := rfl
theorem tbl4 : tbl 4 = some a4 := rfl
theorem c4 {x0 : AV} {H : AH} : callR tbl 4 [x0] H = runR tbl a4 [.code a4.body] (ainit [x0]) H := callR_of tbl4 (Nat.le_of_ble_eq_true rfl)
theorem b4 : a4.body = (.seq (.reg d4_0) (.seq (.reg d4_1) (.seq (.seq (.reg d4_2) (.cond (.t 19) (.seq (.reg d4_3) .ret) .skip)) (.seq (.reg d4_4) (.seq (.seq (.reg d4_5) (.block 0 (.loop l4_28))) (.seq (.reg d4_29) .ret)))))) := rfl
theorem s4 : a4.res = [(.tmp 2)] := rfl
theorem tbl5 : tbl 5 = some a5 := rfl
theorem c5 {x0 x1 : AV} {H : AH} : callR tbl 5 [x0, x1] H = runR tbl a5 [.code a5.body] (ainit [x0, x1]) H := callR_of tbl5 (Nat.le_of_ble_eq_true rfl)
theorem b5 : a5.body = (.seq (.reg d5_0) (.seq (.reg d5_1) (.seq (.reg d5_2) (.seq (.seq (.reg d5_3) (.cond (.t 48) (.seq (.reg d5_4) .ret) .skip)) (.seq (.seq (.reg d5_5) (.block 0 (.loop l5_38))) (.seq (.reg d5_39) .ret)))))) := rfl
theorem s5 : a5.res = [(.tmp 4)] := rfl
theorem tbl6 : tbl 6 = some a6 := rfl
theorem c6 {x0 : AV} {H : AH} : callR tbl 6 [x0] H = runR tbl a6 [.code a6.body] (ainit [x0]) H := callR_of tbl6 (Nat.le_of_ble_eq_true rfl)
theorem b6 : a6.body = (.seq (.reg d6_0) (.seq (.seq (.reg d6_1) (.block 0 (.loop l6_10))) (.seq (.reg d6_11) .ret))) := rfl
theorem s6 : a6.res = [(.tmp 2)] := rfl
theorem tbl7 : tbl 7 = some a7 := rfl
theorem c7 {x0 : AV} {H : AH} : callR tbl 7 [x0] H = runR tbl a7 [.code a7.body] (ainit [x0]) H := callR_of tbl7 (Nat.le_of_ble_eq_true rfl)
theorem b7 : a7.body = (.seq (.reg d7_0) (.seq (.seq (.reg d7_1) (.cond (.t 9) (.seq (.reg d7_2) .ret) .skip)) (.seq (.reg d7_3) .ret))) := rfl
theorem s7 : a7.res = [(.tmp 2), (.tmp 3)] := rfl
theorem tbl8 : tbl 8 = some a8 := rfl
theorem c8 {x0 : AV} {H : AH} : callR tbl 8 [x0] H = runR tbl a8 [.code a8.body] (ainit [x0]) H := callR_of tbl8 (Nat.le_of_ble_eq_true rfl)
theorem b8 : a8.body = (.seq (.reg d8_0) (.seq (.reg d8_1) .ret)) := rfl
theorem s8 : a8.res = [(.tmp 2)] := rfl
theorem tbl9 : tbl 9 = some a9 := rfl
theorem c9 {x0 x1 : AV} {H : AH} : callR tbl 9 [x0, x1] H = runR tbl a9 [.code a9.body] (ainit [x0, x1]) H := callR_of tbl9 (Nat.le_of_ble_eq_true rfl)
theorem b9 : a9.body = (.seq (.reg d9_0) (.seq (.reg d9_1) .ret)) := rfl
theorem s9 : a9.res = [(.tmp 4)] := rfl
theorem tbl10 : tbl 10 = some a10 := rfl
theorem c10 {x0 x1 : AV} {H : AH} : callR tbl 10 [x0, x1] H = runR tbl a10 [.code a10.body] (ainit [x0, x1]) H := callR_of tbl10 (Nat.le_of_ble_eq_true rfl)
theorem b10 : a10.body = (.seq (.reg d10_0) (.seq (.reg d10_1) .ret)) := rfl
theorem s10 : a10.res = [(.tmp 4)] := rfl
theorem tbl11 : tbl 11 = some a11 := rfl
theorem c11 {x0 x1 : AV} {H : AH} : callR tbl 11 [x0, x1] H = runR tbl a11 [.code a11.body] (ainit [x0, x1]) H := callR_of tbl11 (Nat.le_of_ble_eq_true rfl)
theorem b11 : a11.body = (.seq (.reg d11_0) (.seq (.reg d11_1) .ret)) := rfl
theorem s11 : a11.res = [(.tmp 4)] := rfl
theorem tbl12 : tbl 12 = some a12 := rfl
theorem c12 {x0 x1 : AV} {H : AH} : callR tbl 12 [x0, x1] H = runR tbl a12 [.code a12.body] (ainit [x0, x1]) H := callR_of tbl12 (Nat.le_of_ble_eq_true rfl)
theorem b12 : a12.body = (.seq (.reg d12_0) (.seq (.reg d12_1) (.seq (.seq (.reg d12_2) (.cond (.t 16) (.seq (.reg d12_3) .ret) .skip)) (.seq (.reg d12_4) (.seq (.reg d12_5) (.seq (.reg d12_6) (.seq (.reg d12_7) .ret))))))) := rfl
theorem s12 : a12.res = [(.tmp 4), (.tmp 5)] := rfl
theorem tbl13 : tbl 13 = some a13 := rfl
theorem c13 {x0 x1 : AV} {H : AH} : callR tbl 13 [x0, x1] H = runR tbl a13 [.code a13.body] (ainit [x0, x1]) H := callR_of tbl13 (Nat.le_of_ble_eq_true rfl)
theorem b13 : a13.body = (.seq (.reg d13_0) (.seq (.reg d13_1) (.seq (.seq (.reg d13_2) (.cond (.t 15) (.seq (.reg d13_3) .ret) .skip)) (.seq (.reg d13_4) (.seq (.reg d13_5) (.seq (.reg d13_6) .ret)))))) := rfl
theorem s13 : a13.res = [(.tmp 4)] := rfl
theorem tbl14 : tbl 14 = some a14 := rfl
theorem c14 {x0 x1 : AV} {H : AH} : callR tbl 14 [x0, x1] H = runR tbl a14 [.code a14.body] (ainit [x0, x1]) H := callR_of tbl14 (Nat.le_of_ble_eq_true rfl)
theorem b14 : a14.body = (.seq (.reg d14_0) (.seq (.reg d14_1) (.seq (.seq (.reg d14_2) (.cond (.t 15) (.seq (.reg d14_3) .ret) .skip)) (.seq (.reg d14_4) (.seq (.reg d14_5) (.seq (.reg d14_6) .ret)))))) := rfl
theorem s14 : a14.res = [(.tmp 4), (.tmp 5)] := rfl
theorem tbl15 : tbl 15 = some a15 := rfl
theorem c15 {H : AH} : callR tbl 15 [] H = runR tbl a15 [.code a15.body] (ainit []) H := callR_of tbl15 (Nat.le_of_ble_eq_true rfl)
theorem b15 : a15.body = (.seq (.reg d15_0) (.seq (.reg d15_1) (.seq (.seq (.reg d15_2) (.cond (.t 20) (.seq (.reg d15_3) .ret) .skip)) (.seq (.reg d15_4) (.seq (.reg d15_5) (.seq (.reg d15_6) (.seq (.reg d15_7) (.seq (.reg d15_8) .ret)))))))) := rfl
theorem s15 : a15.res = [(.tmp 0)] := rfl
theorem tbl16 : tbl 16 = some a16 := rfl
theorem c16 {x0 x1 : AV} {H : AH} : callR tbl 16 [x0, x1] H = runR tbl a16 [.code a16.body] (ainit [x0, x1]) H := callR_of tbl16 (Nat.le_of_ble_eq_true rfl)
theorem b16 : a16.body = (.seq (.reg d16_0) (.seq (.reg d16_1) (.seq (.seq (.reg d16_2) (.cond (.t 15) (.seq (.reg d16_3) .ret) .skip)) (.seq (.reg d16_4) (.seq (.reg d16_5) .ret))))) := rfl
theorem s16 : a16.res = [(.tmp 4), (.tmp 5)] := rfl
theorem tbl17 : tbl 17 = some a17 := rfl
theorem c17 {x0 : AV} {H : AH} : callR tbl 17 [x0] H = runR tbl a17 [.code a17.body] (ainit [x0]) H := callR_of tbl17 (Nat.le_of_ble_eq_true rfl)
theorem b17 : a17.body = (.seq (.reg d17_0) (.seq (.seq (.reg d17_1) (.cond (.t 9) (.seq (.reg d17_2) .ret) .skip)) (.seq (.drw d17_3) .ret))) := rfl
theorem s17 : a17.res = [(.cell 2 (some 3)), (.tmp 3)] := rfl
theorem tbl18 : tbl 18 = some a18 := rfl
theorem c18 {x0 x1 : AV} {H : AH} : callR tbl 18 [x0, x1] H = runR tbl a18 [.code a18.body] (ainit [x0, x1]) H := callR_of tbl18 (Nat.le_of_ble_eq_true rfl)
theorem b18 : a18.body = (.seq (.reg d18_0) (.seq (.seq (.reg d18_1) (.cond (.t 9) (.seq (.reg d18_2) .ret) .skip)) (.seq (.seq (.reg d18_3) (.cond (.t 16) (.seq (.reg d18_4) (.seq (.reg d18_5) .ret)) .skip)) (.seq (.reg d18_6) (.seq (.reg d18_7) .ret))))) := rfl
theorem s18 : a18.res = [(.tmp 4), (.tmp 5)] := rfl
theorem tbl19 : tbl 19 = some a19 := rfl
theorem c19 {x0 x1 : AV} {H : AH} : callR tbl 19 [x0, x1] H = runR tbl a19 [.code a19.body] (ainit [x0, x1]) H := callR_of tbl19 (Nat.le_of_ble_eq_true rfl)
theorem b19 : a19.body = (.seq (.reg d19_0) (.seq (.seq (.reg d19_1) (.cond (.t 9) (.seq (.reg d19_2) .ret) .skip)) (.seq (.reg d19_3) (.seq (.reg d19_4) .ret)))) := rfl
theorem s19 : a19.res = [(.tmp 4), (.tmp 5)] := rfl
theorem tbl20 : tbl 20 = some a20 := rfl
theorem c20 {x0 x1 : AV} {H : AH} : callR tbl 20 [x0, x1] H = runR tbl a20 [.code a20.body] (ainit [x0, x1]) H := callR_of tbl20 (Nat.le_of_ble_eq_true rfl)
theorem b20 : a20.body = (.seq (.reg d20_0) (.seq (.seq (.reg d20_1) (.cond (.t 18) (.seq (.reg d20_2) .ret) .skip)) (.seq (.reg d20_3) (.seq (.reg d20_4) .ret)))) := rfl
theorem s20 : a20.res = [(.tmp 4)] := rfl
theorem tbl21 : tbl 21 = some a21 := rfl
theorem c21 {x0 x1 : AV} {H : AH} : callR tbl 21 [x0, x1] H = runR tbl a21 [.code a21.body] (ainit [x0, x1]) H := callR_of tbl21 (Nat.le_of_ble_eq_true rfl)
theorem b21 : a21.body = (.seq (.reg d21_0) (.seq (.seq (.reg d21_1) (.cond (.t 9) (.seq (.reg d21_2) .ret) .skip)) (.seq (.seq (.reg d21_3) (.cond (.t 16) (.seq (.reg d21_4) (.seq (.reg d21_5) .ret)) .skip)) (.seq (.reg d21_6) (.seq (.reg d21_7) .ret))))) := rfl
theorem s21 : a21.res = [(.tmp 4), (.tmp 5)] := rfl
theorem tbl22 : tbl 22 = some a22 := rfl
theorem c22 {x0 x1 : AV} {H : AH} : callR tbl 22 [x0, x1] H = runR tbl a22 [.code a22.body] (ainit [x0, x1]) H := callR_of tbl22 (Nat.le_of_ble_eq_true rfl)
theorem b22 : a22.body = (.seq (.reg d22_0) (.seq (.reg d22_1) .ret)) := rfl
theorem s22 : a22.res = [(.tmp 4)] := rfl
theorem tbl23 : tbl 23 = some a23 := rfl
theorem c23 {x0 : AV} {H : AH} : callR tbl 23 [x0] H = runR tbl a23 [.code a23.body] (ainit [x0]) H := callR_of tbl23 (Nat.le_of_ble_eq_true rfl)
theorem b23 : a23.body = (.seq (.reg d23_0) (.seq (.seq (.reg d23_1) (.cond (.t 8) (.seq (.reg d23_2) .ret) .skip)) (.seq (.reg d23_3) (.seq (.reg d23_4) (.seq (.seq (.reg d23_5) (.block 0 (.loop l23_10))) (.seq (.reg d23_11) .ret)))))) := rfl
theorem s23 : a23.res = [(.tmp 2)] := rfl
theorem tbl24 : tbl 24 = some a24 := rfl
theorem c24 {x0 x1 : AV} {H : AH} : callR tbl 24 [x0, x1] H = runR tbl a24 [.code a24.body] (ainit [x0, x1]) H := callR_of tbl24 (Nat.le_of_ble_eq_true rfl)
theorem b24 : a24.body = (.seq (.reg d24_0) (.seq (.reg d24_1) (.seq (.seq (.reg d24_2) (.cond (.t 14) (.seq (.reg d24_3) .ret) .skip)) (.seq (.reg d24_4) .ret)))) := rfl
theorem s24 : a24.res = [(.cell 4 (some 3))] := rfl
theorem tbl25 : tbl 25 = some a25 := rfl
theorem c25 {x0 x1 : AV} {H : AH} : callR tbl 25 [x0, x1] H = runR tbl a25 [.code a25.body] (ainit [x0, x1]) H := callR_of tbl25 (Nat.le_of_ble_eq_true rfl)
theorem b25 : a25.body = (.seq (.reg d25_0) (.seq (.block 0 (.seq (.reg d25_1) (.cond (.t 6) (.seq (.reg d25_2) .ret) (.seq (.reg d25_3) (.cond (.t 17) (.seq (.reg d25_4) .ret) .skip))))) (.seq (.reg d25_5) .ret))) := rfl
theorem s25 : a25.res = [(.tmp 4), (.tmp 5)] := rfl
theorem tbl26 : tbl 26 = some a26 := rfl
theorem c26 {x0 x1 x2 : AV} {H : AH} : callR tbl 26 [x0, x1, x2] H = runR tbl a26 [.code a26.body] (ainit [x0, x1, x2]) H := callR_of tbl26 (Nat.le_of_ble_eq_true rfl)
theorem b26 : a26.body = (.seq (.reg d26_0) (.cond (.t 5) (.reg d26_1) .skip)) := rfl
theorem s26 : a26.res = [] := rfl
theorem tbl_ok : ∀ f a, tbl f = some a → cfun Try.prog f = some a := by
  intro f a h
  unfold tbl at h
  split at h
  · cases h; exact a3_ok
  · cases h; exact a4_ok
  · cases h; exact a5_ok
  · cases h; exact a6_ok
  · cases h; exact a7_ok
  · cases h; exact a8_ok
  · cases h; exact a9_ok
  · cases h; exact a10_ok
  · cases h; exact a11_ok
  · cases h; exact a12_ok
  · cases h; exact a13_ok
  · cases h; exact a14_ok
  · cases h; exact a15_ok
  · cases h; exact a16_ok
  · cases h; exact a17_ok
  · cases h; exact a18_ok
  · cases h; exact a19_ok
  · cases h; exact a20_ok
  · cases h; exact a21_ok
  · cases h; exact a22_ok
  · cases h; exact a23_ok
  · cases h; exact a24_ok
  · cases h; exact a25_ok
  · cases h; exact a26_ok
  · cases h
end Go.Proofs.Ytgbmkfdijcmpgaa.Abs
