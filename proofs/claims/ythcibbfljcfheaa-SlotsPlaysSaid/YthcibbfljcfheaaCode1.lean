/- The functions that the laws of this seat reach, in the plain machine's form, and that they are the loaded ones. Printed by a program of this seat's own (gencode.py). No condition of its own. -/
import Derived.Test.YthcibbfljcfheaaProg
import Derived.Test.YthcibbfljcfheaaAbs3
import Derived.Test.YthcibbfljcfheaaEval
import Derived.KernelRfl
namespace Go.Proofs.Ythcibbfljcfheaa.Abs
set_option linter.unusedVariables false
set_option maxRecDepth 100000
/-- futtock/futtocklaw10.SlotsApart -/
def d3_0 : List AOper := [
  ⟨(some 6), none, (.val (.c (.b false)))⟩]
theorem r3_0 {fn : AFun} {K : List AItem} {t : Nat → AV} {H : AH} {T : Tbl} : runR T fn (.code (.reg d3_0) :: K) t H = regR T fn K (aops (callR T) [
  ⟨(some 6), none, (.val (.c (.b false)))⟩] t H) := runR_reg'
def d3_1 : List AOper := [
  ⟨(some 17), none, (.val (.t 0))⟩,
  ⟨(some 18), none, (.cvi .i64 (.t 17))⟩,
  ⟨(some 19), none, (.bin .rem (.t 18) (.c (.i .i64 12)))⟩,
  ⟨(some 20), none, (.bin .add (.t 19) (.c (.i .i64 1)))⟩,
  ⟨(some 7), none, (.val (.t 20))⟩]
theorem r3_1 {fn : AFun} {K : List AItem} {t : Nat → AV} {H : AH} {T : Tbl} : runR T fn (.code (.reg d3_1) :: K) t H = regR T fn K (aops (callR T) [
  ⟨(some 17), none, (.val (.t 0))⟩,
  ⟨(some 18), none, (.cvi .i64 (.t 17))⟩,
  ⟨(some 19), none, (.bin .rem (.t 18) (.c (.i .i64 12)))⟩,
  ⟨(some 20), none, (.bin .add (.t 19) (.c (.i .i64 1)))⟩,
  ⟨(some 7), none, (.val (.t 20))⟩] t H) := runR_reg'
def d3_2 : List AOper := [
  ⟨(some 22), none, (.val (.t 7))⟩,
  ⟨(some 23), none, (.val (.t 1))⟩,
  ⟨(some 24), none, (.cvi .i64 (.t 23))⟩,
  ⟨(some 25), none, (.bin .rem (.t 24) (.c (.i .i64 5)))⟩,
  ⟨(some 26), none, (.bin .add (.t 25) (.c (.i .i64 1)))⟩,
  ⟨(some 27), none, (.call 7 [(.t 22), (.t 26)])⟩,
  ⟨(some 21), none, (.val (.t 27))⟩,
  ⟨(some 28), none, (.ext (.t 21) 0)⟩,
  ⟨(some 29), none, (.ext (.t 21) 1)⟩,
  ⟨(some 8), none, (.val (.t 28))⟩,
  ⟨(some 9), none, (.val (.t 29))⟩]
theorem r3_2 {fn : AFun} {K : List AItem} {t : Nat → AV} {H : AH} {T : Tbl} : runR T fn (.code (.reg d3_2) :: K) t H = regR T fn K (aops (callR T) [
  ⟨(some 22), none, (.val (.t 7))⟩,
  ⟨(some 23), none, (.val (.t 1))⟩,
  ⟨(some 24), none, (.cvi .i64 (.t 23))⟩,
  ⟨(some 25), none, (.bin .rem (.t 24) (.c (.i .i64 5)))⟩,
  ⟨(some 26), none, (.bin .add (.t 25) (.c (.i .i64 1)))⟩,
  ⟨(some 27), none, (.call 7 [(.t 22), (.t 26)])⟩,
  ⟨(some 21), none, (.val (.t 27))⟩,
  ⟨(some 28), none, (.ext (.t 21) 0)⟩,
  ⟨(some 29), none, (.ext (.t 21) 1)⟩,
  ⟨(some 8), none, (.val (.t 28))⟩,
  ⟨(some 9), none, (.val (.t 29))⟩] t H) := runR_reg'
def d3_3 : List AOper := [
  ⟨(some 30), none, (.val (.t 8))⟩,
  ⟨(some 31), none, (.eqn 0 false (.t 30) (.c (.p none)))⟩,
  ⟨(some 32), none, (.val (.t 31))⟩,
  ⟨(some 33), (some (32, false)), (.val (.t 9))⟩,
  ⟨(some 34), (some (32, false)), (.bin .neq (.t 33) (.c (.i .i64 0)))⟩,
  ⟨(some 35), none, (.pick (.t 32) (.c (.b true)) (.t 34))⟩]
theorem r3_3 {fn : AFun} {K : List AItem} {t : Nat → AV} {H : AH} {T : Tbl} : runR T fn (.code (.reg d3_3) :: K) t H = regR T fn K (aops (callR T) [
  ⟨(some 30), none, (.val (.t 8))⟩,
  ⟨(some 31), none, (.eqn 0 false (.t 30) (.c (.p none)))⟩,
  ⟨(some 32), none, (.val (.t 31))⟩,
  ⟨(some 33), (some (32, false)), (.val (.t 9))⟩,
  ⟨(some 34), (some (32, false)), (.bin .neq (.t 33) (.c (.i .i64 0)))⟩,
  ⟨(some 35), none, (.pick (.t 32) (.c (.b true)) (.t 34))⟩] t H) := runR_reg'
def d3_4 : List AOper := [
  ⟨(some 6), none, (.val (.c (.b false)))⟩]
theorem r3_4 {fn : AFun} {K : List AItem} {t : Nat → AV} {H : AH} {T : Tbl} : runR T fn (.code (.reg d3_4) :: K) t H = regR T fn K (aops (callR T) [
  ⟨(some 6), none, (.val (.c (.b false)))⟩] t H) := runR_reg'
def d3_5 : List AOper := [
  ⟨(some 36), none, (.val (.t 2))⟩,
  ⟨(some 37), none, (.call 8 [(.t 36)])⟩,
  ⟨(some 38), none, (.len (.t 37))⟩,
  ⟨(some 39), none, (.val (.c (.i .i64 0)))⟩]
theorem r3_5 {fn : AFun} {K : List AItem} {t : Nat → AV} {H : AH} {T : Tbl} : runR T fn (.code (.reg d3_5) :: K) t H = regR T fn K (aops (callR T) [
  ⟨(some 36), none, (.val (.t 2))⟩,
  ⟨(some 37), none, (.call 8 [(.t 36)])⟩,
  ⟨(some 38), none, (.len (.t 37))⟩,
  ⟨(some 39), none, (.val (.c (.i .i64 0)))⟩] t H) := runR_reg'
def d3_6 : List AOper := [
  ⟨(some 40), none, (.bin .lss (.t 39) (.t 38))⟩]
theorem r3_6 {fn : AFun} {K : List AItem} {t : Nat → AV} {H : AH} {T : Tbl} : runR T fn (.code (.reg d3_6) :: K) t H = regR T fn K (aops (callR T) [
  ⟨(some 40), none, (.bin .lss (.t 39) (.t 38))⟩] t H) := runR_reg'
def d3_7 : List AOper := [
  ⟨(some 41), none, (.ia 3 (.t 37) (.t 39))⟩,
  ⟨(some 42), none, (.ld (some 3) (.t 41))⟩,
  ⟨(some 11), none, (.alloc [(.i .u8 0), (.i .i64 0), (.i .i64 0)])⟩,
  ⟨none, none, (.st 3 (.t 11) (.t 42))⟩]
theorem r3_7 {fn : AFun} {K : List AItem} {t : Nat → AV} {H : AH} {T : Tbl} : runR T fn (.code (.reg d3_7) :: K) t H = regR T fn K (aops (callR T) [
  ⟨(some 41), none, (.ia 3 (.t 37) (.t 39))⟩,
  ⟨(some 42), none, (.ld (some 3) (.t 41))⟩,
  ⟨(some 11), none, (.alloc [(.i .u8 0), (.i .i64 0), (.i .i64 0)])⟩,
  ⟨none, none, (.st 3 (.t 11) (.t 42))⟩] t H) := runR_reg'
def d3_8 : List AOper := [
  ⟨(some 43), none, (.fa 0 (.t 11))⟩,
  ⟨(some 44), none, (.ld none (.t 43))⟩,
  ⟨(some 45), none, (.bin .rem (.t 44) (.c (.i .u8 4)))⟩]
theorem r3_8 {fn : AFun} {K : List AItem} {t : Nat → AV} {H : AH} {T : Tbl} : runR T fn (.code (.reg d3_8) :: K) t H = regR T fn K (aops (callR T) [
  ⟨(some 43), none, (.fa 0 (.t 11))⟩,
  ⟨(some 44), none, (.ld none (.t 43))⟩,
  ⟨(some 45), none, (.bin .rem (.t 44) (.c (.i .u8 4)))⟩] t H) := runR_reg'
def d3_9 : List AOper := [
  ⟨(some 52), none, (.bin .eql (.t 45) (.c (.i .u8 1)))⟩,
  ⟨(some 51), none, (.val (.t 52))⟩]
theorem r3_9 {fn : AFun} {K : List AItem} {t : Nat → AV} {H : AH} {T : Tbl} : runR T fn (.code (.reg d3_9) :: K) t H = regR T fn K (aops (callR T) [
  ⟨(some 52), none, (.bin .eql (.t 45) (.c (.i .u8 1)))⟩,
  ⟨(some 51), none, (.val (.t 52))⟩] t H) := runR_reg'
def d3_10 : List AOper := [
  ⟨(some 53), none, (.val (.t 8))⟩,
  ⟨(some 54), none, (.fa 1 (.t 11))⟩,
  ⟨(some 55), none, (.ld none (.t 54))⟩,
  ⟨(some 56), none, (.bin .and (.t 55) (.c (.i .i64 3)))⟩,
  ⟨(some 57), none, (.fa 2 (.t 11))⟩,
  ⟨(some 58), none, (.ld none (.t 57))⟩,
  ⟨(some 59), none, (.bin .and (.t 58) (.c (.i .i64 15)))⟩,
  ⟨(some 60), none, (.call 9 [(.t 53), (.t 56), (.t 59)])⟩]
theorem r3_10 {fn : AFun} {K : List AItem} {t : Nat → AV} {H : AH} {T : Tbl} : runR T fn (.code (.reg d3_10) :: K) t H = regR T fn K (aops (callR T) [
  ⟨(some 53), none, (.val (.t 8))⟩,
  ⟨(some 54), none, (.fa 1 (.t 11))⟩,
  ⟨(some 55), none, (.ld none (.t 54))⟩,
  ⟨(some 56), none, (.bin .and (.t 55) (.c (.i .i64 3)))⟩,
  ⟨(some 57), none, (.fa 2 (.t 11))⟩,
  ⟨(some 58), none, (.ld none (.t 57))⟩,
  ⟨(some 59), none, (.bin .and (.t 58) (.c (.i .i64 15)))⟩,
  ⟨(some 60), none, (.call 9 [(.t 53), (.t 56), (.t 59)])⟩] t H) := runR_reg'
def d3_11 : List AOper := [
  ⟨(some 62), none, (.bin .eql (.t 45) (.c (.i .u8 2)))⟩,
  ⟨(some 61), none, (.val (.t 62))⟩]
theorem r3_11 {fn : AFun} {K : List AItem} {t : Nat → AV} {H : AH} {T : Tbl} : runR T fn (.code (.reg d3_11) :: K) t H = regR T fn K (aops (callR T) [
  ⟨(some 62), none, (.bin .eql (.t 45) (.c (.i .u8 2)))⟩,
  ⟨(some 61), none, (.val (.t 62))⟩] t H) := runR_reg'
def d3_12 : List AOper := [
  ⟨(some 63), none, (.val (.t 8))⟩,
  ⟨(some 64), none, (.fa 1 (.t 11))⟩,
  ⟨(some 65), none, (.ld none (.t 64))⟩,
  ⟨(some 66), none, (.bin .and (.t 65) (.c (.i .i64 3)))⟩,
  ⟨(some 67), none, (.call 10 [(.t 63), (.t 66)])⟩]
theorem r3_12 {fn : AFun} {K : List AItem} {t : Nat → AV} {H : AH} {T : Tbl} : runR T fn (.code (.reg d3_12) :: K) t H = regR T fn K (aops (callR T) [
  ⟨(some 63), none, (.val (.t 8))⟩,
  ⟨(some 64), none, (.fa 1 (.t 11))⟩,
  ⟨(some 65), none, (.ld none (.t 64))⟩,
  ⟨(some 66), none, (.bin .and (.t 65) (.c (.i .i64 3)))⟩,
  ⟨(some 67), none, (.call 10 [(.t 63), (.t 66)])⟩] t H) := runR_reg'
def d3_13 : List AOper := [
  ⟨(some 46), none, (.val (.t 8))⟩,
  ⟨(some 47), none, (.fa 1 (.t 11))⟩,
  ⟨(some 48), none, (.ld none (.t 47))⟩,
  ⟨(some 49), none, (.bin .and (.t 48) (.c (.i .i64 3)))⟩,
  ⟨(some 50), none, (.call 11 [(.t 46), (.t 49)])⟩]
theorem r3_13 {fn : AFun} {K : List AItem} {t : Nat → AV} {H : AH} {T : Tbl} : runR T fn (.code (.reg d3_13) :: K) t H = regR T fn K (aops (callR T) [
  ⟨(some 46), none, (.val (.t 8))⟩,
  ⟨(some 47), none, (.fa 1 (.t 11))⟩,
  ⟨(some 48), none, (.ld none (.t 47))⟩,
  ⟨(some 49), none, (.bin .and (.t 48) (.c (.i .i64 3)))⟩,
  ⟨(some 50), none, (.call 11 [(.t 46), (.t 49)])⟩] t H) := runR_reg'
def d3_14 : List AOper := [
  ⟨(some 68), none, .mkm⟩,
  ⟨(some 12), none, (.val (.t 68))⟩]
theorem r3_14 {fn : AFun} {K : List AItem} {t : Nat → AV} {H : AH} {T : Tbl} : runR T fn (.code (.reg d3_14) :: K) t H = regR T fn K (aops (callR T) [
  ⟨(some 68), none, .mkm⟩,
  ⟨(some 12), none, (.val (.t 68))⟩] t H) := runR_reg'
def d3_15 : List AOper := [
  ⟨(some 13), none, (.val (.c (.i .i64 (-1))))⟩]
theorem r3_15 {fn : AFun} {K : List AItem} {t : Nat → AV} {H : AH} {T : Tbl} : runR T fn (.code (.reg d3_15) :: K) t H = regR T fn K (aops (callR T) [
  ⟨(some 13), none, (.val (.c (.i .i64 (-1))))⟩] t H) := runR_reg'
def d3_16 : List AOper := [
  ⟨(some 69), none, (.val (.t 13))⟩,
  ⟨(some 70), none, (.bin .lss (.t 69) (.c (.i .i64 4)))⟩]
theorem r3_16 {fn : AFun} {K : List AItem} {t : Nat → AV} {H : AH} {T : Tbl} : runR T fn (.code (.reg d3_16) :: K) t H = regR T fn K (aops (callR T) [
  ⟨(some 69), none, (.val (.t 13))⟩,
  ⟨(some 70), none, (.bin .lss (.t 69) (.c (.i .i64 4)))⟩] t H) := runR_reg'
def d3_17 : List AOper := [
  ⟨(some 73), none, (.val (.t 8))⟩,
  ⟨(some 74), none, (.call 12 [(.t 73)])⟩,
  ⟨(some 14), none, (.val (.t 74))⟩]
theorem r3_17 {fn : AFun} {K : List AItem} {t : Nat → AV} {H : AH} {T : Tbl} : runR T fn (.code (.reg d3_17) :: K) t H = regR T fn K (aops (callR T) [
  ⟨(some 73), none, (.val (.t 8))⟩,
  ⟨(some 74), none, (.call 12 [(.t 73)])⟩,
  ⟨(some 14), none, (.val (.t 74))⟩] t H) := runR_reg'
def d3_18 : List AOper := [
  ⟨(some 75), none, (.val (.t 13))⟩,
  ⟨(some 76), none, (.bin .geq (.t 75) (.c (.i .i64 0)))⟩]
theorem r3_18 {fn : AFun} {K : List AItem} {t : Nat → AV} {H : AH} {T : Tbl} : runR T fn (.code (.reg d3_18) :: K) t H = regR T fn K (aops (callR T) [
  ⟨(some 75), none, (.val (.t 13))⟩,
  ⟨(some 76), none, (.bin .geq (.t 75) (.c (.i .i64 0)))⟩] t H) := runR_reg'
def d3_19 : List AOper := [
  ⟨(some 77), none, (.val (.t 8))⟩,
  ⟨(some 78), none, (.val (.t 13))⟩,
  ⟨(some 79), none, (.call 13 [(.t 77), (.t 78)])⟩,
  ⟨(some 14), none, (.val (.t 79))⟩]
theorem r3_19 {fn : AFun} {K : List AItem} {t : Nat → AV} {H : AH} {T : Tbl} : runR T fn (.code (.reg d3_19) :: K) t H = regR T fn K (aops (callR T) [
  ⟨(some 77), none, (.val (.t 8))⟩,
  ⟨(some 78), none, (.val (.t 13))⟩,
  ⟨(some 79), none, (.call 13 [(.t 77), (.t 78)])⟩,
  ⟨(some 14), none, (.val (.t 79))⟩] t H) := runR_reg'
def d3_20 : List AOper := [
  ⟨(some 80), none, (.val (.t 14))⟩,
  ⟨(some 81), none, (.len (.t 80))⟩,
  ⟨(some 82), none, (.val (.c (.i .i64 0)))⟩]
theorem r3_20 {fn : AFun} {K : List AItem} {t : Nat → AV} {H : AH} {T : Tbl} : runR T fn (.code (.reg d3_20) :: K) t H = regR T fn K (aops (callR T) [
  ⟨(some 80), none, (.val (.t 14))⟩,
  ⟨(some 81), none, (.len (.t 80))⟩,
  ⟨(some 82), none, (.val (.c (.i .i64 0)))⟩] t H) := runR_reg'
def d3_21 : List AOper := [
  ⟨(some 83), none, (.bin .lss (.t 82) (.t 81))⟩]
theorem r3_21 {fn : AFun} {K : List AItem} {t : Nat → AV} {H : AH} {T : Tbl} : runR T fn (.code (.reg d3_21) :: K) t H = regR T fn K (aops (callR T) [
  ⟨(some 83), none, (.bin .lss (.t 82) (.t 81))⟩] t H) := runR_reg'
def d3_22 : List AOper := [
  ⟨(some 84), none, (.ia 1 (.t 80) (.t 82))⟩,
  ⟨(some 85), none, (.ld none (.t 84))⟩,
  ⟨(some 16), none, (.val (.t 85))⟩]
theorem r3_22 {fn : AFun} {K : List AItem} {t : Nat → AV} {H : AH} {T : Tbl} : runR T fn (.code (.reg d3_22) :: K) t H = regR T fn K (aops (callR T) [
  ⟨(some 84), none, (.ia 1 (.t 80) (.t 82))⟩,
  ⟨(some 85), none, (.ld none (.t 84))⟩,
  ⟨(some 16), none, (.val (.t 85))⟩] t H) := runR_reg'
def d3_23 : List AOper := [
  ⟨(some 86), none, (.val (.t 12))⟩,
  ⟨(some 87), none, (.val (.t 16))⟩,
  ⟨(some 88), none, (.lk [0] (.b false) (.t 86) (.t 87) false)⟩,
  ⟨(some 89), none, (.val (.t 88))⟩,
  ⟨(some 90), (some (89, false)), (.val (.t 16))⟩,
  ⟨(some 91), (some (89, false)), (.bin .lss (.t 90) (.c (.i .i64 0)))⟩,
  ⟨(some 92), none, (.pick (.t 89) (.c (.b true)) (.t 91))⟩,
  ⟨(some 93), none, (.val (.t 92))⟩,
  ⟨(some 94), (some (93, false)), (.val (.t 16))⟩,
  ⟨(some 95), (some (93, false)), (.val (.t 7))⟩,
  ⟨(some 96), (some (93, false)), (.bin .geq (.t 94) (.t 95))⟩,
  ⟨(some 97), none, (.pick (.t 93) (.c (.b true)) (.t 96))⟩,
  ⟨(some 98), none, (.val (.t 97))⟩,
  ⟨(some 99), (some (98, false)), (.val (.t 8))⟩,
  ⟨(some 100), (some (98, false)), (.val (.t 16))⟩,
  ⟨(some 101), (some (98, false)), (.call 14 [(.t 99), (.t 100)])⟩,
  ⟨(some 102), (some (98, false)), (.val (.t 13))⟩,
  ⟨(some 103), (some (98, false)), (.bin .lss (.t 102) (.c (.i .i64 0)))⟩,
  ⟨(some 104), (some (98, false)), (.eqb true (.t 101) (.t 103))⟩,
  ⟨(some 105), none, (.pick (.t 98) (.c (.b true)) (.t 104))⟩]
theorem r3_23 {fn : AFun} {K : List AItem} {t : Nat → AV} {H : AH} {T : Tbl} : runR T fn (.code (.reg d3_23) :: K) t H = regR T fn K (aops (callR T) [
  ⟨(some 86), none, (.val (.t 12))⟩,
  ⟨(some 87), none, (.val (.t 16))⟩,
  ⟨(some 88), none, (.lk [0] (.b false) (.t 86) (.t 87) false)⟩,
  ⟨(some 89), none, (.val (.t 88))⟩,
  ⟨(some 90), (some (89, false)), (.val (.t 16))⟩,
  ⟨(some 91), (some (89, false)), (.bin .lss (.t 90) (.c (.i .i64 0)))⟩,
  ⟨(some 92), none, (.pick (.t 89) (.c (.b true)) (.t 91))⟩,
  ⟨(some 93), none, (.val (.t 92))⟩,
  ⟨(some 94), (some (93, false)), (.val (.t 16))⟩,
  ⟨(some 95), (some (93, false)), (.val (.t 7))⟩,
  ⟨(some 96), (some (93, false)), (.bin .geq (.t 94) (.t 95))⟩,
  ⟨(some 97), none, (.pick (.t 93) (.c (.b true)) (.t 96))⟩,
  ⟨(some 98), none, (.val (.t 97))⟩,
  ⟨(some 99), (some (98, false)), (.val (.t 8))⟩,
  ⟨(some 100), (some (98, false)), (.val (.t 16))⟩,
  ⟨(some 101), (some (98, false)), (.call 14 [(.t 99), (.t 100)])⟩,
  ⟨(some 102), (some (98, false)), (.val (.t 13))⟩,
  ⟨(some 103), (some (98, false)), (.bin .lss (.t 102) (.c (.i .i64 0)))⟩,
  ⟨(some 104), (some (98, false)), (.eqb true (.t 101) (.t 103))⟩,
  ⟨(some 105), none, (.pick (.t 98) (.c (.b true)) (.t 104))⟩] t H) := runR_reg'
def d3_24 : List AOper := [
  ⟨(some 6), none, (.val (.c (.b false)))⟩]
theorem r3_24 {fn : AFun} {K : List AItem} {t : Nat → AV} {H : AH} {T : Tbl} : runR T fn (.code (.reg d3_24) :: K) t H = regR T fn K (aops (callR T) [
  ⟨(some 6), none, (.val (.c (.b false)))⟩] t H) := runR_reg'
def d3_25 : List AOper := [
  ⟨(some 106), none, (.val (.t 12))⟩,
  ⟨(some 107), none, (.val (.t 16))⟩,
  ⟨none, none, (.mu [0] (.t 106) (.t 107) (.c (.b true)))⟩]
theorem r3_25 {fn : AFun} {K : List AItem} {t : Nat → AV} {H : AH} {T : Tbl} : runR T fn (.code (.reg d3_25) :: K) t H = regR T fn K (aops (callR T) [
  ⟨(some 106), none, (.val (.t 12))⟩,
  ⟨(some 107), none, (.val (.t 16))⟩,
  ⟨none, none, (.mu [0] (.t 106) (.t 107) (.c (.b true)))⟩] t H) := runR_reg'
def d3_26 : List AOper := [
  ⟨(some 108), none, (.bin .add (.t 82) (.c (.i .i64 1)))⟩,
  ⟨(some 82), none, (.val (.t 108))⟩]
theorem r3_26 {fn : AFun} {K : List AItem} {t : Nat → AV} {H : AH} {T : Tbl} : runR T fn (.code (.reg d3_26) :: K) t H = regR T fn K (aops (callR T) [
  ⟨(some 108), none, (.bin .add (.t 82) (.c (.i .i64 1)))⟩,
  ⟨(some 82), none, (.val (.t 108))⟩] t H) := runR_reg'
def l3_27 : ACode := (.seq (.reg d3_21) (.seq (.cond (.t 83) .skip (.exit 5)) (.seq (.block 6 (.seq (.reg d3_22) (.seq (.seq (.reg d3_23) (.cond (.t 105) (.seq (.reg d3_24) .ret) .skip)) (.reg d3_25)))) (.reg d3_26))))
def d3_28 : List AOper := [
  ⟨(some 71), none, (.val (.t 13))⟩,
  ⟨(some 72), none, (.bin .add (.t 71) (.c (.i .i64 1)))⟩,
  ⟨(some 13), none, (.val (.t 72))⟩]
theorem r3_28 {fn : AFun} {K : List AItem} {t : Nat → AV} {H : AH} {T : Tbl} : runR T fn (.code (.reg d3_28) :: K) t H = regR T fn K (aops (callR T) [
  ⟨(some 71), none, (.val (.t 13))⟩,
  ⟨(some 72), none, (.bin .add (.t 71) (.c (.i .i64 1)))⟩,
  ⟨(some 13), none, (.val (.t 72))⟩] t H) := runR_reg'
def l3_29 : ACode := (.seq (.seq (.reg d3_16) (.cond (.t 70) .skip (.exit 3))) (.seq (.block 4 (.seq (.reg d3_17) (.seq (.seq (.reg d3_18) (.cond (.t 76) (.reg d3_19) .skip)) (.seq (.reg d3_20) (.block 5 (.loop l3_27)))))) (.reg d3_28)))
def d3_30 : List AOper := [
  ⟨(some 109), none, (.bin .add (.t 39) (.c (.i .i64 1)))⟩,
  ⟨(some 39), none, (.val (.t 109))⟩]
theorem r3_30 {fn : AFun} {K : List AItem} {t : Nat → AV} {H : AH} {T : Tbl} : runR T fn (.code (.reg d3_30) :: K) t H = regR T fn K (aops (callR T) [
  ⟨(some 109), none, (.bin .add (.t 39) (.c (.i .i64 1)))⟩,
  ⟨(some 39), none, (.val (.t 109))⟩] t H) := runR_reg'
def l3_31 : ACode := (.seq (.reg d3_6) (.seq (.cond (.t 40) .skip (.exit 0)) (.seq (.block 1 (.seq (.reg d3_7) (.seq (.seq (.reg d3_8) (.block 2 (.seq (.reg d3_9) (.cond (.t 51) (.reg d3_10) (.seq (.reg d3_11) (.cond (.t 61) (.reg d3_12) (.reg d3_13))))))) (.seq (.reg d3_14) (.seq (.reg d3_15) (.block 3 (.loop l3_29))))))) (.reg d3_30))))
def d3_32 : List AOper := [
  ⟨(some 110), none, (.call 15 [])⟩,
  ⟨(some 6), none, (.val (.t 110))⟩]
theorem r3_32 {fn : AFun} {K : List AItem} {t : Nat → AV} {H : AH} {T : Tbl} : runR T fn (.code (.reg d3_32) :: K) t H = regR T fn K (aops (callR T) [
  ⟨(some 110), none, (.call 15 [])⟩,
  ⟨(some 6), none, (.val (.t 110))⟩] t H) := runR_reg'
def a3 : AFun := ⟨111, [(.tmp 6)], (.seq (.reg d3_0) (.seq (.reg d3_1) (.seq (.reg d3_2) (.seq (.seq (.reg d3_3) (.cond (.t 35) (.seq (.reg d3_4) .ret) .skip)) (.seq (.seq (.reg d3_5) (.block 0 (.loop l3_31))) (.seq (.reg d3_32) .ret))))))⟩
theorem a3_ok : cfun Try.prog 3 = some a3 := by kernel_rfl
/-- futtock/futtocklaw10.SlotsOnce -/
def d4_0 : List AOper := [
  ⟨(some 6), none, (.val (.c (.b false)))⟩]
theorem r4_0 {fn : AFun} {K : List AItem} {t : Nat → AV} {H : AH} {T : Tbl} : runR T fn (.code (.reg d4_0) :: K) t H = regR T fn K (aops (callR T) [
  ⟨(some 6), none, (.val (.c (.b false)))⟩] t H) := runR_reg'
def d4_1 : List AOper := [
  ⟨(some 20), none, (.val (.t 0))⟩,
  ⟨(some 21), none, (.cvi .i64 (.t 20))⟩,
  ⟨(some 22), none, (.bin .rem (.t 21) (.c (.i .i64 12)))⟩,
  ⟨(some 23), none, (.bin .add (.t 22) (.c (.i .i64 1)))⟩,
  ⟨(some 7), none, (.val (.t 23))⟩]
theorem r4_1 {fn : AFun} {K : List AItem} {t : Nat → AV} {H : AH} {T : Tbl} : runR T fn (.code (.reg d4_1) :: K) t H = regR T fn K (aops (callR T) [
  ⟨(some 20), none, (.val (.t 0))⟩,
  ⟨(some 21), none, (.cvi .i64 (.t 20))⟩,
  ⟨(some 22), none, (.bin .rem (.t 21) (.c (.i .i64 12)))⟩,
  ⟨(some 23), none, (.bin .add (.t 22) (.c (.i .i64 1)))⟩,
  ⟨(some 7), none, (.val (.t 23))⟩] t H) := runR_reg'
def d4_2 : List AOper := [
  ⟨(some 25), none, (.val (.t 7))⟩,
  ⟨(some 26), none, (.val (.t 1))⟩,
  ⟨(some 27), none, (.cvi .i64 (.t 26))⟩,
  ⟨(some 28), none, (.bin .rem (.t 27) (.c (.i .i64 5)))⟩,
  ⟨(some 29), none, (.bin .add (.t 28) (.c (.i .i64 1)))⟩,
  ⟨(some 30), none, (.call 7 [(.t 25), (.t 29)])⟩,
  ⟨(some 24), none, (.val (.t 30))⟩,
  ⟨(some 31), none, (.ext (.t 24) 0)⟩,
  ⟨(some 32), none, (.ext (.t 24) 1)⟩,
  ⟨(some 8), none, (.val (.t 31))⟩,
  ⟨(some 9), none, (.val (.t 32))⟩]
theorem r4_2 {fn : AFun} {K : List AItem} {t : Nat → AV} {H : AH} {T : Tbl} : runR T fn (.code (.reg d4_2) :: K) t H = regR T fn K (aops (callR T) [
  ⟨(some 25), none, (.val (.t 7))⟩,
  ⟨(some 26), none, (.val (.t 1))⟩,
  ⟨(some 27), none, (.cvi .i64 (.t 26))⟩,
  ⟨(some 28), none, (.bin .rem (.t 27) (.c (.i .i64 5)))⟩,
  ⟨(some 29), none, (.bin .add (.t 28) (.c (.i .i64 1)))⟩,
  ⟨(some 30), none, (.call 7 [(.t 25), (.t 29)])⟩,
  ⟨(some 24), none, (.val (.t 30))⟩,
  ⟨(some 31), none, (.ext (.t 24) 0)⟩,
  ⟨(some 32), none, (.ext (.t 24) 1)⟩,
  ⟨(some 8), none, (.val (.t 31))⟩,
  ⟨(some 9), none, (.val (.t 32))⟩] t H) := runR_reg'
def d4_3 : List AOper := [
  ⟨(some 33), none, (.val (.t 8))⟩,
  ⟨(some 34), none, (.eqn 0 false (.t 33) (.c (.p none)))⟩,
  ⟨(some 35), none, (.val (.t 34))⟩,
  ⟨(some 36), (some (35, false)), (.val (.t 9))⟩,
  ⟨(some 37), (some (35, false)), (.bin .neq (.t 36) (.c (.i .i64 0)))⟩,
  ⟨(some 38), none, (.pick (.t 35) (.c (.b true)) (.t 37))⟩]
theorem r4_3 {fn : AFun} {K : List AItem} {t : Nat → AV} {H : AH} {T : Tbl} : runR T fn (.code (.reg d4_3) :: K) t H = regR T fn K (aops (callR T) [
  ⟨(some 33), none, (.val (.t 8))⟩,
  ⟨(some 34), none, (.eqn 0 false (.t 33) (.c (.p none)))⟩,
  ⟨(some 35), none, (.val (.t 34))⟩,
  ⟨(some 36), (some (35, false)), (.val (.t 9))⟩,
  ⟨(some 37), (some (35, false)), (.bin .neq (.t 36) (.c (.i .i64 0)))⟩,
  ⟨(some 38), none, (.pick (.t 35) (.c (.b true)) (.t 37))⟩] t H) := runR_reg'
def d4_4 : List AOper := [
  ⟨(some 6), none, (.val (.c (.b false)))⟩]
theorem r4_4 {fn : AFun} {K : List AItem} {t : Nat → AV} {H : AH} {T : Tbl} : runR T fn (.code (.reg d4_4) :: K) t H = regR T fn K (aops (callR T) [
  ⟨(some 6), none, (.val (.c (.b false)))⟩] t H) := runR_reg'
def d4_5 : List AOper := [
  ⟨(some 39), none, .mkm⟩,
  ⟨(some 10), none, (.val (.t 39))⟩]
theorem r4_5 {fn : AFun} {K : List AItem} {t : Nat → AV} {H : AH} {T : Tbl} : runR T fn (.code (.reg d4_5) :: K) t H = regR T fn K (aops (callR T) [
  ⟨(some 39), none, .mkm⟩,
  ⟨(some 10), none, (.val (.t 39))⟩] t H) := runR_reg'
def d4_6 : List AOper := [
  ⟨(some 40), none, .mkm⟩,
  ⟨(some 11), none, (.val (.t 40))⟩]
theorem r4_6 {fn : AFun} {K : List AItem} {t : Nat → AV} {H : AH} {T : Tbl} : runR T fn (.code (.reg d4_6) :: K) t H = regR T fn K (aops (callR T) [
  ⟨(some 40), none, .mkm⟩,
  ⟨(some 11), none, (.val (.t 40))⟩] t H) := runR_reg'
def d4_7 : List AOper := [
  ⟨(some 12), none, (.val (.c (.i .i64 0)))⟩]
theorem r4_7 {fn : AFun} {K : List AItem} {t : Nat → AV} {H : AH} {T : Tbl} : runR T fn (.code (.reg d4_7) :: K) t H = regR T fn K (aops (callR T) [
  ⟨(some 12), none, (.val (.c (.i .i64 0)))⟩] t H) := runR_reg'
def d4_8 : List AOper := [
  ⟨(some 41), none, (.val (.t 2))⟩,
  ⟨(some 42), none, (.call 8 [(.t 41)])⟩,
  ⟨(some 43), none, (.len (.t 42))⟩,
  ⟨(some 44), none, (.val (.c (.i .i64 0)))⟩]
theorem r4_8 {fn : AFun} {K : List AItem} {t : Nat → AV} {H : AH} {T : Tbl} : runR T fn (.code (.reg d4_8) :: K) t H = regR T fn K (aops (callR T) [
  ⟨(some 41), none, (.val (.t 2))⟩,
  ⟨(some 42), none, (.call 8 [(.t 41)])⟩,
  ⟨(some 43), none, (.len (.t 42))⟩,
  ⟨(some 44), none, (.val (.c (.i .i64 0)))⟩] t H) := runR_reg'
def d4_9 : List AOper := [
  ⟨(some 45), none, (.bin .lss (.t 44) (.t 43))⟩]
theorem r4_9 {fn : AFun} {K : List AItem} {t : Nat → AV} {H : AH} {T : Tbl} : runR T fn (.code (.reg d4_9) :: K) t H = regR T fn K (aops (callR T) [
  ⟨(some 45), none, (.bin .lss (.t 44) (.t 43))⟩] t H) := runR_reg'
def d4_10 : List AOper := [
  ⟨(some 46), none, (.ia 3 (.t 42) (.t 44))⟩,
  ⟨(some 47), none, (.ld (some 3) (.t 46))⟩,
  ⟨(some 14), none, (.alloc [(.i .u8 0), (.i .i64 0), (.i .i64 0)])⟩,
  ⟨none, none, (.st 3 (.t 14) (.t 47))⟩]
theorem r4_10 {fn : AFun} {K : List AItem} {t : Nat → AV} {H : AH} {T : Tbl} : runR T fn (.code (.reg d4_10) :: K) t H = regR T fn K (aops (callR T) [
  ⟨(some 46), none, (.ia 3 (.t 42) (.t 44))⟩,
  ⟨(some 47), none, (.ld (some 3) (.t 46))⟩,
  ⟨(some 14), none, (.alloc [(.i .u8 0), (.i .i64 0), (.i .i64 0)])⟩,
  ⟨none, none, (.st 3 (.t 14) (.t 47))⟩] t H) := runR_reg'
def d4_11 : List AOper := [
  ⟨(some 48), none, (.fa 1 (.t 14))⟩,
  ⟨(some 49), none, (.ld none (.t 48))⟩,
  ⟨(some 50), none, (.bin .and (.t 49) (.c (.i .i64 3)))⟩,
  ⟨(some 15), none, (.val (.t 50))⟩]
theorem r4_11 {fn : AFun} {K : List AItem} {t : Nat → AV} {H : AH} {T : Tbl} : runR T fn (.code (.reg d4_11) :: K) t H = regR T fn K (aops (callR T) [
  ⟨(some 48), none, (.fa 1 (.t 14))⟩,
  ⟨(some 49), none, (.ld none (.t 48))⟩,
  ⟨(some 50), none, (.bin .and (.t 49) (.c (.i .i64 3)))⟩,
  ⟨(some 15), none, (.val (.t 50))⟩] t H) := runR_reg'
def d4_12 : List AOper := [
  ⟨(some 51), none, (.fa 0 (.t 14))⟩,
  ⟨(some 52), none, (.ld none (.t 51))⟩,
  ⟨(some 53), none, (.bin .rem (.t 52) (.c (.i .u8 4)))⟩]
theorem r4_12 {fn : AFun} {K : List AItem} {t : Nat → AV} {H : AH} {T : Tbl} : runR T fn (.code (.reg d4_12) :: K) t H = regR T fn K (aops (callR T) [
  ⟨(some 51), none, (.fa 0 (.t 14))⟩,
  ⟨(some 52), none, (.ld none (.t 51))⟩,
  ⟨(some 53), none, (.bin .rem (.t 52) (.c (.i .u8 4)))⟩] t H) := runR_reg'
def d4_13 : List AOper := [
  ⟨(some 93), none, (.bin .eql (.t 53) (.c (.i .u8 1)))⟩,
  ⟨(some 92), none, (.val (.t 93))⟩]
theorem r4_13 {fn : AFun} {K : List AItem} {t : Nat → AV} {H : AH} {T : Tbl} : runR T fn (.code (.reg d4_13) :: K) t H = regR T fn K (aops (callR T) [
  ⟨(some 93), none, (.bin .eql (.t 53) (.c (.i .u8 1)))⟩,
  ⟨(some 92), none, (.val (.t 93))⟩] t H) := runR_reg'
def d4_14 : List AOper := [
  ⟨(some 94), none, (.fa 2 (.t 14))⟩,
  ⟨(some 95), none, (.ld none (.t 94))⟩,
  ⟨(some 96), none, (.bin .and (.t 95) (.c (.i .i64 15)))⟩,
  ⟨(some 16), none, (.val (.t 96))⟩]
theorem r4_14 {fn : AFun} {K : List AItem} {t : Nat → AV} {H : AH} {T : Tbl} : runR T fn (.code (.reg d4_14) :: K) t H = regR T fn K (aops (callR T) [
  ⟨(some 94), none, (.fa 2 (.t 14))⟩,
  ⟨(some 95), none, (.ld none (.t 94))⟩,
  ⟨(some 96), none, (.bin .and (.t 95) (.c (.i .i64 15)))⟩,
  ⟨(some 16), none, (.val (.t 96))⟩] t H) := runR_reg'
def d4_15 : List (AOper × List Nat) := [
  (⟨(some 97), none, (.val (.t 8))⟩, []),
  (⟨(some 98), none, (.val (.t 15))⟩, []),
  (⟨(some 99), none, (.val (.t 16))⟩, []),
  (⟨(some 100), none, (.call 9 [(.t 97), (.t 98), (.t 99)])⟩, []),
  (⟨(some 101), none, (.bin .eql (.t 100) (.c (.i .i64 0)))⟩, []),
  (⟨(some 102), none, (.val (.t 11))⟩, []),
  (⟨(some 103), none, (.val (.t 16))⟩, []),
  (⟨(some 104), none, (.lk [0] (.b false) (.t 102) (.t 103) false)⟩, [2]),
  (⟨(some 105), none, (.eqb true (.t 101) (.t 104))⟩, [])]
theorem r4_15 {fn : AFun} {K : List AItem} {t : Nat → AV} {H : AH} {T : Tbl} : runR T fn (.code (.drw d4_15) :: K) t H = regR T fn K (adrn (callR T) [
  (⟨(some 97), none, (.val (.t 8))⟩, []),
  (⟨(some 98), none, (.val (.t 15))⟩, []),
  (⟨(some 99), none, (.val (.t 16))⟩, []),
  (⟨(some 100), none, (.call 9 [(.t 97), (.t 98), (.t 99)])⟩, []),
  (⟨(some 101), none, (.bin .eql (.t 100) (.c (.i .i64 0)))⟩, []),
  (⟨(some 102), none, (.val (.t 11))⟩, []),
  (⟨(some 103), none, (.val (.t 16))⟩, []),
  (⟨(some 104), none, (.lk [0] (.b false) (.t 102) (.t 103) false)⟩, [2]),
  (⟨(some 105), none, (.eqb true (.t 101) (.t 104))⟩, [])] t H [H]) := runR_free rfl
def d4_16 : List AOper := [
  ⟨(some 6), none, (.val (.c (.b false)))⟩]
theorem r4_16 {fn : AFun} {K : List AItem} {t : Nat → AV} {H : AH} {T : Tbl} : runR T fn (.code (.reg d4_16) :: K) t H = regR T fn K (aops (callR T) [
  ⟨(some 6), none, (.val (.c (.b false)))⟩] t H) := runR_reg'
def d4_17 : List AOper := [
  ⟨(some 106), none, (.val (.t 11))⟩,
  ⟨(some 107), none, (.val (.t 16))⟩,
  ⟨(some 108), none, (.lk [0] (.b false) (.t 106) (.t 107) false)⟩]
theorem r4_17 {fn : AFun} {K : List AItem} {t : Nat → AV} {H : AH} {T : Tbl} : runR T fn (.code (.reg d4_17) :: K) t H = regR T fn K (aops (callR T) [
  ⟨(some 106), none, (.val (.t 11))⟩,
  ⟨(some 107), none, (.val (.t 16))⟩,
  ⟨(some 108), none, (.lk [0] (.b false) (.t 106) (.t 107) false)⟩] t H) := runR_reg'
def d4_18 : List AOper := [
  ⟨(some 109), none, (.val (.t 12))⟩,
  ⟨(some 110), none, (.bin .sub (.t 109) (.c (.i .i64 1)))⟩,
  ⟨(some 12), none, (.val (.t 110))⟩]
theorem r4_18 {fn : AFun} {K : List AItem} {t : Nat → AV} {H : AH} {T : Tbl} : runR T fn (.code (.reg d4_18) :: K) t H = regR T fn K (aops (callR T) [
  ⟨(some 109), none, (.val (.t 12))⟩,
  ⟨(some 110), none, (.bin .sub (.t 109) (.c (.i .i64 1)))⟩,
  ⟨(some 12), none, (.val (.t 110))⟩] t H) := runR_reg'
def d4_19 : List AOper := [
  ⟨(some 111), none, (.val (.t 11))⟩,
  ⟨(some 112), none, (.val (.t 16))⟩,
  ⟨none, none, (.mu [0] (.t 111) (.t 112) (.c (.b false)))⟩]
theorem r4_19 {fn : AFun} {K : List AItem} {t : Nat → AV} {H : AH} {T : Tbl} : runR T fn (.code (.reg d4_19) :: K) t H = regR T fn K (aops (callR T) [
  ⟨(some 111), none, (.val (.t 11))⟩,
  ⟨(some 112), none, (.val (.t 16))⟩,
  ⟨none, none, (.mu [0] (.t 111) (.t 112) (.c (.b false)))⟩] t H) := runR_reg'
def d4_20 : List AOper := [
  ⟨(some 114), none, (.bin .eql (.t 53) (.c (.i .u8 2)))⟩,
  ⟨(some 113), none, (.val (.t 114))⟩]
theorem r4_20 {fn : AFun} {K : List AItem} {t : Nat → AV} {H : AH} {T : Tbl} : runR T fn (.code (.reg d4_20) :: K) t H = regR T fn K (aops (callR T) [
  ⟨(some 114), none, (.bin .eql (.t 53) (.c (.i .u8 2)))⟩,
  ⟨(some 113), none, (.val (.t 114))⟩] t H) := runR_reg'
def d4_21 : List AOper := [
  ⟨(some 115), none, (.val (.t 8))⟩,
  ⟨(some 116), none, (.val (.t 15))⟩,
  ⟨(some 117), none, (.call 10 [(.t 115), (.t 116)])⟩]
theorem r4_21 {fn : AFun} {K : List AItem} {t : Nat → AV} {H : AH} {T : Tbl} : runR T fn (.code (.reg d4_21) :: K) t H = regR T fn K (aops (callR T) [
  ⟨(some 115), none, (.val (.t 8))⟩,
  ⟨(some 116), none, (.val (.t 15))⟩,
  ⟨(some 117), none, (.call 10 [(.t 115), (.t 116)])⟩] t H) := runR_reg'
def d4_22 : List AOper := [
  ⟨(some 55), none, (.val (.t 8))⟩,
  ⟨(some 56), none, (.val (.t 15))⟩,
  ⟨(some 57), none, (.call 11 [(.t 55), (.t 56)])⟩,
  ⟨(some 54), none, (.val (.t 57))⟩,
  ⟨(some 58), none, (.ext (.t 54) 0)⟩,
  ⟨(some 59), none, (.ext (.t 54) 1)⟩,
  ⟨(some 60), none, (.ext (.t 54) 2)⟩,
  ⟨(some 17), none, (.val (.t 58))⟩,
  ⟨(some 18), none, (.val (.t 59))⟩,
  ⟨(some 19), none, (.val (.t 60))⟩]
theorem r4_22 {fn : AFun} {K : List AItem} {t : Nat → AV} {H : AH} {T : Tbl} : runR T fn (.code (.reg d4_22) :: K) t H = regR T fn K (aops (callR T) [
  ⟨(some 55), none, (.val (.t 8))⟩,
  ⟨(some 56), none, (.val (.t 15))⟩,
  ⟨(some 57), none, (.call 11 [(.t 55), (.t 56)])⟩,
  ⟨(some 54), none, (.val (.t 57))⟩,
  ⟨(some 58), none, (.ext (.t 54) 0)⟩,
  ⟨(some 59), none, (.ext (.t 54) 1)⟩,
  ⟨(some 60), none, (.ext (.t 54) 2)⟩,
  ⟨(some 17), none, (.val (.t 58))⟩,
  ⟨(some 18), none, (.val (.t 59))⟩,
  ⟨(some 19), none, (.val (.t 60))⟩] t H) := runR_reg'
def d4_23 : List AOper := [
  ⟨(some 61), none, (.val (.t 19))⟩,
  ⟨(some 62), none, (.bin .neq (.t 61) (.c (.i .i64 0)))⟩]
theorem r4_23 {fn : AFun} {K : List AItem} {t : Nat → AV} {H : AH} {T : Tbl} : runR T fn (.code (.reg d4_23) :: K) t H = regR T fn K (aops (callR T) [
  ⟨(some 61), none, (.val (.t 19))⟩,
  ⟨(some 62), none, (.bin .neq (.t 61) (.c (.i .i64 0)))⟩] t H) := runR_reg'
def d4_24 : List AOper := [
  ⟨(some 63), none, (.val (.t 19))⟩,
  ⟨(some 64), none, (.bin .neq (.t 63) (.c (.i .i64 11)))⟩]
theorem r4_24 {fn : AFun} {K : List AItem} {t : Nat → AV} {H : AH} {T : Tbl} : runR T fn (.code (.reg d4_24) :: K) t H = regR T fn K (aops (callR T) [
  ⟨(some 63), none, (.val (.t 19))⟩,
  ⟨(some 64), none, (.bin .neq (.t 63) (.c (.i .i64 11)))⟩] t H) := runR_reg'
def d4_25 : List AOper := [
  ⟨(some 6), none, (.val (.c (.b false)))⟩]
theorem r4_25 {fn : AFun} {K : List AItem} {t : Nat → AV} {H : AH} {T : Tbl} : runR T fn (.code (.reg d4_25) :: K) t H = regR T fn K (aops (callR T) [
  ⟨(some 6), none, (.val (.c (.b false)))⟩] t H) := runR_reg'
def d4_26 : List AOper := [
  ⟨(some 65), none, (.val (.t 10))⟩,
  ⟨(some 66), none, (.val (.t 17))⟩,
  ⟨(some 67), none, (.val (.t 18))⟩,
  ⟨(some 68), none, (.build [(.i .i64 0), (.i .u32 0)] [(0, 1, (.t 66)), (1, 1, (.t 67))])⟩,
  ⟨(some 69), none, (.lk [9, 0, 0] (.b false) (.t 65) (.t 68) false)⟩,
  ⟨(some 70), none, (.val (.t 69))⟩,
  ⟨(some 71), (some (70, false)), (.val (.t 11))⟩,
  ⟨(some 72), (some (70, false)), (.val (.t 17))⟩,
  ⟨(some 73), (some (70, false)), (.lk [0] (.b false) (.t 71) (.t 72) false)⟩,
  ⟨(some 74), none, (.pick (.t 70) (.c (.b true)) (.t 73))⟩,
  ⟨(some 75), none, (.val (.t 74))⟩,
  ⟨(some 76), (some (75, false)), (.val (.t 17))⟩,
  ⟨(some 77), (some (75, false)), (.bin .lss (.t 76) (.c (.i .i64 0)))⟩,
  ⟨(some 78), none, (.pick (.t 75) (.c (.b true)) (.t 77))⟩,
  ⟨(some 79), none, (.val (.t 78))⟩,
  ⟨(some 80), (some (79, false)), (.val (.t 17))⟩,
  ⟨(some 81), (some (79, false)), (.val (.t 7))⟩,
  ⟨(some 82), (some (79, false)), (.bin .geq (.t 80) (.t 81))⟩,
  ⟨(some 83), none, (.pick (.t 79) (.c (.b true)) (.t 82))⟩]
theorem r4_26 {fn : AFun} {K : List AItem} {t : Nat → AV} {H : AH} {T : Tbl} : runR T fn (.code (.reg d4_26) :: K) t H = regR T fn K (aops (callR T) [
  ⟨(some 65), none, (.val (.t 10))⟩,
  ⟨(some 66), none, (.val (.t 17))⟩,
  ⟨(some 67), none, (.val (.t 18))⟩,
  ⟨(some 68), none, (.build [(.i .i64 0), (.i .u32 0)] [(0, 1, (.t 66)), (1, 1, (.t 67))])⟩,
  ⟨(some 69), none, (.lk [9, 0, 0] (.b false) (.t 65) (.t 68) false)⟩,
  ⟨(some 70), none, (.val (.t 69))⟩,
  ⟨(some 71), (some (70, false)), (.val (.t 11))⟩,
  ⟨(some 72), (some (70, false)), (.val (.t 17))⟩,
  ⟨(some 73), (some (70, false)), (.lk [0] (.b false) (.t 71) (.t 72) false)⟩,
  ⟨(some 74), none, (.pick (.t 70) (.c (.b true)) (.t 73))⟩,
  ⟨(some 75), none, (.val (.t 74))⟩,
  ⟨(some 76), (some (75, false)), (.val (.t 17))⟩,
  ⟨(some 77), (some (75, false)), (.bin .lss (.t 76) (.c (.i .i64 0)))⟩,
  ⟨(some 78), none, (.pick (.t 75) (.c (.b true)) (.t 77))⟩,
  ⟨(some 79), none, (.val (.t 78))⟩,
  ⟨(some 80), (some (79, false)), (.val (.t 17))⟩,
  ⟨(some 81), (some (79, false)), (.val (.t 7))⟩,
  ⟨(some 82), (some (79, false)), (.bin .geq (.t 80) (.t 81))⟩,
  ⟨(some 83), none, (.pick (.t 79) (.c (.b true)) (.t 82))⟩] t H) := runR_reg'
def d4_27 : List AOper := [
  ⟨(some 6), none, (.val (.c (.b false)))⟩]
theorem r4_27 {fn : AFun} {K : List AItem} {t : Nat → AV} {H : AH} {T : Tbl} : runR T fn (.code (.reg d4_27) :: K) t H = regR T fn K (aops (callR T) [
  ⟨(some 6), none, (.val (.c (.b false)))⟩] t H) := runR_reg'
def d4_28 : List AOper := [
  ⟨(some 84), none, (.val (.t 10))⟩,
  ⟨(some 85), none, (.val (.t 17))⟩,
  ⟨(some 86), none, (.val (.t 18))⟩,
  ⟨(some 87), none, (.build [(.i .i64 0), (.i .u32 0)] [(0, 1, (.t 85)), (1, 1, (.t 86))])⟩,
  ⟨(some 88), none, (.val (.t 11))⟩,
  ⟨(some 89), none, (.val (.t 17))⟩,
  ⟨none, none, (.mu [9, 0, 0] (.t 84) (.t 87) (.c (.b true)))⟩,
  ⟨none, none, (.mu [0] (.t 88) (.t 89) (.c (.b true)))⟩]
theorem r4_28 {fn : AFun} {K : List AItem} {t : Nat → AV} {H : AH} {T : Tbl} : runR T fn (.code (.reg d4_28) :: K) t H = regR T fn K (aops (callR T) [
  ⟨(some 84), none, (.val (.t 10))⟩,
  ⟨(some 85), none, (.val (.t 17))⟩,
  ⟨(some 86), none, (.val (.t 18))⟩,
  ⟨(some 87), none, (.build [(.i .i64 0), (.i .u32 0)] [(0, 1, (.t 85)), (1, 1, (.t 86))])⟩,
  ⟨(some 88), none, (.val (.t 11))⟩,
  ⟨(some 89), none, (.val (.t 17))⟩,
  ⟨none, none, (.mu [9, 0, 0] (.t 84) (.t 87) (.c (.b true)))⟩,
  ⟨none, none, (.mu [0] (.t 88) (.t 89) (.c (.b true)))⟩] t H) := runR_reg'
def d4_29 : List AOper := [
  ⟨(some 90), none, (.val (.t 12))⟩,
  ⟨(some 91), none, (.bin .add (.t 90) (.c (.i .i64 1)))⟩,
  ⟨(some 12), none, (.val (.t 91))⟩]
theorem r4_29 {fn : AFun} {K : List AItem} {t : Nat → AV} {H : AH} {T : Tbl} : runR T fn (.code (.reg d4_29) :: K) t H = regR T fn K (aops (callR T) [
  ⟨(some 90), none, (.val (.t 12))⟩,
  ⟨(some 91), none, (.bin .add (.t 90) (.c (.i .i64 1)))⟩,
  ⟨(some 12), none, (.val (.t 91))⟩] t H) := runR_reg'
def d4_30 : List AOper := [
  ⟨(some 118), none, (.val (.t 8))⟩,
  ⟨(some 119), none, (.call 12 [(.t 118)])⟩,
  ⟨(some 120), none, (.len (.t 119))⟩,
  ⟨(some 121), none, (.val (.t 12))⟩,
  ⟨(some 122), none, (.bin .neq (.t 120) (.t 121))⟩,
  ⟨(some 123), none, (.val (.t 122))⟩,
  ⟨(some 124), (some (123, false)), (.val (.t 12))⟩,
  ⟨(some 125), (some (123, false)), (.val (.t 7))⟩,
  ⟨(some 126), (some (123, false)), (.bin .gtr (.t 124) (.t 125))⟩,
  ⟨(some 127), none, (.pick (.t 123) (.c (.b true)) (.t 126))⟩,
  ⟨(some 128), none, (.val (.t 127))⟩,
  ⟨(some 129), (some (128, false)), (.val (.t 8))⟩,
  ⟨(some 130), (some (128, false)), (.call 16 [(.t 129)])⟩,
  ⟨(some 131), (some (128, false)), (.val (.t 7))⟩,
  ⟨(some 132), (some (128, false)), (.val (.t 12))⟩,
  ⟨(some 133), (some (128, false)), (.bin .sub (.t 131) (.t 132))⟩,
  ⟨(some 134), (some (128, false)), (.bin .neq (.t 130) (.t 133))⟩,
  ⟨(some 135), none, (.pick (.t 128) (.c (.b true)) (.t 134))⟩]
theorem r4_30 {fn : AFun} {K : List AItem} {t : Nat → AV} {H : AH} {T : Tbl} : runR T fn (.code (.reg d4_30) :: K) t H = regR T fn K (aops (callR T) [
  ⟨(some 118), none, (.val (.t 8))⟩,
  ⟨(some 119), none, (.call 12 [(.t 118)])⟩,
  ⟨(some 120), none, (.len (.t 119))⟩,
  ⟨(some 121), none, (.val (.t 12))⟩,
  ⟨(some 122), none, (.bin .neq (.t 120) (.t 121))⟩,
  ⟨(some 123), none, (.val (.t 122))⟩,
  ⟨(some 124), (some (123, false)), (.val (.t 12))⟩,
  ⟨(some 125), (some (123, false)), (.val (.t 7))⟩,
  ⟨(some 126), (some (123, false)), (.bin .gtr (.t 124) (.t 125))⟩,
  ⟨(some 127), none, (.pick (.t 123) (.c (.b true)) (.t 126))⟩,
  ⟨(some 128), none, (.val (.t 127))⟩,
  ⟨(some 129), (some (128, false)), (.val (.t 8))⟩,
  ⟨(some 130), (some (128, false)), (.call 16 [(.t 129)])⟩,
  ⟨(some 131), (some (128, false)), (.val (.t 7))⟩,
  ⟨(some 132), (some (128, false)), (.val (.t 12))⟩,
  ⟨(some 133), (some (128, false)), (.bin .sub (.t 131) (.t 132))⟩,
  ⟨(some 134), (some (128, false)), (.bin .neq (.t 130) (.t 133))⟩,
  ⟨(some 135), none, (.pick (.t 128) (.c (.b true)) (.t 134))⟩] t H) := runR_reg'
def d4_31 : List AOper := [
  ⟨(some 6), none, (.val (.c (.b false)))⟩]
theorem r4_31 {fn : AFun} {K : List AItem} {t : Nat → AV} {H : AH} {T : Tbl} : runR T fn (.code (.reg d4_31) :: K) t H = regR T fn K (aops (callR T) [
  ⟨(some 6), none, (.val (.c (.b false)))⟩] t H) := runR_reg'
def d4_32 : List AOper := [
  ⟨(some 136), none, (.bin .add (.t 44) (.c (.i .i64 1)))⟩,
  ⟨(some 44), none, (.val (.t 136))⟩]
theorem r4_32 {fn : AFun} {K : List AItem} {t : Nat → AV} {H : AH} {T : Tbl} : runR T fn (.code (.reg d4_32) :: K) t H = regR T fn K (aops (callR T) [
  ⟨(some 136), none, (.bin .add (.t 44) (.c (.i .i64 1)))⟩,
  ⟨(some 44), none, (.val (.t 136))⟩] t H) := runR_reg'
def l4_33 : ACode := (.seq (.reg d4_9) (.seq (.cond (.t 45) .skip (.exit 0)) (.seq (.block 1 (.seq (.reg d4_10) (.seq (.reg d4_11) (.seq (.seq (.reg d4_12) (.block 2 (.seq (.reg d4_13) (.cond (.t 92) (.seq (.reg d4_14) (.seq (.seq (.drw d4_15) (.cond (.t 105) (.seq (.reg d4_16) .ret) .skip)) (.seq (.seq (.reg d4_17) (.cond (.t 108) (.reg d4_18) .skip)) (.reg d4_19)))) (.seq (.reg d4_20) (.cond (.t 113) (.reg d4_21) (.seq (.reg d4_22) (.seq (.seq (.reg d4_23) (.cond (.t 62) (.seq (.seq (.reg d4_24) (.cond (.t 64) (.seq (.reg d4_25) .ret) .skip)) (.exit 1)) .skip)) (.seq (.seq (.reg d4_26) (.cond (.t 83) (.seq (.reg d4_27) .ret) .skip)) (.seq (.reg d4_28) (.reg d4_29))))))))))) (.seq (.reg d4_30) (.cond (.t 135) (.seq (.reg d4_31) .ret) .skip)))))) (.reg d4_32))))
def d4_34 : List AOper := [
  ⟨(some 137), none, (.call 15 [])⟩,
  ⟨(some 6), none, (.val (.t 137))⟩]
theorem r4_34 {fn : AFun} {K : List AItem} {t : Nat → AV} {H : AH} {T : Tbl} : runR T fn (.code (.reg d4_34) :: K) t H = regR T fn K (aops (callR T) [
  ⟨(some 137), none, (.call 15 [])⟩,
  ⟨(some 6), none, (.val (.t 137))⟩] t H) := runR_reg'
def a4 : AFun := ⟨138, [(.tmp 6)], (.seq (.reg d4_0) (.seq (.reg d4_1) (.seq (.reg d4_2) (.seq (.seq (.reg d4_3) (.cond (.t 38) (.seq (.reg d4_4) .ret) .skip)) (.seq (.reg d4_5) (.seq (.reg d4_6) (.seq (.reg d4_7) (.seq (.seq (.reg d4_8) (.block 0 (.loop l4_33))) (.seq (.reg d4_34) .ret)))))))))⟩
theorem a4_ok : cfun Try.prog 4 = some a4 := by kernel_rfl
/-- futtock/futtocklaw10.SlotsPlays -/
def d5_0 : List AOper := [
  ⟨(some 6), none, (.val (.c (.b false)))⟩]
theorem r5_0 {fn : AFun} {K : List AItem} {t : Nat → AV} {H : AH} {T : Tbl} : runR T fn (.code (.reg d5_0) :: K) t H = regR T fn K (aops (callR T) [
  ⟨(some 6), none, (.val (.c (.b false)))⟩] t H) := runR_reg'
def d5_1 : List AOper := [
  ⟨(some 21), none, (.val (.t 0))⟩,
  ⟨(some 22), none, (.val (.t 1))⟩,
  ⟨(some 23), none, (.call 7 [(.t 21), (.t 22)])⟩,
  ⟨(some 20), none, (.val (.t 23))⟩,
  ⟨(some 24), none, (.ext (.t 20) 0)⟩,
  ⟨(some 25), none, (.ext (.t 20) 1)⟩,
  ⟨(some 7), none, (.val (.t 24))⟩,
  ⟨(some 8), none, (.val (.t 25))⟩]
theorem r5_1 {fn : AFun} {K : List AItem} {t : Nat → AV} {H : AH} {T : Tbl} : runR T fn (.code (.reg d5_1) :: K) t H = regR T fn K (aops (callR T) [
  ⟨(some 21), none, (.val (.t 0))⟩,
  ⟨(some 22), none, (.val (.t 1))⟩,
  ⟨(some 23), none, (.call 7 [(.t 21), (.t 22)])⟩,
  ⟨(some 20), none, (.val (.t 23))⟩,
  ⟨(some 24), none, (.ext (.t 20) 0)⟩,
  ⟨(some 25), none, (.ext (.t 20) 1)⟩,
  ⟨(some 7), none, (.val (.t 24))⟩,
  ⟨(some 8), none, (.val (.t 25))⟩] t H) := runR_reg'
def d5_2 : List AOper := [
  ⟨(some 27), none, (.val (.t 0))⟩,
  ⟨(some 28), none, (.val (.t 1))⟩,
  ⟨(some 29), none, (.call 17 [(.t 27), (.t 28)])⟩,
  ⟨(some 26), none, (.val (.t 29))⟩,
  ⟨(some 30), none, (.ext (.t 26) 0)⟩,
  ⟨(some 31), none, (.ext (.t 26) 1)⟩,
  ⟨(some 9), none, (.alloc [(.i .i64 0), (.i .i64 0), (.sl none 0 0 true 0)])⟩,
  ⟨none, none, (.st 3 (.t 9) (.t 30))⟩,
  ⟨(some 10), none, (.val (.t 31))⟩]
theorem r5_2 {fn : AFun} {K : List AItem} {t : Nat → AV} {H : AH} {T : Tbl} : runR T fn (.code (.reg d5_2) :: K) t H = regR T fn K (aops (callR T) [
  ⟨(some 27), none, (.val (.t 0))⟩,
  ⟨(some 28), none, (.val (.t 1))⟩,
  ⟨(some 29), none, (.call 17 [(.t 27), (.t 28)])⟩,
  ⟨(some 26), none, (.val (.t 29))⟩,
  ⟨(some 30), none, (.ext (.t 26) 0)⟩,
  ⟨(some 31), none, (.ext (.t 26) 1)⟩,
  ⟨(some 9), none, (.alloc [(.i .i64 0), (.i .i64 0), (.sl none 0 0 true 0)])⟩,
  ⟨none, none, (.st 3 (.t 9) (.t 30))⟩,
  ⟨(some 10), none, (.val (.t 31))⟩] t H) := runR_reg'
def d5_3 : List AOper := [
  ⟨(some 32), none, (.val (.t 8))⟩,
  ⟨(some 33), none, (.val (.t 10))⟩,
  ⟨(some 34), none, (.bin .neq (.t 32) (.t 33))⟩,
  ⟨(some 35), none, (.val (.t 34))⟩,
  ⟨(some 36), (some (35, false)), (.val (.t 10))⟩,
  ⟨(some 37), (some (35, false)), (.bin .neq (.t 36) (.c (.i .i64 0)))⟩,
  ⟨(some 38), none, (.pick (.t 35) (.c (.b true)) (.t 37))⟩,
  ⟨(some 39), none, (.val (.t 38))⟩,
  ⟨(some 40), (some (39, false)), (.val (.t 7))⟩,
  ⟨(some 41), (some (39, false)), (.eqn 0 false (.t 40) (.c (.p none)))⟩,
  ⟨(some 42), none, (.pick (.t 39) (.c (.b true)) (.t 41))⟩,
  ⟨(some 43), none, (.val (.t 42))⟩,
  ⟨(some 44), (some (43, false)), (.val (.t 0))⟩,
  ⟨(some 45), (some (43, false)), (.bin .gtr (.t 44) (.c (.i .i64 200)))⟩,
  ⟨(some 46), none, (.pick (.t 43) (.c (.b true)) (.t 45))⟩]
theorem r5_3 {fn : AFun} {K : List AItem} {t : Nat → AV} {H : AH} {T : Tbl} : runR T fn (.code (.reg d5_3) :: K) t H = regR T fn K (aops (callR T) [
  ⟨(some 32), none, (.val (.t 8))⟩,
  ⟨(some 33), none, (.val (.t 10))⟩,
  ⟨(some 34), none, (.bin .neq (.t 32) (.t 33))⟩,
  ⟨(some 35), none, (.val (.t 34))⟩,
  ⟨(some 36), (some (35, false)), (.val (.t 10))⟩,
  ⟨(some 37), (some (35, false)), (.bin .neq (.t 36) (.c (.i .i64 0)))⟩,
  ⟨(some 38), none, (.pick (.t 35) (.c (.b true)) (.t 37))⟩,
  ⟨(some 39), none, (.val (.t 38))⟩,
  ⟨(some 40), (some (39, false)), (.val (.t 7))⟩,
  ⟨(some 41), (some (39, false)), (.eqn 0 false (.t 40) (.c (.p none)))⟩,
  ⟨(some 42), none, (.pick (.t 39) (.c (.b true)) (.t 41))⟩,
  ⟨(some 43), none, (.val (.t 42))⟩,
  ⟨(some 44), (some (43, false)), (.val (.t 0))⟩,
  ⟨(some 45), (some (43, false)), (.bin .gtr (.t 44) (.c (.i .i64 200)))⟩,
  ⟨(some 46), none, (.pick (.t 43) (.c (.b true)) (.t 45))⟩] t H) := runR_reg'
def d5_4 : List AOper := [
  ⟨(some 47), none, (.val (.t 8))⟩,
  ⟨(some 48), none, (.val (.t 10))⟩,
  ⟨(some 49), none, (.bin .eql (.t 47) (.t 48))⟩,
  ⟨(some 50), none, (.val (.t 49))⟩,
  ⟨(some 51), (some (50, true)), (.val (.t 7))⟩,
  ⟨(some 52), (some (50, true)), (.eqn 0 true (.t 51) (.c (.p none)))⟩,
  ⟨(some 53), (some (50, true)), (.val (.t 10))⟩,
  ⟨(some 54), (some (50, true)), (.bin .eql (.t 53) (.c (.i .i64 0)))⟩,
  ⟨(some 55), (some (50, true)), (.eqb false (.t 52) (.t 54))⟩,
  ⟨(some 56), none, (.pick (.t 50) (.t 55) (.c (.b false)))⟩,
  ⟨(some 57), none, (.val (.t 56))⟩,
  ⟨(some 58), (some (57, true)), (.call 15 [])⟩,
  ⟨(some 59), none, (.pick (.t 57) (.t 58) (.c (.b false)))⟩,
  ⟨(some 6), none, (.val (.t 59))⟩]
theorem r5_4 {fn : AFun} {K : List AItem} {t : Nat → AV} {H : AH} {T : Tbl} : runR T fn (.code (.reg d5_4) :: K) t H = regR T fn K (aops (callR T) [
  ⟨(some 47), none, (.val (.t 8))⟩,
  ⟨(some 48), none, (.val (.t 10))⟩,
  ⟨(some 49), none, (.bin .eql (.t 47) (.t 48))⟩,
  ⟨(some 50), none, (.val (.t 49))⟩,
  ⟨(some 51), (some (50, true)), (.val (.t 7))⟩,
  ⟨(some 52), (some (50, true)), (.eqn 0 true (.t 51) (.c (.p none)))⟩,
  ⟨(some 53), (some (50, true)), (.val (.t 10))⟩,
  ⟨(some 54), (some (50, true)), (.bin .eql (.t 53) (.c (.i .i64 0)))⟩,
  ⟨(some 55), (some (50, true)), (.eqb false (.t 52) (.t 54))⟩,
  ⟨(some 56), none, (.pick (.t 50) (.t 55) (.c (.b false)))⟩,
  ⟨(some 57), none, (.val (.t 56))⟩,
  ⟨(some 58), (some (57, true)), (.call 15 [])⟩,
  ⟨(some 59), none, (.pick (.t 57) (.t 58) (.c (.b false)))⟩,
  ⟨(some 6), none, (.val (.t 59))⟩] t H) := runR_reg'
def d5_5 : List AOper := [
  ⟨(some 60), none, (.val (.t 2))⟩,
  ⟨(some 61), none, (.call 8 [(.t 60)])⟩,
  ⟨(some 62), none, (.len (.t 61))⟩,
  ⟨(some 63), none, (.val (.c (.i .i64 0)))⟩]
theorem r5_5 {fn : AFun} {K : List AItem} {t : Nat → AV} {H : AH} {T : Tbl} : runR T fn (.code (.reg d5_5) :: K) t H = regR T fn K (aops (callR T) [
  ⟨(some 60), none, (.val (.t 2))⟩,
  ⟨(some 61), none, (.call 8 [(.t 60)])⟩,
  ⟨(some 62), none, (.len (.t 61))⟩,
  ⟨(some 63), none, (.val (.c (.i .i64 0)))⟩] t H) := runR_reg'
def d5_6 : List AOper := [
  ⟨(some 64), none, (.bin .lss (.t 63) (.t 62))⟩]
theorem r5_6 {fn : AFun} {K : List AItem} {t : Nat → AV} {H : AH} {T : Tbl} : runR T fn (.code (.reg d5_6) :: K) t H = regR T fn K (aops (callR T) [
  ⟨(some 64), none, (.bin .lss (.t 63) (.t 62))⟩] t H) := runR_reg'
def d5_7 : List AOper := [
  ⟨(some 65), none, (.ia 3 (.t 61) (.t 63))⟩,
  ⟨(some 66), none, (.ld (some 3) (.t 65))⟩,
  ⟨(some 12), none, (.alloc [(.i .u8 0), (.i .i64 0), (.i .i64 0)])⟩,
  ⟨none, none, (.st 3 (.t 12) (.t 66))⟩]
theorem r5_7 {fn : AFun} {K : List AItem} {t : Nat → AV} {H : AH} {T : Tbl} : runR T fn (.code (.reg d5_7) :: K) t H = regR T fn K (aops (callR T) [
  ⟨(some 65), none, (.ia 3 (.t 61) (.t 63))⟩,
  ⟨(some 66), none, (.ld (some 3) (.t 65))⟩,
  ⟨(some 12), none, (.alloc [(.i .u8 0), (.i .i64 0), (.i .i64 0)])⟩,
  ⟨none, none, (.st 3 (.t 12) (.t 66))⟩] t H) := runR_reg'
def d5_8 : List AOper := [
  ⟨(some 13), none, (.val (.c (.b false)))⟩]
theorem r5_8 {fn : AFun} {K : List AItem} {t : Nat → AV} {H : AH} {T : Tbl} : runR T fn (.code (.reg d5_8) :: K) t H = regR T fn K (aops (callR T) [
  ⟨(some 13), none, (.val (.c (.b false)))⟩] t H) := runR_reg'
def d5_9 : List AOper := [
  ⟨(some 67), none, (.fa 0 (.t 12))⟩,
  ⟨(some 68), none, (.ld none (.t 67))⟩,
  ⟨(some 69), none, (.bin .rem (.t 68) (.c (.i .u8 4)))⟩]
theorem r5_9 {fn : AFun} {K : List AItem} {t : Nat → AV} {H : AH} {T : Tbl} : runR T fn (.code (.reg d5_9) :: K) t H = regR T fn K (aops (callR T) [
  ⟨(some 67), none, (.fa 0 (.t 12))⟩,
  ⟨(some 68), none, (.ld none (.t 67))⟩,
  ⟨(some 69), none, (.bin .rem (.t 68) (.c (.i .u8 4)))⟩] t H) := runR_reg'
def d5_10 : List AOper := [
  ⟨(some 99), none, (.bin .eql (.t 69) (.c (.i .u8 1)))⟩,
  ⟨(some 98), none, (.val (.t 99))⟩]
theorem r5_10 {fn : AFun} {K : List AItem} {t : Nat → AV} {H : AH} {T : Tbl} : runR T fn (.code (.reg d5_10) :: K) t H = regR T fn K (aops (callR T) [
  ⟨(some 99), none, (.bin .eql (.t 69) (.c (.i .u8 1)))⟩,
  ⟨(some 98), none, (.val (.t 99))⟩] t H) := runR_reg'
def d5_11 : List (AOper × List Nat) := [
  (⟨(some 100), none, (.val (.t 7))⟩, []),
  (⟨(some 101), none, (.fa 1 (.t 12))⟩, []),
  (⟨(some 102), none, (.ld none (.t 101))⟩, [1]),
  (⟨(some 103), none, (.fa 2 (.t 12))⟩, []),
  (⟨(some 104), none, (.ld none (.t 103))⟩, [1]),
  (⟨(some 105), none, (.call 9 [(.t 100), (.t 102), (.t 104)])⟩, []),
  (⟨(some 106), none, (.fa 1 (.t 12))⟩, []),
  (⟨(some 107), none, (.ld none (.t 106))⟩, [2]),
  (⟨(some 108), none, (.fa 2 (.t 12))⟩, []),
  (⟨(some 109), none, (.ld none (.t 108))⟩, [2]),
  (⟨(some 110), none, (.call 18 [(.t 9), (.t 107), (.t 109)])⟩, []),
  (⟨(some 111), none, (.bin .eql (.t 105) (.t 110))⟩, []),
  (⟨(some 13), none, (.val (.t 111))⟩, [])]
theorem r5_11 {fn : AFun} {K : List AItem} {t : Nat → AV} {H : AH} {T : Tbl} : runR T fn (.code (.drw d5_11) :: K) t H = regR T fn K (adrn (callR T) [
  (⟨(some 100), none, (.val (.t 7))⟩, []),
  (⟨(some 101), none, (.fa 1 (.t 12))⟩, []),
  (⟨(some 102), none, (.ld none (.t 101))⟩, [1]),
  (⟨(some 103), none, (.fa 2 (.t 12))⟩, []),
  (⟨(some 104), none, (.ld none (.t 103))⟩, [1]),
  (⟨(some 105), none, (.call 9 [(.t 100), (.t 102), (.t 104)])⟩, []),
  (⟨(some 106), none, (.fa 1 (.t 12))⟩, []),
  (⟨(some 107), none, (.ld none (.t 106))⟩, [2]),
  (⟨(some 108), none, (.fa 2 (.t 12))⟩, []),
  (⟨(some 109), none, (.ld none (.t 108))⟩, [2]),
  (⟨(some 110), none, (.call 18 [(.t 9), (.t 107), (.t 109)])⟩, []),
  (⟨(some 111), none, (.bin .eql (.t 105) (.t 110))⟩, []),
  (⟨(some 13), none, (.val (.t 111))⟩, [])] t H [H]) := runR_free rfl
def d5_12 : List AOper := [
  ⟨(some 113), none, (.bin .eql (.t 69) (.c (.i .u8 2)))⟩,
  ⟨(some 112), none, (.val (.t 113))⟩]
theorem r5_12 {fn : AFun} {K : List AItem} {t : Nat → AV} {H : AH} {T : Tbl} : runR T fn (.code (.reg d5_12) :: K) t H = regR T fn K (aops (callR T) [
  ⟨(some 113), none, (.bin .eql (.t 69) (.c (.i .u8 2)))⟩,
  ⟨(some 112), none, (.val (.t 113))⟩] t H) := runR_reg'
def d5_13 : List (AOper × List Nat) := [
  (⟨(some 114), none, (.val (.t 7))⟩, []),
  (⟨(some 115), none, (.fa 1 (.t 12))⟩, []),
  (⟨(some 116), none, (.ld none (.t 115))⟩, [1]),
  (⟨(some 117), none, (.call 10 [(.t 114), (.t 116)])⟩, []),
  (⟨(some 118), none, (.fa 1 (.t 12))⟩, []),
  (⟨(some 119), none, (.ld none (.t 118))⟩, [2]),
  (⟨(some 120), none, (.call 19 [(.t 9), (.t 119)])⟩, []),
  (⟨(some 121), none, (.bin .eql (.t 117) (.t 120))⟩, []),
  (⟨(some 13), none, (.val (.t 121))⟩, [])]
theorem r5_13 {fn : AFun} {K : List AItem} {t : Nat → AV} {H : AH} {T : Tbl} : runR T fn (.code (.drw d5_13) :: K) t H = regR T fn K (adrn (callR T) [
  (⟨(some 114), none, (.val (.t 7))⟩, []),
  (⟨(some 115), none, (.fa 1 (.t 12))⟩, []),
  (⟨(some 116), none, (.ld none (.t 115))⟩, [1]),
  (⟨(some 117), none, (.call 10 [(.t 114), (.t 116)])⟩, []),
  (⟨(some 118), none, (.fa 1 (.t 12))⟩, []),
  (⟨(some 119), none, (.ld none (.t 118))⟩, [2]),
  (⟨(some 120), none, (.call 19 [(.t 9), (.t 119)])⟩, []),
  (⟨(some 121), none, (.bin .eql (.t 117) (.t 120))⟩, []),
  (⟨(some 13), none, (.val (.t 121))⟩, [])] t H [H]) := runR_free rfl
def d5_14 : List AOper := [
  ⟨(some 71), none, (.val (.t 7))⟩,
  ⟨(some 72), none, (.fa 1 (.t 12))⟩,
  ⟨(some 73), none, (.ld none (.t 72))⟩,
  ⟨(some 74), none, (.call 11 [(.t 71), (.t 73)])⟩,
  ⟨(some 70), none, (.val (.t 74))⟩,
  ⟨(some 75), none, (.ext (.t 70) 0)⟩,
  ⟨(some 76), none, (.ext (.t 70) 1)⟩,
  ⟨(some 77), none, (.ext (.t 70) 2)⟩,
  ⟨(some 14), none, (.val (.t 75))⟩,
  ⟨(some 15), none, (.val (.t 76))⟩,
  ⟨(some 16), none, (.val (.t 77))⟩]
theorem r5_14 {fn : AFun} {K : List AItem} {t : Nat → AV} {H : AH} {T : Tbl} : runR T fn (.code (.reg d5_14) :: K) t H = regR T fn K (aops (callR T) [
  ⟨(some 71), none, (.val (.t 7))⟩,
  ⟨(some 72), none, (.fa 1 (.t 12))⟩,
  ⟨(some 73), none, (.ld none (.t 72))⟩,
  ⟨(some 74), none, (.call 11 [(.t 71), (.t 73)])⟩,
  ⟨(some 70), none, (.val (.t 74))⟩,
  ⟨(some 75), none, (.ext (.t 70) 0)⟩,
  ⟨(some 76), none, (.ext (.t 70) 1)⟩,
  ⟨(some 77), none, (.ext (.t 70) 2)⟩,
  ⟨(some 14), none, (.val (.t 75))⟩,
  ⟨(some 15), none, (.val (.t 76))⟩,
  ⟨(some 16), none, (.val (.t 77))⟩] t H) := runR_reg'
def d5_15 : List AOper := [
  ⟨(some 79), none, (.fa 1 (.t 12))⟩,
  ⟨(some 80), none, (.ld none (.t 79))⟩,
  ⟨(some 81), none, (.call 20 [(.t 9), (.t 80)])⟩,
  ⟨(some 78), none, (.val (.t 81))⟩,
  ⟨(some 82), none, (.ext (.t 78) 0)⟩,
  ⟨(some 83), none, (.ext (.t 78) 1)⟩,
  ⟨(some 84), none, (.ext (.t 78) 2)⟩,
  ⟨(some 17), none, (.val (.t 82))⟩,
  ⟨(some 18), none, (.val (.t 83))⟩,
  ⟨(some 19), none, (.val (.t 84))⟩]
theorem r5_15 {fn : AFun} {K : List AItem} {t : Nat → AV} {H : AH} {T : Tbl} : runR T fn (.code (.reg d5_15) :: K) t H = regR T fn K (aops (callR T) [
  ⟨(some 79), none, (.fa 1 (.t 12))⟩,
  ⟨(some 80), none, (.ld none (.t 79))⟩,
  ⟨(some 81), none, (.call 20 [(.t 9), (.t 80)])⟩,
  ⟨(some 78), none, (.val (.t 81))⟩,
  ⟨(some 82), none, (.ext (.t 78) 0)⟩,
  ⟨(some 83), none, (.ext (.t 78) 1)⟩,
  ⟨(some 84), none, (.ext (.t 78) 2)⟩,
  ⟨(some 17), none, (.val (.t 82))⟩,
  ⟨(some 18), none, (.val (.t 83))⟩,
  ⟨(some 19), none, (.val (.t 84))⟩] t H) := runR_reg'
def d5_16 : List AOper := [
  ⟨(some 85), none, (.val (.t 14))⟩,
  ⟨(some 86), none, (.val (.t 17))⟩,
  ⟨(some 87), none, (.bin .eql (.t 85) (.t 86))⟩,
  ⟨(some 88), none, (.val (.t 87))⟩,
  ⟨(some 89), (some (88, true)), (.val (.t 15))⟩,
  ⟨(some 90), (some (88, true)), (.val (.t 18))⟩,
  ⟨(some 91), (some (88, true)), (.bin .eql (.t 89) (.t 90))⟩,
  ⟨(some 92), none, (.pick (.t 88) (.t 91) (.c (.b false)))⟩,
  ⟨(some 93), none, (.val (.t 92))⟩,
  ⟨(some 94), (some (93, true)), (.val (.t 16))⟩,
  ⟨(some 95), (some (93, true)), (.val (.t 19))⟩,
  ⟨(some 96), (some (93, true)), (.bin .eql (.t 94) (.t 95))⟩,
  ⟨(some 97), none, (.pick (.t 93) (.t 96) (.c (.b false)))⟩,
  ⟨(some 13), none, (.val (.t 97))⟩]
theorem r5_16 {fn : AFun} {K : List AItem} {t : Nat → AV} {H : AH} {T : Tbl} : runR T fn (.code (.reg d5_16) :: K) t H = regR T fn K (aops (callR T) [
  ⟨(some 85), none, (.val (.t 14))⟩,
  ⟨(some 86), none, (.val (.t 17))⟩,
  ⟨(some 87), none, (.bin .eql (.t 85) (.t 86))⟩,
  ⟨(some 88), none, (.val (.t 87))⟩,
  ⟨(some 89), (some (88, true)), (.val (.t 15))⟩,
  ⟨(some 90), (some (88, true)), (.val (.t 18))⟩,
  ⟨(some 91), (some (88, true)), (.bin .eql (.t 89) (.t 90))⟩,
  ⟨(some 92), none, (.pick (.t 88) (.t 91) (.c (.b false)))⟩,
  ⟨(some 93), none, (.val (.t 92))⟩,
  ⟨(some 94), (some (93, true)), (.val (.t 16))⟩,
  ⟨(some 95), (some (93, true)), (.val (.t 19))⟩,
  ⟨(some 96), (some (93, true)), (.bin .eql (.t 94) (.t 95))⟩,
  ⟨(some 97), none, (.pick (.t 93) (.t 96) (.c (.b false)))⟩,
  ⟨(some 13), none, (.val (.t 97))⟩] t H) := runR_reg'
def d5_17 : List AOper := [
  ⟨(some 122), none, (.val (.t 13))⟩,
  ⟨(some 123), none, (.un .not (.t 122))⟩,
  ⟨(some 124), none, (.val (.t 123))⟩,
  ⟨(some 125), (some (124, false)), (.val (.t 7))⟩,
  ⟨(some 126), (some (124, false)), (.ld (some 3) (.t 12))⟩,
  ⟨(some 127), (some (124, false)), (.call 21 [(.t 125), (.t 9), (.t 126)])⟩,
  ⟨(some 128), (some (124, false)), (.un .not (.t 127))⟩,
  ⟨(some 129), none, (.pick (.t 124) (.c (.b true)) (.t 128))⟩]
theorem r5_17 {fn : AFun} {K : List AItem} {t : Nat → AV} {H : AH} {T : Tbl} : runR T fn (.code (.reg d5_17) :: K) t H = regR T fn K (aops (callR T) [
  ⟨(some 122), none, (.val (.t 13))⟩,
  ⟨(some 123), none, (.un .not (.t 122))⟩,
  ⟨(some 124), none, (.val (.t 123))⟩,
  ⟨(some 125), (some (124, false)), (.val (.t 7))⟩,
  ⟨(some 126), (some (124, false)), (.ld (some 3) (.t 12))⟩,
  ⟨(some 127), (some (124, false)), (.call 21 [(.t 125), (.t 9), (.t 126)])⟩,
  ⟨(some 128), (some (124, false)), (.un .not (.t 127))⟩,
  ⟨(some 129), none, (.pick (.t 124) (.c (.b true)) (.t 128))⟩] t H) := runR_reg'
def d5_18 : List AOper := [
  ⟨(some 6), none, (.val (.c (.b false)))⟩]
theorem r5_18 {fn : AFun} {K : List AItem} {t : Nat → AV} {H : AH} {T : Tbl} : runR T fn (.code (.reg d5_18) :: K) t H = regR T fn K (aops (callR T) [
  ⟨(some 6), none, (.val (.c (.b false)))⟩] t H) := runR_reg'
def d5_19 : List AOper := [
  ⟨(some 130), none, (.bin .add (.t 63) (.c (.i .i64 1)))⟩,
  ⟨(some 63), none, (.val (.t 130))⟩]
theorem r5_19 {fn : AFun} {K : List AItem} {t : Nat → AV} {H : AH} {T : Tbl} : runR T fn (.code (.reg d5_19) :: K) t H = regR T fn K (aops (callR T) [
  ⟨(some 130), none, (.bin .add (.t 63) (.c (.i .i64 1)))⟩,
  ⟨(some 63), none, (.val (.t 130))⟩] t H) := runR_reg'
def l5_20 : ACode := (.seq (.reg d5_6) (.seq (.cond (.t 64) .skip (.exit 0)) (.seq (.block 1 (.seq (.reg d5_7) (.seq (.reg d5_8) (.seq (.seq (.reg d5_9) (.block 2 (.seq (.reg d5_10) (.cond (.t 98) (.drw d5_11) (.seq (.reg d5_12) (.cond (.t 112) (.drw d5_13) (.seq (.reg d5_14) (.seq (.reg d5_15) (.reg d5_16))))))))) (.seq (.reg d5_17) (.cond (.t 129) (.seq (.reg d5_18) .ret) .skip)))))) (.reg d5_19))))
def d5_21 : List AOper := [
  ⟨(some 131), none, (.call 15 [])⟩,
  ⟨(some 6), none, (.val (.t 131))⟩]
theorem r5_21 {fn : AFun} {K : List AItem} {t : Nat → AV} {H : AH} {T : Tbl} : runR T fn (.code (.reg d5_21) :: K) t H = regR T fn K (aops (callR T) [
  ⟨(some 131), none, (.call 15 [])⟩,
  ⟨(some 6), none, (.val (.t 131))⟩] t H) := runR_reg'
def a5 : AFun := ⟨132, [(.tmp 6)], (.seq (.reg d5_0) (.seq (.reg d5_1) (.seq (.reg d5_2) (.seq (.seq (.reg d5_3) (.cond (.t 46) (.seq (.reg d5_4) .ret) .skip)) (.seq (.seq (.reg d5_5) (.block 0 (.loop l5_20))) (.seq (.reg d5_21) .ret))))))⟩
theorem a5_ok : cfun Try.prog 5 = some a5 := by kernel_rfl
/-- futtock/futtocklaw10.SlotsNobody -/
def d6_0 : List AOper := [
  ⟨(some 1), none, (.box (.t 0))⟩,
  ⟨(some 2), none, (.val (.c (.b false)))⟩]
theorem r6_0 {fn : AFun} {K : List AItem} {t : Nat → AV} {H : AH} {T : Tbl} : runR T fn (.code (.reg d6_0) :: K) t H = regR T fn K (aops (callR T) [
  ⟨(some 1), none, (.box (.t 0))⟩,
  ⟨(some 2), none, (.val (.c (.b false)))⟩] t H) := runR_reg'
def d6_1 : List AOper := [
  ⟨(some 10), none, (.build [(.i .i64 0), (.i .i64 0), (.sl none 0 0 true 0), (.sl none 0 0 true 0), (.sl none 0 0 true 0), (.sl none 0 0 true 0), (.sl none 0 0 true 0), (.sl none 0 0 true 0), (.sl none 0 0 true 0), (.sl none 0 0 true 0), (.sl none 0 0 true 0), (.sl none 0 0 true 0), (.sl none 0 0 true 0), (.sl none 0 0 true 0), (.sl none 0 0 true 0), (.sl none 0 0 true 0), (.sl none 0 0 true 0), (.sl none 0 0 true 0), (.sl none 0 0 true 0), (.sl none 0 0 true 0), (.sl none 0 0 true 0), (.sl none 0 0 true 0), (.sl none 0 0 true 0), (.sl none 0 0 true 0), (.sl none 0 0 true 0), (.sl none 0 0 true 0), (.sl none 0 0 true 0), (.sl none 0 0 true 0), (.sl none 0 0 true 0), (.sl none 0 0 true 0), (.sl none 0 0 true 0), (.sl none 0 0 true 0), (.sl none 0 0 true 0), (.sl none 0 0 true 0), (.sl none 0 0 true 0), (.sl none 0 0 true 0), (.sl none 0 0 true 0), (.sl none 0 0 true 0), (.sl none 0 0 true 0), (.sl none 0 0 true 0), (.sl none 0 0 true 0), (.sl none 0 0 true 0), (.sl none 0 0 true 0), (.sl none 0 0 true 0), (.sl none 0 0 true 0), (.sl none 0 0 true 0), (.sl none 0 0 true 0), (.sl none 0 0 true 0), (.sl none 0 0 true 0), (.sl none 0 0 true 0), (.sl none 0 0 true 0), (.sl none 0 0 true 0), (.sl none 0 0 true 0), (.sl none 0 0 true 0), (.sl none 0 0 true 0), (.sl none 0 0 true 0), (.sl none 0 0 true 0), (.sl none 0 0 true 0), (.sl none 0 0 true 0), (.sl none 0 0 true 0), (.sl none 0 0 true 0), (.sl none 0 0 true 0), (.sl none 0 0 true 0), (.sl none 0 0 true 0), (.sl none 0 0 true 0), (.sl none 0 0 true 0), (.sl none 0 0 true 0), (.sl none 0 0 true 0), (.sl none 0 0 true 0), (.sl none 0 0 true 0), (.sl none 0 0 true 0), (.sl none 0 0 true 0), (.sl none 0 0 true 0), (.sl none 0 0 true 0), (.sl none 0 0 true 0), (.sl none 0 0 true 0), (.sl none 0 0 true 0), (.sl none 0 0 true 0), (.sl none 0 0 true 0), (.sl none 0 0 true 0), (.sl none 0 0 true 0), (.sl none 0 0 true 0), (.sl none 0 0 true 0), (.sl none 0 0 true 0), (.sl none 0 0 true 0), (.sl none 0 0 true 0), (.sl none 0 0 true 0), (.sl none 0 0 true 0), (.sl none 0 0 true 0), (.sl none 0 0 true 0), (.sl none 0 0 true 0), (.sl none 0 0 true 0), (.sl none 0 0 true 0), (.sl none 0 0 true 0), (.sl none 0 0 true 0), (.sl none 0 0 true 0), (.sl none 0 0 true 0), (.sl none 0 0 true 0), (.sl none 0 0 true 0), (.sl none 0 0 true 0), (.sl none 0 0 true 0), (.sl none 0 0 true 0), (.sl none 0 0 true 0), (.sl none 0 0 true 0), (.sl none 0 0 true 0), (.sl none 0 0 true 0), (.sl none 0 0 true 0), (.sl none 0 0 true 0), (.sl none 0 0 true 0), (.sl none 0 0 true 0), (.sl none 0 0 true 0), (.sl none 0 0 true 0), (.sl none 0 0 true 0), (.sl none 0 0 true 0), (.sl none 0 0 true 0), (.sl none 0 0 true 0), (.sl none 0 0 true 0), (.sl none 0 0 true 0), (.sl none 0 0 true 0), (.sl none 0 0 true 0), (.sl none 0 0 true 0), (.sl none 0 0 true 0), (.sl none 0 0 true 0), (.sl none 0 0 true 0), (.sl none 0 0 true 0), (.sl none 0 0 true 0), (.sl none 0 0 true 0), (.sl none 0 0 true 0), (.sl none 0 0 true 0), (.sl none 0 0 true 0), (.sl none 0 0 true 0), (.sl none 0 0 true 0), (.sl none 0 0 true 0), (.sl none 0 0 true 0), (.sl none 0 0 true 0), (.sl none 0 0 true 0), (.sl none 0 0 true 0), (.sl none 0 0 true 0), (.sl none 0 0 true 0), (.sl none 0 0 true 0), (.sl none 0 0 true 0), (.sl none 0 0 true 0), (.sl none 0 0 true 0), (.sl none 0 0 true 0), (.sl none 0 0 true 0), (.sl none 0 0 true 0), (.sl none 0 0 true 0), (.sl none 0 0 true 0), (.sl none 0 0 true 0), (.sl none 0 0 true 0), (.sl none 0 0 true 0), (.sl none 0 0 true 0), (.sl none 0 0 true 0), (.sl none 0 0 true 0), (.sl none 0 0 true 0), (.sl none 0 0 true 0), (.sl none 0 0 true 0), (.sl none 0 0 true 0), (.sl none 0 0 true 0), (.sl none 0 0 true 0), (.sl none 0 0 true 0), (.sl none 0 0 true 0), (.sl none 0 0 true 0), (.sl none 0 0 true 0), (.sl none 0 0 true 0), (.sl none 0 0 true 0), (.sl none 0 0 true 0), (.sl none 0 0 true 0), (.sl none 0 0 true 0), (.sl none 0 0 true 0), (.sl none 0 0 true 0), (.sl none 0 0 true 0), (.sl none 0 0 true 0), (.sl none 0 0 true 0), (.sl none 0 0 true 0), (.sl none 0 0 true 0), (.sl none 0 0 true 0), (.sl none 0 0 true 0), (.sl none 0 0 true 0), (.sl none 0 0 true 0), (.sl none 0 0 true 0), (.sl none 0 0 true 0), (.sl none 0 0 true 0), (.sl none 0 0 true 0), (.sl none 0 0 true 0), (.sl none 0 0 true 0), (.sl none 0 0 true 0), (.sl none 0 0 true 0), (.sl none 0 0 true 0), (.sl none 0 0 true 0), (.sl none 0 0 true 0), (.sl none 0 0 true 0), (.sl none 0 0 true 0), (.sl none 0 0 true 0), (.sl none 0 0 true 0), (.sl none 0 0 true 0), (.sl none 0 0 true 0), (.sl none 0 0 true 0), (.sl none 0 0 true 0), (.sl none 0 0 true 0), (.sl none 0 0 true 0), (.sl none 0 0 true 0), (.sl none 0 0 true 0), (.sl none 0 0 true 0), (.sl none 0 0 true 0), (.sl none 0 0 true 0), (.sl none 0 0 true 0), (.sl none 0 0 true 0), (.sl none 0 0 true 0), (.sl none 0 0 true 0), (.sl none 0 0 true 0), (.sl none 0 0 true 0), (.sl none 0 0 true 0), (.sl none 0 0 true 0), (.sl none 0 0 true 0), (.sl none 0 0 true 0), (.sl none 0 0 true 0), (.sl none 0 0 true 0), (.sl none 0 0 true 0), (.sl none 0 0 true 0), (.sl none 0 0 true 0), (.sl none 0 0 true 0), (.sl none 0 0 true 0), (.sl none 0 0 true 0), (.sl none 0 0 true 0), (.sl none 0 0 true 0), (.sl none 0 0 true 0), (.sl none 0 0 true 0), (.sl none 0 0 true 0), (.sl none 0 0 true 0), (.sl none 0 0 true 0), (.sl none 0 0 true 0), (.sl none 0 0 true 0), (.sl none 0 0 true 0), (.sl none 0 0 true 0), (.sl none 0 0 true 0), (.sl none 0 0 true 0), (.sl none 0 0 true 0), (.sl none 0 0 true 0), (.sl none 0 0 true 0), (.sl none 0 0 true 0), (.sl none 0 0 true 0), (.sl none 0 0 true 0), (.sl none 0 0 true 0), (.sl none 0 0 true 0), (.sl none 0 0 true 0), (.sl none 0 0 true 0), (.sl none 0 0 true 0), (.sl none 0 0 true 0), (.sl none 0 0 true 0), (.sl none 0 0 true 0), (.sl none 0 0 true 0), (.sl none 0 0 true 0), (.sl none 0 0 true 0), (.sl none 0 0 true 0), (.sl none 0 0 true 0), (.sl none 0 0 true 0), (.sl none 0 0 true 0), (.sl none 0 0 true 0), (.sl none 0 0 true 0)] [])⟩,
  ⟨(some 11), none, (.box (.t 10))⟩,
  ⟨(some 12), none, (.bsl [(.p none)] 2 [(0, 1, (.c (.p none))), (1, 1, (.t 11))])⟩,
  ⟨(some 13), none, (.len (.t 12))⟩,
  ⟨(some 14), none, (.val (.c (.i .i64 0)))⟩]
theorem r6_1 {fn : AFun} {K : List AItem} {t : Nat → AV} {H : AH} {T : Tbl} : runR T fn (.code (.reg d6_1) :: K) t H = regR T fn K (aops (callR T) [
  ⟨(some 10), none, (.build [(.i .i64 0), (.i .i64 0), (.sl none 0 0 true 0), (.sl none 0 0 true 0), (.sl none 0 0 true 0), (.sl none 0 0 true 0), (.sl none 0 0 true 0), (.sl none 0 0 true 0), (.sl none 0 0 true 0), (.sl none 0 0 true 0), (.sl none 0 0 true 0), (.sl none 0 0 true 0), (.sl none 0 0 true 0), (.sl none 0 0 true 0), (.sl none 0 0 true 0), (.sl none 0 0 true 0), (.sl none 0 0 true 0), (.sl none 0 0 true 0), (.sl none 0 0 true 0), (.sl none 0 0 true 0), (.sl none 0 0 true 0), (.sl none 0 0 true 0), (.sl none 0 0 true 0), (.sl none 0 0 true 0), (.sl none 0 0 true 0), (.sl none 0 0 true 0), (.sl none 0 0 true 0), (.sl none 0 0 true 0), (.sl none 0 0 true 0), (.sl none 0 0 true 0), (.sl none 0 0 true 0), (.sl none 0 0 true 0), (.sl none 0 0 true 0), (.sl none 0 0 true 0), (.sl none 0 0 true 0), (.sl none 0 0 true 0), (.sl none 0 0 true 0), (.sl none 0 0 true 0), (.sl none 0 0 true 0), (.sl none 0 0 true 0), (.sl none 0 0 true 0), (.sl none 0 0 true 0), (.sl none 0 0 true 0), (.sl none 0 0 true 0), (.sl none 0 0 true 0), (.sl none 0 0 true 0), (.sl none 0 0 true 0), (.sl none 0 0 true 0), (.sl none 0 0 true 0), (.sl none 0 0 true 0), (.sl none 0 0 true 0), (.sl none 0 0 true 0), (.sl none 0 0 true 0), (.sl none 0 0 true 0), (.sl none 0 0 true 0), (.sl none 0 0 true 0), (.sl none 0 0 true 0), (.sl none 0 0 true 0), (.sl none 0 0 true 0), (.sl none 0 0 true 0), (.sl none 0 0 true 0), (.sl none 0 0 true 0), (.sl none 0 0 true 0), (.sl none 0 0 true 0), (.sl none 0 0 true 0), (.sl none 0 0 true 0), (.sl none 0 0 true 0), (.sl none 0 0 true 0), (.sl none 0 0 true 0), (.sl none 0 0 true 0), (.sl none 0 0 true 0), (.sl none 0 0 true 0), (.sl none 0 0 true 0), (.sl none 0 0 true 0), (.sl none 0 0 true 0), (.sl none 0 0 true 0), (.sl none 0 0 true 0), (.sl none 0 0 true 0), (.sl none 0 0 true 0), (.sl none 0 0 true 0), (.sl none 0 0 true 0), (.sl none 0 0 true 0), (.sl none 0 0 true 0), (.sl none 0 0 true 0), (.sl none 0 0 true 0), (.sl none 0 0 true 0), (.sl none 0 0 true 0), (.sl none 0 0 true 0), (.sl none 0 0 true 0), (.sl none 0 0 true 0), (.sl none 0 0 true 0), (.sl none 0 0 true 0), (.sl none 0 0 true 0), (.sl none 0 0 true 0), (.sl none 0 0 true 0), (.sl none 0 0 true 0), (.sl none 0 0 true 0), (.sl none 0 0 true 0), (.sl none 0 0 true 0), (.sl none 0 0 true 0), (.sl none 0 0 true 0), (.sl none 0 0 true 0), (.sl none 0 0 true 0), (.sl none 0 0 true 0), (.sl none 0 0 true 0), (.sl none 0 0 true 0), (.sl none 0 0 true 0), (.sl none 0 0 true 0), (.sl none 0 0 true 0), (.sl none 0 0 true 0), (.sl none 0 0 true 0), (.sl none 0 0 true 0), (.sl none 0 0 true 0), (.sl none 0 0 true 0), (.sl none 0 0 true 0), (.sl none 0 0 true 0), (.sl none 0 0 true 0), (.sl none 0 0 true 0), (.sl none 0 0 true 0), (.sl none 0 0 true 0), (.sl none 0 0 true 0), (.sl none 0 0 true 0), (.sl none 0 0 true 0), (.sl none 0 0 true 0), (.sl none 0 0 true 0), (.sl none 0 0 true 0), (.sl none 0 0 true 0), (.sl none 0 0 true 0), (.sl none 0 0 true 0), (.sl none 0 0 true 0), (.sl none 0 0 true 0), (.sl none 0 0 true 0), (.sl none 0 0 true 0), (.sl none 0 0 true 0), (.sl none 0 0 true 0), (.sl none 0 0 true 0), (.sl none 0 0 true 0), (.sl none 0 0 true 0), (.sl none 0 0 true 0), (.sl none 0 0 true 0), (.sl none 0 0 true 0), (.sl none 0 0 true 0), (.sl none 0 0 true 0), (.sl none 0 0 true 0), (.sl none 0 0 true 0), (.sl none 0 0 true 0), (.sl none 0 0 true 0), (.sl none 0 0 true 0), (.sl none 0 0 true 0), (.sl none 0 0 true 0), (.sl none 0 0 true 0), (.sl none 0 0 true 0), (.sl none 0 0 true 0), (.sl none 0 0 true 0), (.sl none 0 0 true 0), (.sl none 0 0 true 0), (.sl none 0 0 true 0), (.sl none 0 0 true 0), (.sl none 0 0 true 0), (.sl none 0 0 true 0), (.sl none 0 0 true 0), (.sl none 0 0 true 0), (.sl none 0 0 true 0), (.sl none 0 0 true 0), (.sl none 0 0 true 0), (.sl none 0 0 true 0), (.sl none 0 0 true 0), (.sl none 0 0 true 0), (.sl none 0 0 true 0), (.sl none 0 0 true 0), (.sl none 0 0 true 0), (.sl none 0 0 true 0), (.sl none 0 0 true 0), (.sl none 0 0 true 0), (.sl none 0 0 true 0), (.sl none 0 0 true 0), (.sl none 0 0 true 0), (.sl none 0 0 true 0), (.sl none 0 0 true 0), (.sl none 0 0 true 0), (.sl none 0 0 true 0), (.sl none 0 0 true 0), (.sl none 0 0 true 0), (.sl none 0 0 true 0), (.sl none 0 0 true 0), (.sl none 0 0 true 0), (.sl none 0 0 true 0), (.sl none 0 0 true 0), (.sl none 0 0 true 0), (.sl none 0 0 true 0), (.sl none 0 0 true 0), (.sl none 0 0 true 0), (.sl none 0 0 true 0), (.sl none 0 0 true 0), (.sl none 0 0 true 0), (.sl none 0 0 true 0), (.sl none 0 0 true 0), (.sl none 0 0 true 0), (.sl none 0 0 true 0), (.sl none 0 0 true 0), (.sl none 0 0 true 0), (.sl none 0 0 true 0), (.sl none 0 0 true 0), (.sl none 0 0 true 0), (.sl none 0 0 true 0), (.sl none 0 0 true 0), (.sl none 0 0 true 0), (.sl none 0 0 true 0), (.sl none 0 0 true 0), (.sl none 0 0 true 0), (.sl none 0 0 true 0), (.sl none 0 0 true 0), (.sl none 0 0 true 0), (.sl none 0 0 true 0), (.sl none 0 0 true 0), (.sl none 0 0 true 0), (.sl none 0 0 true 0), (.sl none 0 0 true 0), (.sl none 0 0 true 0), (.sl none 0 0 true 0), (.sl none 0 0 true 0), (.sl none 0 0 true 0), (.sl none 0 0 true 0), (.sl none 0 0 true 0), (.sl none 0 0 true 0), (.sl none 0 0 true 0), (.sl none 0 0 true 0), (.sl none 0 0 true 0), (.sl none 0 0 true 0), (.sl none 0 0 true 0), (.sl none 0 0 true 0), (.sl none 0 0 true 0), (.sl none 0 0 true 0), (.sl none 0 0 true 0), (.sl none 0 0 true 0), (.sl none 0 0 true 0), (.sl none 0 0 true 0), (.sl none 0 0 true 0), (.sl none 0 0 true 0), (.sl none 0 0 true 0), (.sl none 0 0 true 0), (.sl none 0 0 true 0), (.sl none 0 0 true 0), (.sl none 0 0 true 0), (.sl none 0 0 true 0), (.sl none 0 0 true 0), (.sl none 0 0 true 0), (.sl none 0 0 true 0), (.sl none 0 0 true 0), (.sl none 0 0 true 0), (.sl none 0 0 true 0), (.sl none 0 0 true 0), (.sl none 0 0 true 0), (.sl none 0 0 true 0), (.sl none 0 0 true 0), (.sl none 0 0 true 0), (.sl none 0 0 true 0), (.sl none 0 0 true 0), (.sl none 0 0 true 0), (.sl none 0 0 true 0)] [])⟩,
  ⟨(some 11), none, (.box (.t 10))⟩,
  ⟨(some 12), none, (.bsl [(.p none)] 2 [(0, 1, (.c (.p none))), (1, 1, (.t 11))])⟩,
  ⟨(some 13), none, (.len (.t 12))⟩,
  ⟨(some 14), none, (.val (.c (.i .i64 0)))⟩] t H) := runR_reg'
def d6_2 : List AOper := [
  ⟨(some 15), none, (.bin .lss (.t 14) (.t 13))⟩]
theorem r6_2 {fn : AFun} {K : List AItem} {t : Nat → AV} {H : AH} {T : Tbl} : runR T fn (.code (.reg d6_2) :: K) t H = regR T fn K (aops (callR T) [
  ⟨(some 15), none, (.bin .lss (.t 14) (.t 13))⟩] t H) := runR_reg'
def d6_3 : List AOper := [
  ⟨(some 16), none, (.ia 1 (.t 12) (.t 14))⟩,
  ⟨(some 17), none, (.ld none (.t 16))⟩,
  ⟨(some 4), none, (.val (.t 17))⟩]
theorem r6_3 {fn : AFun} {K : List AItem} {t : Nat → AV} {H : AH} {T : Tbl} : runR T fn (.code (.reg d6_3) :: K) t H = regR T fn K (aops (callR T) [
  ⟨(some 16), none, (.ia 1 (.t 12) (.t 14))⟩,
  ⟨(some 17), none, (.ld none (.t 16))⟩,
  ⟨(some 4), none, (.val (.t 17))⟩] t H) := runR_reg'
def d6_4 : List AOper := [
  ⟨(some 19), none, (.val (.t 4))⟩,
  ⟨(some 20), none, (.fa 1 (.t 1))⟩,
  ⟨(some 21), none, (.ld none (.t 20))⟩,
  ⟨(some 22), none, (.call 11 [(.t 19), (.t 21)])⟩,
  ⟨(some 18), none, (.val (.t 22))⟩,
  ⟨(some 23), none, (.ext (.t 18) 0)⟩,
  ⟨(some 24), none, (.ext (.t 18) 1)⟩,
  ⟨(some 25), none, (.ext (.t 18) 2)⟩,
  ⟨(some 5), none, (.val (.t 23))⟩,
  ⟨(some 6), none, (.val (.t 24))⟩,
  ⟨(some 7), none, (.val (.t 25))⟩]
theorem r6_4 {fn : AFun} {K : List AItem} {t : Nat → AV} {H : AH} {T : Tbl} : runR T fn (.code (.reg d6_4) :: K) t H = regR T fn K (aops (callR T) [
  ⟨(some 19), none, (.val (.t 4))⟩,
  ⟨(some 20), none, (.fa 1 (.t 1))⟩,
  ⟨(some 21), none, (.ld none (.t 20))⟩,
  ⟨(some 22), none, (.call 11 [(.t 19), (.t 21)])⟩,
  ⟨(some 18), none, (.val (.t 22))⟩,
  ⟨(some 23), none, (.ext (.t 18) 0)⟩,
  ⟨(some 24), none, (.ext (.t 18) 1)⟩,
  ⟨(some 25), none, (.ext (.t 18) 2)⟩,
  ⟨(some 5), none, (.val (.t 23))⟩,
  ⟨(some 6), none, (.val (.t 24))⟩,
  ⟨(some 7), none, (.val (.t 25))⟩] t H) := runR_reg'
def d6_5 : List AOper := [
  ⟨(some 27), none, (.val (.t 4))⟩,
  ⟨(some 28), none, (.fa 2 (.t 1))⟩,
  ⟨(some 29), none, (.ld none (.t 28))⟩,
  ⟨(some 30), none, (.call 22 [(.t 27), (.t 29)])⟩,
  ⟨(some 26), none, (.val (.t 30))⟩,
  ⟨(some 31), none, (.ext (.t 26) 0)⟩,
  ⟨(some 32), none, (.ext (.t 26) 1)⟩,
  ⟨(some 8), none, (.val (.t 31))⟩,
  ⟨(some 9), none, (.val (.t 32))⟩]
theorem r6_5 {fn : AFun} {K : List AItem} {t : Nat → AV} {H : AH} {T : Tbl} : runR T fn (.code (.reg d6_5) :: K) t H = regR T fn K (aops (callR T) [
  ⟨(some 27), none, (.val (.t 4))⟩,
  ⟨(some 28), none, (.fa 2 (.t 1))⟩,
  ⟨(some 29), none, (.ld none (.t 28))⟩,
  ⟨(some 30), none, (.call 22 [(.t 27), (.t 29)])⟩,
  ⟨(some 26), none, (.val (.t 30))⟩,
  ⟨(some 31), none, (.ext (.t 26) 0)⟩,
  ⟨(some 32), none, (.ext (.t 26) 1)⟩,
  ⟨(some 8), none, (.val (.t 31))⟩,
  ⟨(some 9), none, (.val (.t 32))⟩] t H) := runR_reg'
def d6_6 : List (AOper × List Nat) := [
  (⟨(some 33), none, (.val (.t 5))⟩, []),
  (⟨(some 34), none, (.bin .neq (.t 33) (.c (.i .i64 0)))⟩, []),
  (⟨(some 35), none, (.val (.t 34))⟩, []),
  (⟨(some 36), (some (35, false)), (.val (.t 6))⟩, []),
  (⟨(some 37), (some (35, false)), (.bin .neq (.t 36) (.c (.i .u32 0)))⟩, []),
  (⟨(some 38), none, (.pick (.t 35) (.c (.b true)) (.t 37))⟩, []),
  (⟨(some 39), none, (.val (.t 38))⟩, []),
  (⟨(some 40), (some (39, false)), (.val (.t 7))⟩, []),
  (⟨(some 41), (some (39, false)), (.bin .neq (.t 40) (.c (.i .i64 2)))⟩, []),
  (⟨(some 42), none, (.pick (.t 39) (.c (.b true)) (.t 41))⟩, []),
  (⟨(some 43), none, (.val (.t 42))⟩, []),
  (⟨(some 44), (some (43, false)), (.val (.t 8))⟩, []),
  (⟨(some 45), (some (43, false)), (.bin .neq (.t 44) (.c (.i .u32 0)))⟩, []),
  (⟨(some 46), none, (.pick (.t 43) (.c (.b true)) (.t 45))⟩, []),
  (⟨(some 47), none, (.val (.t 46))⟩, []),
  (⟨(some 48), (some (47, false)), (.val (.t 9))⟩, []),
  (⟨(some 49), (some (47, false)), (.bin .neq (.t 48) (.c (.i .i64 2)))⟩, []),
  (⟨(some 50), none, (.pick (.t 47) (.c (.b true)) (.t 49))⟩, []),
  (⟨(some 51), none, (.val (.t 50))⟩, []),
  (⟨(some 52), (some (51, false)), (.val (.t 4))⟩, []),
  (⟨(some 53), (some (51, false)), (.fa 1 (.t 1))⟩, []),
  (⟨(some 54), (some (51, false)), (.ld none (.t 53))⟩, [1]),
  (⟨(some 55), (some (51, false)), (.fa 2 (.t 1))⟩, []),
  (⟨(some 56), (some (51, false)), (.ld none (.t 55))⟩, [1]),
  (⟨(some 57), (some (51, false)), (.call 9 [(.t 52), (.t 54), (.t 56)])⟩, []),
  (⟨(some 58), (some (51, false)), (.bin .neq (.t 57) (.c (.i .i64 2)))⟩, []),
  (⟨(some 59), none, (.pick (.t 51) (.c (.b true)) (.t 58))⟩, []),
  (⟨(some 60), none, (.val (.t 59))⟩, []),
  (⟨(some 61), (some (60, false)), (.val (.t 4))⟩, []),
  (⟨(some 62), (some (60, false)), (.fa 2 (.t 1))⟩, []),
  (⟨(some 63), (some (60, false)), (.ld none (.t 62))⟩, [1]),
  (⟨(some 64), (some (60, false)), (.call 14 [(.t 61), (.t 63)])⟩, []),
  (⟨(some 65), none, (.pick (.t 60) (.c (.b true)) (.t 64))⟩, []),
  (⟨(some 66), none, (.val (.t 65))⟩, []),
  (⟨(some 67), (some (66, false)), (.val (.t 4))⟩, []),
  (⟨(some 68), (some (66, false)), (.fa 2 (.t 1))⟩, []),
  (⟨(some 69), (some (66, false)), (.ld none (.t 68))⟩, [1]),
  (⟨(some 70), (some (66, false)), (.call 23 [(.t 67), (.t 69), (.c (.i .u32 0))])⟩, []),
  (⟨(some 71), none, (.pick (.t 66) (.c (.b true)) (.t 70))⟩, []),
  (⟨(some 72), none, (.val (.t 71))⟩, []),
  (⟨(some 73), (some (72, false)), (.val (.t 4))⟩, []),
  (⟨(some 74), (some (72, false)), (.fa 1 (.t 1))⟩, []),
  (⟨(some 75), (some (72, false)), (.ld none (.t 74))⟩, [1]),
  (⟨(some 76), (some (72, false)), (.call 10 [(.t 73), (.t 75)])⟩, []),
  (⟨(some 77), (some (72, false)), (.val (.t 4))⟩, []),
  (⟨(some 78), (some (72, false)), (.call 12 [(.t 77)])⟩, []),
  (⟨(some 79), (some (72, false)), (.len (.t 78))⟩, []),
  (⟨(some 80), (some (72, false)), (.bin .add (.t 76) (.t 79))⟩, []),
  (⟨(some 81), (some (72, false)), (.val (.t 4))⟩, []),
  (⟨(some 82), (some (72, false)), (.call 16 [(.t 81)])⟩, []),
  (⟨(some 83), (some (72, false)), (.bin .add (.t 80) (.t 82))⟩, []),
  (⟨(some 84), (some (72, false)), (.val (.t 4))⟩, []),
  (⟨(some 85), (some (72, false)), (.fa 1 (.t 1))⟩, []),
  (⟨(some 86), (some (72, false)), (.ld none (.t 85))⟩, [4]),
  (⟨(some 87), (some (72, false)), (.call 13 [(.t 84), (.t 86)])⟩, []),
  (⟨(some 88), (some (72, false)), (.len (.t 87))⟩, []),
  (⟨(some 89), (some (72, false)), (.bin .add (.t 83) (.t 88))⟩, []),
  (⟨(some 90), (some (72, false)), (.val (.t 4))⟩, []),
  (⟨(some 91), (some (72, false)), (.call 24 [(.t 90)])⟩, []),
  (⟨(some 92), (some (72, false)), (.bin .add (.t 89) (.t 91))⟩, []),
  (⟨(some 93), (some (72, false)), (.bin .neq (.t 92) (.c (.i .i64 0)))⟩, []),
  (⟨(some 94), none, (.pick (.t 72) (.c (.b true)) (.t 93))⟩, [])]
theorem r6_6 {fn : AFun} {K : List AItem} {t : Nat → AV} {H : AH} {T : Tbl} : runR T fn (.code (.drw d6_6) :: K) t H = regR T fn K (adrn (callR T) [
  (⟨(some 33), none, (.val (.t 5))⟩, []),
  (⟨(some 34), none, (.bin .neq (.t 33) (.c (.i .i64 0)))⟩, []),
  (⟨(some 35), none, (.val (.t 34))⟩, []),
  (⟨(some 36), (some (35, false)), (.val (.t 6))⟩, []),
  (⟨(some 37), (some (35, false)), (.bin .neq (.t 36) (.c (.i .u32 0)))⟩, []),
  (⟨(some 38), none, (.pick (.t 35) (.c (.b true)) (.t 37))⟩, []),
  (⟨(some 39), none, (.val (.t 38))⟩, []),
  (⟨(some 40), (some (39, false)), (.val (.t 7))⟩, []),
  (⟨(some 41), (some (39, false)), (.bin .neq (.t 40) (.c (.i .i64 2)))⟩, []),
  (⟨(some 42), none, (.pick (.t 39) (.c (.b true)) (.t 41))⟩, []),
  (⟨(some 43), none, (.val (.t 42))⟩, []),
  (⟨(some 44), (some (43, false)), (.val (.t 8))⟩, []),
  (⟨(some 45), (some (43, false)), (.bin .neq (.t 44) (.c (.i .u32 0)))⟩, []),
  (⟨(some 46), none, (.pick (.t 43) (.c (.b true)) (.t 45))⟩, []),
  (⟨(some 47), none, (.val (.t 46))⟩, []),
  (⟨(some 48), (some (47, false)), (.val (.t 9))⟩, []),
  (⟨(some 49), (some (47, false)), (.bin .neq (.t 48) (.c (.i .i64 2)))⟩, []),
  (⟨(some 50), none, (.pick (.t 47) (.c (.b true)) (.t 49))⟩, []),
  (⟨(some 51), none, (.val (.t 50))⟩, []),
  (⟨(some 52), (some (51, false)), (.val (.t 4))⟩, []),
  (⟨(some 53), (some (51, false)), (.fa 1 (.t 1))⟩, []),
  (⟨(some 54), (some (51, false)), (.ld none (.t 53))⟩, [1]),
  (⟨(some 55), (some (51, false)), (.fa 2 (.t 1))⟩, []),
  (⟨(some 56), (some (51, false)), (.ld none (.t 55))⟩, [1]),
  (⟨(some 57), (some (51, false)), (.call 9 [(.t 52), (.t 54), (.t 56)])⟩, []),
  (⟨(some 58), (some (51, false)), (.bin .neq (.t 57) (.c (.i .i64 2)))⟩, []),
  (⟨(some 59), none, (.pick (.t 51) (.c (.b true)) (.t 58))⟩, []),
  (⟨(some 60), none, (.val (.t 59))⟩, []),
  (⟨(some 61), (some (60, false)), (.val (.t 4))⟩, []),
  (⟨(some 62), (some (60, false)), (.fa 2 (.t 1))⟩, []),
  (⟨(some 63), (some (60, false)), (.ld none (.t 62))⟩, [1]),
  (⟨(some 64), (some (60, false)), (.call 14 [(.t 61), (.t 63)])⟩, []),
  (⟨(some 65), none, (.pick (.t 60) (.c (.b true)) (.t 64))⟩, []),
  (⟨(some 66), none, (.val (.t 65))⟩, []),
  (⟨(some 67), (some (66, false)), (.val (.t 4))⟩, []),
  (⟨(some 68), (some (66, false)), (.fa 2 (.t 1))⟩, []),
  (⟨(some 69), (some (66, false)), (.ld none (.t 68))⟩, [1]),
  (⟨(some 70), (some (66, false)), (.call 23 [(.t 67), (.t 69), (.c (.i .u32 0))])⟩, []),
  (⟨(some 71), none, (.pick (.t 66) (.c (.b true)) (.t 70))⟩, []),
  (⟨(some 72), none, (.val (.t 71))⟩, []),
  (⟨(some 73), (some (72, false)), (.val (.t 4))⟩, []),
  (⟨(some 74), (some (72, false)), (.fa 1 (.t 1))⟩, []),
  (⟨(some 75), (some (72, false)), (.ld none (.t 74))⟩, [1]),
  (⟨(some 76), (some (72, false)), (.call 10 [(.t 73), (.t 75)])⟩, []),
  (⟨(some 77), (some (72, false)), (.val (.t 4))⟩, []),
  (⟨(some 78), (some (72, false)), (.call 12 [(.t 77)])⟩, []),
  (⟨(some 79), (some (72, false)), (.len (.t 78))⟩, []),
  (⟨(some 80), (some (72, false)), (.bin .add (.t 76) (.t 79))⟩, []),
  (⟨(some 81), (some (72, false)), (.val (.t 4))⟩, []),
  (⟨(some 82), (some (72, false)), (.call 16 [(.t 81)])⟩, []),
  (⟨(some 83), (some (72, false)), (.bin .add (.t 80) (.t 82))⟩, []),
  (⟨(some 84), (some (72, false)), (.val (.t 4))⟩, []),
  (⟨(some 85), (some (72, false)), (.fa 1 (.t 1))⟩, []),
  (⟨(some 86), (some (72, false)), (.ld none (.t 85))⟩, [4]),
  (⟨(some 87), (some (72, false)), (.call 13 [(.t 84), (.t 86)])⟩, []),
  (⟨(some 88), (some (72, false)), (.len (.t 87))⟩, []),
  (⟨(some 89), (some (72, false)), (.bin .add (.t 83) (.t 88))⟩, []),
  (⟨(some 90), (some (72, false)), (.val (.t 4))⟩, []),
  (⟨(some 91), (some (72, false)), (.call 24 [(.t 90)])⟩, []),
  (⟨(some 92), (some (72, false)), (.bin .add (.t 89) (.t 91))⟩, []),
  (⟨(some 93), (some (72, false)), (.bin .neq (.t 92) (.c (.i .i64 0)))⟩, []),
  (⟨(some 94), none, (.pick (.t 72) (.c (.b true)) (.t 93))⟩, [])] t H [H]) := runR_free rfl
def d6_7 : List AOper := [
  ⟨(some 2), none, (.val (.c (.b false)))⟩]
theorem r6_7 {fn : AFun} {K : List AItem} {t : Nat → AV} {H : AH} {T : Tbl} : runR T fn (.code (.reg d6_7) :: K) t H = regR T fn K (aops (callR T) [
  ⟨(some 2), none, (.val (.c (.b false)))⟩] t H) := runR_reg'
def d6_8 : List AOper := [
  ⟨(some 95), none, (.bin .add (.t 14) (.c (.i .i64 1)))⟩,
  ⟨(some 14), none, (.val (.t 95))⟩]
theorem r6_8 {fn : AFun} {K : List AItem} {t : Nat → AV} {H : AH} {T : Tbl} : runR T fn (.code (.reg d6_8) :: K) t H = regR T fn K (aops (callR T) [
  ⟨(some 95), none, (.bin .add (.t 14) (.c (.i .i64 1)))⟩,
  ⟨(some 14), none, (.val (.t 95))⟩] t H) := runR_reg'
def l6_9 : ACode := (.seq (.reg d6_2) (.seq (.cond (.t 15) .skip (.exit 0)) (.seq (.block 1 (.seq (.reg d6_3) (.seq (.reg d6_4) (.seq (.reg d6_5) (.seq (.drw d6_6) (.cond (.t 94) (.seq (.reg d6_7) .ret) .skip)))))) (.reg d6_8))))
def d6_10 : List AOper := [
  ⟨(some 96), none, (.call 15 [])⟩,
  ⟨(some 2), none, (.val (.t 96))⟩]
theorem r6_10 {fn : AFun} {K : List AItem} {t : Nat → AV} {H : AH} {T : Tbl} : runR T fn (.code (.reg d6_10) :: K) t H = regR T fn K (aops (callR T) [
  ⟨(some 96), none, (.call 15 [])⟩,
  ⟨(some 2), none, (.val (.t 96))⟩] t H) := runR_reg'
def a6 : AFun := ⟨97, [(.tmp 2)], (.seq (.reg d6_0) (.seq (.seq (.reg d6_1) (.block 0 (.loop l6_9))) (.seq (.reg d6_10) .ret)))⟩
theorem a6_ok : cfun Try.prog 6 = some a6 := by kernel_rfl
/-- futtock/slots.New -/
def d7_0 : List AOper := [
  ⟨(some 4), none, (.val (.c (.p none)))⟩,
  ⟨(some 5), none, (.val (.c (.i .i64 0)))⟩]
theorem r7_0 {fn : AFun} {K : List AItem} {t : Nat → AV} {H : AH} {T : Tbl} : runR T fn (.code (.reg d7_0) :: K) t H = regR T fn K (aops (callR T) [
  ⟨(some 4), none, (.val (.c (.p none)))⟩,
  ⟨(some 5), none, (.val (.c (.i .i64 0)))⟩] t H) := runR_reg'
def d7_1 : List AOper := [
  ⟨(some 6), none, (.val (.t 0))⟩,
  ⟨(some 7), none, (.bin .lss (.t 6) (.c (.i .i64 1)))⟩,
  ⟨(some 8), none, (.val (.t 7))⟩,
  ⟨(some 9), (some (8, false)), (.val (.t 0))⟩,
  ⟨(some 10), (some (8, false)), (.bin .gtr (.t 9) (.c (.i .i64 4096)))⟩,
  ⟨(some 11), none, (.pick (.t 8) (.c (.b true)) (.t 10))⟩,
  ⟨(some 12), none, (.val (.t 11))⟩,
  ⟨(some 13), (some (12, false)), (.val (.t 1))⟩,
  ⟨(some 14), (some (12, false)), (.bin .lss (.t 13) (.c (.i .i64 1)))⟩,
  ⟨(some 15), none, (.pick (.t 12) (.c (.b true)) (.t 14))⟩,
  ⟨(some 16), none, (.val (.t 15))⟩,
  ⟨(some 17), (some (16, false)), (.val (.t 1))⟩,
  ⟨(some 18), (some (16, false)), (.bin .gtr (.t 17) (.c (.i .i64 64)))⟩,
  ⟨(some 19), none, (.pick (.t 16) (.c (.b true)) (.t 18))⟩]
theorem r7_1 {fn : AFun} {K : List AItem} {t : Nat → AV} {H : AH} {T : Tbl} : runR T fn (.code (.reg d7_1) :: K) t H = regR T fn K (aops (callR T) [
  ⟨(some 6), none, (.val (.t 0))⟩,
  ⟨(some 7), none, (.bin .lss (.t 6) (.c (.i .i64 1)))⟩,
  ⟨(some 8), none, (.val (.t 7))⟩,
  ⟨(some 9), (some (8, false)), (.val (.t 0))⟩,
  ⟨(some 10), (some (8, false)), (.bin .gtr (.t 9) (.c (.i .i64 4096)))⟩,
  ⟨(some 11), none, (.pick (.t 8) (.c (.b true)) (.t 10))⟩,
  ⟨(some 12), none, (.val (.t 11))⟩,
  ⟨(some 13), (some (12, false)), (.val (.t 1))⟩,
  ⟨(some 14), (some (12, false)), (.bin .lss (.t 13) (.c (.i .i64 1)))⟩,
  ⟨(some 15), none, (.pick (.t 12) (.c (.b true)) (.t 14))⟩,
  ⟨(some 16), none, (.val (.t 15))⟩,
  ⟨(some 17), (some (16, false)), (.val (.t 1))⟩,
  ⟨(some 18), (some (16, false)), (.bin .gtr (.t 17) (.c (.i .i64 64)))⟩,
  ⟨(some 19), none, (.pick (.t 16) (.c (.b true)) (.t 18))⟩] t H) := runR_reg'
def d7_2 : List AOper := [
  ⟨(some 4), none, (.val (.c (.p none)))⟩,
  ⟨(some 5), none, (.val (.c (.i .i64 1)))⟩]
theorem r7_2 {fn : AFun} {K : List AItem} {t : Nat → AV} {H : AH} {T : Tbl} : runR T fn (.code (.reg d7_2) :: K) t H = regR T fn K (aops (callR T) [
  ⟨(some 4), none, (.val (.c (.p none)))⟩,
  ⟨(some 5), none, (.val (.c (.i .i64 1)))⟩] t H) := runR_reg'
def d7_3 : List AOper := [
  ⟨(some 20), none, (.val (.t 0))⟩,
  ⟨(some 21), none, (.val (.t 1))⟩,
  ⟨(some 22), none, (.build [(.i .i64 0), (.i .i64 0), (.sl none 0 0 true 0), (.sl none 0 0 true 0), (.sl none 0 0 true 0), (.sl none 0 0 true 0), (.sl none 0 0 true 0), (.sl none 0 0 true 0), (.sl none 0 0 true 0), (.sl none 0 0 true 0), (.sl none 0 0 true 0), (.sl none 0 0 true 0), (.sl none 0 0 true 0), (.sl none 0 0 true 0), (.sl none 0 0 true 0), (.sl none 0 0 true 0), (.sl none 0 0 true 0), (.sl none 0 0 true 0), (.sl none 0 0 true 0), (.sl none 0 0 true 0), (.sl none 0 0 true 0), (.sl none 0 0 true 0), (.sl none 0 0 true 0), (.sl none 0 0 true 0), (.sl none 0 0 true 0), (.sl none 0 0 true 0), (.sl none 0 0 true 0), (.sl none 0 0 true 0), (.sl none 0 0 true 0), (.sl none 0 0 true 0), (.sl none 0 0 true 0), (.sl none 0 0 true 0), (.sl none 0 0 true 0), (.sl none 0 0 true 0), (.sl none 0 0 true 0), (.sl none 0 0 true 0), (.sl none 0 0 true 0), (.sl none 0 0 true 0), (.sl none 0 0 true 0), (.sl none 0 0 true 0), (.sl none 0 0 true 0), (.sl none 0 0 true 0), (.sl none 0 0 true 0), (.sl none 0 0 true 0), (.sl none 0 0 true 0), (.sl none 0 0 true 0), (.sl none 0 0 true 0), (.sl none 0 0 true 0), (.sl none 0 0 true 0), (.sl none 0 0 true 0), (.sl none 0 0 true 0), (.sl none 0 0 true 0), (.sl none 0 0 true 0), (.sl none 0 0 true 0), (.sl none 0 0 true 0), (.sl none 0 0 true 0), (.sl none 0 0 true 0), (.sl none 0 0 true 0), (.sl none 0 0 true 0), (.sl none 0 0 true 0), (.sl none 0 0 true 0), (.sl none 0 0 true 0), (.sl none 0 0 true 0), (.sl none 0 0 true 0), (.sl none 0 0 true 0), (.sl none 0 0 true 0), (.sl none 0 0 true 0), (.sl none 0 0 true 0), (.sl none 0 0 true 0), (.sl none 0 0 true 0), (.sl none 0 0 true 0), (.sl none 0 0 true 0), (.sl none 0 0 true 0), (.sl none 0 0 true 0), (.sl none 0 0 true 0), (.sl none 0 0 true 0), (.sl none 0 0 true 0), (.sl none 0 0 true 0), (.sl none 0 0 true 0), (.sl none 0 0 true 0), (.sl none 0 0 true 0), (.sl none 0 0 true 0), (.sl none 0 0 true 0), (.sl none 0 0 true 0), (.sl none 0 0 true 0), (.sl none 0 0 true 0), (.sl none 0 0 true 0), (.sl none 0 0 true 0), (.sl none 0 0 true 0), (.sl none 0 0 true 0), (.sl none 0 0 true 0), (.sl none 0 0 true 0), (.sl none 0 0 true 0), (.sl none 0 0 true 0), (.sl none 0 0 true 0), (.sl none 0 0 true 0), (.sl none 0 0 true 0), (.sl none 0 0 true 0), (.sl none 0 0 true 0), (.sl none 0 0 true 0), (.sl none 0 0 true 0), (.sl none 0 0 true 0), (.sl none 0 0 true 0), (.sl none 0 0 true 0), (.sl none 0 0 true 0), (.sl none 0 0 true 0), (.sl none 0 0 true 0), (.sl none 0 0 true 0), (.sl none 0 0 true 0), (.sl none 0 0 true 0), (.sl none 0 0 true 0), (.sl none 0 0 true 0), (.sl none 0 0 true 0), (.sl none 0 0 true 0), (.sl none 0 0 true 0), (.sl none 0 0 true 0), (.sl none 0 0 true 0), (.sl none 0 0 true 0), (.sl none 0 0 true 0), (.sl none 0 0 true 0), (.sl none 0 0 true 0), (.sl none 0 0 true 0), (.sl none 0 0 true 0), (.sl none 0 0 true 0), (.sl none 0 0 true 0), (.sl none 0 0 true 0), (.sl none 0 0 true 0), (.sl none 0 0 true 0), (.sl none 0 0 true 0), (.sl none 0 0 true 0), (.sl none 0 0 true 0), (.sl none 0 0 true 0), (.sl none 0 0 true 0), (.sl none 0 0 true 0), (.sl none 0 0 true 0), (.sl none 0 0 true 0), (.sl none 0 0 true 0), (.sl none 0 0 true 0), (.sl none 0 0 true 0), (.sl none 0 0 true 0), (.sl none 0 0 true 0), (.sl none 0 0 true 0), (.sl none 0 0 true 0), (.sl none 0 0 true 0), (.sl none 0 0 true 0), (.sl none 0 0 true 0), (.sl none 0 0 true 0), (.sl none 0 0 true 0), (.sl none 0 0 true 0), (.sl none 0 0 true 0), (.sl none 0 0 true 0), (.sl none 0 0 true 0), (.sl none 0 0 true 0), (.sl none 0 0 true 0), (.sl none 0 0 true 0), (.sl none 0 0 true 0), (.sl none 0 0 true 0), (.sl none 0 0 true 0), (.sl none 0 0 true 0), (.sl none 0 0 true 0), (.sl none 0 0 true 0), (.sl none 0 0 true 0), (.sl none 0 0 true 0), (.sl none 0 0 true 0), (.sl none 0 0 true 0), (.sl none 0 0 true 0), (.sl none 0 0 true 0), (.sl none 0 0 true 0), (.sl none 0 0 true 0), (.sl none 0 0 true 0), (.sl none 0 0 true 0), (.sl none 0 0 true 0), (.sl none 0 0 true 0), (.sl none 0 0 true 0), (.sl none 0 0 true 0), (.sl none 0 0 true 0), (.sl none 0 0 true 0), (.sl none 0 0 true 0), (.sl none 0 0 true 0), (.sl none 0 0 true 0), (.sl none 0 0 true 0), (.sl none 0 0 true 0), (.sl none 0 0 true 0), (.sl none 0 0 true 0), (.sl none 0 0 true 0), (.sl none 0 0 true 0), (.sl none 0 0 true 0), (.sl none 0 0 true 0), (.sl none 0 0 true 0), (.sl none 0 0 true 0), (.sl none 0 0 true 0), (.sl none 0 0 true 0), (.sl none 0 0 true 0), (.sl none 0 0 true 0), (.sl none 0 0 true 0), (.sl none 0 0 true 0), (.sl none 0 0 true 0), (.sl none 0 0 true 0), (.sl none 0 0 true 0), (.sl none 0 0 true 0), (.sl none 0 0 true 0), (.sl none 0 0 true 0), (.sl none 0 0 true 0), (.sl none 0 0 true 0), (.sl none 0 0 true 0), (.sl none 0 0 true 0), (.sl none 0 0 true 0), (.sl none 0 0 true 0), (.sl none 0 0 true 0), (.sl none 0 0 true 0), (.sl none 0 0 true 0), (.sl none 0 0 true 0), (.sl none 0 0 true 0), (.sl none 0 0 true 0), (.sl none 0 0 true 0), (.sl none 0 0 true 0), (.sl none 0 0 true 0), (.sl none 0 0 true 0), (.sl none 0 0 true 0), (.sl none 0 0 true 0), (.sl none 0 0 true 0), (.sl none 0 0 true 0), (.sl none 0 0 true 0), (.sl none 0 0 true 0), (.sl none 0 0 true 0), (.sl none 0 0 true 0), (.sl none 0 0 true 0), (.sl none 0 0 true 0), (.sl none 0 0 true 0), (.sl none 0 0 true 0), (.sl none 0 0 true 0), (.sl none 0 0 true 0), (.sl none 0 0 true 0), (.sl none 0 0 true 0), (.sl none 0 0 true 0), (.sl none 0 0 true 0), (.sl none 0 0 true 0), (.sl none 0 0 true 0), (.sl none 0 0 true 0), (.sl none 0 0 true 0), (.sl none 0 0 true 0), (.sl none 0 0 true 0), (.sl none 0 0 true 0), (.sl none 0 0 true 0), (.sl none 0 0 true 0), (.sl none 0 0 true 0), (.sl none 0 0 true 0), (.sl none 0 0 true 0), (.sl none 0 0 true 0), (.sl none 0 0 true 0), (.sl none 0 0 true 0), (.sl none 0 0 true 0), (.sl none 0 0 true 0), (.sl none 0 0 true 0), (.sl none 0 0 true 0), (.sl none 0 0 true 0), (.sl none 0 0 true 0), (.sl none 0 0 true 0), (.sl none 0 0 true 0), (.sl none 0 0 true 0)] [(0, 1, (.t 20)), (1, 1, (.t 21))])⟩,
  ⟨(some 23), none, (.box (.t 22))⟩,
  ⟨(some 4), none, (.val (.t 23))⟩,
  ⟨(some 5), none, (.val (.c (.i .i64 0)))⟩]
theorem r7_3 {fn : AFun} {K : List AItem} {t : Nat → AV} {H : AH} {T : Tbl} : runR T fn (.code (.reg d7_3) :: K) t H = regR T fn K (aops (callR T) [
  ⟨(some 20), none, (.val (.t 0))⟩,
  ⟨(some 21), none, (.val (.t 1))⟩,
  ⟨(some 22), none, (.build [(.i .i64 0), (.i .i64 0), (.sl none 0 0 true 0), (.sl none 0 0 true 0), (.sl none 0 0 true 0), (.sl none 0 0 true 0), (.sl none 0 0 true 0), (.sl none 0 0 true 0), (.sl none 0 0 true 0), (.sl none 0 0 true 0), (.sl none 0 0 true 0), (.sl none 0 0 true 0), (.sl none 0 0 true 0), (.sl none 0 0 true 0), (.sl none 0 0 true 0), (.sl none 0 0 true 0), (.sl none 0 0 true 0), (.sl none 0 0 true 0), (.sl none 0 0 true 0), (.sl none 0 0 true 0), (.sl none 0 0 true 0), (.sl none 0 0 true 0), (.sl none 0 0 true 0), (.sl none 0 0 true 0), (.sl none 0 0 true 0), (.sl none 0 0 true 0), (.sl none 0 0 true 0), (.sl none 0 0 true 0), (.sl none 0 0 true 0), (.sl none 0 0 true 0), (.sl none 0 0 true 0), (.sl none 0 0 true 0), (.sl none 0 0 true 0), (.sl none 0 0 true 0), (.sl none 0 0 true 0), (.sl none 0 0 true 0), (.sl none 0 0 true 0), (.sl none 0 0 true 0), (.sl none 0 0 true 0), (.sl none 0 0 true 0), (.sl none 0 0 true 0), (.sl none 0 0 true 0), (.sl none 0 0 true 0), (.sl none 0 0 true 0), (.sl none 0 0 true 0), (.sl none 0 0 true 0), (.sl none 0 0 true 0), (.sl none 0 0 true 0), (.sl none 0 0 true 0), (.sl none 0 0 true 0), (.sl none 0 0 true 0), (.sl none 0 0 true 0), (.sl none 0 0 true 0), (.sl none 0 0 true 0), (.sl none 0 0 true 0), (.sl none 0 0 true 0), (.sl none 0 0 true 0), (.sl none 0 0 true 0), (.sl none 0 0 true 0), (.sl none 0 0 true 0), (.sl none 0 0 true 0), (.sl none 0 0 true 0), (.sl none 0 0 true 0), (.sl none 0 0 true 0), (.sl none 0 0 true 0), (.sl none 0 0 true 0), (.sl none 0 0 true 0), (.sl none 0 0 true 0), (.sl none 0 0 true 0), (.sl none 0 0 true 0), (.sl none 0 0 true 0), (.sl none 0 0 true 0), (.sl none 0 0 true 0), (.sl none 0 0 true 0), (.sl none 0 0 true 0), (.sl none 0 0 true 0), (.sl none 0 0 true 0), (.sl none 0 0 true 0), (.sl none 0 0 true 0), (.sl none 0 0 true 0), (.sl none 0 0 true 0), (.sl none 0 0 true 0), (.sl none 0 0 true 0), (.sl none 0 0 true 0), (.sl none 0 0 true 0), (.sl none 0 0 true 0), (.sl none 0 0 true 0), (.sl none 0 0 true 0), (.sl none 0 0 true 0), (.sl none 0 0 true 0), (.sl none 0 0 true 0), (.sl none 0 0 true 0), (.sl none 0 0 true 0), (.sl none 0 0 true 0), (.sl none 0 0 true 0), (.sl none 0 0 true 0), (.sl none 0 0 true 0), (.sl none 0 0 true 0), (.sl none 0 0 true 0), (.sl none 0 0 true 0), (.sl none 0 0 true 0), (.sl none 0 0 true 0), (.sl none 0 0 true 0), (.sl none 0 0 true 0), (.sl none 0 0 true 0), (.sl none 0 0 true 0), (.sl none 0 0 true 0), (.sl none 0 0 true 0), (.sl none 0 0 true 0), (.sl none 0 0 true 0), (.sl none 0 0 true 0), (.sl none 0 0 true 0), (.sl none 0 0 true 0), (.sl none 0 0 true 0), (.sl none 0 0 true 0), (.sl none 0 0 true 0), (.sl none 0 0 true 0), (.sl none 0 0 true 0), (.sl none 0 0 true 0), (.sl none 0 0 true 0), (.sl none 0 0 true 0), (.sl none 0 0 true 0), (.sl none 0 0 true 0), (.sl none 0 0 true 0), (.sl none 0 0 true 0), (.sl none 0 0 true 0), (.sl none 0 0 true 0), (.sl none 0 0 true 0), (.sl none 0 0 true 0), (.sl none 0 0 true 0), (.sl none 0 0 true 0), (.sl none 0 0 true 0), (.sl none 0 0 true 0), (.sl none 0 0 true 0), (.sl none 0 0 true 0), (.sl none 0 0 true 0), (.sl none 0 0 true 0), (.sl none 0 0 true 0), (.sl none 0 0 true 0), (.sl none 0 0 true 0), (.sl none 0 0 true 0), (.sl none 0 0 true 0), (.sl none 0 0 true 0), (.sl none 0 0 true 0), (.sl none 0 0 true 0), (.sl none 0 0 true 0), (.sl none 0 0 true 0), (.sl none 0 0 true 0), (.sl none 0 0 true 0), (.sl none 0 0 true 0), (.sl none 0 0 true 0), (.sl none 0 0 true 0), (.sl none 0 0 true 0), (.sl none 0 0 true 0), (.sl none 0 0 true 0), (.sl none 0 0 true 0), (.sl none 0 0 true 0), (.sl none 0 0 true 0), (.sl none 0 0 true 0), (.sl none 0 0 true 0), (.sl none 0 0 true 0), (.sl none 0 0 true 0), (.sl none 0 0 true 0), (.sl none 0 0 true 0), (.sl none 0 0 true 0), (.sl none 0 0 true 0), (.sl none 0 0 true 0), (.sl none 0 0 true 0), (.sl none 0 0 true 0), (.sl none 0 0 true 0), (.sl none 0 0 true 0), (.sl none 0 0 true 0), (.sl none 0 0 true 0), (.sl none 0 0 true 0), (.sl none 0 0 true 0), (.sl none 0 0 true 0), (.sl none 0 0 true 0), (.sl none 0 0 true 0), (.sl none 0 0 true 0), (.sl none 0 0 true 0), (.sl none 0 0 true 0), (.sl none 0 0 true 0), (.sl none 0 0 true 0), (.sl none 0 0 true 0), (.sl none 0 0 true 0), (.sl none 0 0 true 0), (.sl none 0 0 true 0), (.sl none 0 0 true 0), (.sl none 0 0 true 0), (.sl none 0 0 true 0), (.sl none 0 0 true 0), (.sl none 0 0 true 0), (.sl none 0 0 true 0), (.sl none 0 0 true 0), (.sl none 0 0 true 0), (.sl none 0 0 true 0), (.sl none 0 0 true 0), (.sl none 0 0 true 0), (.sl none 0 0 true 0), (.sl none 0 0 true 0), (.sl none 0 0 true 0), (.sl none 0 0 true 0), (.sl none 0 0 true 0), (.sl none 0 0 true 0), (.sl none 0 0 true 0), (.sl none 0 0 true 0), (.sl none 0 0 true 0), (.sl none 0 0 true 0), (.sl none 0 0 true 0), (.sl none 0 0 true 0), (.sl none 0 0 true 0), (.sl none 0 0 true 0), (.sl none 0 0 true 0), (.sl none 0 0 true 0), (.sl none 0 0 true 0), (.sl none 0 0 true 0), (.sl none 0 0 true 0), (.sl none 0 0 true 0), (.sl none 0 0 true 0), (.sl none 0 0 true 0), (.sl none 0 0 true 0), (.sl none 0 0 true 0), (.sl none 0 0 true 0), (.sl none 0 0 true 0), (.sl none 0 0 true 0), (.sl none 0 0 true 0), (.sl none 0 0 true 0), (.sl none 0 0 true 0), (.sl none 0 0 true 0), (.sl none 0 0 true 0), (.sl none 0 0 true 0), (.sl none 0 0 true 0), (.sl none 0 0 true 0), (.sl none 0 0 true 0), (.sl none 0 0 true 0), (.sl none 0 0 true 0), (.sl none 0 0 true 0), (.sl none 0 0 true 0), (.sl none 0 0 true 0), (.sl none 0 0 true 0), (.sl none 0 0 true 0), (.sl none 0 0 true 0), (.sl none 0 0 true 0), (.sl none 0 0 true 0), (.sl none 0 0 true 0), (.sl none 0 0 true 0), (.sl none 0 0 true 0), (.sl none 0 0 true 0), (.sl none 0 0 true 0), (.sl none 0 0 true 0), (.sl none 0 0 true 0), (.sl none 0 0 true 0), (.sl none 0 0 true 0), (.sl none 0 0 true 0), (.sl none 0 0 true 0), (.sl none 0 0 true 0), (.sl none 0 0 true 0), (.sl none 0 0 true 0), (.sl none 0 0 true 0), (.sl none 0 0 true 0)] [(0, 1, (.t 20)), (1, 1, (.t 21))])⟩,
  ⟨(some 23), none, (.box (.t 22))⟩,
  ⟨(some 4), none, (.val (.t 23))⟩,
  ⟨(some 5), none, (.val (.c (.i .i64 0)))⟩] t H) := runR_reg'
def a7 : AFun := ⟨24, [(.tmp 4), (.tmp 5)], (.seq (.reg d7_0) (.seq (.seq (.reg d7_1) (.cond (.t 19) (.seq (.reg d7_2) .ret) .skip)) (.seq (.reg d7_3) .ret)))⟩
theorem a7_ok : cfun Try.prog 7 = some a7 := by kernel_rfl
/-- futtock/futtocklaw10.short -/
def d8_0 : List AOper := [
  ⟨(some 2), none, (.val (.c (.sl none 0 0 true 0)))⟩]
theorem r8_0 {fn : AFun} {K : List AItem} {t : Nat → AV} {H : AH} {T : Tbl} : runR T fn (.code (.reg d8_0) :: K) t H = regR T fn K (aops (callR T) [
  ⟨(some 2), none, (.val (.c (.sl none 0 0 true 0)))⟩] t H) := runR_reg'
def d8_1 : List AOper := [
  ⟨(some 3), none, (.val (.t 0))⟩,
  ⟨(some 4), none, (.val (.t 0))⟩,
  ⟨(some 5), none, (.len (.t 4))⟩,
  ⟨(some 6), none, (.mm false [(.t 5), (.c (.i .i64 120))])⟩,
  ⟨(some 7), none, (.sls 3 (.t 3) none (some (.t 6)) none)⟩,
  ⟨(some 2), none, (.val (.t 7))⟩]
theorem r8_1 {fn : AFun} {K : List AItem} {t : Nat → AV} {H : AH} {T : Tbl} : runR T fn (.code (.reg d8_1) :: K) t H = regR T fn K (aops (callR T) [
  ⟨(some 3), none, (.val (.t 0))⟩,
  ⟨(some 4), none, (.val (.t 0))⟩,
  ⟨(some 5), none, (.len (.t 4))⟩,
  ⟨(some 6), none, (.mm false [(.t 5), (.c (.i .i64 120))])⟩,
  ⟨(some 7), none, (.sls 3 (.t 3) none (some (.t 6)) none)⟩,
  ⟨(some 2), none, (.val (.t 7))⟩] t H) := runR_reg'
def a8 : AFun := ⟨8, [(.tmp 2)], (.seq (.reg d8_0) (.seq (.reg d8_1) .ret))⟩
theorem a8_ok : cfun Try.prog 8 = some a8 := by kernel_rfl
/-- (*futtock/slots.Table).Free -/
def d9_0 : List AOper := [
  ⟨(some 6), none, (.val (.c (.i .i64 0)))⟩]
theorem r9_0 {fn : AFun} {K : List AItem} {t : Nat → AV} {H : AH} {T : Tbl} : runR T fn (.code (.reg d9_0) :: K) t H = regR T fn K (aops (callR T) [
  ⟨(some 6), none, (.val (.c (.i .i64 0)))⟩] t H) := runR_reg'
def d9_1 : List AOper := [
  ⟨(some 9), none, (.val (.t 0))⟩,
  ⟨(some 10), none, (.call 25 [(.t 9)])⟩,
  ⟨(some 11), none, (.un .not (.t 10))⟩,
  ⟨(some 8), none, (.val (.t 11))⟩]
theorem r9_1 {fn : AFun} {K : List AItem} {t : Nat → AV} {H : AH} {T : Tbl} : runR T fn (.code (.reg d9_1) :: K) t H = regR T fn K (aops (callR T) [
  ⟨(some 9), none, (.val (.t 0))⟩,
  ⟨(some 10), none, (.call 25 [(.t 9)])⟩,
  ⟨(some 11), none, (.un .not (.t 10))⟩,
  ⟨(some 8), none, (.val (.t 11))⟩] t H) := runR_reg'
def d9_2 : List AOper := [
  ⟨(some 6), none, (.val (.c (.i .i64 2)))⟩]
theorem r9_2 {fn : AFun} {K : List AItem} {t : Nat → AV} {H : AH} {T : Tbl} : runR T fn (.code (.reg d9_2) :: K) t H = regR T fn K (aops (callR T) [
  ⟨(some 6), none, (.val (.c (.i .i64 2)))⟩] t H) := runR_reg'
def d9_3 : List AOper := [
  ⟨(some 13), none, (.val (.t 1))⟩,
  ⟨(some 14), none, (.call 26 [(.t 13)])⟩,
  ⟨(some 15), none, (.un .not (.t 14))⟩,
  ⟨(some 16), none, (.val (.t 15))⟩,
  ⟨(some 17), (some (16, false)), (.val (.t 0))⟩,
  ⟨(some 18), (some (16, false)), (.val (.t 2))⟩,
  ⟨(some 19), (some (16, false)), (.call 14 [(.t 17), (.t 18)])⟩,
  ⟨(some 20), (some (16, false)), (.un .not (.t 19))⟩,
  ⟨(some 21), none, (.pick (.t 16) (.c (.b true)) (.t 20))⟩,
  ⟨(some 12), none, (.val (.t 21))⟩]
theorem r9_3 {fn : AFun} {K : List AItem} {t : Nat → AV} {H : AH} {T : Tbl} : runR T fn (.code (.reg d9_3) :: K) t H = regR T fn K (aops (callR T) [
  ⟨(some 13), none, (.val (.t 1))⟩,
  ⟨(some 14), none, (.call 26 [(.t 13)])⟩,
  ⟨(some 15), none, (.un .not (.t 14))⟩,
  ⟨(some 16), none, (.val (.t 15))⟩,
  ⟨(some 17), (some (16, false)), (.val (.t 0))⟩,
  ⟨(some 18), (some (16, false)), (.val (.t 2))⟩,
  ⟨(some 19), (some (16, false)), (.call 14 [(.t 17), (.t 18)])⟩,
  ⟨(some 20), (some (16, false)), (.un .not (.t 19))⟩,
  ⟨(some 21), none, (.pick (.t 16) (.c (.b true)) (.t 20))⟩,
  ⟨(some 12), none, (.val (.t 21))⟩] t H) := runR_reg'
def d9_4 : List AOper := [
  ⟨(some 6), none, (.val (.c (.i .i64 1)))⟩]
theorem r9_4 {fn : AFun} {K : List AItem} {t : Nat → AV} {H : AH} {T : Tbl} : runR T fn (.code (.reg d9_4) :: K) t H = regR T fn K (aops (callR T) [
  ⟨(some 6), none, (.val (.c (.i .i64 1)))⟩] t H) := runR_reg'
def d9_5 : List AOper := [
  ⟨(some 22), none, (.val (.t 0))⟩,
  ⟨(some 23), none, (.nilc (.t 22))⟩,
  ⟨(some 24), none, (.fa 2 (.t 23))⟩,
  ⟨(some 25), none, (.ld none (.t 24))⟩,
  ⟨(some 26), none, (.val (.t 2))⟩,
  ⟨(some 27), none, (.ia 2 (.t 25) (.t 26))⟩,
  ⟨(some 7), none, (.val (.t 27))⟩]
theorem r9_5 {fn : AFun} {K : List AItem} {t : Nat → AV} {H : AH} {T : Tbl} : runR T fn (.code (.reg d9_5) :: K) t H = regR T fn K (aops (callR T) [
  ⟨(some 22), none, (.val (.t 0))⟩,
  ⟨(some 23), none, (.nilc (.t 22))⟩,
  ⟨(some 24), none, (.fa 2 (.t 23))⟩,
  ⟨(some 25), none, (.ld none (.t 24))⟩,
  ⟨(some 26), none, (.val (.t 2))⟩,
  ⟨(some 27), none, (.ia 2 (.t 25) (.t 26))⟩,
  ⟨(some 7), none, (.val (.t 27))⟩] t H) := runR_reg'
def d9_6 : List AOper := [
  ⟨(some 28), none, (.val (.t 7))⟩,
  ⟨(some 29), none, (.nilc (.t 28))⟩,
  ⟨(some 30), none, (.fa 0 (.t 29))⟩,
  ⟨none, none, (.st 1 (.t 30) (.c (.b false)))⟩]
theorem r9_6 {fn : AFun} {K : List AItem} {t : Nat → AV} {H : AH} {T : Tbl} : runR T fn (.code (.reg d9_6) :: K) t H = regR T fn K (aops (callR T) [
  ⟨(some 28), none, (.val (.t 7))⟩,
  ⟨(some 29), none, (.nilc (.t 28))⟩,
  ⟨(some 30), none, (.fa 0 (.t 29))⟩,
  ⟨none, none, (.st 1 (.t 30) (.c (.b false)))⟩] t H) := runR_reg'
def d9_7 : List AOper := [
  ⟨(some 35), none, (.val (.t 7))⟩,
  ⟨(some 36), none, (.nilc (.t 35))⟩,
  ⟨(some 37), none, (.fa 1 (.t 36))⟩,
  ⟨(some 38), none, (.ld none (.t 37))⟩,
  ⟨(some 39), none, (.bin .eql (.t 38) (.c (.i .u32 16777215)))⟩,
  ⟨(some 34), none, (.val (.t 39))⟩]
theorem r9_7 {fn : AFun} {K : List AItem} {t : Nat → AV} {H : AH} {T : Tbl} : runR T fn (.code (.reg d9_7) :: K) t H = regR T fn K (aops (callR T) [
  ⟨(some 35), none, (.val (.t 7))⟩,
  ⟨(some 36), none, (.nilc (.t 35))⟩,
  ⟨(some 37), none, (.fa 1 (.t 36))⟩,
  ⟨(some 38), none, (.ld none (.t 37))⟩,
  ⟨(some 39), none, (.bin .eql (.t 38) (.c (.i .u32 16777215)))⟩,
  ⟨(some 34), none, (.val (.t 39))⟩] t H) := runR_reg'
def d9_8 : List AOper := [
  ⟨(some 6), none, (.val (.c (.i .i64 0)))⟩]
theorem r9_8 {fn : AFun} {K : List AItem} {t : Nat → AV} {H : AH} {T : Tbl} : runR T fn (.code (.reg d9_8) :: K) t H = regR T fn K (aops (callR T) [
  ⟨(some 6), none, (.val (.c (.i .i64 0)))⟩] t H) := runR_reg'
def d9_9 : List (AOper × List Nat) := [
  (⟨(some 41), none, (.val (.t 0))⟩, []),
  (⟨(some 42), none, (.val (.t 1))⟩, []),
  (⟨(some 43), none, (.nilc (.t 41))⟩, []),
  (⟨(some 44), none, (.fa 4 (.t 43))⟩, []),
  (⟨(some 45), none, (.iaa 256 1 (.t 44) (.t 42))⟩, []),
  (⟨(some 46), none, (.ld none (.t 45))⟩, [1]),
  (⟨(some 47), none, (.len (.t 46))⟩, []),
  (⟨(some 48), none, (.val (.t 0))⟩, []),
  (⟨(some 49), none, (.nilc (.t 48))⟩, []),
  (⟨(some 50), none, (.fa 1 (.t 49))⟩, []),
  (⟨(some 51), none, (.ld none (.t 50))⟩, [1]),
  (⟨(some 52), none, (.bin .lss (.t 47) (.t 51))⟩, []),
  (⟨(some 40), none, (.val (.t 52))⟩, [])]
theorem r9_9 {fn : AFun} {K : List AItem} {t : Nat → AV} {H : AH} {T : Tbl} : runR T fn (.code (.drw d9_9) :: K) t H = regR T fn K (aops (callR T) [
  ⟨(some 41), none, (.val (.t 0))⟩,
  ⟨(some 42), none, (.val (.t 1))⟩,
  ⟨(some 43), none, (.nilc (.t 41))⟩,
  ⟨(some 44), none, (.fa 4 (.t 43))⟩,
  ⟨(some 45), none, (.iaa 256 1 (.t 44) (.t 42))⟩,
  ⟨(some 46), none, (.ld none (.t 45))⟩,
  ⟨(some 47), none, (.len (.t 46))⟩,
  ⟨(some 48), none, (.val (.t 0))⟩,
  ⟨(some 49), none, (.nilc (.t 48))⟩,
  ⟨(some 50), none, (.fa 1 (.t 49))⟩,
  ⟨(some 51), none, (.ld none (.t 50))⟩,
  ⟨(some 52), none, (.bin .lss (.t 47) (.t 51))⟩,
  ⟨(some 40), none, (.val (.t 52))⟩] t H) := runR_plain rfl
def d9_10 : List (AOper × List Nat) := [
  (⟨(some 53), none, (.val (.t 0))⟩, []),
  (⟨(some 54), none, (.val (.t 1))⟩, []),
  (⟨(some 55), none, (.val (.t 0))⟩, []),
  (⟨(some 56), none, (.val (.t 1))⟩, []),
  (⟨(some 57), none, (.nilc (.t 55))⟩, []),
  (⟨(some 58), none, (.fa 4 (.t 57))⟩, []),
  (⟨(some 59), none, (.iaa 256 1 (.t 58) (.t 56))⟩, []),
  (⟨(some 60), none, (.ld none (.t 59))⟩, [1]),
  (⟨(some 61), none, (.val (.t 2))⟩, []),
  (⟨(some 62), none, (.bsl [(.i .i64 0)] 1 [(0, 1, (.t 61))])⟩, []),
  (⟨(some 63), none, (.app [(.i .i64 0)] 8 (.t 60) (.t 62))⟩, []),
  (⟨(some 64), none, (.nilc (.t 53))⟩, []),
  (⟨(some 65), none, (.fa 4 (.t 64))⟩, []),
  (⟨(some 66), none, (.iaa 256 1 (.t 65) (.t 54))⟩, []),
  (⟨none, none, (.st 1 (.t 66) (.t 63))⟩, [])]
theorem r9_10 {fn : AFun} {K : List AItem} {t : Nat → AV} {H : AH} {T : Tbl} : runR T fn (.code (.drw d9_10) :: K) t H = regR T fn K (aops (callR T) [
  ⟨(some 53), none, (.val (.t 0))⟩,
  ⟨(some 54), none, (.val (.t 1))⟩,
  ⟨(some 55), none, (.val (.t 0))⟩,
  ⟨(some 56), none, (.val (.t 1))⟩,
  ⟨(some 57), none, (.nilc (.t 55))⟩,
  ⟨(some 58), none, (.fa 4 (.t 57))⟩,
  ⟨(some 59), none, (.iaa 256 1 (.t 58) (.t 56))⟩,
  ⟨(some 60), none, (.ld none (.t 59))⟩,
  ⟨(some 61), none, (.val (.t 2))⟩,
  ⟨(some 62), none, (.bsl [(.i .i64 0)] 1 [(0, 1, (.t 61))])⟩,
  ⟨(some 63), none, (.app [(.i .i64 0)] 8 (.t 60) (.t 62))⟩,
  ⟨(some 64), none, (.nilc (.t 53))⟩,
  ⟨(some 65), none, (.fa 4 (.t 64))⟩,
  ⟨(some 66), none, (.iaa 256 1 (.t 65) (.t 54))⟩,
  ⟨none, none, (.st 1 (.t 66) (.t 63))⟩] t H) := runR_plain rfl
def d9_11 : List AOper := [
  ⟨(some 31), none, (.val (.t 0))⟩,
  ⟨(some 32), none, (.val (.t 2))⟩,
  ⟨(some 33), none, (.call 27 [(.t 31), (.t 32)])⟩]
theorem r9_11 {fn : AFun} {K : List AItem} {t : Nat → AV} {H : AH} {T : Tbl} : runR T fn (.code (.reg d9_11) :: K) t H = regR T fn K (aops (callR T) [
  ⟨(some 31), none, (.val (.t 0))⟩,
  ⟨(some 32), none, (.val (.t 2))⟩,
  ⟨(some 33), none, (.call 27 [(.t 31), (.t 32)])⟩] t H) := runR_reg'
def d9_12 : List AOper := [
  ⟨(some 67), none, (.val (.t 7))⟩,
  ⟨(some 68), none, (.nilc (.t 67))⟩,
  ⟨(some 69), none, (.fa 1 (.t 68))⟩,
  ⟨(some 70), none, (.ld none (.t 69))⟩,
  ⟨(some 71), none, (.bin .add (.t 70) (.c (.i .u32 1)))⟩,
  ⟨(some 72), none, (.nilc (.t 67))⟩,
  ⟨(some 73), none, (.fa 1 (.t 72))⟩,
  ⟨none, none, (.st 1 (.t 73) (.t 71))⟩]
theorem r9_12 {fn : AFun} {K : List AItem} {t : Nat → AV} {H : AH} {T : Tbl} : runR T fn (.code (.reg d9_12) :: K) t H = regR T fn K (aops (callR T) [
  ⟨(some 67), none, (.val (.t 7))⟩,
  ⟨(some 68), none, (.nilc (.t 67))⟩,
  ⟨(some 69), none, (.fa 1 (.t 68))⟩,
  ⟨(some 70), none, (.ld none (.t 69))⟩,
  ⟨(some 71), none, (.bin .add (.t 70) (.c (.i .u32 1)))⟩,
  ⟨(some 72), none, (.nilc (.t 67))⟩,
  ⟨(some 73), none, (.fa 1 (.t 72))⟩,
  ⟨none, none, (.st 1 (.t 73) (.t 71))⟩] t H) := runR_reg'
def d9_13 : List AOper := [
  ⟨(some 6), none, (.val (.c (.i .i64 0)))⟩]
theorem r9_13 {fn : AFun} {K : List AItem} {t : Nat → AV} {H : AH} {T : Tbl} : runR T fn (.code (.reg d9_13) :: K) t H = regR T fn K (aops (callR T) [
  ⟨(some 6), none, (.val (.c (.i .i64 0)))⟩] t H) := runR_reg'
def a9 : AFun := ⟨74, [(.tmp 6)], (.seq (.reg d9_0) (.seq (.block 0 (.seq (.reg d9_1) (.cond (.t 8) (.seq (.reg d9_2) .ret) (.seq (.reg d9_3) (.cond (.t 12) (.seq (.reg d9_4) .ret) .skip))))) (.seq (.reg d9_5) (.seq (.reg d9_6) (.seq (.block 1 (.seq (.reg d9_7) (.cond (.t 34) (.seq (.reg d9_8) .ret) (.seq (.drw d9_9) (.cond (.t 40) (.drw d9_10) (.reg d9_11)))))) (.seq (.reg d9_12) (.seq (.reg d9_13) .ret)))))))⟩
theorem a9_ok : cfun Try.prog 9 = some a9 := by kernel_rfl
/-- (*futtock/slots.Table).Flush -/
def d10_0 : List AOper := [
  ⟨(some 4), none, (.val (.c (.i .i64 0)))⟩]
theorem r10_0 {fn : AFun} {K : List AItem} {t : Nat → AV} {H : AH} {T : Tbl} : runR T fn (.code (.reg d10_0) :: K) t H = regR T fn K (aops (callR T) [
  ⟨(some 4), none, (.val (.c (.i .i64 0)))⟩] t H) := runR_reg'
def d10_1 : List AOper := [
  ⟨(some 8), none, (.val (.t 0))⟩,
  ⟨(some 9), none, (.val (.t 1))⟩,
  ⟨(some 10), none, (.call 13 [(.t 8), (.t 9)])⟩,
  ⟨(some 5), none, (.val (.t 10))⟩]
theorem r10_1 {fn : AFun} {K : List AItem} {t : Nat → AV} {H : AH} {T : Tbl} : runR T fn (.code (.reg d10_1) :: K) t H = regR T fn K (aops (callR T) [
  ⟨(some 8), none, (.val (.t 0))⟩,
  ⟨(some 9), none, (.val (.t 1))⟩,
  ⟨(some 10), none, (.call 13 [(.t 8), (.t 9)])⟩,
  ⟨(some 5), none, (.val (.t 10))⟩] t H) := runR_reg'
def d10_2 : List AOper := [
  ⟨(some 11), none, (.val (.t 5))⟩,
  ⟨(some 12), none, (.len (.t 11))⟩,
  ⟨(some 13), none, (.val (.c (.i .i64 0)))⟩]
theorem r10_2 {fn : AFun} {K : List AItem} {t : Nat → AV} {H : AH} {T : Tbl} : runR T fn (.code (.reg d10_2) :: K) t H = regR T fn K (aops (callR T) [
  ⟨(some 11), none, (.val (.t 5))⟩,
  ⟨(some 12), none, (.len (.t 11))⟩,
  ⟨(some 13), none, (.val (.c (.i .i64 0)))⟩] t H) := runR_reg'
def d10_3 : List AOper := [
  ⟨(some 14), none, (.bin .lss (.t 13) (.t 12))⟩]
theorem r10_3 {fn : AFun} {K : List AItem} {t : Nat → AV} {H : AH} {T : Tbl} : runR T fn (.code (.reg d10_3) :: K) t H = regR T fn K (aops (callR T) [
  ⟨(some 14), none, (.bin .lss (.t 13) (.t 12))⟩] t H) := runR_reg'
def d10_4 : List AOper := [
  ⟨(some 15), none, (.ia 1 (.t 11) (.t 13))⟩,
  ⟨(some 16), none, (.ld none (.t 15))⟩,
  ⟨(some 7), none, (.val (.t 16))⟩]
theorem r10_4 {fn : AFun} {K : List AItem} {t : Nat → AV} {H : AH} {T : Tbl} : runR T fn (.code (.reg d10_4) :: K) t H = regR T fn K (aops (callR T) [
  ⟨(some 15), none, (.ia 1 (.t 11) (.t 13))⟩,
  ⟨(some 16), none, (.ld none (.t 15))⟩,
  ⟨(some 7), none, (.val (.t 16))⟩] t H) := runR_reg'
def d10_5 : List AOper := [
  ⟨(some 17), none, (.val (.t 0))⟩,
  ⟨(some 18), none, (.val (.t 7))⟩,
  ⟨(some 19), none, (.call 27 [(.t 17), (.t 18)])⟩]
theorem r10_5 {fn : AFun} {K : List AItem} {t : Nat → AV} {H : AH} {T : Tbl} : runR T fn (.code (.reg d10_5) :: K) t H = regR T fn K (aops (callR T) [
  ⟨(some 17), none, (.val (.t 0))⟩,
  ⟨(some 18), none, (.val (.t 7))⟩,
  ⟨(some 19), none, (.call 27 [(.t 17), (.t 18)])⟩] t H) := runR_reg'
def d10_6 : List AOper := [
  ⟨(some 20), none, (.bin .add (.t 13) (.c (.i .i64 1)))⟩,
  ⟨(some 13), none, (.val (.t 20))⟩]
theorem r10_6 {fn : AFun} {K : List AItem} {t : Nat → AV} {H : AH} {T : Tbl} : runR T fn (.code (.reg d10_6) :: K) t H = regR T fn K (aops (callR T) [
  ⟨(some 20), none, (.bin .add (.t 13) (.c (.i .i64 1)))⟩,
  ⟨(some 13), none, (.val (.t 20))⟩] t H) := runR_reg'
def l10_7 : ACode := (.seq (.reg d10_3) (.seq (.cond (.t 14) .skip (.exit 0)) (.seq (.block 1 (.seq (.reg d10_4) (.reg d10_5))) (.reg d10_6))))
def d10_8 : List AOper := [
  ⟨(some 21), none, (.val (.t 5))⟩,
  ⟨(some 22), none, (.len (.t 21))⟩,
  ⟨(some 23), none, (.bin .gtr (.t 22) (.c (.i .i64 0)))⟩]
theorem r10_8 {fn : AFun} {K : List AItem} {t : Nat → AV} {H : AH} {T : Tbl} : runR T fn (.code (.reg d10_8) :: K) t H = regR T fn K (aops (callR T) [
  ⟨(some 21), none, (.val (.t 5))⟩,
  ⟨(some 22), none, (.len (.t 21))⟩,
  ⟨(some 23), none, (.bin .gtr (.t 22) (.c (.i .i64 0)))⟩] t H) := runR_reg'
def d10_9 : List AOper := [
  ⟨(some 24), none, (.val (.t 0))⟩,
  ⟨(some 25), none, (.val (.t 1))⟩,
  ⟨(some 26), none, (.nilc (.t 24))⟩,
  ⟨(some 27), none, (.fa 4 (.t 26))⟩,
  ⟨(some 28), none, (.iaa 256 1 (.t 27) (.t 25))⟩,
  ⟨none, none, (.st 1 (.t 28) (.c (.sl none 0 0 true 0)))⟩]
theorem r10_9 {fn : AFun} {K : List AItem} {t : Nat → AV} {H : AH} {T : Tbl} : runR T fn (.code (.reg d10_9) :: K) t H = regR T fn K (aops (callR T) [
  ⟨(some 24), none, (.val (.t 0))⟩,
  ⟨(some 25), none, (.val (.t 1))⟩,
  ⟨(some 26), none, (.nilc (.t 24))⟩,
  ⟨(some 27), none, (.fa 4 (.t 26))⟩,
  ⟨(some 28), none, (.iaa 256 1 (.t 27) (.t 25))⟩,
  ⟨none, none, (.st 1 (.t 28) (.c (.sl none 0 0 true 0)))⟩] t H) := runR_reg'
def d10_10 : List AOper := [
  ⟨(some 29), none, (.val (.t 5))⟩,
  ⟨(some 30), none, (.len (.t 29))⟩,
  ⟨(some 4), none, (.val (.t 30))⟩]
theorem r10_10 {fn : AFun} {K : List AItem} {t : Nat → AV} {H : AH} {T : Tbl} : runR T fn (.code (.reg d10_10) :: K) t H = regR T fn K (aops (callR T) [
  ⟨(some 29), none, (.val (.t 5))⟩,
  ⟨(some 30), none, (.len (.t 29))⟩,
  ⟨(some 4), none, (.val (.t 30))⟩] t H) := runR_reg'
def a10 : AFun := ⟨31, [(.tmp 4)], (.seq (.reg d10_0) (.seq (.reg d10_1) (.seq (.seq (.reg d10_2) (.block 0 (.loop l10_7))) (.seq (.seq (.reg d10_8) (.cond (.t 23) (.reg d10_9) .skip)) (.seq (.reg d10_10) .ret)))))⟩
theorem a10_ok : cfun Try.prog 10 = some a10 := by kernel_rfl
/-- (*futtock/slots.Table).Take -/
def d11_0 : List AOper := [
  ⟨(some 4), none, (.val (.c (.i .i64 0)))⟩,
  ⟨(some 5), none, (.val (.c (.i .u32 0)))⟩,
  ⟨(some 6), none, (.val (.c (.i .i64 0)))⟩]
theorem r11_0 {fn : AFun} {K : List AItem} {t : Nat → AV} {H : AH} {T : Tbl} : runR T fn (.code (.reg d11_0) :: K) t H = regR T fn K (aops (callR T) [
  ⟨(some 4), none, (.val (.c (.i .i64 0)))⟩,
  ⟨(some 5), none, (.val (.c (.i .u32 0)))⟩,
  ⟨(some 6), none, (.val (.c (.i .i64 0)))⟩] t H) := runR_reg'
def d11_1 : List AOper := [
  ⟨(some 9), none, (.val (.t 0))⟩,
  ⟨(some 10), none, (.call 25 [(.t 9)])⟩,
  ⟨(some 11), none, (.un .not (.t 10))⟩,
  ⟨(some 8), none, (.val (.t 11))⟩]
theorem r11_1 {fn : AFun} {K : List AItem} {t : Nat → AV} {H : AH} {T : Tbl} : runR T fn (.code (.reg d11_1) :: K) t H = regR T fn K (aops (callR T) [
  ⟨(some 9), none, (.val (.t 0))⟩,
  ⟨(some 10), none, (.call 25 [(.t 9)])⟩,
  ⟨(some 11), none, (.un .not (.t 10))⟩,
  ⟨(some 8), none, (.val (.t 11))⟩] t H) := runR_reg'
def d11_2 : List AOper := [
  ⟨(some 4), none, (.val (.c (.i .i64 0)))⟩,
  ⟨(some 5), none, (.val (.c (.i .u32 0)))⟩,
  ⟨(some 6), none, (.val (.c (.i .i64 2)))⟩]
theorem r11_2 {fn : AFun} {K : List AItem} {t : Nat → AV} {H : AH} {T : Tbl} : runR T fn (.code (.reg d11_2) :: K) t H = regR T fn K (aops (callR T) [
  ⟨(some 4), none, (.val (.c (.i .i64 0)))⟩,
  ⟨(some 5), none, (.val (.c (.i .u32 0)))⟩,
  ⟨(some 6), none, (.val (.c (.i .i64 2)))⟩] t H) := runR_reg'
def d11_3 : List AOper := [
  ⟨(some 13), none, (.val (.t 1))⟩,
  ⟨(some 14), none, (.call 26 [(.t 13)])⟩,
  ⟨(some 15), none, (.un .not (.t 14))⟩,
  ⟨(some 12), none, (.val (.t 15))⟩]
theorem r11_3 {fn : AFun} {K : List AItem} {t : Nat → AV} {H : AH} {T : Tbl} : runR T fn (.code (.reg d11_3) :: K) t H = regR T fn K (aops (callR T) [
  ⟨(some 13), none, (.val (.t 1))⟩,
  ⟨(some 14), none, (.call 26 [(.t 13)])⟩,
  ⟨(some 15), none, (.un .not (.t 14))⟩,
  ⟨(some 12), none, (.val (.t 15))⟩] t H) := runR_reg'
def d11_4 : List AOper := [
  ⟨(some 4), none, (.val (.c (.i .i64 0)))⟩,
  ⟨(some 5), none, (.val (.c (.i .u32 0)))⟩,
  ⟨(some 6), none, (.val (.c (.i .i64 1)))⟩]
theorem r11_4 {fn : AFun} {K : List AItem} {t : Nat → AV} {H : AH} {T : Tbl} : runR T fn (.code (.reg d11_4) :: K) t H = regR T fn K (aops (callR T) [
  ⟨(some 4), none, (.val (.c (.i .i64 0)))⟩,
  ⟨(some 5), none, (.val (.c (.i .u32 0)))⟩,
  ⟨(some 6), none, (.val (.c (.i .i64 1)))⟩] t H) := runR_reg'
def d11_5 : List AOper := [
  ⟨(some 16), none, (.val (.t 0))⟩,
  ⟨(some 17), none, (.val (.t 1))⟩,
  ⟨(some 18), none, (.call 28 [(.t 16), (.t 17)])⟩,
  ⟨(some 7), none, (.val (.t 18))⟩]
theorem r11_5 {fn : AFun} {K : List AItem} {t : Nat → AV} {H : AH} {T : Tbl} : runR T fn (.code (.reg d11_5) :: K) t H = regR T fn K (aops (callR T) [
  ⟨(some 16), none, (.val (.t 0))⟩,
  ⟨(some 17), none, (.val (.t 1))⟩,
  ⟨(some 18), none, (.call 28 [(.t 16), (.t 17)])⟩,
  ⟨(some 7), none, (.val (.t 18))⟩] t H) := runR_reg'
def d11_6 : List AOper := [
  ⟨(some 19), none, (.val (.t 7))⟩,
  ⟨(some 20), none, (.bin .lss (.t 19) (.c (.i .i64 0)))⟩]
theorem r11_6 {fn : AFun} {K : List AItem} {t : Nat → AV} {H : AH} {T : Tbl} : runR T fn (.code (.reg d11_6) :: K) t H = regR T fn K (aops (callR T) [
  ⟨(some 19), none, (.val (.t 7))⟩,
  ⟨(some 20), none, (.bin .lss (.t 19) (.c (.i .i64 0)))⟩] t H) := runR_reg'
def d11_7 : List AOper := [
  ⟨(some 4), none, (.val (.c (.i .i64 0)))⟩,
  ⟨(some 5), none, (.val (.c (.i .u32 0)))⟩,
  ⟨(some 6), none, (.val (.c (.i .i64 11)))⟩]
theorem r11_7 {fn : AFun} {K : List AItem} {t : Nat → AV} {H : AH} {T : Tbl} : runR T fn (.code (.reg d11_7) :: K) t H = regR T fn K (aops (callR T) [
  ⟨(some 4), none, (.val (.c (.i .i64 0)))⟩,
  ⟨(some 5), none, (.val (.c (.i .u32 0)))⟩,
  ⟨(some 6), none, (.val (.c (.i .i64 11)))⟩] t H) := runR_reg'
def d11_8 : List AOper := [
  ⟨(some 21), none, (.val (.t 0))⟩,
  ⟨(some 22), none, (.nilc (.t 21))⟩,
  ⟨(some 23), none, (.fa 2 (.t 22))⟩,
  ⟨(some 24), none, (.ld none (.t 23))⟩,
  ⟨(some 25), none, (.val (.t 7))⟩,
  ⟨(some 26), none, (.ia 2 (.t 24) (.t 25))⟩,
  ⟨(some 27), none, (.fa 0 (.t 26))⟩,
  ⟨none, none, (.st 1 (.t 27) (.c (.b true)))⟩]
theorem r11_8 {fn : AFun} {K : List AItem} {t : Nat → AV} {H : AH} {T : Tbl} : runR T fn (.code (.reg d11_8) :: K) t H = regR T fn K (aops (callR T) [
  ⟨(some 21), none, (.val (.t 0))⟩,
  ⟨(some 22), none, (.nilc (.t 21))⟩,
  ⟨(some 23), none, (.fa 2 (.t 22))⟩,
  ⟨(some 24), none, (.ld none (.t 23))⟩,
  ⟨(some 25), none, (.val (.t 7))⟩,
  ⟨(some 26), none, (.ia 2 (.t 24) (.t 25))⟩,
  ⟨(some 27), none, (.fa 0 (.t 26))⟩,
  ⟨none, none, (.st 1 (.t 27) (.c (.b true)))⟩] t H) := runR_reg'
def d11_9 : List (AOper × List Nat) := [
  (⟨(some 28), none, (.val (.t 7))⟩, []),
  (⟨(some 29), none, (.val (.t 0))⟩, []),
  (⟨(some 30), none, (.nilc (.t 29))⟩, []),
  (⟨(some 31), none, (.fa 2 (.t 30))⟩, []),
  (⟨(some 32), none, (.ld none (.t 31))⟩, [1]),
  (⟨(some 33), none, (.val (.t 7))⟩, []),
  (⟨(some 34), none, (.ia 2 (.t 32) (.t 33))⟩, []),
  (⟨(some 35), none, (.fa 1 (.t 34))⟩, []),
  (⟨(some 36), none, (.ld none (.t 35))⟩, [1]),
  (⟨(some 4), none, (.val (.t 28))⟩, []),
  (⟨(some 5), none, (.val (.t 36))⟩, []),
  (⟨(some 6), none, (.val (.c (.i .i64 0)))⟩, [])]
theorem r11_9 {fn : AFun} {K : List AItem} {t : Nat → AV} {H : AH} {T : Tbl} : runR T fn (.code (.drw d11_9) :: K) t H = regR T fn K (aops (callR T) [
  ⟨(some 28), none, (.val (.t 7))⟩,
  ⟨(some 29), none, (.val (.t 0))⟩,
  ⟨(some 30), none, (.nilc (.t 29))⟩,
  ⟨(some 31), none, (.fa 2 (.t 30))⟩,
  ⟨(some 32), none, (.ld none (.t 31))⟩,
  ⟨(some 33), none, (.val (.t 7))⟩,
  ⟨(some 34), none, (.ia 2 (.t 32) (.t 33))⟩,
  ⟨(some 35), none, (.fa 1 (.t 34))⟩,
  ⟨(some 36), none, (.ld none (.t 35))⟩,
  ⟨(some 4), none, (.val (.t 28))⟩,
  ⟨(some 5), none, (.val (.t 36))⟩,
  ⟨(some 6), none, (.val (.c (.i .i64 0)))⟩] t H) := runR_plain rfl
def a11 : AFun := ⟨37, [(.tmp 4), (.tmp 5), (.tmp 6)], (.seq (.reg d11_0) (.seq (.block 0 (.seq (.reg d11_1) (.cond (.t 8) (.seq (.reg d11_2) .ret) (.seq (.reg d11_3) (.cond (.t 12) (.seq (.reg d11_4) .ret) .skip))))) (.seq (.reg d11_5) (.seq (.seq (.reg d11_6) (.cond (.t 20) (.seq (.reg d11_7) .ret) .skip)) (.seq (.reg d11_8) (.seq (.drw d11_9) .ret))))))⟩
theorem a11_ok : cfun Try.prog 11 = some a11 := by kernel_rfl
/-- (*futtock/slots.Table).InUse -/
def d12_0 : List AOper := [
  ⟨(some 2), none, (.val (.c (.sl none 0 0 true 0)))⟩]
theorem r12_0 {fn : AFun} {K : List AItem} {t : Nat → AV} {H : AH} {T : Tbl} : runR T fn (.code (.reg d12_0) :: K) t H = regR T fn K (aops (callR T) [
  ⟨(some 2), none, (.val (.c (.sl none 0 0 true 0)))⟩] t H) := runR_reg'
def d12_1 : List AOper := [
  ⟨(some 6), none, (.val (.t 0))⟩,
  ⟨(some 7), none, (.call 25 [(.t 6)])⟩,
  ⟨(some 8), none, (.un .not (.t 7))⟩]
theorem r12_1 {fn : AFun} {K : List AItem} {t : Nat → AV} {H : AH} {T : Tbl} : runR T fn (.code (.reg d12_1) :: K) t H = regR T fn K (aops (callR T) [
  ⟨(some 6), none, (.val (.t 0))⟩,
  ⟨(some 7), none, (.call 25 [(.t 6)])⟩,
  ⟨(some 8), none, (.un .not (.t 7))⟩] t H) := runR_reg'
def d12_2 : List AOper := [
  ⟨(some 2), none, (.val (.c (.sl none 0 0 true 0)))⟩]
theorem r12_2 {fn : AFun} {K : List AItem} {t : Nat → AV} {H : AH} {T : Tbl} : runR T fn (.code (.reg d12_2) :: K) t H = regR T fn K (aops (callR T) [
  ⟨(some 2), none, (.val (.c (.sl none 0 0 true 0)))⟩] t H) := runR_reg'
def d12_3 : List AOper := [
  ⟨(some 3), none, (.val (.c (.sl none 0 0 true 0)))⟩]
theorem r12_3 {fn : AFun} {K : List AItem} {t : Nat → AV} {H : AH} {T : Tbl} : runR T fn (.code (.reg d12_3) :: K) t H = regR T fn K (aops (callR T) [
  ⟨(some 3), none, (.val (.c (.sl none 0 0 true 0)))⟩] t H) := runR_reg'
def d12_4 : List AOper := [
  ⟨(some 9), none, (.val (.t 0))⟩,
  ⟨(some 10), none, (.nilc (.t 9))⟩,
  ⟨(some 11), none, (.fa 2 (.t 10))⟩,
  ⟨(some 12), none, (.ld none (.t 11))⟩,
  ⟨(some 13), none, (.len (.t 12))⟩,
  ⟨(some 14), none, (.val (.c (.i .i64 0)))⟩]
theorem r12_4 {fn : AFun} {K : List AItem} {t : Nat → AV} {H : AH} {T : Tbl} : runR T fn (.code (.reg d12_4) :: K) t H = regR T fn K (aops (callR T) [
  ⟨(some 9), none, (.val (.t 0))⟩,
  ⟨(some 10), none, (.nilc (.t 9))⟩,
  ⟨(some 11), none, (.fa 2 (.t 10))⟩,
  ⟨(some 12), none, (.ld none (.t 11))⟩,
  ⟨(some 13), none, (.len (.t 12))⟩,
  ⟨(some 14), none, (.val (.c (.i .i64 0)))⟩] t H) := runR_reg'
def d12_5 : List AOper := [
  ⟨(some 15), none, (.bin .lss (.t 14) (.t 13))⟩]
theorem r12_5 {fn : AFun} {K : List AItem} {t : Nat → AV} {H : AH} {T : Tbl} : runR T fn (.code (.reg d12_5) :: K) t H = regR T fn K (aops (callR T) [
  ⟨(some 15), none, (.bin .lss (.t 14) (.t 13))⟩] t H) := runR_reg'
def d12_6 : List AOper := [
  ⟨(some 16), none, (.val (.t 14))⟩,
  ⟨(some 17), none, (.ia 2 (.t 12) (.t 14))⟩,
  ⟨(some 18), none, (.ld (some 2) (.t 17))⟩,
  ⟨(some 5), none, (.alloc [(.b false), (.i .u32 0)])⟩,
  ⟨(some 4), none, (.val (.t 16))⟩,
  ⟨none, none, (.st 2 (.t 5) (.t 18))⟩]
theorem r12_6 {fn : AFun} {K : List AItem} {t : Nat → AV} {H : AH} {T : Tbl} : runR T fn (.code (.reg d12_6) :: K) t H = regR T fn K (aops (callR T) [
  ⟨(some 16), none, (.val (.t 14))⟩,
  ⟨(some 17), none, (.ia 2 (.t 12) (.t 14))⟩,
  ⟨(some 18), none, (.ld (some 2) (.t 17))⟩,
  ⟨(some 5), none, (.alloc [(.b false), (.i .u32 0)])⟩,
  ⟨(some 4), none, (.val (.t 16))⟩,
  ⟨none, none, (.st 2 (.t 5) (.t 18))⟩] t H) := runR_reg'
def d12_7 : List AOper := [
  ⟨(some 19), none, (.fa 0 (.t 5))⟩,
  ⟨(some 20), none, (.ld none (.t 19))⟩]
theorem r12_7 {fn : AFun} {K : List AItem} {t : Nat → AV} {H : AH} {T : Tbl} : runR T fn (.code (.reg d12_7) :: K) t H = regR T fn K (aops (callR T) [
  ⟨(some 19), none, (.fa 0 (.t 5))⟩,
  ⟨(some 20), none, (.ld none (.t 19))⟩] t H) := runR_reg'
def d12_8 : List AOper := [
  ⟨(some 21), none, (.val (.t 3))⟩,
  ⟨(some 22), none, (.val (.t 4))⟩,
  ⟨(some 23), none, (.bsl [(.i .i64 0)] 1 [(0, 1, (.t 22))])⟩,
  ⟨(some 24), none, (.app [(.i .i64 0)] 8 (.t 21) (.t 23))⟩,
  ⟨(some 3), none, (.val (.t 24))⟩]
theorem r12_8 {fn : AFun} {K : List AItem} {t : Nat → AV} {H : AH} {T : Tbl} : runR T fn (.code (.reg d12_8) :: K) t H = regR T fn K (aops (callR T) [
  ⟨(some 21), none, (.val (.t 3))⟩,
  ⟨(some 22), none, (.val (.t 4))⟩,
  ⟨(some 23), none, (.bsl [(.i .i64 0)] 1 [(0, 1, (.t 22))])⟩,
  ⟨(some 24), none, (.app [(.i .i64 0)] 8 (.t 21) (.t 23))⟩,
  ⟨(some 3), none, (.val (.t 24))⟩] t H) := runR_reg'
def d12_9 : List AOper := [
  ⟨(some 25), none, (.bin .add (.t 14) (.c (.i .i64 1)))⟩,
  ⟨(some 14), none, (.val (.t 25))⟩]
theorem r12_9 {fn : AFun} {K : List AItem} {t : Nat → AV} {H : AH} {T : Tbl} : runR T fn (.code (.reg d12_9) :: K) t H = regR T fn K (aops (callR T) [
  ⟨(some 25), none, (.bin .add (.t 14) (.c (.i .i64 1)))⟩,
  ⟨(some 14), none, (.val (.t 25))⟩] t H) := runR_reg'
def l12_10 : ACode := (.seq (.reg d12_5) (.seq (.cond (.t 15) .skip (.exit 0)) (.seq (.block 1 (.seq (.reg d12_6) (.seq (.reg d12_7) (.cond (.t 20) (.reg d12_8) .skip)))) (.reg d12_9))))
def d12_11 : List AOper := [
  ⟨(some 26), none, (.val (.t 3))⟩,
  ⟨(some 2), none, (.val (.t 26))⟩]
theorem r12_11 {fn : AFun} {K : List AItem} {t : Nat → AV} {H : AH} {T : Tbl} : runR T fn (.code (.reg d12_11) :: K) t H = regR T fn K (aops (callR T) [
  ⟨(some 26), none, (.val (.t 3))⟩,
  ⟨(some 2), none, (.val (.t 26))⟩] t H) := runR_reg'
def a12 : AFun := ⟨27, [(.tmp 2)], (.seq (.reg d12_0) (.seq (.seq (.reg d12_1) (.cond (.t 8) (.seq (.reg d12_2) .ret) .skip)) (.seq (.reg d12_3) (.seq (.seq (.reg d12_4) (.block 0 (.loop l12_10))) (.seq (.reg d12_11) .ret)))))⟩
theorem a12_ok : cfun Try.prog 12 = some a12 := by kernel_rfl
/-- (*futtock/slots.Table).Own -/
def d13_0 : List AOper := [
  ⟨(some 4), none, (.val (.c (.sl none 0 0 true 0)))⟩]
theorem r13_0 {fn : AFun} {K : List AItem} {t : Nat → AV} {H : AH} {T : Tbl} : runR T fn (.code (.reg d13_0) :: K) t H = regR T fn K (aops (callR T) [
  ⟨(some 4), none, (.val (.c (.sl none 0 0 true 0)))⟩] t H) := runR_reg'
def d13_1 : List AOper := [
  ⟨(some 5), none, (.val (.t 0))⟩,
  ⟨(some 6), none, (.call 25 [(.t 5)])⟩,
  ⟨(some 7), none, (.un .not (.t 6))⟩,
  ⟨(some 8), none, (.val (.t 7))⟩,
  ⟨(some 9), (some (8, false)), (.val (.t 1))⟩,
  ⟨(some 10), (some (8, false)), (.call 26 [(.t 9)])⟩,
  ⟨(some 11), (some (8, false)), (.un .not (.t 10))⟩,
  ⟨(some 12), none, (.pick (.t 8) (.c (.b true)) (.t 11))⟩]
theorem r13_1 {fn : AFun} {K : List AItem} {t : Nat → AV} {H : AH} {T : Tbl} : runR T fn (.code (.reg d13_1) :: K) t H = regR T fn K (aops (callR T) [
  ⟨(some 5), none, (.val (.t 0))⟩,
  ⟨(some 6), none, (.call 25 [(.t 5)])⟩,
  ⟨(some 7), none, (.un .not (.t 6))⟩,
  ⟨(some 8), none, (.val (.t 7))⟩,
  ⟨(some 9), (some (8, false)), (.val (.t 1))⟩,
  ⟨(some 10), (some (8, false)), (.call 26 [(.t 9)])⟩,
  ⟨(some 11), (some (8, false)), (.un .not (.t 10))⟩,
  ⟨(some 12), none, (.pick (.t 8) (.c (.b true)) (.t 11))⟩] t H) := runR_reg'
def d13_2 : List AOper := [
  ⟨(some 4), none, (.val (.c (.sl none 0 0 true 0)))⟩]
theorem r13_2 {fn : AFun} {K : List AItem} {t : Nat → AV} {H : AH} {T : Tbl} : runR T fn (.code (.reg d13_2) :: K) t H = regR T fn K (aops (callR T) [
  ⟨(some 4), none, (.val (.c (.sl none 0 0 true 0)))⟩] t H) := runR_reg'
def d13_3 : List AOper := [
  ⟨(some 13), none, (.val (.t 0))⟩,
  ⟨(some 14), none, (.val (.t 1))⟩,
  ⟨(some 15), none, (.nilc (.t 13))⟩,
  ⟨(some 16), none, (.fa 4 (.t 15))⟩,
  ⟨(some 17), none, (.iaa 256 1 (.t 16) (.t 14))⟩,
  ⟨(some 18), none, (.ld none (.t 17))⟩,
  ⟨(some 19), none, (.call 29 [(.t 18)])⟩,
  ⟨(some 4), none, (.val (.t 19))⟩]
theorem r13_3 {fn : AFun} {K : List AItem} {t : Nat → AV} {H : AH} {T : Tbl} : runR T fn (.code (.reg d13_3) :: K) t H = regR T fn K (aops (callR T) [
  ⟨(some 13), none, (.val (.t 0))⟩,
  ⟨(some 14), none, (.val (.t 1))⟩,
  ⟨(some 15), none, (.nilc (.t 13))⟩,
  ⟨(some 16), none, (.fa 4 (.t 15))⟩,
  ⟨(some 17), none, (.iaa 256 1 (.t 16) (.t 14))⟩,
  ⟨(some 18), none, (.ld none (.t 17))⟩,
  ⟨(some 19), none, (.call 29 [(.t 18)])⟩,
  ⟨(some 4), none, (.val (.t 19))⟩] t H) := runR_reg'
def a13 : AFun := ⟨20, [(.tmp 4)], (.seq (.reg d13_0) (.seq (.seq (.reg d13_1) (.cond (.t 12) (.seq (.reg d13_2) .ret) .skip)) (.seq (.reg d13_3) .ret)))⟩
theorem a13_ok : cfun Try.prog 13 = some a13 := by kernel_rfl
/-- (*futtock/slots.Table).Used -/
def d14_0 : List AOper := [
  ⟨(some 4), none, (.val (.c (.b false)))⟩]
theorem r14_0 {fn : AFun} {K : List AItem} {t : Nat → AV} {H : AH} {T : Tbl} : runR T fn (.code (.reg d14_0) :: K) t H = regR T fn K (aops (callR T) [
  ⟨(some 4), none, (.val (.c (.b false)))⟩] t H) := runR_reg'
def d14_1 : List AOper := [
  ⟨(some 5), none, (.val (.t 0))⟩,
  ⟨(some 6), none, (.call 25 [(.t 5)])⟩,
  ⟨(some 7), none, (.val (.t 6))⟩,
  ⟨(some 8), (some (7, true)), (.val (.t 1))⟩,
  ⟨(some 9), (some (7, true)), (.bin .geq (.t 8) (.c (.i .i64 0)))⟩,
  ⟨(some 10), none, (.pick (.t 7) (.t 9) (.c (.b false)))⟩,
  ⟨(some 11), none, (.val (.t 10))⟩,
  ⟨(some 12), (some (11, true)), (.val (.t 1))⟩,
  ⟨(some 13), (some (11, true)), (.val (.t 0))⟩,
  ⟨(some 14), (some (11, true)), (.nilc (.t 13))⟩,
  ⟨(some 15), (some (11, true)), (.fa 2 (.t 14))⟩,
  ⟨(some 16), (some (11, true)), (.ld none (.t 15))⟩,
  ⟨(some 17), (some (11, true)), (.len (.t 16))⟩,
  ⟨(some 18), (some (11, true)), (.bin .lss (.t 12) (.t 17))⟩,
  ⟨(some 19), none, (.pick (.t 11) (.t 18) (.c (.b false)))⟩,
  ⟨(some 20), none, (.val (.t 19))⟩,
  ⟨(some 21), (some (20, true)), (.val (.t 0))⟩,
  ⟨(some 22), (some (20, true)), (.nilc (.t 21))⟩,
  ⟨(some 23), (some (20, true)), (.fa 2 (.t 22))⟩,
  ⟨(some 24), (some (20, true)), (.ld none (.t 23))⟩,
  ⟨(some 25), (some (20, true)), (.val (.t 1))⟩,
  ⟨(some 26), (some (20, true)), (.ia 2 (.t 24) (.t 25))⟩,
  ⟨(some 27), (some (20, true)), (.fa 0 (.t 26))⟩,
  ⟨(some 28), (some (20, true)), (.ld none (.t 27))⟩,
  ⟨(some 29), none, (.pick (.t 20) (.t 28) (.c (.b false)))⟩,
  ⟨(some 4), none, (.val (.t 29))⟩]
theorem r14_1 {fn : AFun} {K : List AItem} {t : Nat → AV} {H : AH} {T : Tbl} : runR T fn (.code (.reg d14_1) :: K) t H = regR T fn K (aops (callR T) [
  ⟨(some 5), none, (.val (.t 0))⟩,
  ⟨(some 6), none, (.call 25 [(.t 5)])⟩,
  ⟨(some 7), none, (.val (.t 6))⟩,
  ⟨(some 8), (some (7, true)), (.val (.t 1))⟩,
  ⟨(some 9), (some (7, true)), (.bin .geq (.t 8) (.c (.i .i64 0)))⟩,
  ⟨(some 10), none, (.pick (.t 7) (.t 9) (.c (.b false)))⟩,
  ⟨(some 11), none, (.val (.t 10))⟩,
  ⟨(some 12), (some (11, true)), (.val (.t 1))⟩,
  ⟨(some 13), (some (11, true)), (.val (.t 0))⟩,
  ⟨(some 14), (some (11, true)), (.nilc (.t 13))⟩,
  ⟨(some 15), (some (11, true)), (.fa 2 (.t 14))⟩,
  ⟨(some 16), (some (11, true)), (.ld none (.t 15))⟩,
  ⟨(some 17), (some (11, true)), (.len (.t 16))⟩,
  ⟨(some 18), (some (11, true)), (.bin .lss (.t 12) (.t 17))⟩,
  ⟨(some 19), none, (.pick (.t 11) (.t 18) (.c (.b false)))⟩,
  ⟨(some 20), none, (.val (.t 19))⟩,
  ⟨(some 21), (some (20, true)), (.val (.t 0))⟩,
  ⟨(some 22), (some (20, true)), (.nilc (.t 21))⟩,
  ⟨(some 23), (some (20, true)), (.fa 2 (.t 22))⟩,
  ⟨(some 24), (some (20, true)), (.ld none (.t 23))⟩,
  ⟨(some 25), (some (20, true)), (.val (.t 1))⟩,
  ⟨(some 26), (some (20, true)), (.ia 2 (.t 24) (.t 25))⟩,
  ⟨(some 27), (some (20, true)), (.fa 0 (.t 26))⟩,
  ⟨(some 28), (some (20, true)), (.ld none (.t 27))⟩,
  ⟨(some 29), none, (.pick (.t 20) (.t 28) (.c (.b false)))⟩,
  ⟨(some 4), none, (.val (.t 29))⟩] t H) := runR_reg'
def a14 : AFun := ⟨30, [(.tmp 4)], (.seq (.reg d14_0) (.seq (.reg d14_1) .ret))⟩
theorem a14_ok : cfun Try.prog 14 = some a14 := by kernel_rfl
/-- futtock/futtocklaw10.alive -/
def d15_0 : List AOper := [
  ⟨(some 0), none, (.val (.c (.b false)))⟩]
theorem r15_0 {fn : AFun} {K : List AItem} {t : Nat → AV} {H : AH} {T : Tbl} : runR T fn (.code (.reg d15_0) :: K) t H = regR T fn K (aops (callR T) [
  ⟨(some 0), none, (.val (.c (.b false)))⟩] t H) := runR_reg'
def d15_1 : List AOper := [
  ⟨(some 11), none, (.call 7 [(.c (.i .i64 3)), (.c (.i .i64 2))])⟩,
  ⟨(some 10), none, (.val (.t 11))⟩,
  ⟨(some 12), none, (.ext (.t 10) 0)⟩,
  ⟨(some 13), none, (.ext (.t 10) 1)⟩,
  ⟨(some 1), none, (.val (.t 12))⟩,
  ⟨(some 2), none, (.val (.t 13))⟩]
theorem r15_1 {fn : AFun} {K : List AItem} {t : Nat → AV} {H : AH} {T : Tbl} : runR T fn (.code (.reg d15_1) :: K) t H = regR T fn K (aops (callR T) [
  ⟨(some 11), none, (.call 7 [(.c (.i .i64 3)), (.c (.i .i64 2))])⟩,
  ⟨(some 10), none, (.val (.t 11))⟩,
  ⟨(some 12), none, (.ext (.t 10) 0)⟩,
  ⟨(some 13), none, (.ext (.t 10) 1)⟩,
  ⟨(some 1), none, (.val (.t 12))⟩,
  ⟨(some 2), none, (.val (.t 13))⟩] t H) := runR_reg'
def d15_2 : List AOper := [
  ⟨(some 14), none, (.val (.t 1))⟩,
  ⟨(some 15), none, (.eqn 0 false (.t 14) (.c (.p none)))⟩,
  ⟨(some 16), none, (.val (.t 15))⟩,
  ⟨(some 17), (some (16, false)), (.val (.t 2))⟩,
  ⟨(some 18), (some (16, false)), (.bin .neq (.t 17) (.c (.i .i64 0)))⟩,
  ⟨(some 19), none, (.pick (.t 16) (.c (.b true)) (.t 18))⟩]
theorem r15_2 {fn : AFun} {K : List AItem} {t : Nat → AV} {H : AH} {T : Tbl} : runR T fn (.code (.reg d15_2) :: K) t H = regR T fn K (aops (callR T) [
  ⟨(some 14), none, (.val (.t 1))⟩,
  ⟨(some 15), none, (.eqn 0 false (.t 14) (.c (.p none)))⟩,
  ⟨(some 16), none, (.val (.t 15))⟩,
  ⟨(some 17), (some (16, false)), (.val (.t 2))⟩,
  ⟨(some 18), (some (16, false)), (.bin .neq (.t 17) (.c (.i .i64 0)))⟩,
  ⟨(some 19), none, (.pick (.t 16) (.c (.b true)) (.t 18))⟩] t H) := runR_reg'
def d15_3 : List AOper := [
  ⟨(some 0), none, (.val (.c (.b false)))⟩]
theorem r15_3 {fn : AFun} {K : List AItem} {t : Nat → AV} {H : AH} {T : Tbl} : runR T fn (.code (.reg d15_3) :: K) t H = regR T fn K (aops (callR T) [
  ⟨(some 0), none, (.val (.c (.b false)))⟩] t H) := runR_reg'
def d15_4 : List AOper := [
  ⟨(some 21), none, (.val (.t 1))⟩,
  ⟨(some 22), none, (.call 11 [(.t 21), (.c (.i .i64 0))])⟩,
  ⟨(some 20), none, (.val (.t 22))⟩,
  ⟨(some 23), none, (.ext (.t 20) 0)⟩,
  ⟨(some 24), none, (.ext (.t 20) 1)⟩,
  ⟨(some 25), none, (.ext (.t 20) 2)⟩,
  ⟨(some 3), none, (.val (.t 23))⟩,
  ⟨(some 4), none, (.val (.t 24))⟩,
  ⟨(some 5), none, (.val (.t 25))⟩]
theorem r15_4 {fn : AFun} {K : List AItem} {t : Nat → AV} {H : AH} {T : Tbl} : runR T fn (.code (.reg d15_4) :: K) t H = regR T fn K (aops (callR T) [
  ⟨(some 21), none, (.val (.t 1))⟩,
  ⟨(some 22), none, (.call 11 [(.t 21), (.c (.i .i64 0))])⟩,
  ⟨(some 20), none, (.val (.t 22))⟩,
  ⟨(some 23), none, (.ext (.t 20) 0)⟩,
  ⟨(some 24), none, (.ext (.t 20) 1)⟩,
  ⟨(some 25), none, (.ext (.t 20) 2)⟩,
  ⟨(some 3), none, (.val (.t 23))⟩,
  ⟨(some 4), none, (.val (.t 24))⟩,
  ⟨(some 5), none, (.val (.t 25))⟩] t H) := runR_reg'
def d15_5 : List AOper := [
  ⟨(some 26), none, (.val (.t 1))⟩,
  ⟨(some 27), none, (.val (.t 3))⟩,
  ⟨(some 28), none, (.call 9 [(.t 26), (.c (.i .i64 0)), (.t 27)])⟩,
  ⟨(some 6), none, (.val (.t 28))⟩]
theorem r15_5 {fn : AFun} {K : List AItem} {t : Nat → AV} {H : AH} {T : Tbl} : runR T fn (.code (.reg d15_5) :: K) t H = regR T fn K (aops (callR T) [
  ⟨(some 26), none, (.val (.t 1))⟩,
  ⟨(some 27), none, (.val (.t 3))⟩,
  ⟨(some 28), none, (.call 9 [(.t 26), (.c (.i .i64 0)), (.t 27)])⟩,
  ⟨(some 6), none, (.val (.t 28))⟩] t H) := runR_reg'
def d15_6 : List AOper := [
  ⟨(some 30), none, (.val (.t 1))⟩,
  ⟨(some 31), none, (.call 11 [(.t 30), (.c (.i .i64 0))])⟩,
  ⟨(some 29), none, (.val (.t 31))⟩,
  ⟨(some 32), none, (.ext (.t 29) 0)⟩,
  ⟨(some 33), none, (.ext (.t 29) 1)⟩,
  ⟨(some 34), none, (.ext (.t 29) 2)⟩,
  ⟨(some 7), none, (.val (.t 32))⟩,
  ⟨(some 8), none, (.val (.t 33))⟩,
  ⟨(some 9), none, (.val (.t 34))⟩]
theorem r15_6 {fn : AFun} {K : List AItem} {t : Nat → AV} {H : AH} {T : Tbl} : runR T fn (.code (.reg d15_6) :: K) t H = regR T fn K (aops (callR T) [
  ⟨(some 30), none, (.val (.t 1))⟩,
  ⟨(some 31), none, (.call 11 [(.t 30), (.c (.i .i64 0))])⟩,
  ⟨(some 29), none, (.val (.t 31))⟩,
  ⟨(some 32), none, (.ext (.t 29) 0)⟩,
  ⟨(some 33), none, (.ext (.t 29) 1)⟩,
  ⟨(some 34), none, (.ext (.t 29) 2)⟩,
  ⟨(some 7), none, (.val (.t 32))⟩,
  ⟨(some 8), none, (.val (.t 33))⟩,
  ⟨(some 9), none, (.val (.t 34))⟩] t H) := runR_reg'
def d15_7 : List AOper := [
  ⟨(some 35), none, (.val (.t 3))⟩,
  ⟨(some 36), none, (.bin .eql (.t 35) (.c (.i .i64 0)))⟩,
  ⟨(some 37), none, (.val (.t 36))⟩,
  ⟨(some 38), (some (37, true)), (.val (.t 4))⟩,
  ⟨(some 39), (some (37, true)), (.bin .eql (.t 38) (.c (.i .u32 0)))⟩,
  ⟨(some 40), none, (.pick (.t 37) (.t 39) (.c (.b false)))⟩,
  ⟨(some 41), none, (.val (.t 40))⟩,
  ⟨(some 42), (some (41, true)), (.val (.t 6))⟩,
  ⟨(some 43), (some (41, true)), (.bin .eql (.t 42) (.c (.i .i64 0)))⟩,
  ⟨(some 44), none, (.pick (.t 41) (.t 43) (.c (.b false)))⟩,
  ⟨(some 45), none, (.val (.t 44))⟩,
  ⟨(some 46), (some (45, true)), (.val (.t 7))⟩,
  ⟨(some 47), (some (45, true)), (.bin .eql (.t 46) (.c (.i .i64 0)))⟩,
  ⟨(some 48), none, (.pick (.t 45) (.t 47) (.c (.b false)))⟩,
  ⟨(some 49), none, (.val (.t 48))⟩,
  ⟨(some 50), (some (49, true)), (.val (.t 8))⟩,
  ⟨(some 51), (some (49, true)), (.bin .eql (.t 50) (.c (.i .u32 1)))⟩,
  ⟨(some 52), none, (.pick (.t 49) (.t 51) (.c (.b false)))⟩,
  ⟨(some 53), none, (.val (.t 52))⟩,
  ⟨(some 54), (some (53, true)), (.val (.t 1))⟩,
  ⟨(some 55), (some (53, true)), (.call 23 [(.t 54), (.c (.i .i64 0)), (.c (.i .u32 1))])⟩,
  ⟨(some 56), none, (.pick (.t 53) (.t 55) (.c (.b false)))⟩,
  ⟨(some 57), none, (.val (.t 56))⟩,
  ⟨(some 58), (some (57, true)), (.val (.t 1))⟩,
  ⟨(some 59), (some (57, true)), (.call 23 [(.t 58), (.c (.i .i64 0)), (.c (.i .u32 0))])⟩,
  ⟨(some 60), (some (57, true)), (.un .not (.t 59))⟩,
  ⟨(some 61), none, (.pick (.t 57) (.t 60) (.c (.b false)))⟩,
  ⟨(some 62), none, (.val (.t 61))⟩,
  ⟨(some 63), (some (62, true)), (.val (.t 1))⟩,
  ⟨(some 64), (some (62, true)), (.call 24 [(.t 63)])⟩,
  ⟨(some 65), (some (62, true)), (.bin .eql (.t 64) (.c (.i .i64 1)))⟩,
  ⟨(some 66), none, (.pick (.t 62) (.t 65) (.c (.b false)))⟩,
  ⟨(some 0), none, (.val (.t 66))⟩]
theorem r15_7 {fn : AFun} {K : List AItem} {t : Nat → AV} {H : AH} {T : Tbl} : runR T fn (.code (.reg d15_7) :: K) t H = regR T fn K (aops (callR T) [
  ⟨(some 35), none, (.val (.t 3))⟩,
  ⟨(some 36), none, (.bin .eql (.t 35) (.c (.i .i64 0)))⟩,
  ⟨(some 37), none, (.val (.t 36))⟩,
  ⟨(some 38), (some (37, true)), (.val (.t 4))⟩,
  ⟨(some 39), (some (37, true)), (.bin .eql (.t 38) (.c (.i .u32 0)))⟩,
  ⟨(some 40), none, (.pick (.t 37) (.t 39) (.c (.b false)))⟩,
  ⟨(some 41), none, (.val (.t 40))⟩,
  ⟨(some 42), (some (41, true)), (.val (.t 6))⟩,
  ⟨(some 43), (some (41, true)), (.bin .eql (.t 42) (.c (.i .i64 0)))⟩,
  ⟨(some 44), none, (.pick (.t 41) (.t 43) (.c (.b false)))⟩,
  ⟨(some 45), none, (.val (.t 44))⟩,
  ⟨(some 46), (some (45, true)), (.val (.t 7))⟩,
  ⟨(some 47), (some (45, true)), (.bin .eql (.t 46) (.c (.i .i64 0)))⟩,
  ⟨(some 48), none, (.pick (.t 45) (.t 47) (.c (.b false)))⟩,
  ⟨(some 49), none, (.val (.t 48))⟩,
  ⟨(some 50), (some (49, true)), (.val (.t 8))⟩,
  ⟨(some 51), (some (49, true)), (.bin .eql (.t 50) (.c (.i .u32 1)))⟩,
  ⟨(some 52), none, (.pick (.t 49) (.t 51) (.c (.b false)))⟩,
  ⟨(some 53), none, (.val (.t 52))⟩,
  ⟨(some 54), (some (53, true)), (.val (.t 1))⟩,
  ⟨(some 55), (some (53, true)), (.call 23 [(.t 54), (.c (.i .i64 0)), (.c (.i .u32 1))])⟩,
  ⟨(some 56), none, (.pick (.t 53) (.t 55) (.c (.b false)))⟩,
  ⟨(some 57), none, (.val (.t 56))⟩,
  ⟨(some 58), (some (57, true)), (.val (.t 1))⟩,
  ⟨(some 59), (some (57, true)), (.call 23 [(.t 58), (.c (.i .i64 0)), (.c (.i .u32 0))])⟩,
  ⟨(some 60), (some (57, true)), (.un .not (.t 59))⟩,
  ⟨(some 61), none, (.pick (.t 57) (.t 60) (.c (.b false)))⟩,
  ⟨(some 62), none, (.val (.t 61))⟩,
  ⟨(some 63), (some (62, true)), (.val (.t 1))⟩,
  ⟨(some 64), (some (62, true)), (.call 24 [(.t 63)])⟩,
  ⟨(some 65), (some (62, true)), (.bin .eql (.t 64) (.c (.i .i64 1)))⟩,
  ⟨(some 66), none, (.pick (.t 62) (.t 65) (.c (.b false)))⟩,
  ⟨(some 0), none, (.val (.t 66))⟩] t H) := runR_reg'
def a15 : AFun := ⟨67, [(.tmp 0)], (.seq (.reg d15_0) (.seq (.reg d15_1) (.seq (.seq (.reg d15_2) (.cond (.t 19) (.seq (.reg d15_3) .ret) .skip)) (.seq (.reg d15_4) (.seq (.reg d15_5) (.seq (.reg d15_6) (.seq (.reg d15_7) .ret)))))))⟩
theorem a15_ok : cfun Try.prog 15 = some a15 := by kernel_rfl
/-- (*futtock/slots.Table).Left -/
def d16_0 : List AOper := [
  ⟨(some 2), none, (.val (.c (.i .i64 0)))⟩]
theorem r16_0 {fn : AFun} {K : List AItem} {t : Nat → AV} {H : AH} {T : Tbl} : runR T fn (.code (.reg d16_0) :: K) t H = regR T fn K (aops (callR T) [
  ⟨(some 2), none, (.val (.c (.i .i64 0)))⟩] t H) := runR_reg'
def d16_1 : List AOper := [
  ⟨(some 6), none, (.val (.t 0))⟩,
  ⟨(some 7), none, (.call 25 [(.t 6)])⟩,
  ⟨(some 8), none, (.un .not (.t 7))⟩]
theorem r16_1 {fn : AFun} {K : List AItem} {t : Nat → AV} {H : AH} {T : Tbl} : runR T fn (.code (.reg d16_1) :: K) t H = regR T fn K (aops (callR T) [
  ⟨(some 6), none, (.val (.t 0))⟩,
  ⟨(some 7), none, (.call 25 [(.t 6)])⟩,
  ⟨(some 8), none, (.un .not (.t 7))⟩] t H) := runR_reg'
def d16_2 : List AOper := [
  ⟨(some 2), none, (.val (.c (.i .i64 0)))⟩]
theorem r16_2 {fn : AFun} {K : List AItem} {t : Nat → AV} {H : AH} {T : Tbl} : runR T fn (.code (.reg d16_2) :: K) t H = regR T fn K (aops (callR T) [
  ⟨(some 2), none, (.val (.c (.i .i64 0)))⟩] t H) := runR_reg'
def d16_3 : List (AOper × List Nat) := [
  (⟨(some 9), none, (.val (.t 0))⟩, []),
  (⟨(some 10), none, (.nilc (.t 9))⟩, []),
  (⟨(some 11), none, (.fa 0 (.t 10))⟩, []),
  (⟨(some 12), none, (.ld none (.t 11))⟩, [1]),
  (⟨(some 13), none, (.val (.t 0))⟩, []),
  (⟨(some 14), none, (.nilc (.t 13))⟩, []),
  (⟨(some 15), none, (.fa 2 (.t 14))⟩, []),
  (⟨(some 16), none, (.ld none (.t 15))⟩, [1]),
  (⟨(some 17), none, (.len (.t 16))⟩, []),
  (⟨(some 18), none, (.bin .sub (.t 12) (.t 17))⟩, []),
  (⟨(some 19), none, (.val (.t 0))⟩, []),
  (⟨(some 20), none, (.nilc (.t 19))⟩, []),
  (⟨(some 21), none, (.fa 3 (.t 20))⟩, []),
  (⟨(some 22), none, (.ld none (.t 21))⟩, [1]),
  (⟨(some 23), none, (.len (.t 22))⟩, []),
  (⟨(some 24), none, (.bin .add (.t 18) (.t 23))⟩, []),
  (⟨(some 3), none, (.val (.t 24))⟩, [])]
theorem r16_3 {fn : AFun} {K : List AItem} {t : Nat → AV} {H : AH} {T : Tbl} : runR T fn (.code (.drw d16_3) :: K) t H = regR T fn K (aops (callR T) [
  ⟨(some 9), none, (.val (.t 0))⟩,
  ⟨(some 10), none, (.nilc (.t 9))⟩,
  ⟨(some 11), none, (.fa 0 (.t 10))⟩,
  ⟨(some 12), none, (.ld none (.t 11))⟩,
  ⟨(some 13), none, (.val (.t 0))⟩,
  ⟨(some 14), none, (.nilc (.t 13))⟩,
  ⟨(some 15), none, (.fa 2 (.t 14))⟩,
  ⟨(some 16), none, (.ld none (.t 15))⟩,
  ⟨(some 17), none, (.len (.t 16))⟩,
  ⟨(some 18), none, (.bin .sub (.t 12) (.t 17))⟩,
  ⟨(some 19), none, (.val (.t 0))⟩,
  ⟨(some 20), none, (.nilc (.t 19))⟩,
  ⟨(some 21), none, (.fa 3 (.t 20))⟩,
  ⟨(some 22), none, (.ld none (.t 21))⟩,
  ⟨(some 23), none, (.len (.t 22))⟩,
  ⟨(some 24), none, (.bin .add (.t 18) (.t 23))⟩,
  ⟨(some 3), none, (.val (.t 24))⟩] t H) := runR_plain rfl
def d16_4 : List AOper := [
  ⟨(some 25), none, (.val (.t 0))⟩,
  ⟨(some 26), none, (.nilc (.t 25))⟩,
  ⟨(some 27), none, (.fa 4 (.t 26))⟩,
  ⟨(some 28), none, (.ld (some 256) (.t 27))⟩,
  ⟨(some 29), none, (.val (.c (.i .i64 0)))⟩]
theorem r16_4 {fn : AFun} {K : List AItem} {t : Nat → AV} {H : AH} {T : Tbl} : runR T fn (.code (.reg d16_4) :: K) t H = regR T fn K (aops (callR T) [
  ⟨(some 25), none, (.val (.t 0))⟩,
  ⟨(some 26), none, (.nilc (.t 25))⟩,
  ⟨(some 27), none, (.fa 4 (.t 26))⟩,
  ⟨(some 28), none, (.ld (some 256) (.t 27))⟩,
  ⟨(some 29), none, (.val (.c (.i .i64 0)))⟩] t H) := runR_reg'
def d16_5 : List AOper := [
  ⟨(some 30), none, (.bin .lss (.t 29) (.c (.i .i64 256)))⟩]
theorem r16_5 {fn : AFun} {K : List AItem} {t : Nat → AV} {H : AH} {T : Tbl} : runR T fn (.code (.reg d16_5) :: K) t H = regR T fn K (aops (callR T) [
  ⟨(some 30), none, (.bin .lss (.t 29) (.c (.i .i64 256)))⟩] t H) := runR_reg'
def d16_6 : List AOper := [
  ⟨(some 31), none, (.ix none 256 1 (.t 28) (.t 29))⟩,
  ⟨(some 5), none, (.val (.t 31))⟩]
theorem r16_6 {fn : AFun} {K : List AItem} {t : Nat → AV} {H : AH} {T : Tbl} : runR T fn (.code (.reg d16_6) :: K) t H = regR T fn K (aops (callR T) [
  ⟨(some 31), none, (.ix none 256 1 (.t 28) (.t 29))⟩,
  ⟨(some 5), none, (.val (.t 31))⟩] t H) := runR_reg'
def d16_7 : List AOper := [
  ⟨(some 32), none, (.val (.t 3))⟩,
  ⟨(some 33), none, (.val (.t 5))⟩,
  ⟨(some 34), none, (.len (.t 33))⟩,
  ⟨(some 35), none, (.bin .add (.t 32) (.t 34))⟩,
  ⟨(some 3), none, (.val (.t 35))⟩]
theorem r16_7 {fn : AFun} {K : List AItem} {t : Nat → AV} {H : AH} {T : Tbl} : runR T fn (.code (.reg d16_7) :: K) t H = regR T fn K (aops (callR T) [
  ⟨(some 32), none, (.val (.t 3))⟩,
  ⟨(some 33), none, (.val (.t 5))⟩,
  ⟨(some 34), none, (.len (.t 33))⟩,
  ⟨(some 35), none, (.bin .add (.t 32) (.t 34))⟩,
  ⟨(some 3), none, (.val (.t 35))⟩] t H) := runR_reg'
def d16_8 : List AOper := [
  ⟨(some 36), none, (.bin .add (.t 29) (.c (.i .i64 1)))⟩,
  ⟨(some 29), none, (.val (.t 36))⟩]
theorem r16_8 {fn : AFun} {K : List AItem} {t : Nat → AV} {H : AH} {T : Tbl} : runR T fn (.code (.reg d16_8) :: K) t H = regR T fn K (aops (callR T) [
  ⟨(some 36), none, (.bin .add (.t 29) (.c (.i .i64 1)))⟩,
  ⟨(some 29), none, (.val (.t 36))⟩] t H) := runR_reg'
def l16_9 : ACode := (.seq (.reg d16_5) (.seq (.cond (.t 30) .skip (.exit 0)) (.seq (.block 1 (.seq (.reg d16_6) (.reg d16_7))) (.reg d16_8))))
def d16_10 : List AOper := [
  ⟨(some 37), none, (.val (.t 3))⟩,
  ⟨(some 2), none, (.val (.t 37))⟩]
theorem r16_10 {fn : AFun} {K : List AItem} {t : Nat → AV} {H : AH} {T : Tbl} : runR T fn (.code (.reg d16_10) :: K) t H = regR T fn K (aops (callR T) [
  ⟨(some 37), none, (.val (.t 3))⟩,
  ⟨(some 2), none, (.val (.t 37))⟩] t H) := runR_reg'
def a16 : AFun := ⟨38, [(.tmp 2)], (.seq (.reg d16_0) (.seq (.seq (.reg d16_1) (.cond (.t 8) (.seq (.reg d16_2) .ret) .skip)) (.seq (.drw d16_3) (.seq (.seq (.reg d16_4) (.block 0 (.loop l16_9))) (.seq (.reg d16_10) .ret)))))⟩
theorem a16_ok : cfun Try.prog 16 = some a16 := by kernel_rfl
/-- futtock/futtockref10.New -/
def d17_0 : List AOper := [
  ⟨(some 4), none, (.alloc [(.i .i64 0), (.i .i64 0), (.sl none 0 0 true 0)])⟩,
  ⟨(some 5), none, (.val (.c (.i .i64 0)))⟩]
theorem r17_0 {fn : AFun} {K : List AItem} {t : Nat → AV} {H : AH} {T : Tbl} : runR T fn (.code (.reg d17_0) :: K) t H = regR T fn K (aops (callR T) [
  ⟨(some 4), none, (.alloc [(.i .i64 0), (.i .i64 0), (.sl none 0 0 true 0)])⟩,
  ⟨(some 5), none, (.val (.c (.i .i64 0)))⟩] t H) := runR_reg'
def d17_1 : List AOper := [
  ⟨(some 6), none, (.val (.t 0))⟩,
  ⟨(some 7), none, (.bin .lss (.t 6) (.c (.i .i64 1)))⟩,
  ⟨(some 8), none, (.val (.t 7))⟩,
  ⟨(some 9), (some (8, false)), (.val (.t 0))⟩,
  ⟨(some 10), (some (8, false)), (.bin .gtr (.t 9) (.c (.i .i64 4096)))⟩,
  ⟨(some 11), none, (.pick (.t 8) (.c (.b true)) (.t 10))⟩,
  ⟨(some 12), none, (.val (.t 11))⟩,
  ⟨(some 13), (some (12, false)), (.val (.t 1))⟩,
  ⟨(some 14), (some (12, false)), (.bin .lss (.t 13) (.c (.i .i64 1)))⟩,
  ⟨(some 15), none, (.pick (.t 12) (.c (.b true)) (.t 14))⟩,
  ⟨(some 16), none, (.val (.t 15))⟩,
  ⟨(some 17), (some (16, false)), (.val (.t 1))⟩,
  ⟨(some 18), (some (16, false)), (.bin .gtr (.t 17) (.c (.i .i64 64)))⟩,
  ⟨(some 19), none, (.pick (.t 16) (.c (.b true)) (.t 18))⟩]
theorem r17_1 {fn : AFun} {K : List AItem} {t : Nat → AV} {H : AH} {T : Tbl} : runR T fn (.code (.reg d17_1) :: K) t H = regR T fn K (aops (callR T) [
  ⟨(some 6), none, (.val (.t 0))⟩,
  ⟨(some 7), none, (.bin .lss (.t 6) (.c (.i .i64 1)))⟩,
  ⟨(some 8), none, (.val (.t 7))⟩,
  ⟨(some 9), (some (8, false)), (.val (.t 0))⟩,
  ⟨(some 10), (some (8, false)), (.bin .gtr (.t 9) (.c (.i .i64 4096)))⟩,
  ⟨(some 11), none, (.pick (.t 8) (.c (.b true)) (.t 10))⟩,
  ⟨(some 12), none, (.val (.t 11))⟩,
  ⟨(some 13), (some (12, false)), (.val (.t 1))⟩,
  ⟨(some 14), (some (12, false)), (.bin .lss (.t 13) (.c (.i .i64 1)))⟩,
  ⟨(some 15), none, (.pick (.t 12) (.c (.b true)) (.t 14))⟩,
  ⟨(some 16), none, (.val (.t 15))⟩,
  ⟨(some 17), (some (16, false)), (.val (.t 1))⟩,
  ⟨(some 18), (some (16, false)), (.bin .gtr (.t 17) (.c (.i .i64 64)))⟩,
  ⟨(some 19), none, (.pick (.t 16) (.c (.b true)) (.t 18))⟩] t H) := runR_reg'
def d17_2 : List AOper := [
  ⟨(some 20), none, (.build [(.i .i64 0), (.i .i64 0), (.sl none 0 0 true 0)] [])⟩,
  ⟨none, none, (.st 3 (.t 4) (.t 20))⟩,
  ⟨(some 5), none, (.val (.c (.i .i64 1)))⟩]
theorem r17_2 {fn : AFun} {K : List AItem} {t : Nat → AV} {H : AH} {T : Tbl} : runR T fn (.code (.reg d17_2) :: K) t H = regR T fn K (aops (callR T) [
  ⟨(some 20), none, (.build [(.i .i64 0), (.i .i64 0), (.sl none 0 0 true 0)] [])⟩,
  ⟨none, none, (.st 3 (.t 4) (.t 20))⟩,
  ⟨(some 5), none, (.val (.c (.i .i64 1)))⟩] t H) := runR_reg'
def d17_3 : List AOper := [
  ⟨(some 21), none, (.val (.t 1))⟩,
  ⟨(some 22), none, (.val (.t 0))⟩,
  ⟨(some 23), none, (.mks [(.i .i64 0), (.i .i64 0), (.i .i64 0), (.i .u32 0)] 32 (.t 22) (.t 22))⟩,
  ⟨(some 24), none, (.build [(.i .i64 0), (.i .i64 0), (.sl none 0 0 true 0)] [(0, 1, (.t 21)), (2, 1, (.t 23))])⟩,
  ⟨none, none, (.st 3 (.t 4) (.t 24))⟩,
  ⟨(some 5), none, (.val (.c (.i .i64 0)))⟩]
theorem r17_3 {fn : AFun} {K : List AItem} {t : Nat → AV} {H : AH} {T : Tbl} : runR T fn (.code (.reg d17_3) :: K) t H = regR T fn K (aops (callR T) [
  ⟨(some 21), none, (.val (.t 1))⟩,
  ⟨(some 22), none, (.val (.t 0))⟩,
  ⟨(some 23), none, (.mks [(.i .i64 0), (.i .i64 0), (.i .i64 0), (.i .u32 0)] 32 (.t 22) (.t 22))⟩,
  ⟨(some 24), none, (.build [(.i .i64 0), (.i .i64 0), (.sl none 0 0 true 0)] [(0, 1, (.t 21)), (2, 1, (.t 23))])⟩,
  ⟨none, none, (.st 3 (.t 4) (.t 24))⟩,
  ⟨(some 5), none, (.val (.c (.i .i64 0)))⟩] t H) := runR_reg'
def a17 : AFun := ⟨25, [(.cell 4 (some 3)), (.tmp 5)], (.seq (.reg d17_0) (.seq (.seq (.reg d17_1) (.cond (.t 19) (.seq (.reg d17_2) .ret) .skip)) (.seq (.reg d17_3) .ret)))⟩
theorem a17_ok : cfun Try.prog 17 = some a17 := by kernel_rfl
/-- (*futtock/futtockref10.Table).Free -/
def d18_0 : List AOper := [
  ⟨(some 6), none, (.val (.c (.i .i64 0)))⟩]
theorem r18_0 {fn : AFun} {K : List AItem} {t : Nat → AV} {H : AH} {T : Tbl} : runR T fn (.code (.reg d18_0) :: K) t H = regR T fn K (aops (callR T) [
  ⟨(some 6), none, (.val (.c (.i .i64 0)))⟩] t H) := runR_reg'
def d18_1 : List AOper := [
  ⟨(some 8), none, (.val (.t 1))⟩,
  ⟨(some 9), none, (.call 30 [(.t 8)])⟩,
  ⟨(some 10), none, (.un .not (.t 9))⟩,
  ⟨(some 11), none, (.val (.t 10))⟩,
  ⟨(some 12), (some (11, false)), (.val (.t 2))⟩,
  ⟨(some 13), (some (11, false)), (.bin .lss (.t 12) (.c (.i .i64 0)))⟩,
  ⟨(some 14), none, (.pick (.t 11) (.c (.b true)) (.t 13))⟩,
  ⟨(some 15), none, (.val (.t 14))⟩,
  ⟨(some 16), (some (15, false)), (.val (.t 2))⟩,
  ⟨(some 17), (some (15, false)), (.val (.t 0))⟩,
  ⟨(some 18), (some (15, false)), (.nilc (.t 17))⟩,
  ⟨(some 19), (some (15, false)), (.fa 2 (.t 18))⟩,
  ⟨(some 20), (some (15, false)), (.ld none (.t 19))⟩,
  ⟨(some 21), (some (15, false)), (.len (.t 20))⟩,
  ⟨(some 22), (some (15, false)), (.bin .geq (.t 16) (.t 21))⟩,
  ⟨(some 23), none, (.pick (.t 15) (.c (.b true)) (.t 22))⟩,
  ⟨(some 24), none, (.val (.t 23))⟩,
  ⟨(some 25), (some (24, false)), (.val (.t 0))⟩,
  ⟨(some 26), (some (24, false)), (.nilc (.t 25))⟩,
  ⟨(some 27), (some (24, false)), (.fa 2 (.t 26))⟩,
  ⟨(some 28), (some (24, false)), (.ld none (.t 27))⟩,
  ⟨(some 29), (some (24, false)), (.val (.t 2))⟩,
  ⟨(some 30), (some (24, false)), (.ia 4 (.t 28) (.t 29))⟩,
  ⟨(some 31), (some (24, false)), (.fa 0 (.t 30))⟩,
  ⟨(some 32), (some (24, false)), (.ld none (.t 31))⟩,
  ⟨(some 33), (some (24, false)), (.bin .neq (.t 32) (.c (.i .i64 1)))⟩,
  ⟨(some 34), none, (.pick (.t 24) (.c (.b true)) (.t 33))⟩]
theorem r18_1 {fn : AFun} {K : List AItem} {t : Nat → AV} {H : AH} {T : Tbl} : runR T fn (.code (.reg d18_1) :: K) t H = regR T fn K (aops (callR T) [
  ⟨(some 8), none, (.val (.t 1))⟩,
  ⟨(some 9), none, (.call 30 [(.t 8)])⟩,
  ⟨(some 10), none, (.un .not (.t 9))⟩,
  ⟨(some 11), none, (.val (.t 10))⟩,
  ⟨(some 12), (some (11, false)), (.val (.t 2))⟩,
  ⟨(some 13), (some (11, false)), (.bin .lss (.t 12) (.c (.i .i64 0)))⟩,
  ⟨(some 14), none, (.pick (.t 11) (.c (.b true)) (.t 13))⟩,
  ⟨(some 15), none, (.val (.t 14))⟩,
  ⟨(some 16), (some (15, false)), (.val (.t 2))⟩,
  ⟨(some 17), (some (15, false)), (.val (.t 0))⟩,
  ⟨(some 18), (some (15, false)), (.nilc (.t 17))⟩,
  ⟨(some 19), (some (15, false)), (.fa 2 (.t 18))⟩,
  ⟨(some 20), (some (15, false)), (.ld none (.t 19))⟩,
  ⟨(some 21), (some (15, false)), (.len (.t 20))⟩,
  ⟨(some 22), (some (15, false)), (.bin .geq (.t 16) (.t 21))⟩,
  ⟨(some 23), none, (.pick (.t 15) (.c (.b true)) (.t 22))⟩,
  ⟨(some 24), none, (.val (.t 23))⟩,
  ⟨(some 25), (some (24, false)), (.val (.t 0))⟩,
  ⟨(some 26), (some (24, false)), (.nilc (.t 25))⟩,
  ⟨(some 27), (some (24, false)), (.fa 2 (.t 26))⟩,
  ⟨(some 28), (some (24, false)), (.ld none (.t 27))⟩,
  ⟨(some 29), (some (24, false)), (.val (.t 2))⟩,
  ⟨(some 30), (some (24, false)), (.ia 4 (.t 28) (.t 29))⟩,
  ⟨(some 31), (some (24, false)), (.fa 0 (.t 30))⟩,
  ⟨(some 32), (some (24, false)), (.ld none (.t 31))⟩,
  ⟨(some 33), (some (24, false)), (.bin .neq (.t 32) (.c (.i .i64 1)))⟩,
  ⟨(some 34), none, (.pick (.t 24) (.c (.b true)) (.t 33))⟩] t H) := runR_reg'
def d18_2 : List AOper := [
  ⟨(some 6), none, (.val (.c (.i .i64 1)))⟩]
theorem r18_2 {fn : AFun} {K : List AItem} {t : Nat → AV} {H : AH} {T : Tbl} : runR T fn (.code (.reg d18_2) :: K) t H = regR T fn K (aops (callR T) [
  ⟨(some 6), none, (.val (.c (.i .i64 1)))⟩] t H) := runR_reg'
def d18_3 : List AOper := [
  ⟨(some 35), none, (.val (.t 0))⟩,
  ⟨(some 36), none, (.nilc (.t 35))⟩,
  ⟨(some 37), none, (.fa 1 (.t 36))⟩,
  ⟨(some 38), none, (.ld none (.t 37))⟩,
  ⟨(some 39), none, (.bin .add (.t 38) (.c (.i .i64 1)))⟩,
  ⟨(some 40), none, (.nilc (.t 35))⟩,
  ⟨(some 41), none, (.fa 1 (.t 40))⟩,
  ⟨none, none, (.st 1 (.t 41) (.t 39))⟩]
theorem r18_3 {fn : AFun} {K : List AItem} {t : Nat → AV} {H : AH} {T : Tbl} : runR T fn (.code (.reg d18_3) :: K) t H = regR T fn K (aops (callR T) [
  ⟨(some 35), none, (.val (.t 0))⟩,
  ⟨(some 36), none, (.nilc (.t 35))⟩,
  ⟨(some 37), none, (.fa 1 (.t 36))⟩,
  ⟨(some 38), none, (.ld none (.t 37))⟩,
  ⟨(some 39), none, (.bin .add (.t 38) (.c (.i .i64 1)))⟩,
  ⟨(some 40), none, (.nilc (.t 35))⟩,
  ⟨(some 41), none, (.fa 1 (.t 40))⟩,
  ⟨none, none, (.st 1 (.t 41) (.t 39))⟩] t H) := runR_reg'
def d18_4 : List (AOper × List Nat) := [
  (⟨(some 42), none, (.val (.t 1))⟩, []),
  (⟨(some 43), none, (.val (.t 0))⟩, []),
  (⟨(some 44), none, (.nilc (.t 43))⟩, []),
  (⟨(some 45), none, (.fa 1 (.t 44))⟩, []),
  (⟨(some 46), none, (.ld none (.t 45))⟩, [1]),
  (⟨(some 47), none, (.val (.t 0))⟩, []),
  (⟨(some 48), none, (.nilc (.t 47))⟩, []),
  (⟨(some 49), none, (.fa 2 (.t 48))⟩, []),
  (⟨(some 50), none, (.ld none (.t 49))⟩, [1]),
  (⟨(some 51), none, (.val (.t 2))⟩, []),
  (⟨(some 52), none, (.ia 4 (.t 50) (.t 51))⟩, []),
  (⟨(some 53), none, (.fa 3 (.t 52))⟩, []),
  (⟨(some 54), none, (.ld none (.t 53))⟩, [1]),
  (⟨(some 55), none, (.build [(.i .i64 0), (.i .i64 0), (.i .i64 0), (.i .u32 0)] [(0, 1, (.c (.i .i64 2))), (1, 1, (.t 42)), (2, 1, (.t 46)), (3, 1, (.t 54))])⟩, []),
  (⟨(some 7), none, (.alloc [(.i .i64 0), (.i .i64 0), (.i .i64 0), (.i .u32 0)])⟩, []),
  (⟨none, none, (.st 4 (.t 7) (.t 55))⟩, [])]
theorem r18_4 {fn : AFun} {K : List AItem} {t : Nat → AV} {H : AH} {T : Tbl} : runR T fn (.code (.drw d18_4) :: K) t H = regR T fn K (aops (callR T) [
  ⟨(some 42), none, (.val (.t 1))⟩,
  ⟨(some 43), none, (.val (.t 0))⟩,
  ⟨(some 44), none, (.nilc (.t 43))⟩,
  ⟨(some 45), none, (.fa 1 (.t 44))⟩,
  ⟨(some 46), none, (.ld none (.t 45))⟩,
  ⟨(some 47), none, (.val (.t 0))⟩,
  ⟨(some 48), none, (.nilc (.t 47))⟩,
  ⟨(some 49), none, (.fa 2 (.t 48))⟩,
  ⟨(some 50), none, (.ld none (.t 49))⟩,
  ⟨(some 51), none, (.val (.t 2))⟩,
  ⟨(some 52), none, (.ia 4 (.t 50) (.t 51))⟩,
  ⟨(some 53), none, (.fa 3 (.t 52))⟩,
  ⟨(some 54), none, (.ld none (.t 53))⟩,
  ⟨(some 55), none, (.build [(.i .i64 0), (.i .i64 0), (.i .i64 0), (.i .u32 0)] [(0, 1, (.c (.i .i64 2))), (1, 1, (.t 42)), (2, 1, (.t 46)), (3, 1, (.t 54))])⟩,
  ⟨(some 7), none, (.alloc [(.i .i64 0), (.i .i64 0), (.i .i64 0), (.i .u32 0)])⟩,
  ⟨none, none, (.st 4 (.t 7) (.t 55))⟩] t H) := runR_plain rfl
def d18_5 : List (AOper × List Nat) := [
  (⟨(some 56), none, (.val (.t 0))⟩, []),
  (⟨(some 57), none, (.val (.t 1))⟩, []),
  (⟨(some 58), none, (.call 31 [(.t 56), (.t 57)])⟩, []),
  (⟨(some 59), none, (.len (.t 58))⟩, []),
  (⟨(some 60), none, (.val (.t 0))⟩, []),
  (⟨(some 61), none, (.nilc (.t 60))⟩, []),
  (⟨(some 62), none, (.fa 0 (.t 61))⟩, []),
  (⟨(some 63), none, (.ld none (.t 62))⟩, [2]),
  (⟨(some 64), none, (.bin .lss (.t 59) (.t 63))⟩, [])]
theorem r18_5 {fn : AFun} {K : List AItem} {t : Nat → AV} {H : AH} {T : Tbl} : runR T fn (.code (.drw d18_5) :: K) t H = regR T fn K (adrn (callR T) [
  (⟨(some 56), none, (.val (.t 0))⟩, []),
  (⟨(some 57), none, (.val (.t 1))⟩, []),
  (⟨(some 58), none, (.call 31 [(.t 56), (.t 57)])⟩, []),
  (⟨(some 59), none, (.len (.t 58))⟩, []),
  (⟨(some 60), none, (.val (.t 0))⟩, []),
  (⟨(some 61), none, (.nilc (.t 60))⟩, []),
  (⟨(some 62), none, (.fa 0 (.t 61))⟩, []),
  (⟨(some 63), none, (.ld none (.t 62))⟩, [2]),
  (⟨(some 64), none, (.bin .lss (.t 59) (.t 63))⟩, [])] t H [H]) := runR_free rfl
def d18_6 : List AOper := [
  ⟨(some 65), none, (.fa 0 (.t 7))⟩,
  ⟨none, none, (.st 1 (.t 65) (.c (.i .i64 3)))⟩]
theorem r18_6 {fn : AFun} {K : List AItem} {t : Nat → AV} {H : AH} {T : Tbl} : runR T fn (.code (.reg d18_6) :: K) t H = regR T fn K (aops (callR T) [
  ⟨(some 65), none, (.fa 0 (.t 7))⟩,
  ⟨none, none, (.st 1 (.t 65) (.c (.i .i64 3)))⟩] t H) := runR_reg'
def d18_7 : List AOper := [
  ⟨(some 66), none, (.fa 3 (.t 7))⟩,
  ⟨(some 67), none, (.ld none (.t 66))⟩,
  ⟨(some 68), none, (.bin .eql (.t 67) (.c (.i .u32 16777215)))⟩]
theorem r18_7 {fn : AFun} {K : List AItem} {t : Nat → AV} {H : AH} {T : Tbl} : runR T fn (.code (.reg d18_7) :: K) t H = regR T fn K (aops (callR T) [
  ⟨(some 66), none, (.fa 3 (.t 7))⟩,
  ⟨(some 67), none, (.ld none (.t 66))⟩,
  ⟨(some 68), none, (.bin .eql (.t 67) (.c (.i .u32 16777215)))⟩] t H) := runR_reg'
def d18_8 : List AOper := [
  ⟨(some 69), none, (.fa 0 (.t 7))⟩,
  ⟨none, none, (.st 1 (.t 69) (.c (.i .i64 4)))⟩]
theorem r18_8 {fn : AFun} {K : List AItem} {t : Nat → AV} {H : AH} {T : Tbl} : runR T fn (.code (.reg d18_8) :: K) t H = regR T fn K (aops (callR T) [
  ⟨(some 69), none, (.fa 0 (.t 7))⟩,
  ⟨none, none, (.st 1 (.t 69) (.c (.i .i64 4)))⟩] t H) := runR_reg'
def d18_9 : List AOper := [
  ⟨(some 70), none, (.fa 3 (.t 7))⟩,
  ⟨(some 71), none, (.ld none (.t 70))⟩,
  ⟨(some 72), none, (.bin .add (.t 71) (.c (.i .u32 1)))⟩,
  ⟨(some 73), none, (.fa 3 (.t 7))⟩,
  ⟨none, none, (.st 1 (.t 73) (.t 72))⟩]
theorem r18_9 {fn : AFun} {K : List AItem} {t : Nat → AV} {H : AH} {T : Tbl} : runR T fn (.code (.reg d18_9) :: K) t H = regR T fn K (aops (callR T) [
  ⟨(some 70), none, (.fa 3 (.t 7))⟩,
  ⟨(some 71), none, (.ld none (.t 70))⟩,
  ⟨(some 72), none, (.bin .add (.t 71) (.c (.i .u32 1)))⟩,
  ⟨(some 73), none, (.fa 3 (.t 7))⟩,
  ⟨none, none, (.st 1 (.t 73) (.t 72))⟩] t H) := runR_reg'
def d18_10 : List (AOper × List Nat) := [
  (⟨(some 74), none, (.val (.t 0))⟩, []),
  (⟨(some 75), none, (.nilc (.t 74))⟩, []),
  (⟨(some 76), none, (.fa 2 (.t 75))⟩, []),
  (⟨(some 77), none, (.ld none (.t 76))⟩, [1]),
  (⟨(some 78), none, (.val (.t 2))⟩, []),
  (⟨(some 79), none, (.ld (some 4) (.t 7))⟩, [1]),
  (⟨(some 80), none, (.ia 4 (.t 77) (.t 78))⟩, []),
  (⟨none, none, (.st 4 (.t 80) (.t 79))⟩, [])]
theorem r18_10 {fn : AFun} {K : List AItem} {t : Nat → AV} {H : AH} {T : Tbl} : runR T fn (.code (.drw d18_10) :: K) t H = regR T fn K (aops (callR T) [
  ⟨(some 74), none, (.val (.t 0))⟩,
  ⟨(some 75), none, (.nilc (.t 74))⟩,
  ⟨(some 76), none, (.fa 2 (.t 75))⟩,
  ⟨(some 77), none, (.ld none (.t 76))⟩,
  ⟨(some 78), none, (.val (.t 2))⟩,
  ⟨(some 79), none, (.ld (some 4) (.t 7))⟩,
  ⟨(some 80), none, (.ia 4 (.t 77) (.t 78))⟩,
  ⟨none, none, (.st 4 (.t 80) (.t 79))⟩] t H) := runR_plain rfl
def d18_11 : List AOper := [
  ⟨(some 6), none, (.val (.c (.i .i64 0)))⟩]
theorem r18_11 {fn : AFun} {K : List AItem} {t : Nat → AV} {H : AH} {T : Tbl} : runR T fn (.code (.reg d18_11) :: K) t H = regR T fn K (aops (callR T) [
  ⟨(some 6), none, (.val (.c (.i .i64 0)))⟩] t H) := runR_reg'
def a18 : AFun := ⟨81, [(.tmp 6)], (.seq (.reg d18_0) (.seq (.seq (.reg d18_1) (.cond (.t 34) (.seq (.reg d18_2) .ret) .skip)) (.seq (.reg d18_3) (.seq (.drw d18_4) (.seq (.seq (.drw d18_5) (.cond (.t 64) (.reg d18_6) .skip)) (.seq (.seq (.reg d18_7) (.cond (.t 68) (.reg d18_8) (.reg d18_9))) (.seq (.drw d18_10) (.seq (.reg d18_11) .ret))))))))⟩
theorem a18_ok : cfun Try.prog 18 = some a18 := by kernel_rfl
end Go.Proofs.Ythcibbfljcfheaa.Abs
