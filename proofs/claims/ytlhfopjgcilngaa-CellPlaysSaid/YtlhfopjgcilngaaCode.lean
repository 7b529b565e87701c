/- The functions that the laws of this seat reach, in the plain machine's form, and that they are the loaded ones. Printed by a program of this seat's own (gencode.py). No condition of its own. -/
import Derived.Test.YtlhfopjgcilngaaProg
import Derived.Test.YtlhfopjgcilngaaAbs3
import Derived.Test.YtlhfopjgcilngaaEval
import Derived.KernelRfl
namespace Go.Proofs.Ytlhfopjgcilngaa.Abs
set_option linter.unusedVariables false
set_option maxRecDepth 100000
/-- futtock/futtocklaw03.CellStays -/
def d3_0 : List AOper := [
  ⟨(some 4), none, (.val (.c (.b false)))⟩]
theorem r3_0 {fn : AFun} {K : List AItem} {t : Nat → AV} {H : AH} {T : Tbl} : runR T fn (.code (.reg d3_0) :: K) t H = regR T fn K (aops (callR T) [
  ⟨(some 4), none, (.val (.c (.b false)))⟩] t H) := runR_reg'
def d3_1 : List AOper := [
  ⟨(some 15), none, (.val (.t 0))⟩,
  ⟨(some 16), none, (.cvi .i64 (.t 15))⟩,
  ⟨(some 17), none, (.bin .add (.t 16) (.c (.i .i64 1)))⟩,
  ⟨(some 18), none, (.call 7 [(.t 17)])⟩,
  ⟨(some 14), none, (.val (.t 18))⟩,
  ⟨(some 19), none, (.ext (.t 14) 0)⟩,
  ⟨(some 20), none, (.ext (.t 14) 1)⟩,
  ⟨(some 5), none, (.val (.t 19))⟩,
  ⟨(some 6), none, (.val (.t 20))⟩]
theorem r3_1 {fn : AFun} {K : List AItem} {t : Nat → AV} {H : AH} {T : Tbl} : runR T fn (.code (.reg d3_1) :: K) t H = regR T fn K (aops (callR T) [
  ⟨(some 15), none, (.val (.t 0))⟩,
  ⟨(some 16), none, (.cvi .i64 (.t 15))⟩,
  ⟨(some 17), none, (.bin .add (.t 16) (.c (.i .i64 1)))⟩,
  ⟨(some 18), none, (.call 7 [(.t 17)])⟩,
  ⟨(some 14), none, (.val (.t 18))⟩,
  ⟨(some 19), none, (.ext (.t 14) 0)⟩,
  ⟨(some 20), none, (.ext (.t 14) 1)⟩,
  ⟨(some 5), none, (.val (.t 19))⟩,
  ⟨(some 6), none, (.val (.t 20))⟩] t H) := runR_reg'
def d3_2 : List AOper := [
  ⟨(some 21), none, (.val (.t 5))⟩,
  ⟨(some 22), none, (.eqn 0 false (.t 21) (.c (.p none)))⟩,
  ⟨(some 23), none, (.val (.t 22))⟩,
  ⟨(some 24), (some (23, false)), (.val (.t 6))⟩,
  ⟨(some 25), (some (23, false)), (.bin .neq (.t 24) (.c (.i .i64 0)))⟩,
  ⟨(some 26), none, (.pick (.t 23) (.c (.b true)) (.t 25))⟩]
theorem r3_2 {fn : AFun} {K : List AItem} {t : Nat → AV} {H : AH} {T : Tbl} : runR T fn (.code (.reg d3_2) :: K) t H = regR T fn K (aops (callR T) [
  ⟨(some 21), none, (.val (.t 5))⟩,
  ⟨(some 22), none, (.eqn 0 false (.t 21) (.c (.p none)))⟩,
  ⟨(some 23), none, (.val (.t 22))⟩,
  ⟨(some 24), (some (23, false)), (.val (.t 6))⟩,
  ⟨(some 25), (some (23, false)), (.bin .neq (.t 24) (.c (.i .i64 0)))⟩,
  ⟨(some 26), none, (.pick (.t 23) (.c (.b true)) (.t 25))⟩] t H) := runR_reg'
def d3_3 : List AOper := [
  ⟨(some 4), none, (.val (.c (.b false)))⟩]
theorem r3_3 {fn : AFun} {K : List AItem} {t : Nat → AV} {H : AH} {T : Tbl} : runR T fn (.code (.reg d3_3) :: K) t H = regR T fn K (aops (callR T) [
  ⟨(some 4), none, (.val (.c (.b false)))⟩] t H) := runR_reg'
def d3_4 : List AOper := [
  ⟨(some 27), none, (.val (.t 1))⟩,
  ⟨(some 28), none, (.call 8 [(.t 27)])⟩,
  ⟨(some 29), none, (.len (.t 28))⟩,
  ⟨(some 30), none, (.val (.c (.i .i64 0)))⟩]
theorem r3_4 {fn : AFun} {K : List AItem} {t : Nat → AV} {H : AH} {T : Tbl} : runR T fn (.code (.reg d3_4) :: K) t H = regR T fn K (aops (callR T) [
  ⟨(some 27), none, (.val (.t 1))⟩,
  ⟨(some 28), none, (.call 8 [(.t 27)])⟩,
  ⟨(some 29), none, (.len (.t 28))⟩,
  ⟨(some 30), none, (.val (.c (.i .i64 0)))⟩] t H) := runR_reg'
def d3_5 : List AOper := [
  ⟨(some 31), none, (.bin .lss (.t 30) (.t 29))⟩]
theorem r3_5 {fn : AFun} {K : List AItem} {t : Nat → AV} {H : AH} {T : Tbl} : runR T fn (.code (.reg d3_5) :: K) t H = regR T fn K (aops (callR T) [
  ⟨(some 31), none, (.bin .lss (.t 30) (.t 29))⟩] t H) := runR_reg'
def d3_6 : List AOper := [
  ⟨(some 32), none, (.ia 4 (.t 28) (.t 30))⟩,
  ⟨(some 33), none, (.ld (some 4) (.t 32))⟩,
  ⟨(some 8), none, (.alloc [(.i .u8 0), (.i .i64 0), (.i .u64 0), (.i .u64 0)])⟩,
  ⟨none, none, (.st 4 (.t 8) (.t 33))⟩]
theorem r3_6 {fn : AFun} {K : List AItem} {t : Nat → AV} {H : AH} {T : Tbl} : runR T fn (.code (.reg d3_6) :: K) t H = regR T fn K (aops (callR T) [
  ⟨(some 32), none, (.ia 4 (.t 28) (.t 30))⟩,
  ⟨(some 33), none, (.ld (some 4) (.t 32))⟩,
  ⟨(some 8), none, (.alloc [(.i .u8 0), (.i .i64 0), (.i .u64 0), (.i .u64 0)])⟩,
  ⟨none, none, (.st 4 (.t 8) (.t 33))⟩] t H) := runR_reg'
def d3_7 : List AOper := [
  ⟨(some 34), none, (.val (.t 5))⟩,
  ⟨(some 35), none, (.call 9 [(.t 34)])⟩,
  ⟨(some 9), none, (.val (.t 35))⟩]
theorem r3_7 {fn : AFun} {K : List AItem} {t : Nat → AV} {H : AH} {T : Tbl} : runR T fn (.code (.reg d3_7) :: K) t H = regR T fn K (aops (callR T) [
  ⟨(some 34), none, (.val (.t 5))⟩,
  ⟨(some 35), none, (.call 9 [(.t 34)])⟩,
  ⟨(some 9), none, (.val (.t 35))⟩] t H) := runR_reg'
def d3_8 : List AOper := [
  ⟨(some 37), none, (.val (.t 5))⟩,
  ⟨(some 38), none, (.fa 1 (.t 8))⟩,
  ⟨(some 39), none, (.ld none (.t 38))⟩,
  ⟨(some 40), none, (.fa 2 (.t 8))⟩,
  ⟨(some 41), none, (.ld none (.t 40))⟩,
  ⟨(some 42), none, (.fa 3 (.t 8))⟩,
  ⟨(some 43), none, (.ld none (.t 42))⟩,
  ⟨(some 44), none, (.call 10 [(.t 37), (.t 39), (.t 41), (.t 43)])⟩,
  ⟨(some 36), none, (.val (.t 44))⟩,
  ⟨(some 45), none, (.ext (.t 36) 0)⟩,
  ⟨(some 46), none, (.ext (.t 36) 1)⟩,
  ⟨(some 10), none, (.val (.t 45))⟩,
  ⟨(some 11), none, (.val (.t 46))⟩]
theorem r3_8 {fn : AFun} {K : List AItem} {t : Nat → AV} {H : AH} {T : Tbl} : runR T fn (.code (.reg d3_8) :: K) t H = regR T fn K (aops (callR T) [
  ⟨(some 37), none, (.val (.t 5))⟩,
  ⟨(some 38), none, (.fa 1 (.t 8))⟩,
  ⟨(some 39), none, (.ld none (.t 38))⟩,
  ⟨(some 40), none, (.fa 2 (.t 8))⟩,
  ⟨(some 41), none, (.ld none (.t 40))⟩,
  ⟨(some 42), none, (.fa 3 (.t 8))⟩,
  ⟨(some 43), none, (.ld none (.t 42))⟩,
  ⟨(some 44), none, (.call 10 [(.t 37), (.t 39), (.t 41), (.t 43)])⟩,
  ⟨(some 36), none, (.val (.t 44))⟩,
  ⟨(some 45), none, (.ext (.t 36) 0)⟩,
  ⟨(some 46), none, (.ext (.t 36) 1)⟩,
  ⟨(some 10), none, (.val (.t 45))⟩,
  ⟨(some 11), none, (.val (.t 46))⟩] t H) := runR_reg'
def d3_9 : List AOper := [
  ⟨(some 47), none, (.fa 0 (.t 8))⟩,
  ⟨(some 48), none, (.ld none (.t 47))⟩,
  ⟨(some 49), none, (.bin .rem (.t 48) (.c (.i .u8 2)))⟩,
  ⟨(some 50), none, (.bin .eql (.t 49) (.c (.i .u8 1)))⟩]
theorem r3_9 {fn : AFun} {K : List AItem} {t : Nat → AV} {H : AH} {T : Tbl} : runR T fn (.code (.reg d3_9) :: K) t H = regR T fn K (aops (callR T) [
  ⟨(some 47), none, (.fa 0 (.t 8))⟩,
  ⟨(some 48), none, (.ld none (.t 47))⟩,
  ⟨(some 49), none, (.bin .rem (.t 48) (.c (.i .u8 2)))⟩,
  ⟨(some 50), none, (.bin .eql (.t 49) (.c (.i .u8 1)))⟩] t H) := runR_reg'
def d3_10 : List AOper := [
  ⟨(some 51), none, (.val (.t 5))⟩,
  ⟨(some 52), none, (.fa 1 (.t 8))⟩,
  ⟨(some 53), none, (.ld none (.t 52))⟩,
  ⟨(some 54), none, (.fa 3 (.t 8))⟩,
  ⟨(some 55), none, (.ld none (.t 54))⟩,
  ⟨(some 56), none, (.call 11 [(.t 51), (.t 53), (.t 55)])⟩,
  ⟨(some 11), none, (.val (.t 56))⟩]
theorem r3_10 {fn : AFun} {K : List AItem} {t : Nat → AV} {H : AH} {T : Tbl} : runR T fn (.code (.reg d3_10) :: K) t H = regR T fn K (aops (callR T) [
  ⟨(some 51), none, (.val (.t 5))⟩,
  ⟨(some 52), none, (.fa 1 (.t 8))⟩,
  ⟨(some 53), none, (.ld none (.t 52))⟩,
  ⟨(some 54), none, (.fa 3 (.t 8))⟩,
  ⟨(some 55), none, (.ld none (.t 54))⟩,
  ⟨(some 56), none, (.call 11 [(.t 51), (.t 53), (.t 55)])⟩,
  ⟨(some 11), none, (.val (.t 56))⟩] t H) := runR_reg'
def d3_11 : List AOper := [
  ⟨(some 57), none, (.val (.t 5))⟩,
  ⟨(some 58), none, (.call 9 [(.t 57)])⟩,
  ⟨(some 12), none, (.val (.t 58))⟩]
theorem r3_11 {fn : AFun} {K : List AItem} {t : Nat → AV} {H : AH} {T : Tbl} : runR T fn (.code (.reg d3_11) :: K) t H = regR T fn K (aops (callR T) [
  ⟨(some 57), none, (.val (.t 5))⟩,
  ⟨(some 58), none, (.call 9 [(.t 57)])⟩,
  ⟨(some 12), none, (.val (.t 58))⟩] t H) := runR_reg'
def d3_12 : List (AOper × List Nat) := [
  (⟨(some 59), none, (.val (.t 12))⟩, []),
  (⟨(some 60), none, (.len (.t 59))⟩, []),
  (⟨(some 61), none, (.val (.t 9))⟩, []),
  (⟨(some 62), none, (.len (.t 61))⟩, []),
  (⟨(some 63), none, (.bin .neq (.t 60) (.t 62))⟩, []),
  (⟨(some 64), none, (.val (.t 63))⟩, []),
  (⟨(some 65), (some (64, false)), (.val (.t 11))⟩, []),
  (⟨(some 66), (some (64, false)), (.val (.t 65))⟩, []),
  (⟨(some 67), (some (66, true)), (.val (.t 5))⟩, []),
  (⟨(some 68), (some (66, true)), (.fa 1 (.t 8))⟩, []),
  (⟨(some 69), (some (66, true)), (.ld none (.t 68))⟩, [1]),
  (⟨(some 70), (some (66, true)), (.call 12 [(.t 67), (.t 69)])⟩, []),
  (⟨(some 71), (some (66, true)), (.fa 3 (.t 8))⟩, []),
  (⟨(some 72), (some (66, true)), (.ld none (.t 71))⟩, [2]),
  (⟨(some 73), (some (66, true)), (.bin .neq (.t 70) (.t 72))⟩, []),
  (⟨(some 74), (some (64, false)), (.pick (.t 66) (.t 73) (.c (.b false)))⟩, []),
  (⟨(some 75), none, (.pick (.t 64) (.c (.b true)) (.t 74))⟩, [])]
theorem r3_12 {fn : AFun} {K : List AItem} {t : Nat → AV} {H : AH} {T : Tbl} : runR T fn (.code (.drw d3_12) :: K) t H = regR T fn K (adrn (callR T) [
  (⟨(some 59), none, (.val (.t 12))⟩, []),
  (⟨(some 60), none, (.len (.t 59))⟩, []),
  (⟨(some 61), none, (.val (.t 9))⟩, []),
  (⟨(some 62), none, (.len (.t 61))⟩, []),
  (⟨(some 63), none, (.bin .neq (.t 60) (.t 62))⟩, []),
  (⟨(some 64), none, (.val (.t 63))⟩, []),
  (⟨(some 65), (some (64, false)), (.val (.t 11))⟩, []),
  (⟨(some 66), (some (64, false)), (.val (.t 65))⟩, []),
  (⟨(some 67), (some (66, true)), (.val (.t 5))⟩, []),
  (⟨(some 68), (some (66, true)), (.fa 1 (.t 8))⟩, []),
  (⟨(some 69), (some (66, true)), (.ld none (.t 68))⟩, [1]),
  (⟨(some 70), (some (66, true)), (.call 12 [(.t 67), (.t 69)])⟩, []),
  (⟨(some 71), (some (66, true)), (.fa 3 (.t 8))⟩, []),
  (⟨(some 72), (some (66, true)), (.ld none (.t 71))⟩, [2]),
  (⟨(some 73), (some (66, true)), (.bin .neq (.t 70) (.t 72))⟩, []),
  (⟨(some 74), (some (64, false)), (.pick (.t 66) (.t 73) (.c (.b false)))⟩, []),
  (⟨(some 75), none, (.pick (.t 64) (.c (.b true)) (.t 74))⟩, [])] t H [H]) := runR_free rfl
def d3_13 : List AOper := [
  ⟨(some 4), none, (.val (.c (.b false)))⟩]
theorem r3_13 {fn : AFun} {K : List AItem} {t : Nat → AV} {H : AH} {T : Tbl} : runR T fn (.code (.reg d3_13) :: K) t H = regR T fn K (aops (callR T) [
  ⟨(some 4), none, (.val (.c (.b false)))⟩] t H) := runR_reg'
def d3_14 : List AOper := [
  ⟨(some 76), none, (.val (.t 12))⟩,
  ⟨(some 77), none, (.len (.t 76))⟩,
  ⟨(some 78), none, (.val (.c (.i .i64 0)))⟩]
theorem r3_14 {fn : AFun} {K : List AItem} {t : Nat → AV} {H : AH} {T : Tbl} : runR T fn (.code (.reg d3_14) :: K) t H = regR T fn K (aops (callR T) [
  ⟨(some 76), none, (.val (.t 12))⟩,
  ⟨(some 77), none, (.len (.t 76))⟩,
  ⟨(some 78), none, (.val (.c (.i .i64 0)))⟩] t H) := runR_reg'
def d3_15 : List AOper := [
  ⟨(some 79), none, (.bin .lss (.t 78) (.t 77))⟩]
theorem r3_15 {fn : AFun} {K : List AItem} {t : Nat → AV} {H : AH} {T : Tbl} : runR T fn (.code (.reg d3_15) :: K) t H = regR T fn K (aops (callR T) [
  ⟨(some 79), none, (.bin .lss (.t 78) (.t 77))⟩] t H) := runR_reg'
def d3_16 : List AOper := [
  ⟨(some 80), none, (.val (.t 78))⟩,
  ⟨(some 13), none, (.val (.t 80))⟩]
theorem r3_16 {fn : AFun} {K : List AItem} {t : Nat → AV} {H : AH} {T : Tbl} : runR T fn (.code (.reg d3_16) :: K) t H = regR T fn K (aops (callR T) [
  ⟨(some 80), none, (.val (.t 78))⟩,
  ⟨(some 13), none, (.val (.t 80))⟩] t H) := runR_reg'
def d3_17 : List (AOper × List Nat) := [
  (⟨(some 81), none, (.val (.t 13))⟩, []),
  (⟨(some 82), none, (.fa 1 (.t 8))⟩, []),
  (⟨(some 83), none, (.ld none (.t 82))⟩, [1]),
  (⟨(some 84), none, (.bin .neq (.t 81) (.t 83))⟩, []),
  (⟨(some 85), none, (.val (.t 84))⟩, []),
  (⟨(some 86), (some (85, false)), (.val (.t 11))⟩, []),
  (⟨(some 87), (some (85, false)), (.un .not (.t 86))⟩, []),
  (⟨(some 88), none, (.pick (.t 85) (.c (.b true)) (.t 87))⟩, []),
  (⟨(some 89), none, (.val (.t 88))⟩, []),
  (⟨(some 90), (some (89, true)), (.val (.t 12))⟩, []),
  (⟨(some 91), (some (89, true)), (.val (.t 13))⟩, []),
  (⟨(some 92), (some (89, true)), (.ia 1 (.t 90) (.t 91))⟩, []),
  (⟨(some 93), (some (89, true)), (.ld none (.t 92))⟩, [1]),
  (⟨(some 94), (some (89, true)), (.val (.t 9))⟩, []),
  (⟨(some 95), (some (89, true)), (.val (.t 13))⟩, []),
  (⟨(some 96), (some (89, true)), (.ia 1 (.t 94) (.t 95))⟩, []),
  (⟨(some 97), (some (89, true)), (.ld none (.t 96))⟩, [1]),
  (⟨(some 98), (some (89, true)), (.bin .neq (.t 93) (.t 97))⟩, []),
  (⟨(some 99), none, (.pick (.t 89) (.t 98) (.c (.b false)))⟩, [])]
theorem r3_17 {fn : AFun} {K : List AItem} {t : Nat → AV} {H : AH} {T : Tbl} : runR T fn (.code (.drw d3_17) :: K) t H = regR T fn K (aops (callR T) [
  ⟨(some 81), none, (.val (.t 13))⟩,
  ⟨(some 82), none, (.fa 1 (.t 8))⟩,
  ⟨(some 83), none, (.ld none (.t 82))⟩,
  ⟨(some 84), none, (.bin .neq (.t 81) (.t 83))⟩,
  ⟨(some 85), none, (.val (.t 84))⟩,
  ⟨(some 86), (some (85, false)), (.val (.t 11))⟩,
  ⟨(some 87), (some (85, false)), (.un .not (.t 86))⟩,
  ⟨(some 88), none, (.pick (.t 85) (.c (.b true)) (.t 87))⟩,
  ⟨(some 89), none, (.val (.t 88))⟩,
  ⟨(some 90), (some (89, true)), (.val (.t 12))⟩,
  ⟨(some 91), (some (89, true)), (.val (.t 13))⟩,
  ⟨(some 92), (some (89, true)), (.ia 1 (.t 90) (.t 91))⟩,
  ⟨(some 93), (some (89, true)), (.ld none (.t 92))⟩,
  ⟨(some 94), (some (89, true)), (.val (.t 9))⟩,
  ⟨(some 95), (some (89, true)), (.val (.t 13))⟩,
  ⟨(some 96), (some (89, true)), (.ia 1 (.t 94) (.t 95))⟩,
  ⟨(some 97), (some (89, true)), (.ld none (.t 96))⟩,
  ⟨(some 98), (some (89, true)), (.bin .neq (.t 93) (.t 97))⟩,
  ⟨(some 99), none, (.pick (.t 89) (.t 98) (.c (.b false)))⟩] t H) := runR_plain rfl
def d3_18 : List AOper := [
  ⟨(some 4), none, (.val (.c (.b false)))⟩]
theorem r3_18 {fn : AFun} {K : List AItem} {t : Nat → AV} {H : AH} {T : Tbl} : runR T fn (.code (.reg d3_18) :: K) t H = regR T fn K (aops (callR T) [
  ⟨(some 4), none, (.val (.c (.b false)))⟩] t H) := runR_reg'
def d3_19 : List AOper := [
  ⟨(some 100), none, (.bin .add (.t 78) (.c (.i .i64 1)))⟩,
  ⟨(some 78), none, (.val (.t 100))⟩]
theorem r3_19 {fn : AFun} {K : List AItem} {t : Nat → AV} {H : AH} {T : Tbl} : runR T fn (.code (.reg d3_19) :: K) t H = regR T fn K (aops (callR T) [
  ⟨(some 100), none, (.bin .add (.t 78) (.c (.i .i64 1)))⟩,
  ⟨(some 78), none, (.val (.t 100))⟩] t H) := runR_reg'
def l3_20 : ACode := (.seq (.reg d3_15) (.seq (.cond (.t 79) .skip (.exit 2)) (.seq (.block 3 (.seq (.reg d3_16) (.seq (.drw d3_17) (.cond (.t 99) (.seq (.reg d3_18) .ret) .skip)))) (.reg d3_19))))
def d3_21 : List AOper := [
  ⟨(some 101), none, (.bin .add (.t 30) (.c (.i .i64 1)))⟩,
  ⟨(some 30), none, (.val (.t 101))⟩]
theorem r3_21 {fn : AFun} {K : List AItem} {t : Nat → AV} {H : AH} {T : Tbl} : runR T fn (.code (.reg d3_21) :: K) t H = regR T fn K (aops (callR T) [
  ⟨(some 101), none, (.bin .add (.t 30) (.c (.i .i64 1)))⟩,
  ⟨(some 30), none, (.val (.t 101))⟩] t H) := runR_reg'
def l3_22 : ACode := (.seq (.reg d3_5) (.seq (.cond (.t 31) .skip (.exit 0)) (.seq (.block 1 (.seq (.reg d3_6) (.seq (.reg d3_7) (.seq (.reg d3_8) (.seq (.seq (.reg d3_9) (.cond (.t 50) (.reg d3_10) .skip)) (.seq (.reg d3_11) (.seq (.seq (.drw d3_12) (.cond (.t 75) (.seq (.reg d3_13) .ret) .skip)) (.seq (.reg d3_14) (.block 2 (.loop l3_20)))))))))) (.reg d3_21))))
def d3_23 : List AOper := [
  ⟨(some 102), none, (.call 13 [])⟩,
  ⟨(some 4), none, (.val (.t 102))⟩]
theorem r3_23 {fn : AFun} {K : List AItem} {t : Nat → AV} {H : AH} {T : Tbl} : runR T fn (.code (.reg d3_23) :: K) t H = regR T fn K (aops (callR T) [
  ⟨(some 102), none, (.call 13 [])⟩,
  ⟨(some 4), none, (.val (.t 102))⟩] t H) := runR_reg'
def a3 : AFun := ⟨103, [(.tmp 4)], (.seq (.reg d3_0) (.seq (.reg d3_1) (.seq (.seq (.reg d3_2) (.cond (.t 26) (.seq (.reg d3_3) .ret) .skip)) (.seq (.seq (.reg d3_4) (.block 0 (.loop l3_22))) (.seq (.reg d3_23) .ret)))))⟩
theorem a3_ok : cfun Try.prog 3 = some a3 := by kernel_rfl
/-- futtock/futtocklaw03.CellCounts -/
def d4_0 : List AOper := [
  ⟨(some 4), none, (.val (.c (.b false)))⟩]
theorem r4_0 {fn : AFun} {K : List AItem} {t : Nat → AV} {H : AH} {T : Tbl} : runR T fn (.code (.reg d4_0) :: K) t H = regR T fn K (aops (callR T) [
  ⟨(some 4), none, (.val (.c (.b false)))⟩] t H) := runR_reg'
def d4_1 : List AOper := [
  ⟨(some 11), none, (.val (.t 0))⟩,
  ⟨(some 12), none, (.cvi .i64 (.t 11))⟩,
  ⟨(some 13), none, (.bin .add (.t 12) (.c (.i .i64 1)))⟩,
  ⟨(some 14), none, (.call 7 [(.t 13)])⟩,
  ⟨(some 10), none, (.val (.t 14))⟩,
  ⟨(some 15), none, (.ext (.t 10) 0)⟩,
  ⟨(some 16), none, (.ext (.t 10) 1)⟩,
  ⟨(some 5), none, (.val (.t 15))⟩,
  ⟨(some 6), none, (.val (.t 16))⟩]
theorem r4_1 {fn : AFun} {K : List AItem} {t : Nat → AV} {H : AH} {T : Tbl} : runR T fn (.code (.reg d4_1) :: K) t H = regR T fn K (aops (callR T) [
  ⟨(some 11), none, (.val (.t 0))⟩,
  ⟨(some 12), none, (.cvi .i64 (.t 11))⟩,
  ⟨(some 13), none, (.bin .add (.t 12) (.c (.i .i64 1)))⟩,
  ⟨(some 14), none, (.call 7 [(.t 13)])⟩,
  ⟨(some 10), none, (.val (.t 14))⟩,
  ⟨(some 15), none, (.ext (.t 10) 0)⟩,
  ⟨(some 16), none, (.ext (.t 10) 1)⟩,
  ⟨(some 5), none, (.val (.t 15))⟩,
  ⟨(some 6), none, (.val (.t 16))⟩] t H) := runR_reg'
def d4_2 : List AOper := [
  ⟨(some 17), none, (.val (.t 5))⟩,
  ⟨(some 18), none, (.eqn 0 false (.t 17) (.c (.p none)))⟩,
  ⟨(some 19), none, (.val (.t 18))⟩,
  ⟨(some 20), (some (19, false)), (.val (.t 6))⟩,
  ⟨(some 21), (some (19, false)), (.bin .neq (.t 20) (.c (.i .i64 0)))⟩,
  ⟨(some 22), none, (.pick (.t 19) (.c (.b true)) (.t 21))⟩]
theorem r4_2 {fn : AFun} {K : List AItem} {t : Nat → AV} {H : AH} {T : Tbl} : runR T fn (.code (.reg d4_2) :: K) t H = regR T fn K (aops (callR T) [
  ⟨(some 17), none, (.val (.t 5))⟩,
  ⟨(some 18), none, (.eqn 0 false (.t 17) (.c (.p none)))⟩,
  ⟨(some 19), none, (.val (.t 18))⟩,
  ⟨(some 20), (some (19, false)), (.val (.t 6))⟩,
  ⟨(some 21), (some (19, false)), (.bin .neq (.t 20) (.c (.i .i64 0)))⟩,
  ⟨(some 22), none, (.pick (.t 19) (.c (.b true)) (.t 21))⟩] t H) := runR_reg'
def d4_3 : List AOper := [
  ⟨(some 4), none, (.val (.c (.b false)))⟩]
theorem r4_3 {fn : AFun} {K : List AItem} {t : Nat → AV} {H : AH} {T : Tbl} : runR T fn (.code (.reg d4_3) :: K) t H = regR T fn K (aops (callR T) [
  ⟨(some 4), none, (.val (.c (.b false)))⟩] t H) := runR_reg'
def d4_4 : List AOper := [
  ⟨(some 7), none, (.val (.c (.i .i64 0)))⟩]
theorem r4_4 {fn : AFun} {K : List AItem} {t : Nat → AV} {H : AH} {T : Tbl} : runR T fn (.code (.reg d4_4) :: K) t H = regR T fn K (aops (callR T) [
  ⟨(some 7), none, (.val (.c (.i .i64 0)))⟩] t H) := runR_reg'
def d4_5 : List AOper := [
  ⟨(some 23), none, (.val (.t 1))⟩,
  ⟨(some 24), none, (.call 8 [(.t 23)])⟩,
  ⟨(some 25), none, (.len (.t 24))⟩,
  ⟨(some 26), none, (.val (.c (.i .i64 0)))⟩]
theorem r4_5 {fn : AFun} {K : List AItem} {t : Nat → AV} {H : AH} {T : Tbl} : runR T fn (.code (.reg d4_5) :: K) t H = regR T fn K (aops (callR T) [
  ⟨(some 23), none, (.val (.t 1))⟩,
  ⟨(some 24), none, (.call 8 [(.t 23)])⟩,
  ⟨(some 25), none, (.len (.t 24))⟩,
  ⟨(some 26), none, (.val (.c (.i .i64 0)))⟩] t H) := runR_reg'
def d4_6 : List AOper := [
  ⟨(some 27), none, (.bin .lss (.t 26) (.t 25))⟩]
theorem r4_6 {fn : AFun} {K : List AItem} {t : Nat → AV} {H : AH} {T : Tbl} : runR T fn (.code (.reg d4_6) :: K) t H = regR T fn K (aops (callR T) [
  ⟨(some 27), none, (.bin .lss (.t 26) (.t 25))⟩] t H) := runR_reg'
def d4_7 : List AOper := [
  ⟨(some 28), none, (.ia 4 (.t 24) (.t 26))⟩,
  ⟨(some 29), none, (.ld (some 4) (.t 28))⟩,
  ⟨(some 9), none, (.alloc [(.i .u8 0), (.i .i64 0), (.i .u64 0), (.i .u64 0)])⟩,
  ⟨none, none, (.st 4 (.t 9) (.t 29))⟩]
theorem r4_7 {fn : AFun} {K : List AItem} {t : Nat → AV} {H : AH} {T : Tbl} : runR T fn (.code (.reg d4_7) :: K) t H = regR T fn K (aops (callR T) [
  ⟨(some 28), none, (.ia 4 (.t 24) (.t 26))⟩,
  ⟨(some 29), none, (.ld (some 4) (.t 28))⟩,
  ⟨(some 9), none, (.alloc [(.i .u8 0), (.i .i64 0), (.i .u64 0), (.i .u64 0)])⟩,
  ⟨none, none, (.st 4 (.t 9) (.t 29))⟩] t H) := runR_reg'
def d4_8 : List AOper := [
  ⟨(some 30), none, (.fa 1 (.t 9))⟩,
  ⟨(some 31), none, (.ld none (.t 30))⟩,
  ⟨(some 32), none, (.bin .geq (.t 31) (.c (.i .i64 0)))⟩,
  ⟨(some 33), none, (.val (.t 32))⟩,
  ⟨(some 34), (some (33, true)), (.fa 1 (.t 9))⟩,
  ⟨(some 35), (some (33, true)), (.ld none (.t 34))⟩,
  ⟨(some 36), (some (33, true)), (.val (.t 0))⟩,
  ⟨(some 37), (some (33, true)), (.cvi .i64 (.t 36))⟩,
  ⟨(some 38), (some (33, true)), (.bin .leq (.t 35) (.t 37))⟩,
  ⟨(some 39), none, (.pick (.t 33) (.t 38) (.c (.b false)))⟩]
theorem r4_8 {fn : AFun} {K : List AItem} {t : Nat → AV} {H : AH} {T : Tbl} : runR T fn (.code (.reg d4_8) :: K) t H = regR T fn K (aops (callR T) [
  ⟨(some 30), none, (.fa 1 (.t 9))⟩,
  ⟨(some 31), none, (.ld none (.t 30))⟩,
  ⟨(some 32), none, (.bin .geq (.t 31) (.c (.i .i64 0)))⟩,
  ⟨(some 33), none, (.val (.t 32))⟩,
  ⟨(some 34), (some (33, true)), (.fa 1 (.t 9))⟩,
  ⟨(some 35), (some (33, true)), (.ld none (.t 34))⟩,
  ⟨(some 36), (some (33, true)), (.val (.t 0))⟩,
  ⟨(some 37), (some (33, true)), (.cvi .i64 (.t 36))⟩,
  ⟨(some 38), (some (33, true)), (.bin .leq (.t 35) (.t 37))⟩,
  ⟨(some 39), none, (.pick (.t 33) (.t 38) (.c (.b false)))⟩] t H) := runR_reg'
def d4_9 : List AOper := [
  ⟨(some 40), none, (.val (.t 7))⟩,
  ⟨(some 41), none, (.bin .add (.t 40) (.c (.i .i64 3)))⟩,
  ⟨(some 7), none, (.val (.t 41))⟩]
theorem r4_9 {fn : AFun} {K : List AItem} {t : Nat → AV} {H : AH} {T : Tbl} : runR T fn (.code (.reg d4_9) :: K) t H = regR T fn K (aops (callR T) [
  ⟨(some 40), none, (.val (.t 7))⟩,
  ⟨(some 41), none, (.bin .add (.t 40) (.c (.i .i64 3)))⟩,
  ⟨(some 7), none, (.val (.t 41))⟩] t H) := runR_reg'
def d4_10 : List AOper := [
  ⟨(some 42), none, (.val (.t 5))⟩,
  ⟨(some 43), none, (.fa 1 (.t 9))⟩,
  ⟨(some 44), none, (.ld none (.t 43))⟩,
  ⟨(some 45), none, (.call 12 [(.t 42), (.t 44)])⟩]
theorem r4_10 {fn : AFun} {K : List AItem} {t : Nat → AV} {H : AH} {T : Tbl} : runR T fn (.code (.reg d4_10) :: K) t H = regR T fn K (aops (callR T) [
  ⟨(some 42), none, (.val (.t 5))⟩,
  ⟨(some 43), none, (.fa 1 (.t 9))⟩,
  ⟨(some 44), none, (.ld none (.t 43))⟩,
  ⟨(some 45), none, (.call 12 [(.t 42), (.t 44)])⟩] t H) := runR_reg'
def d4_11 : List AOper := [
  ⟨(some 46), none, (.val (.t 5))⟩,
  ⟨(some 47), none, (.fa 1 (.t 9))⟩,
  ⟨(some 48), none, (.ld none (.t 47))⟩,
  ⟨(some 49), none, (.call 14 [(.t 46), (.t 48)])⟩]
theorem r4_11 {fn : AFun} {K : List AItem} {t : Nat → AV} {H : AH} {T : Tbl} : runR T fn (.code (.reg d4_11) :: K) t H = regR T fn K (aops (callR T) [
  ⟨(some 46), none, (.val (.t 5))⟩,
  ⟨(some 47), none, (.fa 1 (.t 9))⟩,
  ⟨(some 48), none, (.ld none (.t 47))⟩,
  ⟨(some 49), none, (.call 14 [(.t 46), (.t 48)])⟩] t H) := runR_reg'
def d4_12 : List AOper := [
  ⟨(some 50), none, (.val (.t 5))⟩,
  ⟨(some 51), none, (.fa 1 (.t 9))⟩,
  ⟨(some 52), none, (.ld none (.t 51))⟩,
  ⟨(some 53), none, (.fa 3 (.t 9))⟩,
  ⟨(some 54), none, (.ld none (.t 53))⟩,
  ⟨(some 55), none, (.call 11 [(.t 50), (.t 52), (.t 54)])⟩]
theorem r4_12 {fn : AFun} {K : List AItem} {t : Nat → AV} {H : AH} {T : Tbl} : runR T fn (.code (.reg d4_12) :: K) t H = regR T fn K (aops (callR T) [
  ⟨(some 50), none, (.val (.t 5))⟩,
  ⟨(some 51), none, (.fa 1 (.t 9))⟩,
  ⟨(some 52), none, (.ld none (.t 51))⟩,
  ⟨(some 53), none, (.fa 3 (.t 9))⟩,
  ⟨(some 54), none, (.ld none (.t 53))⟩,
  ⟨(some 55), none, (.call 11 [(.t 50), (.t 52), (.t 54)])⟩] t H) := runR_reg'
def d4_13 : List AOper := [
  ⟨(some 56), none, (.val (.t 5))⟩,
  ⟨(some 57), none, (.fa 1 (.t 9))⟩,
  ⟨(some 58), none, (.ld none (.t 57))⟩,
  ⟨(some 59), none, (.fa 2 (.t 9))⟩,
  ⟨(some 60), none, (.ld none (.t 59))⟩,
  ⟨(some 61), none, (.fa 3 (.t 9))⟩,
  ⟨(some 62), none, (.ld none (.t 61))⟩,
  ⟨(some 63), none, (.call 10 [(.t 56), (.t 58), (.t 60), (.t 62)])⟩]
theorem r4_13 {fn : AFun} {K : List AItem} {t : Nat → AV} {H : AH} {T : Tbl} : runR T fn (.code (.reg d4_13) :: K) t H = regR T fn K (aops (callR T) [
  ⟨(some 56), none, (.val (.t 5))⟩,
  ⟨(some 57), none, (.fa 1 (.t 9))⟩,
  ⟨(some 58), none, (.ld none (.t 57))⟩,
  ⟨(some 59), none, (.fa 2 (.t 9))⟩,
  ⟨(some 60), none, (.ld none (.t 59))⟩,
  ⟨(some 61), none, (.fa 3 (.t 9))⟩,
  ⟨(some 62), none, (.ld none (.t 61))⟩,
  ⟨(some 63), none, (.call 10 [(.t 56), (.t 58), (.t 60), (.t 62)])⟩] t H) := runR_reg'
def d4_14 : List AOper := [
  ⟨(some 64), none, (.val (.t 5))⟩,
  ⟨(some 65), none, (.call 9 [(.t 64)])⟩]
theorem r4_14 {fn : AFun} {K : List AItem} {t : Nat → AV} {H : AH} {T : Tbl} : runR T fn (.code (.reg d4_14) :: K) t H = regR T fn K (aops (callR T) [
  ⟨(some 64), none, (.val (.t 5))⟩,
  ⟨(some 65), none, (.call 9 [(.t 64)])⟩] t H) := runR_reg'
def d4_15 : List AOper := [
  ⟨(some 66), none, (.val (.t 5))⟩,
  ⟨(some 67), none, (.call 15 [(.t 66)])⟩,
  ⟨(some 68), none, (.val (.t 7))⟩,
  ⟨(some 69), none, (.bin .neq (.t 67) (.t 68))⟩]
theorem r4_15 {fn : AFun} {K : List AItem} {t : Nat → AV} {H : AH} {T : Tbl} : runR T fn (.code (.reg d4_15) :: K) t H = regR T fn K (aops (callR T) [
  ⟨(some 66), none, (.val (.t 5))⟩,
  ⟨(some 67), none, (.call 15 [(.t 66)])⟩,
  ⟨(some 68), none, (.val (.t 7))⟩,
  ⟨(some 69), none, (.bin .neq (.t 67) (.t 68))⟩] t H) := runR_reg'
def d4_16 : List AOper := [
  ⟨(some 4), none, (.val (.c (.b false)))⟩]
theorem r4_16 {fn : AFun} {K : List AItem} {t : Nat → AV} {H : AH} {T : Tbl} : runR T fn (.code (.reg d4_16) :: K) t H = regR T fn K (aops (callR T) [
  ⟨(some 4), none, (.val (.c (.b false)))⟩] t H) := runR_reg'
def d4_17 : List AOper := [
  ⟨(some 70), none, (.bin .add (.t 26) (.c (.i .i64 1)))⟩,
  ⟨(some 26), none, (.val (.t 70))⟩]
theorem r4_17 {fn : AFun} {K : List AItem} {t : Nat → AV} {H : AH} {T : Tbl} : runR T fn (.code (.reg d4_17) :: K) t H = regR T fn K (aops (callR T) [
  ⟨(some 70), none, (.bin .add (.t 26) (.c (.i .i64 1)))⟩,
  ⟨(some 26), none, (.val (.t 70))⟩] t H) := runR_reg'
def l4_18 : ACode := (.seq (.reg d4_6) (.seq (.cond (.t 27) .skip (.exit 0)) (.seq (.block 1 (.seq (.reg d4_7) (.seq (.seq (.reg d4_8) (.cond (.t 39) (.reg d4_9) .skip)) (.seq (.reg d4_10) (.seq (.reg d4_11) (.seq (.reg d4_12) (.seq (.reg d4_13) (.seq (.reg d4_14) (.seq (.reg d4_15) (.cond (.t 69) (.seq (.reg d4_16) .ret) .skip)))))))))) (.reg d4_17))))
def d4_19 : List AOper := [
  ⟨(some 71), none, (.call 13 [])⟩,
  ⟨(some 4), none, (.val (.t 71))⟩]
theorem r4_19 {fn : AFun} {K : List AItem} {t : Nat → AV} {H : AH} {T : Tbl} : runR T fn (.code (.reg d4_19) :: K) t H = regR T fn K (aops (callR T) [
  ⟨(some 71), none, (.call 13 [])⟩,
  ⟨(some 4), none, (.val (.t 71))⟩] t H) := runR_reg'
def a4 : AFun := ⟨72, [(.tmp 4)], (.seq (.reg d4_0) (.seq (.reg d4_1) (.seq (.seq (.reg d4_2) (.cond (.t 22) (.seq (.reg d4_3) .ret) .skip)) (.seq (.reg d4_4) (.seq (.seq (.reg d4_5) (.block 0 (.loop l4_18))) (.seq (.reg d4_19) .ret))))))⟩
theorem a4_ok : cfun Try.prog 4 = some a4 := by kernel_rfl
/-- futtock/futtocklaw03.CellPlays -/
def d5_0 : List AOper := [
  ⟨(some 4), none, (.val (.c (.b false)))⟩]
theorem r5_0 {fn : AFun} {K : List AItem} {t : Nat → AV} {H : AH} {T : Tbl} : runR T fn (.code (.reg d5_0) :: K) t H = regR T fn K (aops (callR T) [
  ⟨(some 4), none, (.val (.c (.b false)))⟩] t H) := runR_reg'
def d5_1 : List AOper := [
  ⟨(some 22), none, (.val (.t 0))⟩,
  ⟨(some 23), none, (.call 7 [(.t 22)])⟩,
  ⟨(some 21), none, (.val (.t 23))⟩,
  ⟨(some 24), none, (.ext (.t 21) 0)⟩,
  ⟨(some 25), none, (.ext (.t 21) 1)⟩,
  ⟨(some 5), none, (.val (.t 24))⟩,
  ⟨(some 6), none, (.val (.t 25))⟩]
theorem r5_1 {fn : AFun} {K : List AItem} {t : Nat → AV} {H : AH} {T : Tbl} : runR T fn (.code (.reg d5_1) :: K) t H = regR T fn K (aops (callR T) [
  ⟨(some 22), none, (.val (.t 0))⟩,
  ⟨(some 23), none, (.call 7 [(.t 22)])⟩,
  ⟨(some 21), none, (.val (.t 23))⟩,
  ⟨(some 24), none, (.ext (.t 21) 0)⟩,
  ⟨(some 25), none, (.ext (.t 21) 1)⟩,
  ⟨(some 5), none, (.val (.t 24))⟩,
  ⟨(some 6), none, (.val (.t 25))⟩] t H) := runR_reg'
def d5_2 : List AOper := [
  ⟨(some 26), none, (.val (.t 0))⟩,
  ⟨(some 27), none, (.bin .geq (.t 26) (.c (.i .i64 1)))⟩,
  ⟨(some 28), none, (.val (.t 27))⟩,
  ⟨(some 29), (some (28, true)), (.val (.t 0))⟩,
  ⟨(some 30), (some (28, true)), (.bin .leq (.t 29) (.c (.i .i64 4096)))⟩,
  ⟨(some 31), none, (.pick (.t 28) (.t 30) (.c (.b false)))⟩,
  ⟨(some 7), none, (.val (.t 31))⟩]
theorem r5_2 {fn : AFun} {K : List AItem} {t : Nat → AV} {H : AH} {T : Tbl} : runR T fn (.code (.reg d5_2) :: K) t H = regR T fn K (aops (callR T) [
  ⟨(some 26), none, (.val (.t 0))⟩,
  ⟨(some 27), none, (.bin .geq (.t 26) (.c (.i .i64 1)))⟩,
  ⟨(some 28), none, (.val (.t 27))⟩,
  ⟨(some 29), (some (28, true)), (.val (.t 0))⟩,
  ⟨(some 30), (some (28, true)), (.bin .leq (.t 29) (.c (.i .i64 4096)))⟩,
  ⟨(some 31), none, (.pick (.t 28) (.t 30) (.c (.b false)))⟩,
  ⟨(some 7), none, (.val (.t 31))⟩] t H) := runR_reg'
def d5_3 : List AOper := [
  ⟨(some 32), none, (.val (.t 7))⟩,
  ⟨(some 33), none, (.un .not (.t 32))⟩,
  ⟨(some 34), none, (.val (.t 33))⟩,
  ⟨(some 35), (some (34, false)), (.val (.t 5))⟩,
  ⟨(some 36), (some (34, false)), (.eqn 0 false (.t 35) (.c (.p none)))⟩,
  ⟨(some 37), none, (.pick (.t 34) (.c (.b true)) (.t 36))⟩]
theorem r5_3 {fn : AFun} {K : List AItem} {t : Nat → AV} {H : AH} {T : Tbl} : runR T fn (.code (.reg d5_3) :: K) t H = regR T fn K (aops (callR T) [
  ⟨(some 32), none, (.val (.t 7))⟩,
  ⟨(some 33), none, (.un .not (.t 32))⟩,
  ⟨(some 34), none, (.val (.t 33))⟩,
  ⟨(some 35), (some (34, false)), (.val (.t 5))⟩,
  ⟨(some 36), (some (34, false)), (.eqn 0 false (.t 35) (.c (.p none)))⟩,
  ⟨(some 37), none, (.pick (.t 34) (.c (.b true)) (.t 36))⟩] t H) := runR_reg'
def d5_4 : List AOper := [
  ⟨(some 38), none, (.val (.t 7))⟩,
  ⟨(some 39), none, (.un .not (.t 38))⟩,
  ⟨(some 40), none, (.val (.t 39))⟩,
  ⟨(some 41), (some (40, true)), (.val (.t 5))⟩,
  ⟨(some 42), (some (40, true)), (.eqn 0 false (.t 41) (.c (.p none)))⟩,
  ⟨(some 43), none, (.pick (.t 40) (.t 42) (.c (.b false)))⟩,
  ⟨(some 44), none, (.val (.t 43))⟩,
  ⟨(some 45), (some (44, true)), (.val (.t 6))⟩,
  ⟨(some 46), (some (44, true)), (.bin .eql (.t 45) (.c (.i .i64 1)))⟩,
  ⟨(some 47), none, (.pick (.t 44) (.t 46) (.c (.b false)))⟩,
  ⟨(some 48), none, (.val (.t 47))⟩,
  ⟨(some 49), (some (48, true)), (.call 13 [])⟩,
  ⟨(some 50), none, (.pick (.t 48) (.t 49) (.c (.b false)))⟩,
  ⟨(some 4), none, (.val (.t 50))⟩]
theorem r5_4 {fn : AFun} {K : List AItem} {t : Nat → AV} {H : AH} {T : Tbl} : runR T fn (.code (.reg d5_4) :: K) t H = regR T fn K (aops (callR T) [
  ⟨(some 38), none, (.val (.t 7))⟩,
  ⟨(some 39), none, (.un .not (.t 38))⟩,
  ⟨(some 40), none, (.val (.t 39))⟩,
  ⟨(some 41), (some (40, true)), (.val (.t 5))⟩,
  ⟨(some 42), (some (40, true)), (.eqn 0 false (.t 41) (.c (.p none)))⟩,
  ⟨(some 43), none, (.pick (.t 40) (.t 42) (.c (.b false)))⟩,
  ⟨(some 44), none, (.val (.t 43))⟩,
  ⟨(some 45), (some (44, true)), (.val (.t 6))⟩,
  ⟨(some 46), (some (44, true)), (.bin .eql (.t 45) (.c (.i .i64 1)))⟩,
  ⟨(some 47), none, (.pick (.t 44) (.t 46) (.c (.b false)))⟩,
  ⟨(some 48), none, (.val (.t 47))⟩,
  ⟨(some 49), (some (48, true)), (.call 13 [])⟩,
  ⟨(some 50), none, (.pick (.t 48) (.t 49) (.c (.b false)))⟩,
  ⟨(some 4), none, (.val (.t 50))⟩] t H) := runR_reg'
def d5_5 : List AOper := [
  ⟨(some 51), none, (.val (.t 0))⟩,
  ⟨(some 52), none, (.build [(.i .i64 0), (.sl none 0 0 true 0), (.i .i64 0)] [(0, 1, (.t 51))])⟩,
  ⟨(some 8), none, (.alloc [(.i .i64 0), (.sl none 0 0 true 0), (.i .i64 0)])⟩,
  ⟨none, none, (.st 3 (.t 8) (.t 52))⟩]
theorem r5_5 {fn : AFun} {K : List AItem} {t : Nat → AV} {H : AH} {T : Tbl} : runR T fn (.code (.reg d5_5) :: K) t H = regR T fn K (aops (callR T) [
  ⟨(some 51), none, (.val (.t 0))⟩,
  ⟨(some 52), none, (.build [(.i .i64 0), (.sl none 0 0 true 0), (.i .i64 0)] [(0, 1, (.t 51))])⟩,
  ⟨(some 8), none, (.alloc [(.i .i64 0), (.sl none 0 0 true 0), (.i .i64 0)])⟩,
  ⟨none, none, (.st 3 (.t 8) (.t 52))⟩] t H) := runR_reg'
def d5_6 : List AOper := [
  ⟨(some 53), none, (.val (.t 1))⟩,
  ⟨(some 54), none, (.call 8 [(.t 53)])⟩,
  ⟨(some 55), none, (.len (.t 54))⟩,
  ⟨(some 56), none, (.val (.c (.i .i64 0)))⟩]
theorem r5_6 {fn : AFun} {K : List AItem} {t : Nat → AV} {H : AH} {T : Tbl} : runR T fn (.code (.reg d5_6) :: K) t H = regR T fn K (aops (callR T) [
  ⟨(some 53), none, (.val (.t 1))⟩,
  ⟨(some 54), none, (.call 8 [(.t 53)])⟩,
  ⟨(some 55), none, (.len (.t 54))⟩,
  ⟨(some 56), none, (.val (.c (.i .i64 0)))⟩] t H) := runR_reg'
def d5_7 : List AOper := [
  ⟨(some 57), none, (.bin .lss (.t 56) (.t 55))⟩]
theorem r5_7 {fn : AFun} {K : List AItem} {t : Nat → AV} {H : AH} {T : Tbl} : runR T fn (.code (.reg d5_7) :: K) t H = regR T fn K (aops (callR T) [
  ⟨(some 57), none, (.bin .lss (.t 56) (.t 55))⟩] t H) := runR_reg'
def d5_8 : List AOper := [
  ⟨(some 58), none, (.ia 4 (.t 54) (.t 56))⟩,
  ⟨(some 59), none, (.ld (some 4) (.t 58))⟩,
  ⟨(some 10), none, (.alloc [(.i .u8 0), (.i .i64 0), (.i .u64 0), (.i .u64 0)])⟩,
  ⟨none, none, (.st 4 (.t 10) (.t 59))⟩]
theorem r5_8 {fn : AFun} {K : List AItem} {t : Nat → AV} {H : AH} {T : Tbl} : runR T fn (.code (.reg d5_8) :: K) t H = regR T fn K (aops (callR T) [
  ⟨(some 58), none, (.ia 4 (.t 54) (.t 56))⟩,
  ⟨(some 59), none, (.ld (some 4) (.t 58))⟩,
  ⟨(some 10), none, (.alloc [(.i .u8 0), (.i .i64 0), (.i .u64 0), (.i .u64 0)])⟩,
  ⟨none, none, (.st 4 (.t 10) (.t 59))⟩] t H) := runR_reg'
def d5_9 : List AOper := [
  ⟨(some 11), none, (.val (.c (.b false)))⟩]
theorem r5_9 {fn : AFun} {K : List AItem} {t : Nat → AV} {H : AH} {T : Tbl} : runR T fn (.code (.reg d5_9) :: K) t H = regR T fn K (aops (callR T) [
  ⟨(some 11), none, (.val (.c (.b false)))⟩] t H) := runR_reg'
def d5_10 : List AOper := [
  ⟨(some 60), none, (.fa 0 (.t 10))⟩,
  ⟨(some 61), none, (.ld none (.t 60))⟩,
  ⟨(some 62), none, (.bin .rem (.t 61) (.c (.i .u8 4)))⟩]
theorem r5_10 {fn : AFun} {K : List AItem} {t : Nat → AV} {H : AH} {T : Tbl} : runR T fn (.code (.reg d5_10) :: K) t H = regR T fn K (aops (callR T) [
  ⟨(some 60), none, (.fa 0 (.t 10))⟩,
  ⟨(some 61), none, (.ld none (.t 60))⟩,
  ⟨(some 62), none, (.bin .rem (.t 61) (.c (.i .u8 4)))⟩] t H) := runR_reg'
def d5_11 : List AOper := [
  ⟨(some 94), none, (.bin .eql (.t 62) (.c (.i .u8 0)))⟩,
  ⟨(some 93), none, (.val (.t 94))⟩]
theorem r5_11 {fn : AFun} {K : List AItem} {t : Nat → AV} {H : AH} {T : Tbl} : runR T fn (.code (.reg d5_11) :: K) t H = regR T fn K (aops (callR T) [
  ⟨(some 94), none, (.bin .eql (.t 62) (.c (.i .u8 0)))⟩,
  ⟨(some 93), none, (.val (.t 94))⟩] t H) := runR_reg'
def d5_12 : List (AOper × List Nat) := [
  (⟨(some 95), none, (.val (.t 5))⟩, []),
  (⟨(some 96), none, (.fa 1 (.t 10))⟩, []),
  (⟨(some 97), none, (.ld none (.t 96))⟩, [1]),
  (⟨(some 98), none, (.call 12 [(.t 95), (.t 97)])⟩, []),
  (⟨(some 99), none, (.fa 1 (.t 10))⟩, []),
  (⟨(some 100), none, (.ld none (.t 99))⟩, [2]),
  (⟨(some 101), none, (.call 16 [(.t 8), (.t 100)])⟩, []),
  (⟨(some 102), none, (.bin .eql (.t 98) (.t 101))⟩, []),
  (⟨(some 11), none, (.val (.t 102))⟩, [])]
theorem r5_12 {fn : AFun} {K : List AItem} {t : Nat → AV} {H : AH} {T : Tbl} : runR T fn (.code (.drw d5_12) :: K) t H = regR T fn K (adrn (callR T) [
  (⟨(some 95), none, (.val (.t 5))⟩, []),
  (⟨(some 96), none, (.fa 1 (.t 10))⟩, []),
  (⟨(some 97), none, (.ld none (.t 96))⟩, [1]),
  (⟨(some 98), none, (.call 12 [(.t 95), (.t 97)])⟩, []),
  (⟨(some 99), none, (.fa 1 (.t 10))⟩, []),
  (⟨(some 100), none, (.ld none (.t 99))⟩, [2]),
  (⟨(some 101), none, (.call 16 [(.t 8), (.t 100)])⟩, []),
  (⟨(some 102), none, (.bin .eql (.t 98) (.t 101))⟩, []),
  (⟨(some 11), none, (.val (.t 102))⟩, [])] t H [H]) := runR_free rfl
def d5_13 : List AOper := [
  ⟨(some 104), none, (.bin .eql (.t 62) (.c (.i .u8 1)))⟩,
  ⟨(some 103), none, (.val (.t 104))⟩]
theorem r5_13 {fn : AFun} {K : List AItem} {t : Nat → AV} {H : AH} {T : Tbl} : runR T fn (.code (.reg d5_13) :: K) t H = regR T fn K (aops (callR T) [
  ⟨(some 104), none, (.bin .eql (.t 62) (.c (.i .u8 1)))⟩,
  ⟨(some 103), none, (.val (.t 104))⟩] t H) := runR_reg'
def d5_14 : List (AOper × List Nat) := [
  (⟨(some 105), none, (.val (.t 5))⟩, []),
  (⟨(some 106), none, (.fa 1 (.t 10))⟩, []),
  (⟨(some 107), none, (.ld none (.t 106))⟩, [1]),
  (⟨(some 108), none, (.fa 3 (.t 10))⟩, []),
  (⟨(some 109), none, (.ld none (.t 108))⟩, [1]),
  (⟨(some 110), none, (.call 11 [(.t 105), (.t 107), (.t 109)])⟩, []),
  (⟨(some 111), none, (.fa 1 (.t 10))⟩, []),
  (⟨(some 112), none, (.ld none (.t 111))⟩, [2]),
  (⟨(some 113), none, (.fa 3 (.t 10))⟩, []),
  (⟨(some 114), none, (.ld none (.t 113))⟩, [2]),
  (⟨(some 115), none, (.call 17 [(.t 8), (.t 112), (.t 114)])⟩, []),
  (⟨(some 116), none, (.eqb false (.t 110) (.t 115))⟩, []),
  (⟨(some 11), none, (.val (.t 116))⟩, [])]
theorem r5_14 {fn : AFun} {K : List AItem} {t : Nat → AV} {H : AH} {T : Tbl} : runR T fn (.code (.drw d5_14) :: K) t H = regR T fn K (adrn (callR T) [
  (⟨(some 105), none, (.val (.t 5))⟩, []),
  (⟨(some 106), none, (.fa 1 (.t 10))⟩, []),
  (⟨(some 107), none, (.ld none (.t 106))⟩, [1]),
  (⟨(some 108), none, (.fa 3 (.t 10))⟩, []),
  (⟨(some 109), none, (.ld none (.t 108))⟩, [1]),
  (⟨(some 110), none, (.call 11 [(.t 105), (.t 107), (.t 109)])⟩, []),
  (⟨(some 111), none, (.fa 1 (.t 10))⟩, []),
  (⟨(some 112), none, (.ld none (.t 111))⟩, [2]),
  (⟨(some 113), none, (.fa 3 (.t 10))⟩, []),
  (⟨(some 114), none, (.ld none (.t 113))⟩, [2]),
  (⟨(some 115), none, (.call 17 [(.t 8), (.t 112), (.t 114)])⟩, []),
  (⟨(some 116), none, (.eqb false (.t 110) (.t 115))⟩, []),
  (⟨(some 11), none, (.val (.t 116))⟩, [])] t H [H]) := runR_free rfl
def d5_15 : List AOper := [
  ⟨(some 118), none, (.bin .eql (.t 62) (.c (.i .u8 2)))⟩,
  ⟨(some 117), none, (.val (.t 118))⟩]
theorem r5_15 {fn : AFun} {K : List AItem} {t : Nat → AV} {H : AH} {T : Tbl} : runR T fn (.code (.reg d5_15) :: K) t H = regR T fn K (aops (callR T) [
  ⟨(some 118), none, (.bin .eql (.t 62) (.c (.i .u8 2)))⟩,
  ⟨(some 117), none, (.val (.t 118))⟩] t H) := runR_reg'
def d5_16 : List AOper := [
  ⟨(some 120), none, (.val (.t 5))⟩,
  ⟨(some 121), none, (.fa 1 (.t 10))⟩,
  ⟨(some 122), none, (.ld none (.t 121))⟩,
  ⟨(some 123), none, (.fa 2 (.t 10))⟩,
  ⟨(some 124), none, (.ld none (.t 123))⟩,
  ⟨(some 125), none, (.fa 3 (.t 10))⟩,
  ⟨(some 126), none, (.ld none (.t 125))⟩,
  ⟨(some 127), none, (.call 10 [(.t 120), (.t 122), (.t 124), (.t 126)])⟩,
  ⟨(some 119), none, (.val (.t 127))⟩,
  ⟨(some 128), none, (.ext (.t 119) 0)⟩,
  ⟨(some 129), none, (.ext (.t 119) 1)⟩,
  ⟨(some 12), none, (.val (.t 128))⟩,
  ⟨(some 13), none, (.val (.t 129))⟩]
theorem r5_16 {fn : AFun} {K : List AItem} {t : Nat → AV} {H : AH} {T : Tbl} : runR T fn (.code (.reg d5_16) :: K) t H = regR T fn K (aops (callR T) [
  ⟨(some 120), none, (.val (.t 5))⟩,
  ⟨(some 121), none, (.fa 1 (.t 10))⟩,
  ⟨(some 122), none, (.ld none (.t 121))⟩,
  ⟨(some 123), none, (.fa 2 (.t 10))⟩,
  ⟨(some 124), none, (.ld none (.t 123))⟩,
  ⟨(some 125), none, (.fa 3 (.t 10))⟩,
  ⟨(some 126), none, (.ld none (.t 125))⟩,
  ⟨(some 127), none, (.call 10 [(.t 120), (.t 122), (.t 124), (.t 126)])⟩,
  ⟨(some 119), none, (.val (.t 127))⟩,
  ⟨(some 128), none, (.ext (.t 119) 0)⟩,
  ⟨(some 129), none, (.ext (.t 119) 1)⟩,
  ⟨(some 12), none, (.val (.t 128))⟩,
  ⟨(some 13), none, (.val (.t 129))⟩] t H) := runR_reg'
def d5_17 : List AOper := [
  ⟨(some 131), none, (.fa 1 (.t 10))⟩,
  ⟨(some 132), none, (.ld none (.t 131))⟩,
  ⟨(some 133), none, (.fa 2 (.t 10))⟩,
  ⟨(some 134), none, (.ld none (.t 133))⟩,
  ⟨(some 135), none, (.fa 3 (.t 10))⟩,
  ⟨(some 136), none, (.ld none (.t 135))⟩,
  ⟨(some 137), none, (.call 18 [(.t 8), (.t 132), (.t 134), (.t 136)])⟩,
  ⟨(some 130), none, (.val (.t 137))⟩,
  ⟨(some 138), none, (.ext (.t 130) 0)⟩,
  ⟨(some 139), none, (.ext (.t 130) 1)⟩,
  ⟨(some 14), none, (.val (.t 138))⟩,
  ⟨(some 15), none, (.val (.t 139))⟩]
theorem r5_17 {fn : AFun} {K : List AItem} {t : Nat → AV} {H : AH} {T : Tbl} : runR T fn (.code (.reg d5_17) :: K) t H = regR T fn K (aops (callR T) [
  ⟨(some 131), none, (.fa 1 (.t 10))⟩,
  ⟨(some 132), none, (.ld none (.t 131))⟩,
  ⟨(some 133), none, (.fa 2 (.t 10))⟩,
  ⟨(some 134), none, (.ld none (.t 133))⟩,
  ⟨(some 135), none, (.fa 3 (.t 10))⟩,
  ⟨(some 136), none, (.ld none (.t 135))⟩,
  ⟨(some 137), none, (.call 18 [(.t 8), (.t 132), (.t 134), (.t 136)])⟩,
  ⟨(some 130), none, (.val (.t 137))⟩,
  ⟨(some 138), none, (.ext (.t 130) 0)⟩,
  ⟨(some 139), none, (.ext (.t 130) 1)⟩,
  ⟨(some 14), none, (.val (.t 138))⟩,
  ⟨(some 15), none, (.val (.t 139))⟩] t H) := runR_reg'
def d5_18 : List AOper := [
  ⟨(some 140), none, (.val (.t 12))⟩,
  ⟨(some 141), none, (.val (.t 14))⟩,
  ⟨(some 142), none, (.bin .eql (.t 140) (.t 141))⟩,
  ⟨(some 143), none, (.val (.t 142))⟩,
  ⟨(some 144), (some (143, true)), (.val (.t 13))⟩,
  ⟨(some 145), (some (143, true)), (.val (.t 15))⟩,
  ⟨(some 146), (some (143, true)), (.eqb false (.t 144) (.t 145))⟩,
  ⟨(some 147), none, (.pick (.t 143) (.t 146) (.c (.b false)))⟩,
  ⟨(some 11), none, (.val (.t 147))⟩]
theorem r5_18 {fn : AFun} {K : List AItem} {t : Nat → AV} {H : AH} {T : Tbl} : runR T fn (.code (.reg d5_18) :: K) t H = regR T fn K (aops (callR T) [
  ⟨(some 140), none, (.val (.t 12))⟩,
  ⟨(some 141), none, (.val (.t 14))⟩,
  ⟨(some 142), none, (.bin .eql (.t 140) (.t 141))⟩,
  ⟨(some 143), none, (.val (.t 142))⟩,
  ⟨(some 144), (some (143, true)), (.val (.t 13))⟩,
  ⟨(some 145), (some (143, true)), (.val (.t 15))⟩,
  ⟨(some 146), (some (143, true)), (.eqb false (.t 144) (.t 145))⟩,
  ⟨(some 147), none, (.pick (.t 143) (.t 146) (.c (.b false)))⟩,
  ⟨(some 11), none, (.val (.t 147))⟩] t H) := runR_reg'
def d5_19 : List AOper := [
  ⟨(some 63), none, (.fa 1 (.t 10))⟩,
  ⟨(some 64), none, (.ld none (.t 63))⟩,
  ⟨(some 65), none, (.call 19 [(.t 8), (.t 64)])⟩,
  ⟨(some 16), none, (.val (.t 65))⟩]
theorem r5_19 {fn : AFun} {K : List AItem} {t : Nat → AV} {H : AH} {T : Tbl} : runR T fn (.code (.reg d5_19) :: K) t H = regR T fn K (aops (callR T) [
  ⟨(some 63), none, (.fa 1 (.t 10))⟩,
  ⟨(some 64), none, (.ld none (.t 63))⟩,
  ⟨(some 65), none, (.call 19 [(.t 8), (.t 64)])⟩,
  ⟨(some 16), none, (.val (.t 65))⟩] t H) := runR_reg'
def d5_20 : List AOper := [
  ⟨(some 67), none, (.val (.t 5))⟩,
  ⟨(some 68), none, (.fa 1 (.t 10))⟩,
  ⟨(some 69), none, (.ld none (.t 68))⟩,
  ⟨(some 70), none, (.val (.t 16))⟩,
  ⟨(some 71), none, (.fa 3 (.t 10))⟩,
  ⟨(some 72), none, (.ld none (.t 71))⟩,
  ⟨(some 73), none, (.call 10 [(.t 67), (.t 69), (.t 70), (.t 72)])⟩,
  ⟨(some 66), none, (.val (.t 73))⟩,
  ⟨(some 74), none, (.ext (.t 66) 0)⟩,
  ⟨(some 75), none, (.ext (.t 66) 1)⟩,
  ⟨(some 17), none, (.val (.t 74))⟩,
  ⟨(some 18), none, (.val (.t 75))⟩]
theorem r5_20 {fn : AFun} {K : List AItem} {t : Nat → AV} {H : AH} {T : Tbl} : runR T fn (.code (.reg d5_20) :: K) t H = regR T fn K (aops (callR T) [
  ⟨(some 67), none, (.val (.t 5))⟩,
  ⟨(some 68), none, (.fa 1 (.t 10))⟩,
  ⟨(some 69), none, (.ld none (.t 68))⟩,
  ⟨(some 70), none, (.val (.t 16))⟩,
  ⟨(some 71), none, (.fa 3 (.t 10))⟩,
  ⟨(some 72), none, (.ld none (.t 71))⟩,
  ⟨(some 73), none, (.call 10 [(.t 67), (.t 69), (.t 70), (.t 72)])⟩,
  ⟨(some 66), none, (.val (.t 73))⟩,
  ⟨(some 74), none, (.ext (.t 66) 0)⟩,
  ⟨(some 75), none, (.ext (.t 66) 1)⟩,
  ⟨(some 17), none, (.val (.t 74))⟩,
  ⟨(some 18), none, (.val (.t 75))⟩] t H) := runR_reg'
def d5_21 : List AOper := [
  ⟨(some 77), none, (.fa 1 (.t 10))⟩,
  ⟨(some 78), none, (.ld none (.t 77))⟩,
  ⟨(some 79), none, (.val (.t 16))⟩,
  ⟨(some 80), none, (.fa 3 (.t 10))⟩,
  ⟨(some 81), none, (.ld none (.t 80))⟩,
  ⟨(some 82), none, (.call 18 [(.t 8), (.t 78), (.t 79), (.t 81)])⟩,
  ⟨(some 76), none, (.val (.t 82))⟩,
  ⟨(some 83), none, (.ext (.t 76) 0)⟩,
  ⟨(some 84), none, (.ext (.t 76) 1)⟩,
  ⟨(some 19), none, (.val (.t 83))⟩,
  ⟨(some 20), none, (.val (.t 84))⟩]
theorem r5_21 {fn : AFun} {K : List AItem} {t : Nat → AV} {H : AH} {T : Tbl} : runR T fn (.code (.reg d5_21) :: K) t H = regR T fn K (aops (callR T) [
  ⟨(some 77), none, (.fa 1 (.t 10))⟩,
  ⟨(some 78), none, (.ld none (.t 77))⟩,
  ⟨(some 79), none, (.val (.t 16))⟩,
  ⟨(some 80), none, (.fa 3 (.t 10))⟩,
  ⟨(some 81), none, (.ld none (.t 80))⟩,
  ⟨(some 82), none, (.call 18 [(.t 8), (.t 78), (.t 79), (.t 81)])⟩,
  ⟨(some 76), none, (.val (.t 82))⟩,
  ⟨(some 83), none, (.ext (.t 76) 0)⟩,
  ⟨(some 84), none, (.ext (.t 76) 1)⟩,
  ⟨(some 19), none, (.val (.t 83))⟩,
  ⟨(some 20), none, (.val (.t 84))⟩] t H) := runR_reg'
def d5_22 : List AOper := [
  ⟨(some 85), none, (.val (.t 17))⟩,
  ⟨(some 86), none, (.val (.t 19))⟩,
  ⟨(some 87), none, (.bin .eql (.t 85) (.t 86))⟩,
  ⟨(some 88), none, (.val (.t 87))⟩,
  ⟨(some 89), (some (88, true)), (.val (.t 18))⟩,
  ⟨(some 90), (some (88, true)), (.val (.t 20))⟩,
  ⟨(some 91), (some (88, true)), (.eqb false (.t 89) (.t 90))⟩,
  ⟨(some 92), none, (.pick (.t 88) (.t 91) (.c (.b false)))⟩,
  ⟨(some 11), none, (.val (.t 92))⟩]
theorem r5_22 {fn : AFun} {K : List AItem} {t : Nat → AV} {H : AH} {T : Tbl} : runR T fn (.code (.reg d5_22) :: K) t H = regR T fn K (aops (callR T) [
  ⟨(some 85), none, (.val (.t 17))⟩,
  ⟨(some 86), none, (.val (.t 19))⟩,
  ⟨(some 87), none, (.bin .eql (.t 85) (.t 86))⟩,
  ⟨(some 88), none, (.val (.t 87))⟩,
  ⟨(some 89), (some (88, true)), (.val (.t 18))⟩,
  ⟨(some 90), (some (88, true)), (.val (.t 20))⟩,
  ⟨(some 91), (some (88, true)), (.eqb false (.t 89) (.t 90))⟩,
  ⟨(some 92), none, (.pick (.t 88) (.t 91) (.c (.b false)))⟩,
  ⟨(some 11), none, (.val (.t 92))⟩] t H) := runR_reg'
def d5_23 : List (AOper × List Nat) := [
  (⟨(some 148), none, (.val (.t 11))⟩, []),
  (⟨(some 149), none, (.un .not (.t 148))⟩, []),
  (⟨(some 150), none, (.val (.t 149))⟩, []),
  (⟨(some 151), (some (150, false)), (.val (.t 5))⟩, []),
  (⟨(some 152), (some (150, false)), (.fa 1 (.t 10))⟩, []),
  (⟨(some 153), (some (150, false)), (.ld none (.t 152))⟩, [1]),
  (⟨(some 154), (some (150, false)), (.call 14 [(.t 151), (.t 153)])⟩, []),
  (⟨(some 155), (some (150, false)), (.fa 1 (.t 10))⟩, []),
  (⟨(some 156), (some (150, false)), (.ld none (.t 155))⟩, [2]),
  (⟨(some 157), (some (150, false)), (.call 19 [(.t 8), (.t 156)])⟩, []),
  (⟨(some 158), (some (150, false)), (.bin .neq (.t 154) (.t 157))⟩, []),
  (⟨(some 159), none, (.pick (.t 150) (.c (.b true)) (.t 158))⟩, []),
  (⟨(some 160), none, (.val (.t 159))⟩, []),
  (⟨(some 161), (some (160, false)), (.val (.t 5))⟩, []),
  (⟨(some 162), (some (160, false)), (.call 15 [(.t 161)])⟩, []),
  (⟨(some 163), (some (160, false)), (.fa 2 (.t 8))⟩, []),
  (⟨(some 164), (some (160, false)), (.ld none (.t 163))⟩, [2]),
  (⟨(some 165), (some (160, false)), (.bin .neq (.t 162) (.t 164))⟩, []),
  (⟨(some 166), none, (.pick (.t 160) (.c (.b true)) (.t 165))⟩, []),
  (⟨(some 167), none, (.val (.t 166))⟩, []),
  (⟨(some 168), (some (167, false)), (.val (.t 5))⟩, []),
  (⟨(some 169), (some (167, false)), (.call 20 [(.t 168)])⟩, []),
  (⟨(some 170), (some (167, false)), (.val (.t 0))⟩, []),
  (⟨(some 171), (some (167, false)), (.bin .neq (.t 169) (.t 170))⟩, []),
  (⟨(some 172), none, (.pick (.t 167) (.c (.b true)) (.t 171))⟩, [])]
theorem r5_23 {fn : AFun} {K : List AItem} {t : Nat → AV} {H : AH} {T : Tbl} : runR T fn (.code (.drw d5_23) :: K) t H = regR T fn K (adrn (callR T) [
  (⟨(some 148), none, (.val (.t 11))⟩, []),
  (⟨(some 149), none, (.un .not (.t 148))⟩, []),
  (⟨(some 150), none, (.val (.t 149))⟩, []),
  (⟨(some 151), (some (150, false)), (.val (.t 5))⟩, []),
  (⟨(some 152), (some (150, false)), (.fa 1 (.t 10))⟩, []),
  (⟨(some 153), (some (150, false)), (.ld none (.t 152))⟩, [1]),
  (⟨(some 154), (some (150, false)), (.call 14 [(.t 151), (.t 153)])⟩, []),
  (⟨(some 155), (some (150, false)), (.fa 1 (.t 10))⟩, []),
  (⟨(some 156), (some (150, false)), (.ld none (.t 155))⟩, [2]),
  (⟨(some 157), (some (150, false)), (.call 19 [(.t 8), (.t 156)])⟩, []),
  (⟨(some 158), (some (150, false)), (.bin .neq (.t 154) (.t 157))⟩, []),
  (⟨(some 159), none, (.pick (.t 150) (.c (.b true)) (.t 158))⟩, []),
  (⟨(some 160), none, (.val (.t 159))⟩, []),
  (⟨(some 161), (some (160, false)), (.val (.t 5))⟩, []),
  (⟨(some 162), (some (160, false)), (.call 15 [(.t 161)])⟩, []),
  (⟨(some 163), (some (160, false)), (.fa 2 (.t 8))⟩, []),
  (⟨(some 164), (some (160, false)), (.ld none (.t 163))⟩, [2]),
  (⟨(some 165), (some (160, false)), (.bin .neq (.t 162) (.t 164))⟩, []),
  (⟨(some 166), none, (.pick (.t 160) (.c (.b true)) (.t 165))⟩, []),
  (⟨(some 167), none, (.val (.t 166))⟩, []),
  (⟨(some 168), (some (167, false)), (.val (.t 5))⟩, []),
  (⟨(some 169), (some (167, false)), (.call 20 [(.t 168)])⟩, []),
  (⟨(some 170), (some (167, false)), (.val (.t 0))⟩, []),
  (⟨(some 171), (some (167, false)), (.bin .neq (.t 169) (.t 170))⟩, []),
  (⟨(some 172), none, (.pick (.t 167) (.c (.b true)) (.t 171))⟩, [])] t H [H]) := runR_free rfl
def d5_24 : List AOper := [
  ⟨(some 4), none, (.val (.c (.b false)))⟩]
theorem r5_24 {fn : AFun} {K : List AItem} {t : Nat → AV} {H : AH} {T : Tbl} : runR T fn (.code (.reg d5_24) :: K) t H = regR T fn K (aops (callR T) [
  ⟨(some 4), none, (.val (.c (.b false)))⟩] t H) := runR_reg'
def d5_25 : List AOper := [
  ⟨(some 173), none, (.bin .add (.t 56) (.c (.i .i64 1)))⟩,
  ⟨(some 56), none, (.val (.t 173))⟩]
theorem r5_25 {fn : AFun} {K : List AItem} {t : Nat → AV} {H : AH} {T : Tbl} : runR T fn (.code (.reg d5_25) :: K) t H = regR T fn K (aops (callR T) [
  ⟨(some 173), none, (.bin .add (.t 56) (.c (.i .i64 1)))⟩,
  ⟨(some 56), none, (.val (.t 173))⟩] t H) := runR_reg'
def l5_26 : ACode := (.seq (.reg d5_7) (.seq (.cond (.t 57) .skip (.exit 0)) (.seq (.block 1 (.seq (.reg d5_8) (.seq (.reg d5_9) (.seq (.seq (.reg d5_10) (.block 2 (.seq (.reg d5_11) (.cond (.t 93) (.drw d5_12) (.seq (.reg d5_13) (.cond (.t 103) (.drw d5_14) (.seq (.reg d5_15) (.cond (.t 117) (.seq (.reg d5_16) (.seq (.reg d5_17) (.reg d5_18))) (.seq (.reg d5_19) (.seq (.reg d5_20) (.seq (.reg d5_21) (.reg d5_22)))))))))))) (.seq (.drw d5_23) (.cond (.t 172) (.seq (.reg d5_24) .ret) .skip)))))) (.reg d5_25))))
def d5_27 : List AOper := [
  ⟨(some 174), none, (.call 13 [])⟩,
  ⟨(some 4), none, (.val (.t 174))⟩]
theorem r5_27 {fn : AFun} {K : List AItem} {t : Nat → AV} {H : AH} {T : Tbl} : runR T fn (.code (.reg d5_27) :: K) t H = regR T fn K (aops (callR T) [
  ⟨(some 174), none, (.call 13 [])⟩,
  ⟨(some 4), none, (.val (.t 174))⟩] t H) := runR_reg'
def a5 : AFun := ⟨175, [(.tmp 4)], (.seq (.reg d5_0) (.seq (.reg d5_1) (.seq (.seq (.reg d5_2) (.seq (.reg d5_3) (.cond (.t 37) (.seq (.reg d5_4) .ret) .skip))) (.seq (.reg d5_5) (.seq (.seq (.reg d5_6) (.block 0 (.loop l5_26))) (.seq (.reg d5_27) .ret))))))⟩
theorem a5_ok : cfun Try.prog 5 = some a5 := by kernel_rfl
/-- futtock/futtocklaw03.CellSame -/
def d6_0 : List AOper := [
  ⟨(some 6), none, (.val (.c (.b false)))⟩]
theorem r6_0 {fn : AFun} {K : List AItem} {t : Nat → AV} {H : AH} {T : Tbl} : runR T fn (.code (.reg d6_0) :: K) t H = regR T fn K (aops (callR T) [
  ⟨(some 6), none, (.val (.c (.b false)))⟩] t H) := runR_reg'
def d6_1 : List AOper := [
  ⟨(some 20), none, (.build [(.sl none 0 0 true 0), (.i .i64 0)] [])⟩,
  ⟨(some 21), none, (.box (.t 20))⟩,
  ⟨(some 22), none, (.bsl [(.p none)] 2 [(0, 1, (.c (.p none))), (1, 1, (.t 21))])⟩,
  ⟨(some 23), none, (.len (.t 22))⟩,
  ⟨(some 24), none, (.val (.c (.i .i64 0)))⟩]
theorem r6_1 {fn : AFun} {K : List AItem} {t : Nat → AV} {H : AH} {T : Tbl} : runR T fn (.code (.reg d6_1) :: K) t H = regR T fn K (aops (callR T) [
  ⟨(some 20), none, (.build [(.sl none 0 0 true 0), (.i .i64 0)] [])⟩,
  ⟨(some 21), none, (.box (.t 20))⟩,
  ⟨(some 22), none, (.bsl [(.p none)] 2 [(0, 1, (.c (.p none))), (1, 1, (.t 21))])⟩,
  ⟨(some 23), none, (.len (.t 22))⟩,
  ⟨(some 24), none, (.val (.c (.i .i64 0)))⟩] t H) := runR_reg'
def d6_2 : List AOper := [
  ⟨(some 25), none, (.bin .lss (.t 24) (.t 23))⟩]
theorem r6_2 {fn : AFun} {K : List AItem} {t : Nat → AV} {H : AH} {T : Tbl} : runR T fn (.code (.reg d6_2) :: K) t H = regR T fn K (aops (callR T) [
  ⟨(some 25), none, (.bin .lss (.t 24) (.t 23))⟩] t H) := runR_reg'
def d6_3 : List AOper := [
  ⟨(some 26), none, (.ia 1 (.t 22) (.t 24))⟩,
  ⟨(some 27), none, (.ld none (.t 26))⟩,
  ⟨(some 8), none, (.val (.t 27))⟩]
theorem r6_3 {fn : AFun} {K : List AItem} {t : Nat → AV} {H : AH} {T : Tbl} : runR T fn (.code (.reg d6_3) :: K) t H = regR T fn K (aops (callR T) [
  ⟨(some 26), none, (.ia 1 (.t 22) (.t 24))⟩,
  ⟨(some 27), none, (.ld none (.t 26))⟩,
  ⟨(some 8), none, (.val (.t 27))⟩] t H) := runR_reg'
def d6_4 : List AOper := [
  ⟨(some 29), none, (.val (.t 8))⟩,
  ⟨(some 30), none, (.val (.t 2))⟩,
  ⟨(some 31), none, (.call 10 [(.t 29), (.t 30), (.c (.i .u64 0)), (.c (.i .u64 1))])⟩,
  ⟨(some 28), none, (.val (.t 31))⟩,
  ⟨(some 32), none, (.ext (.t 28) 0)⟩,
  ⟨(some 33), none, (.ext (.t 28) 1)⟩,
  ⟨(some 9), none, (.val (.t 32))⟩,
  ⟨(some 10), none, (.val (.t 33))⟩]
theorem r6_4 {fn : AFun} {K : List AItem} {t : Nat → AV} {H : AH} {T : Tbl} : runR T fn (.code (.reg d6_4) :: K) t H = regR T fn K (aops (callR T) [
  ⟨(some 29), none, (.val (.t 8))⟩,
  ⟨(some 30), none, (.val (.t 2))⟩,
  ⟨(some 31), none, (.call 10 [(.t 29), (.t 30), (.c (.i .u64 0)), (.c (.i .u64 1))])⟩,
  ⟨(some 28), none, (.val (.t 31))⟩,
  ⟨(some 32), none, (.ext (.t 28) 0)⟩,
  ⟨(some 33), none, (.ext (.t 28) 1)⟩,
  ⟨(some 9), none, (.val (.t 32))⟩,
  ⟨(some 10), none, (.val (.t 33))⟩] t H) := runR_reg'
def d6_5 : List AOper := [
  ⟨(some 34), none, (.val (.t 8))⟩,
  ⟨(some 35), none, (.val (.t 2))⟩,
  ⟨(some 36), none, (.call 12 [(.t 34), (.t 35)])⟩,
  ⟨(some 37), none, (.bin .neq (.t 36) (.c (.i .u64 0)))⟩,
  ⟨(some 38), none, (.val (.t 37))⟩,
  ⟨(some 39), (some (38, false)), (.val (.t 8))⟩,
  ⟨(some 40), (some (38, false)), (.val (.t 2))⟩,
  ⟨(some 41), (some (38, false)), (.call 11 [(.t 39), (.t 40), (.c (.i .u64 1))])⟩,
  ⟨(some 42), none, (.pick (.t 38) (.c (.b true)) (.t 41))⟩,
  ⟨(some 43), none, (.val (.t 42))⟩,
  ⟨(some 44), (some (43, false)), (.val (.t 9))⟩,
  ⟨(some 45), (some (43, false)), (.bin .neq (.t 44) (.c (.i .u64 0)))⟩,
  ⟨(some 46), none, (.pick (.t 43) (.c (.b true)) (.t 45))⟩,
  ⟨(some 47), none, (.val (.t 46))⟩,
  ⟨(some 48), (some (47, false)), (.val (.t 10))⟩,
  ⟨(some 49), none, (.pick (.t 47) (.c (.b true)) (.t 48))⟩,
  ⟨(some 50), none, (.val (.t 49))⟩,
  ⟨(some 51), (some (50, false)), (.val (.t 8))⟩,
  ⟨(some 52), (some (50, false)), (.val (.t 2))⟩,
  ⟨(some 53), (some (50, false)), (.call 14 [(.t 51), (.t 52)])⟩,
  ⟨(some 54), (some (50, false)), (.bin .neq (.t 53) (.c (.i .u64 0)))⟩,
  ⟨(some 55), none, (.pick (.t 50) (.c (.b true)) (.t 54))⟩,
  ⟨(some 56), none, (.val (.t 55))⟩,
  ⟨(some 57), (some (56, false)), (.val (.t 8))⟩,
  ⟨(some 58), (some (56, false)), (.call 20 [(.t 57)])⟩,
  ⟨(some 59), (some (56, false)), (.bin .neq (.t 58) (.c (.i .i64 0)))⟩,
  ⟨(some 60), none, (.pick (.t 56) (.c (.b true)) (.t 59))⟩,
  ⟨(some 61), none, (.val (.t 60))⟩,
  ⟨(some 62), (some (61, false)), (.val (.t 8))⟩,
  ⟨(some 63), (some (61, false)), (.call 15 [(.t 62)])⟩,
  ⟨(some 64), (some (61, false)), (.bin .neq (.t 63) (.c (.i .i64 0)))⟩,
  ⟨(some 65), none, (.pick (.t 61) (.c (.b true)) (.t 64))⟩,
  ⟨(some 66), none, (.val (.t 65))⟩,
  ⟨(some 67), (some (66, false)), (.val (.t 8))⟩,
  ⟨(some 68), (some (66, false)), (.call 9 [(.t 67)])⟩,
  ⟨(some 69), (some (66, false)), (.len (.t 68))⟩,
  ⟨(some 70), (some (66, false)), (.bin .neq (.t 69) (.c (.i .i64 0)))⟩,
  ⟨(some 71), none, (.pick (.t 66) (.c (.b true)) (.t 70))⟩,
  ⟨(some 72), none, (.val (.t 71))⟩,
  ⟨(some 73), (some (72, false)), (.val (.t 8))⟩,
  ⟨(some 74), (some (72, false)), (.call 21 [(.t 73), (.c (.p none))])⟩,
  ⟨(some 75), (some (72, false)), (.un .not (.t 74))⟩,
  ⟨(some 76), none, (.pick (.t 72) (.c (.b true)) (.t 75))⟩]
theorem r6_5 {fn : AFun} {K : List AItem} {t : Nat → AV} {H : AH} {T : Tbl} : runR T fn (.code (.reg d6_5) :: K) t H = regR T fn K (aops (callR T) [
  ⟨(some 34), none, (.val (.t 8))⟩,
  ⟨(some 35), none, (.val (.t 2))⟩,
  ⟨(some 36), none, (.call 12 [(.t 34), (.t 35)])⟩,
  ⟨(some 37), none, (.bin .neq (.t 36) (.c (.i .u64 0)))⟩,
  ⟨(some 38), none, (.val (.t 37))⟩,
  ⟨(some 39), (some (38, false)), (.val (.t 8))⟩,
  ⟨(some 40), (some (38, false)), (.val (.t 2))⟩,
  ⟨(some 41), (some (38, false)), (.call 11 [(.t 39), (.t 40), (.c (.i .u64 1))])⟩,
  ⟨(some 42), none, (.pick (.t 38) (.c (.b true)) (.t 41))⟩,
  ⟨(some 43), none, (.val (.t 42))⟩,
  ⟨(some 44), (some (43, false)), (.val (.t 9))⟩,
  ⟨(some 45), (some (43, false)), (.bin .neq (.t 44) (.c (.i .u64 0)))⟩,
  ⟨(some 46), none, (.pick (.t 43) (.c (.b true)) (.t 45))⟩,
  ⟨(some 47), none, (.val (.t 46))⟩,
  ⟨(some 48), (some (47, false)), (.val (.t 10))⟩,
  ⟨(some 49), none, (.pick (.t 47) (.c (.b true)) (.t 48))⟩,
  ⟨(some 50), none, (.val (.t 49))⟩,
  ⟨(some 51), (some (50, false)), (.val (.t 8))⟩,
  ⟨(some 52), (some (50, false)), (.val (.t 2))⟩,
  ⟨(some 53), (some (50, false)), (.call 14 [(.t 51), (.t 52)])⟩,
  ⟨(some 54), (some (50, false)), (.bin .neq (.t 53) (.c (.i .u64 0)))⟩,
  ⟨(some 55), none, (.pick (.t 50) (.c (.b true)) (.t 54))⟩,
  ⟨(some 56), none, (.val (.t 55))⟩,
  ⟨(some 57), (some (56, false)), (.val (.t 8))⟩,
  ⟨(some 58), (some (56, false)), (.call 20 [(.t 57)])⟩,
  ⟨(some 59), (some (56, false)), (.bin .neq (.t 58) (.c (.i .i64 0)))⟩,
  ⟨(some 60), none, (.pick (.t 56) (.c (.b true)) (.t 59))⟩,
  ⟨(some 61), none, (.val (.t 60))⟩,
  ⟨(some 62), (some (61, false)), (.val (.t 8))⟩,
  ⟨(some 63), (some (61, false)), (.call 15 [(.t 62)])⟩,
  ⟨(some 64), (some (61, false)), (.bin .neq (.t 63) (.c (.i .i64 0)))⟩,
  ⟨(some 65), none, (.pick (.t 61) (.c (.b true)) (.t 64))⟩,
  ⟨(some 66), none, (.val (.t 65))⟩,
  ⟨(some 67), (some (66, false)), (.val (.t 8))⟩,
  ⟨(some 68), (some (66, false)), (.call 9 [(.t 67)])⟩,
  ⟨(some 69), (some (66, false)), (.len (.t 68))⟩,
  ⟨(some 70), (some (66, false)), (.bin .neq (.t 69) (.c (.i .i64 0)))⟩,
  ⟨(some 71), none, (.pick (.t 66) (.c (.b true)) (.t 70))⟩,
  ⟨(some 72), none, (.val (.t 71))⟩,
  ⟨(some 73), (some (72, false)), (.val (.t 8))⟩,
  ⟨(some 74), (some (72, false)), (.call 21 [(.t 73), (.c (.p none))])⟩,
  ⟨(some 75), (some (72, false)), (.un .not (.t 74))⟩,
  ⟨(some 76), none, (.pick (.t 72) (.c (.b true)) (.t 75))⟩] t H) := runR_reg'
def d6_6 : List AOper := [
  ⟨(some 6), none, (.val (.c (.b false)))⟩]
theorem r6_6 {fn : AFun} {K : List AItem} {t : Nat → AV} {H : AH} {T : Tbl} : runR T fn (.code (.reg d6_6) :: K) t H = regR T fn K (aops (callR T) [
  ⟨(some 6), none, (.val (.c (.b false)))⟩] t H) := runR_reg'
def d6_7 : List AOper := [
  ⟨(some 77), none, (.bin .add (.t 24) (.c (.i .i64 1)))⟩,
  ⟨(some 24), none, (.val (.t 77))⟩]
theorem r6_7 {fn : AFun} {K : List AItem} {t : Nat → AV} {H : AH} {T : Tbl} : runR T fn (.code (.reg d6_7) :: K) t H = regR T fn K (aops (callR T) [
  ⟨(some 77), none, (.bin .add (.t 24) (.c (.i .i64 1)))⟩,
  ⟨(some 24), none, (.val (.t 77))⟩] t H) := runR_reg'
def l6_8 : ACode := (.seq (.reg d6_2) (.seq (.cond (.t 25) .skip (.exit 0)) (.seq (.block 1 (.seq (.reg d6_3) (.seq (.reg d6_4) (.seq (.reg d6_5) (.cond (.t 76) (.seq (.reg d6_6) .ret) .skip))))) (.reg d6_7))))
def d6_9 : List AOper := [
  ⟨(some 79), none, (.val (.t 0))⟩,
  ⟨(some 80), none, (.cvi .i64 (.t 79))⟩,
  ⟨(some 81), none, (.bin .add (.t 80) (.c (.i .i64 1)))⟩,
  ⟨(some 82), none, (.call 7 [(.t 81)])⟩,
  ⟨(some 78), none, (.val (.t 82))⟩,
  ⟨(some 83), none, (.ext (.t 78) 0)⟩,
  ⟨(some 84), none, (.ext (.t 78) 1)⟩,
  ⟨(some 11), none, (.val (.t 83))⟩,
  ⟨(some 12), none, (.val (.t 84))⟩]
theorem r6_9 {fn : AFun} {K : List AItem} {t : Nat → AV} {H : AH} {T : Tbl} : runR T fn (.code (.reg d6_9) :: K) t H = regR T fn K (aops (callR T) [
  ⟨(some 79), none, (.val (.t 0))⟩,
  ⟨(some 80), none, (.cvi .i64 (.t 79))⟩,
  ⟨(some 81), none, (.bin .add (.t 80) (.c (.i .i64 1)))⟩,
  ⟨(some 82), none, (.call 7 [(.t 81)])⟩,
  ⟨(some 78), none, (.val (.t 82))⟩,
  ⟨(some 83), none, (.ext (.t 78) 0)⟩,
  ⟨(some 84), none, (.ext (.t 78) 1)⟩,
  ⟨(some 11), none, (.val (.t 83))⟩,
  ⟨(some 12), none, (.val (.t 84))⟩] t H) := runR_reg'
def d6_10 : List AOper := [
  ⟨(some 86), none, (.val (.t 0))⟩,
  ⟨(some 87), none, (.cvi .i64 (.t 86))⟩,
  ⟨(some 88), none, (.bin .add (.t 87) (.c (.i .i64 1)))⟩,
  ⟨(some 89), none, (.call 7 [(.t 88)])⟩,
  ⟨(some 85), none, (.val (.t 89))⟩,
  ⟨(some 90), none, (.ext (.t 85) 0)⟩,
  ⟨(some 91), none, (.ext (.t 85) 1)⟩,
  ⟨(some 13), none, (.val (.t 90))⟩,
  ⟨(some 14), none, (.val (.t 91))⟩]
theorem r6_10 {fn : AFun} {K : List AItem} {t : Nat → AV} {H : AH} {T : Tbl} : runR T fn (.code (.reg d6_10) :: K) t H = regR T fn K (aops (callR T) [
  ⟨(some 86), none, (.val (.t 0))⟩,
  ⟨(some 87), none, (.cvi .i64 (.t 86))⟩,
  ⟨(some 88), none, (.bin .add (.t 87) (.c (.i .i64 1)))⟩,
  ⟨(some 89), none, (.call 7 [(.t 88)])⟩,
  ⟨(some 85), none, (.val (.t 89))⟩,
  ⟨(some 90), none, (.ext (.t 85) 0)⟩,
  ⟨(some 91), none, (.ext (.t 85) 1)⟩,
  ⟨(some 13), none, (.val (.t 90))⟩,
  ⟨(some 14), none, (.val (.t 91))⟩] t H) := runR_reg'
def d6_11 : List AOper := [
  ⟨(some 92), none, (.val (.t 12))⟩,
  ⟨(some 93), none, (.bin .neq (.t 92) (.c (.i .i64 0)))⟩,
  ⟨(some 94), none, (.val (.t 93))⟩,
  ⟨(some 95), (some (94, false)), (.val (.t 14))⟩,
  ⟨(some 96), (some (94, false)), (.bin .neq (.t 95) (.c (.i .i64 0)))⟩,
  ⟨(some 97), none, (.pick (.t 94) (.c (.b true)) (.t 96))⟩]
theorem r6_11 {fn : AFun} {K : List AItem} {t : Nat → AV} {H : AH} {T : Tbl} : runR T fn (.code (.reg d6_11) :: K) t H = regR T fn K (aops (callR T) [
  ⟨(some 92), none, (.val (.t 12))⟩,
  ⟨(some 93), none, (.bin .neq (.t 92) (.c (.i .i64 0)))⟩,
  ⟨(some 94), none, (.val (.t 93))⟩,
  ⟨(some 95), (some (94, false)), (.val (.t 14))⟩,
  ⟨(some 96), (some (94, false)), (.bin .neq (.t 95) (.c (.i .i64 0)))⟩,
  ⟨(some 97), none, (.pick (.t 94) (.c (.b true)) (.t 96))⟩] t H) := runR_reg'
def d6_12 : List AOper := [
  ⟨(some 6), none, (.val (.c (.b false)))⟩]
theorem r6_12 {fn : AFun} {K : List AItem} {t : Nat → AV} {H : AH} {T : Tbl} : runR T fn (.code (.reg d6_12) :: K) t H = regR T fn K (aops (callR T) [
  ⟨(some 6), none, (.val (.c (.b false)))⟩] t H) := runR_reg'
def d6_13 : List AOper := [
  ⟨(some 98), none, (.val (.t 1))⟩,
  ⟨(some 99), none, (.call 8 [(.t 98)])⟩,
  ⟨(some 100), none, (.len (.t 99))⟩,
  ⟨(some 101), none, (.val (.c (.i .i64 0)))⟩]
theorem r6_13 {fn : AFun} {K : List AItem} {t : Nat → AV} {H : AH} {T : Tbl} : runR T fn (.code (.reg d6_13) :: K) t H = regR T fn K (aops (callR T) [
  ⟨(some 98), none, (.val (.t 1))⟩,
  ⟨(some 99), none, (.call 8 [(.t 98)])⟩,
  ⟨(some 100), none, (.len (.t 99))⟩,
  ⟨(some 101), none, (.val (.c (.i .i64 0)))⟩] t H) := runR_reg'
def d6_14 : List AOper := [
  ⟨(some 102), none, (.bin .lss (.t 101) (.t 100))⟩]
theorem r6_14 {fn : AFun} {K : List AItem} {t : Nat → AV} {H : AH} {T : Tbl} : runR T fn (.code (.reg d6_14) :: K) t H = regR T fn K (aops (callR T) [
  ⟨(some 102), none, (.bin .lss (.t 101) (.t 100))⟩] t H) := runR_reg'
def d6_15 : List AOper := [
  ⟨(some 103), none, (.ia 4 (.t 99) (.t 101))⟩,
  ⟨(some 104), none, (.ld (some 4) (.t 103))⟩,
  ⟨(some 16), none, (.alloc [(.i .u8 0), (.i .i64 0), (.i .u64 0), (.i .u64 0)])⟩,
  ⟨none, none, (.st 4 (.t 16) (.t 104))⟩]
theorem r6_15 {fn : AFun} {K : List AItem} {t : Nat → AV} {H : AH} {T : Tbl} : runR T fn (.code (.reg d6_15) :: K) t H = regR T fn K (aops (callR T) [
  ⟨(some 103), none, (.ia 4 (.t 99) (.t 101))⟩,
  ⟨(some 104), none, (.ld (some 4) (.t 103))⟩,
  ⟨(some 16), none, (.alloc [(.i .u8 0), (.i .i64 0), (.i .u64 0), (.i .u64 0)])⟩,
  ⟨none, none, (.st 4 (.t 16) (.t 104))⟩] t H) := runR_reg'
def d6_16 : List AOper := [
  ⟨(some 105), none, (.val (.t 11))⟩,
  ⟨(some 106), none, (.fa 1 (.t 16))⟩,
  ⟨(some 107), none, (.ld none (.t 106))⟩,
  ⟨(some 108), none, (.fa 3 (.t 16))⟩,
  ⟨(some 109), none, (.ld none (.t 108))⟩,
  ⟨(some 110), none, (.call 11 [(.t 105), (.t 107), (.t 109)])⟩]
theorem r6_16 {fn : AFun} {K : List AItem} {t : Nat → AV} {H : AH} {T : Tbl} : runR T fn (.code (.reg d6_16) :: K) t H = regR T fn K (aops (callR T) [
  ⟨(some 105), none, (.val (.t 11))⟩,
  ⟨(some 106), none, (.fa 1 (.t 16))⟩,
  ⟨(some 107), none, (.ld none (.t 106))⟩,
  ⟨(some 108), none, (.fa 3 (.t 16))⟩,
  ⟨(some 109), none, (.ld none (.t 108))⟩,
  ⟨(some 110), none, (.call 11 [(.t 105), (.t 107), (.t 109)])⟩] t H) := runR_reg'
def d6_17 : List AOper := [
  ⟨(some 111), none, (.val (.t 11))⟩,
  ⟨(some 112), none, (.fa 1 (.t 16))⟩,
  ⟨(some 113), none, (.ld none (.t 112))⟩,
  ⟨(some 114), none, (.call 12 [(.t 111), (.t 113)])⟩]
theorem r6_17 {fn : AFun} {K : List AItem} {t : Nat → AV} {H : AH} {T : Tbl} : runR T fn (.code (.reg d6_17) :: K) t H = regR T fn K (aops (callR T) [
  ⟨(some 111), none, (.val (.t 11))⟩,
  ⟨(some 112), none, (.fa 1 (.t 16))⟩,
  ⟨(some 113), none, (.ld none (.t 112))⟩,
  ⟨(some 114), none, (.call 12 [(.t 111), (.t 113)])⟩] t H) := runR_reg'
def d6_18 : List AOper := [
  ⟨(some 115), none, (.val (.t 13))⟩,
  ⟨(some 116), none, (.fa 1 (.t 16))⟩,
  ⟨(some 117), none, (.ld none (.t 116))⟩,
  ⟨(some 118), none, (.fa 3 (.t 16))⟩,
  ⟨(some 119), none, (.ld none (.t 118))⟩,
  ⟨(some 120), none, (.call 11 [(.t 115), (.t 117), (.t 119)])⟩]
theorem r6_18 {fn : AFun} {K : List AItem} {t : Nat → AV} {H : AH} {T : Tbl} : runR T fn (.code (.reg d6_18) :: K) t H = regR T fn K (aops (callR T) [
  ⟨(some 115), none, (.val (.t 13))⟩,
  ⟨(some 116), none, (.fa 1 (.t 16))⟩,
  ⟨(some 117), none, (.ld none (.t 116))⟩,
  ⟨(some 118), none, (.fa 3 (.t 16))⟩,
  ⟨(some 119), none, (.ld none (.t 118))⟩,
  ⟨(some 120), none, (.call 11 [(.t 115), (.t 117), (.t 119)])⟩] t H) := runR_reg'
def d6_19 : List AOper := [
  ⟨(some 121), none, (.bin .add (.t 101) (.c (.i .i64 1)))⟩,
  ⟨(some 101), none, (.val (.t 121))⟩]
theorem r6_19 {fn : AFun} {K : List AItem} {t : Nat → AV} {H : AH} {T : Tbl} : runR T fn (.code (.reg d6_19) :: K) t H = regR T fn K (aops (callR T) [
  ⟨(some 121), none, (.bin .add (.t 101) (.c (.i .i64 1)))⟩,
  ⟨(some 101), none, (.val (.t 121))⟩] t H) := runR_reg'
def l6_20 : ACode := (.seq (.reg d6_14) (.seq (.cond (.t 102) .skip (.exit 2)) (.seq (.block 3 (.seq (.reg d6_15) (.seq (.reg d6_16) (.seq (.reg d6_17) (.reg d6_18))))) (.reg d6_19))))
def d6_21 : List AOper := [
  ⟨(some 122), none, (.val (.t 11))⟩,
  ⟨(some 123), none, (.val (.t 13))⟩,
  ⟨(some 124), none, (.call 21 [(.t 122), (.t 123)])⟩,
  ⟨(some 125), none, (.un .not (.t 124))⟩,
  ⟨(some 126), none, (.val (.t 125))⟩,
  ⟨(some 127), (some (126, false)), (.val (.t 13))⟩,
  ⟨(some 128), (some (126, false)), (.val (.t 11))⟩,
  ⟨(some 129), (some (126, false)), (.call 21 [(.t 127), (.t 128)])⟩,
  ⟨(some 130), (some (126, false)), (.un .not (.t 129))⟩,
  ⟨(some 131), none, (.pick (.t 126) (.c (.b true)) (.t 130))⟩]
theorem r6_21 {fn : AFun} {K : List AItem} {t : Nat → AV} {H : AH} {T : Tbl} : runR T fn (.code (.reg d6_21) :: K) t H = regR T fn K (aops (callR T) [
  ⟨(some 122), none, (.val (.t 11))⟩,
  ⟨(some 123), none, (.val (.t 13))⟩,
  ⟨(some 124), none, (.call 21 [(.t 122), (.t 123)])⟩,
  ⟨(some 125), none, (.un .not (.t 124))⟩,
  ⟨(some 126), none, (.val (.t 125))⟩,
  ⟨(some 127), (some (126, false)), (.val (.t 13))⟩,
  ⟨(some 128), (some (126, false)), (.val (.t 11))⟩,
  ⟨(some 129), (some (126, false)), (.call 21 [(.t 127), (.t 128)])⟩,
  ⟨(some 130), (some (126, false)), (.un .not (.t 129))⟩,
  ⟨(some 131), none, (.pick (.t 126) (.c (.b true)) (.t 130))⟩] t H) := runR_reg'
def d6_22 : List AOper := [
  ⟨(some 6), none, (.val (.c (.b false)))⟩]
theorem r6_22 {fn : AFun} {K : List AItem} {t : Nat → AV} {H : AH} {T : Tbl} : runR T fn (.code (.reg d6_22) :: K) t H = regR T fn K (aops (callR T) [
  ⟨(some 6), none, (.val (.c (.b false)))⟩] t H) := runR_reg'
def d6_23 : List AOper := [
  ⟨(some 132), none, (.val (.t 13))⟩,
  ⟨(some 133), none, (.val (.t 2))⟩,
  ⟨(some 134), none, (.val (.t 13))⟩,
  ⟨(some 135), none, (.val (.t 2))⟩,
  ⟨(some 136), none, (.call 14 [(.t 134), (.t 135)])⟩,
  ⟨(some 137), none, (.bin .add (.t 136) (.c (.i .u64 1)))⟩,
  ⟨(some 138), none, (.call 11 [(.t 132), (.t 133), (.t 137)])⟩,
  ⟨(some 17), none, (.val (.t 138))⟩]
theorem r6_23 {fn : AFun} {K : List AItem} {t : Nat → AV} {H : AH} {T : Tbl} : runR T fn (.code (.reg d6_23) :: K) t H = regR T fn K (aops (callR T) [
  ⟨(some 132), none, (.val (.t 13))⟩,
  ⟨(some 133), none, (.val (.t 2))⟩,
  ⟨(some 134), none, (.val (.t 13))⟩,
  ⟨(some 135), none, (.val (.t 2))⟩,
  ⟨(some 136), none, (.call 14 [(.t 134), (.t 135)])⟩,
  ⟨(some 137), none, (.bin .add (.t 136) (.c (.i .u64 1)))⟩,
  ⟨(some 138), none, (.call 11 [(.t 132), (.t 133), (.t 137)])⟩,
  ⟨(some 17), none, (.val (.t 138))⟩] t H) := runR_reg'
def d6_24 : List AOper := [
  ⟨(some 139), none, (.val (.t 11))⟩,
  ⟨(some 140), none, (.call 9 [(.t 139)])⟩,
  ⟨(some 18), none, (.val (.t 140))⟩]
theorem r6_24 {fn : AFun} {K : List AItem} {t : Nat → AV} {H : AH} {T : Tbl} : runR T fn (.code (.reg d6_24) :: K) t H = regR T fn K (aops (callR T) [
  ⟨(some 139), none, (.val (.t 11))⟩,
  ⟨(some 140), none, (.call 9 [(.t 139)])⟩,
  ⟨(some 18), none, (.val (.t 140))⟩] t H) := runR_reg'
def d6_25 : List AOper := [
  ⟨(some 141), none, (.val (.t 18))⟩,
  ⟨(some 142), none, (.len (.t 141))⟩,
  ⟨(some 143), none, (.val (.c (.i .i64 0)))⟩]
theorem r6_25 {fn : AFun} {K : List AItem} {t : Nat → AV} {H : AH} {T : Tbl} : runR T fn (.code (.reg d6_25) :: K) t H = regR T fn K (aops (callR T) [
  ⟨(some 141), none, (.val (.t 18))⟩,
  ⟨(some 142), none, (.len (.t 141))⟩,
  ⟨(some 143), none, (.val (.c (.i .i64 0)))⟩] t H) := runR_reg'
def d6_26 : List AOper := [
  ⟨(some 144), none, (.bin .lss (.t 143) (.t 142))⟩]
theorem r6_26 {fn : AFun} {K : List AItem} {t : Nat → AV} {H : AH} {T : Tbl} : runR T fn (.code (.reg d6_26) :: K) t H = regR T fn K (aops (callR T) [
  ⟨(some 144), none, (.bin .lss (.t 143) (.t 142))⟩] t H) := runR_reg'
def d6_27 : List AOper := [
  ⟨(some 145), none, (.val (.t 143))⟩,
  ⟨(some 19), none, (.val (.t 145))⟩]
theorem r6_27 {fn : AFun} {K : List AItem} {t : Nat → AV} {H : AH} {T : Tbl} : runR T fn (.code (.reg d6_27) :: K) t H = regR T fn K (aops (callR T) [
  ⟨(some 145), none, (.val (.t 143))⟩,
  ⟨(some 19), none, (.val (.t 145))⟩] t H) := runR_reg'
def d6_28 : List AOper := [
  ⟨(some 146), none, (.val (.t 18))⟩,
  ⟨(some 147), none, (.val (.t 19))⟩,
  ⟨(some 148), none, (.ia 1 (.t 146) (.t 147))⟩,
  ⟨(some 149), none, (.ld none (.t 148))⟩,
  ⟨(some 150), none, (.bin .add (.t 149) (.c (.i .u64 1)))⟩,
  ⟨(some 151), none, (.ia 1 (.t 146) (.t 147))⟩,
  ⟨none, none, (.st 1 (.t 151) (.t 150))⟩]
theorem r6_28 {fn : AFun} {K : List AItem} {t : Nat → AV} {H : AH} {T : Tbl} : runR T fn (.code (.reg d6_28) :: K) t H = regR T fn K (aops (callR T) [
  ⟨(some 146), none, (.val (.t 18))⟩,
  ⟨(some 147), none, (.val (.t 19))⟩,
  ⟨(some 148), none, (.ia 1 (.t 146) (.t 147))⟩,
  ⟨(some 149), none, (.ld none (.t 148))⟩,
  ⟨(some 150), none, (.bin .add (.t 149) (.c (.i .u64 1)))⟩,
  ⟨(some 151), none, (.ia 1 (.t 146) (.t 147))⟩,
  ⟨none, none, (.st 1 (.t 151) (.t 150))⟩] t H) := runR_reg'
def d6_29 : List AOper := [
  ⟨(some 152), none, (.bin .add (.t 143) (.c (.i .i64 1)))⟩,
  ⟨(some 143), none, (.val (.t 152))⟩]
theorem r6_29 {fn : AFun} {K : List AItem} {t : Nat → AV} {H : AH} {T : Tbl} : runR T fn (.code (.reg d6_29) :: K) t H = regR T fn K (aops (callR T) [
  ⟨(some 152), none, (.bin .add (.t 143) (.c (.i .i64 1)))⟩,
  ⟨(some 143), none, (.val (.t 152))⟩] t H) := runR_reg'
def l6_30 : ACode := (.seq (.reg d6_26) (.seq (.cond (.t 144) .skip (.exit 4)) (.seq (.block 5 (.seq (.reg d6_27) (.reg d6_28))) (.reg d6_29))))
def d6_31 : List (AOper × List Nat) := [
  (⟨(some 153), none, (.val (.t 11))⟩, []),
  (⟨(some 154), none, (.val (.t 13))⟩, []),
  (⟨(some 155), none, (.call 21 [(.t 153), (.t 154)])⟩, []),
  (⟨(some 156), none, (.val (.t 17))⟩, []),
  (⟨(some 157), none, (.eqb true (.t 155) (.t 156))⟩, []),
  (⟨(some 158), none, (.val (.t 157))⟩, []),
  (⟨(some 159), (some (158, true)), (.val (.t 18))⟩, []),
  (⟨(some 160), (some (158, true)), (.len (.t 159))⟩, []),
  (⟨(some 161), (some (158, true)), (.val (.t 0))⟩, []),
  (⟨(some 162), (some (158, true)), (.cvi .i64 (.t 161))⟩, []),
  (⟨(some 163), (some (158, true)), (.bin .add (.t 162) (.c (.i .i64 1)))⟩, []),
  (⟨(some 164), (some (158, true)), (.bin .eql (.t 160) (.t 163))⟩, []),
  (⟨(some 165), none, (.pick (.t 158) (.t 164) (.c (.b false)))⟩, []),
  (⟨(some 166), none, (.val (.t 165))⟩, []),
  (⟨(some 167), (some (166, true)), (.val (.t 11))⟩, []),
  (⟨(some 168), (some (166, true)), (.call 14 [(.t 167), (.c (.i .i64 0))])⟩, []),
  (⟨(some 169), (some (166, true)), (.bin .add (.t 168) (.c (.i .u64 1)))⟩, []),
  (⟨(some 170), (some (166, true)), (.val (.t 18))⟩, []),
  (⟨(some 171), (some (166, true)), (.ia 1 (.t 170) (.c (.i .i64 0)))⟩, []),
  (⟨(some 172), (some (166, true)), (.ld none (.t 171))⟩, [2]),
  (⟨(some 173), (some (166, true)), (.bin .eql (.t 169) (.t 172))⟩, []),
  (⟨(some 174), none, (.pick (.t 166) (.t 173) (.c (.b false)))⟩, []),
  (⟨(some 175), none, (.val (.t 174))⟩, []),
  (⟨(some 176), (some (175, true)), (.call 13 [])⟩, []),
  (⟨(some 177), none, (.pick (.t 175) (.t 176) (.c (.b false)))⟩, []),
  (⟨(some 6), none, (.val (.t 177))⟩, [])]
theorem r6_31 {fn : AFun} {K : List AItem} {t : Nat → AV} {H : AH} {T : Tbl} : runR T fn (.code (.drw d6_31) :: K) t H = regR T fn K (adrn (callR T) [
  (⟨(some 153), none, (.val (.t 11))⟩, []),
  (⟨(some 154), none, (.val (.t 13))⟩, []),
  (⟨(some 155), none, (.call 21 [(.t 153), (.t 154)])⟩, []),
  (⟨(some 156), none, (.val (.t 17))⟩, []),
  (⟨(some 157), none, (.eqb true (.t 155) (.t 156))⟩, []),
  (⟨(some 158), none, (.val (.t 157))⟩, []),
  (⟨(some 159), (some (158, true)), (.val (.t 18))⟩, []),
  (⟨(some 160), (some (158, true)), (.len (.t 159))⟩, []),
  (⟨(some 161), (some (158, true)), (.val (.t 0))⟩, []),
  (⟨(some 162), (some (158, true)), (.cvi .i64 (.t 161))⟩, []),
  (⟨(some 163), (some (158, true)), (.bin .add (.t 162) (.c (.i .i64 1)))⟩, []),
  (⟨(some 164), (some (158, true)), (.bin .eql (.t 160) (.t 163))⟩, []),
  (⟨(some 165), none, (.pick (.t 158) (.t 164) (.c (.b false)))⟩, []),
  (⟨(some 166), none, (.val (.t 165))⟩, []),
  (⟨(some 167), (some (166, true)), (.val (.t 11))⟩, []),
  (⟨(some 168), (some (166, true)), (.call 14 [(.t 167), (.c (.i .i64 0))])⟩, []),
  (⟨(some 169), (some (166, true)), (.bin .add (.t 168) (.c (.i .u64 1)))⟩, []),
  (⟨(some 170), (some (166, true)), (.val (.t 18))⟩, []),
  (⟨(some 171), (some (166, true)), (.ia 1 (.t 170) (.c (.i .i64 0)))⟩, []),
  (⟨(some 172), (some (166, true)), (.ld none (.t 171))⟩, [2]),
  (⟨(some 173), (some (166, true)), (.bin .eql (.t 169) (.t 172))⟩, []),
  (⟨(some 174), none, (.pick (.t 166) (.t 173) (.c (.b false)))⟩, []),
  (⟨(some 175), none, (.val (.t 174))⟩, []),
  (⟨(some 176), (some (175, true)), (.call 13 [])⟩, []),
  (⟨(some 177), none, (.pick (.t 175) (.t 176) (.c (.b false)))⟩, []),
  (⟨(some 6), none, (.val (.t 177))⟩, [])] t H [H]) := runR_free rfl
def a6 : AFun := ⟨178, [(.tmp 6)], (.seq (.reg d6_0) (.seq (.seq (.reg d6_1) (.block 0 (.loop l6_8))) (.seq (.reg d6_9) (.seq (.reg d6_10) (.seq (.seq (.reg d6_11) (.cond (.t 97) (.seq (.reg d6_12) .ret) .skip)) (.seq (.seq (.reg d6_13) (.block 2 (.loop l6_20))) (.seq (.seq (.reg d6_21) (.cond (.t 131) (.seq (.reg d6_22) .ret) .skip)) (.seq (.reg d6_23) (.seq (.reg d6_24) (.seq (.seq (.reg d6_25) (.block 4 (.loop l6_30))) (.seq (.drw d6_31) .ret)))))))))))⟩
theorem a6_ok : cfun Try.prog 6 = some a6 := by kernel_rfl
/-- futtock/cell.New -/
def d7_0 : List AOper := [
  ⟨(some 2), none, (.val (.c (.p none)))⟩,
  ⟨(some 3), none, (.val (.c (.i .i64 0)))⟩]
theorem r7_0 {fn : AFun} {K : List AItem} {t : Nat → AV} {H : AH} {T : Tbl} : runR T fn (.code (.reg d7_0) :: K) t H = regR T fn K (aops (callR T) [
  ⟨(some 2), none, (.val (.c (.p none)))⟩,
  ⟨(some 3), none, (.val (.c (.i .i64 0)))⟩] t H) := runR_reg'
def d7_1 : List AOper := [
  ⟨(some 4), none, (.val (.t 0))⟩,
  ⟨(some 5), none, (.bin .lss (.t 4) (.c (.i .i64 1)))⟩,
  ⟨(some 6), none, (.val (.t 5))⟩,
  ⟨(some 7), (some (6, false)), (.val (.t 0))⟩,
  ⟨(some 8), (some (6, false)), (.bin .gtr (.t 7) (.c (.i .i64 4096)))⟩,
  ⟨(some 9), none, (.pick (.t 6) (.c (.b true)) (.t 8))⟩]
theorem r7_1 {fn : AFun} {K : List AItem} {t : Nat → AV} {H : AH} {T : Tbl} : runR T fn (.code (.reg d7_1) :: K) t H = regR T fn K (aops (callR T) [
  ⟨(some 4), none, (.val (.t 0))⟩,
  ⟨(some 5), none, (.bin .lss (.t 4) (.c (.i .i64 1)))⟩,
  ⟨(some 6), none, (.val (.t 5))⟩,
  ⟨(some 7), (some (6, false)), (.val (.t 0))⟩,
  ⟨(some 8), (some (6, false)), (.bin .gtr (.t 7) (.c (.i .i64 4096)))⟩,
  ⟨(some 9), none, (.pick (.t 6) (.c (.b true)) (.t 8))⟩] t H) := runR_reg'
def d7_2 : List AOper := [
  ⟨(some 2), none, (.val (.c (.p none)))⟩,
  ⟨(some 3), none, (.val (.c (.i .i64 1)))⟩]
theorem r7_2 {fn : AFun} {K : List AItem} {t : Nat → AV} {H : AH} {T : Tbl} : runR T fn (.code (.reg d7_2) :: K) t H = regR T fn K (aops (callR T) [
  ⟨(some 2), none, (.val (.c (.p none)))⟩,
  ⟨(some 3), none, (.val (.c (.i .i64 1)))⟩] t H) := runR_reg'
def d7_3 : List AOper := [
  ⟨(some 10), none, (.val (.t 0))⟩,
  ⟨(some 11), none, (.mks [(.i .u64 0)] 8 (.t 10) (.t 10))⟩,
  ⟨(some 12), none, (.build [(.sl none 0 0 true 0), (.i .i64 0)] [(0, 1, (.t 11))])⟩,
  ⟨(some 13), none, (.box (.t 12))⟩,
  ⟨(some 2), none, (.val (.t 13))⟩,
  ⟨(some 3), none, (.val (.c (.i .i64 0)))⟩]
theorem r7_3 {fn : AFun} {K : List AItem} {t : Nat → AV} {H : AH} {T : Tbl} : runR T fn (.code (.reg d7_3) :: K) t H = regR T fn K (aops (callR T) [
  ⟨(some 10), none, (.val (.t 0))⟩,
  ⟨(some 11), none, (.mks [(.i .u64 0)] 8 (.t 10) (.t 10))⟩,
  ⟨(some 12), none, (.build [(.sl none 0 0 true 0), (.i .i64 0)] [(0, 1, (.t 11))])⟩,
  ⟨(some 13), none, (.box (.t 12))⟩,
  ⟨(some 2), none, (.val (.t 13))⟩,
  ⟨(some 3), none, (.val (.c (.i .i64 0)))⟩] t H) := runR_reg'
def a7 : AFun := ⟨14, [(.tmp 2), (.tmp 3)], (.seq (.reg d7_0) (.seq (.seq (.reg d7_1) (.cond (.t 9) (.seq (.reg d7_2) .ret) .skip)) (.seq (.reg d7_3) .ret)))⟩
theorem a7_ok : cfun Try.prog 7 = some a7 := by kernel_rfl
/-- futtock/futtocklaw03.short -/
def d8_0 : List AOper := [
  ⟨(some 2), none, (.val (.c (.sl none 0 0 true 0)))⟩]
theorem r8_0 {fn : AFun} {K : List AItem} {t : Nat → AV} {H : AH} {T : Tbl} : runR T fn (.code (.reg d8_0) :: K) t H = regR T fn K (aops (callR T) [
  ⟨(some 2), none, (.val (.c (.sl none 0 0 true 0)))⟩] t H) := runR_reg'
def d8_1 : List AOper := [
  ⟨(some 3), none, (.val (.t 0))⟩,
  ⟨(some 4), none, (.val (.t 0))⟩,
  ⟨(some 5), none, (.len (.t 4))⟩,
  ⟨(some 6), none, (.mm false [(.t 5), (.c (.i .i64 200))])⟩,
  ⟨(some 7), none, (.sls 4 (.t 3) none (some (.t 6)) none)⟩,
  ⟨(some 2), none, (.val (.t 7))⟩]
theorem r8_1 {fn : AFun} {K : List AItem} {t : Nat → AV} {H : AH} {T : Tbl} : runR T fn (.code (.reg d8_1) :: K) t H = regR T fn K (aops (callR T) [
  ⟨(some 3), none, (.val (.t 0))⟩,
  ⟨(some 4), none, (.val (.t 0))⟩,
  ⟨(some 5), none, (.len (.t 4))⟩,
  ⟨(some 6), none, (.mm false [(.t 5), (.c (.i .i64 200))])⟩,
  ⟨(some 7), none, (.sls 4 (.t 3) none (some (.t 6)) none)⟩,
  ⟨(some 2), none, (.val (.t 7))⟩] t H) := runR_reg'
def a8 : AFun := ⟨8, [(.tmp 2)], (.seq (.reg d8_0) (.seq (.reg d8_1) .ret))⟩
theorem a8_ok : cfun Try.prog 8 = some a8 := by kernel_rfl
/-- (*futtock/cell.Memory).All -/
def d9_0 : List AOper := [
  ⟨(some 2), none, (.val (.c (.sl none 0 0 true 0)))⟩]
theorem r9_0 {fn : AFun} {K : List AItem} {t : Nat → AV} {H : AH} {T : Tbl} : runR T fn (.code (.reg d9_0) :: K) t H = regR T fn K (aops (callR T) [
  ⟨(some 2), none, (.val (.c (.sl none 0 0 true 0)))⟩] t H) := runR_reg'
def d9_1 : List AOper := [
  ⟨(some 4), none, (.val (.t 0))⟩,
  ⟨(some 5), none, (.eqn 0 false (.t 4) (.c (.p none)))⟩]
theorem r9_1 {fn : AFun} {K : List AItem} {t : Nat → AV} {H : AH} {T : Tbl} : runR T fn (.code (.reg d9_1) :: K) t H = regR T fn K (aops (callR T) [
  ⟨(some 4), none, (.val (.t 0))⟩,
  ⟨(some 5), none, (.eqn 0 false (.t 4) (.c (.p none)))⟩] t H) := runR_reg'
def d9_2 : List AOper := [
  ⟨(some 2), none, (.val (.c (.sl none 0 0 true 0)))⟩]
theorem r9_2 {fn : AFun} {K : List AItem} {t : Nat → AV} {H : AH} {T : Tbl} : runR T fn (.code (.reg d9_2) :: K) t H = regR T fn K (aops (callR T) [
  ⟨(some 2), none, (.val (.c (.sl none 0 0 true 0)))⟩] t H) := runR_reg'
def d9_3 : List AOper := [
  ⟨(some 6), none, (.val (.t 0))⟩,
  ⟨(some 7), none, (.nilc (.t 6))⟩,
  ⟨(some 8), none, (.fa 0 (.t 7))⟩,
  ⟨(some 9), none, (.ld none (.t 8))⟩,
  ⟨(some 10), none, (.len (.t 9))⟩,
  ⟨(some 11), none, (.mks [(.i .u64 0)] 8 (.t 10) (.t 10))⟩,
  ⟨(some 3), none, (.val (.t 11))⟩]
theorem r9_3 {fn : AFun} {K : List AItem} {t : Nat → AV} {H : AH} {T : Tbl} : runR T fn (.code (.reg d9_3) :: K) t H = regR T fn K (aops (callR T) [
  ⟨(some 6), none, (.val (.t 0))⟩,
  ⟨(some 7), none, (.nilc (.t 6))⟩,
  ⟨(some 8), none, (.fa 0 (.t 7))⟩,
  ⟨(some 9), none, (.ld none (.t 8))⟩,
  ⟨(some 10), none, (.len (.t 9))⟩,
  ⟨(some 11), none, (.mks [(.i .u64 0)] 8 (.t 10) (.t 10))⟩,
  ⟨(some 3), none, (.val (.t 11))⟩] t H) := runR_reg'
def d9_4 : List AOper := [
  ⟨(some 12), none, (.val (.t 3))⟩,
  ⟨(some 13), none, (.val (.t 0))⟩,
  ⟨(some 14), none, (.nilc (.t 13))⟩,
  ⟨(some 15), none, (.fa 0 (.t 14))⟩,
  ⟨(some 16), none, (.ld none (.t 15))⟩,
  ⟨(some 17), none, (.cpy 1 (.t 12) (.t 16))⟩]
theorem r9_4 {fn : AFun} {K : List AItem} {t : Nat → AV} {H : AH} {T : Tbl} : runR T fn (.code (.reg d9_4) :: K) t H = regR T fn K (aops (callR T) [
  ⟨(some 12), none, (.val (.t 3))⟩,
  ⟨(some 13), none, (.val (.t 0))⟩,
  ⟨(some 14), none, (.nilc (.t 13))⟩,
  ⟨(some 15), none, (.fa 0 (.t 14))⟩,
  ⟨(some 16), none, (.ld none (.t 15))⟩,
  ⟨(some 17), none, (.cpy 1 (.t 12) (.t 16))⟩] t H) := runR_reg'
def d9_5 : List AOper := [
  ⟨(some 18), none, (.val (.t 3))⟩,
  ⟨(some 2), none, (.val (.t 18))⟩]
theorem r9_5 {fn : AFun} {K : List AItem} {t : Nat → AV} {H : AH} {T : Tbl} : runR T fn (.code (.reg d9_5) :: K) t H = regR T fn K (aops (callR T) [
  ⟨(some 18), none, (.val (.t 3))⟩,
  ⟨(some 2), none, (.val (.t 18))⟩] t H) := runR_reg'
def a9 : AFun := ⟨19, [(.tmp 2)], (.seq (.reg d9_0) (.seq (.seq (.reg d9_1) (.cond (.t 5) (.seq (.reg d9_2) .ret) .skip)) (.seq (.reg d9_3) (.seq (.reg d9_4) (.seq (.reg d9_5) .ret)))))⟩
theorem a9_ok : cfun Try.prog 9 = some a9 := by kernel_rfl
/-- (*futtock/cell.Memory).CAS -/
def d10_0 : List AOper := [
  ⟨(some 8), none, (.val (.c (.i .u64 0)))⟩,
  ⟨(some 9), none, (.val (.c (.b false)))⟩]
theorem r10_0 {fn : AFun} {K : List AItem} {t : Nat → AV} {H : AH} {T : Tbl} : runR T fn (.code (.reg d10_0) :: K) t H = regR T fn K (aops (callR T) [
  ⟨(some 8), none, (.val (.c (.i .u64 0)))⟩,
  ⟨(some 9), none, (.val (.c (.b false)))⟩] t H) := runR_reg'
def d10_1 : List AOper := [
  ⟨(some 12), none, (.val (.t 0))⟩,
  ⟨(some 13), none, (.val (.t 1))⟩,
  ⟨(some 14), none, (.call 22 [(.t 12), (.t 13)])⟩,
  ⟨(some 10), none, (.val (.t 14))⟩]
theorem r10_1 {fn : AFun} {K : List AItem} {t : Nat → AV} {H : AH} {T : Tbl} : runR T fn (.code (.reg d10_1) :: K) t H = regR T fn K (aops (callR T) [
  ⟨(some 12), none, (.val (.t 0))⟩,
  ⟨(some 13), none, (.val (.t 1))⟩,
  ⟨(some 14), none, (.call 22 [(.t 12), (.t 13)])⟩,
  ⟨(some 10), none, (.val (.t 14))⟩] t H) := runR_reg'
def d10_2 : List AOper := [
  ⟨(some 15), none, (.val (.t 10))⟩,
  ⟨(some 16), none, (.eqn 0 false (.t 15) (.c (.p none)))⟩]
theorem r10_2 {fn : AFun} {K : List AItem} {t : Nat → AV} {H : AH} {T : Tbl} : runR T fn (.code (.reg d10_2) :: K) t H = regR T fn K (aops (callR T) [
  ⟨(some 15), none, (.val (.t 10))⟩,
  ⟨(some 16), none, (.eqn 0 false (.t 15) (.c (.p none)))⟩] t H) := runR_reg'
def d10_3 : List AOper := [
  ⟨(some 8), none, (.val (.c (.i .u64 0)))⟩,
  ⟨(some 9), none, (.val (.c (.b false)))⟩]
theorem r10_3 {fn : AFun} {K : List AItem} {t : Nat → AV} {H : AH} {T : Tbl} : runR T fn (.code (.reg d10_3) :: K) t H = regR T fn K (aops (callR T) [
  ⟨(some 8), none, (.val (.c (.i .u64 0)))⟩,
  ⟨(some 9), none, (.val (.c (.b false)))⟩] t H) := runR_reg'
def d10_4 : List AOper := [
  ⟨(some 17), none, (.val (.t 10))⟩,
  ⟨(some 18), none, (.nilc (.t 17))⟩,
  ⟨(some 19), none, (.ld none (.t 18))⟩,
  ⟨(some 11), none, (.val (.t 19))⟩]
theorem r10_4 {fn : AFun} {K : List AItem} {t : Nat → AV} {H : AH} {T : Tbl} : runR T fn (.code (.reg d10_4) :: K) t H = regR T fn K (aops (callR T) [
  ⟨(some 17), none, (.val (.t 10))⟩,
  ⟨(some 18), none, (.nilc (.t 17))⟩,
  ⟨(some 19), none, (.ld none (.t 18))⟩,
  ⟨(some 11), none, (.val (.t 19))⟩] t H) := runR_reg'
def d10_5 : List AOper := [
  ⟨(some 20), none, (.val (.t 11))⟩,
  ⟨(some 21), none, (.val (.t 2))⟩,
  ⟨(some 22), none, (.bin .eql (.t 20) (.t 21))⟩]
theorem r10_5 {fn : AFun} {K : List AItem} {t : Nat → AV} {H : AH} {T : Tbl} : runR T fn (.code (.reg d10_5) :: K) t H = regR T fn K (aops (callR T) [
  ⟨(some 20), none, (.val (.t 11))⟩,
  ⟨(some 21), none, (.val (.t 2))⟩,
  ⟨(some 22), none, (.bin .eql (.t 20) (.t 21))⟩] t H) := runR_reg'
def d10_6 : List AOper := [
  ⟨(some 23), none, (.val (.t 10))⟩,
  ⟨(some 24), none, (.val (.t 3))⟩,
  ⟨(some 25), none, (.nilc (.t 23))⟩,
  ⟨none, none, (.st 1 (.t 25) (.t 24))⟩]
theorem r10_6 {fn : AFun} {K : List AItem} {t : Nat → AV} {H : AH} {T : Tbl} : runR T fn (.code (.reg d10_6) :: K) t H = regR T fn K (aops (callR T) [
  ⟨(some 23), none, (.val (.t 10))⟩,
  ⟨(some 24), none, (.val (.t 3))⟩,
  ⟨(some 25), none, (.nilc (.t 23))⟩,
  ⟨none, none, (.st 1 (.t 25) (.t 24))⟩] t H) := runR_reg'
def d10_7 : List AOper := [
  ⟨(some 26), none, (.val (.t 11))⟩,
  ⟨(some 27), none, (.val (.t 11))⟩,
  ⟨(some 28), none, (.val (.t 2))⟩,
  ⟨(some 29), none, (.bin .eql (.t 27) (.t 28))⟩,
  ⟨(some 8), none, (.val (.t 26))⟩,
  ⟨(some 9), none, (.val (.t 29))⟩]
theorem r10_7 {fn : AFun} {K : List AItem} {t : Nat → AV} {H : AH} {T : Tbl} : runR T fn (.code (.reg d10_7) :: K) t H = regR T fn K (aops (callR T) [
  ⟨(some 26), none, (.val (.t 11))⟩,
  ⟨(some 27), none, (.val (.t 11))⟩,
  ⟨(some 28), none, (.val (.t 2))⟩,
  ⟨(some 29), none, (.bin .eql (.t 27) (.t 28))⟩,
  ⟨(some 8), none, (.val (.t 26))⟩,
  ⟨(some 9), none, (.val (.t 29))⟩] t H) := runR_reg'
def a10 : AFun := ⟨30, [(.tmp 8), (.tmp 9)], (.seq (.reg d10_0) (.seq (.reg d10_1) (.seq (.seq (.reg d10_2) (.cond (.t 16) (.seq (.reg d10_3) .ret) .skip)) (.seq (.reg d10_4) (.seq (.seq (.reg d10_5) (.cond (.t 22) (.reg d10_6) .skip)) (.seq (.reg d10_7) .ret))))))⟩
theorem a10_ok : cfun Try.prog 10 = some a10 := by kernel_rfl
/-- (*futtock/cell.Memory).Store -/
def d11_0 : List AOper := [
  ⟨(some 6), none, (.val (.c (.b false)))⟩]
theorem r11_0 {fn : AFun} {K : List AItem} {t : Nat → AV} {H : AH} {T : Tbl} : runR T fn (.code (.reg d11_0) :: K) t H = regR T fn K (aops (callR T) [
  ⟨(some 6), none, (.val (.c (.b false)))⟩] t H) := runR_reg'
def d11_1 : List AOper := [
  ⟨(some 8), none, (.val (.t 0))⟩,
  ⟨(some 9), none, (.val (.t 1))⟩,
  ⟨(some 10), none, (.call 22 [(.t 8), (.t 9)])⟩,
  ⟨(some 7), none, (.val (.t 10))⟩]
theorem r11_1 {fn : AFun} {K : List AItem} {t : Nat → AV} {H : AH} {T : Tbl} : runR T fn (.code (.reg d11_1) :: K) t H = regR T fn K (aops (callR T) [
  ⟨(some 8), none, (.val (.t 0))⟩,
  ⟨(some 9), none, (.val (.t 1))⟩,
  ⟨(some 10), none, (.call 22 [(.t 8), (.t 9)])⟩,
  ⟨(some 7), none, (.val (.t 10))⟩] t H) := runR_reg'
def d11_2 : List AOper := [
  ⟨(some 11), none, (.val (.t 7))⟩,
  ⟨(some 12), none, (.eqn 0 false (.t 11) (.c (.p none)))⟩]
theorem r11_2 {fn : AFun} {K : List AItem} {t : Nat → AV} {H : AH} {T : Tbl} : runR T fn (.code (.reg d11_2) :: K) t H = regR T fn K (aops (callR T) [
  ⟨(some 11), none, (.val (.t 7))⟩,
  ⟨(some 12), none, (.eqn 0 false (.t 11) (.c (.p none)))⟩] t H) := runR_reg'
def d11_3 : List AOper := [
  ⟨(some 6), none, (.val (.c (.b false)))⟩]
theorem r11_3 {fn : AFun} {K : List AItem} {t : Nat → AV} {H : AH} {T : Tbl} : runR T fn (.code (.reg d11_3) :: K) t H = regR T fn K (aops (callR T) [
  ⟨(some 6), none, (.val (.c (.b false)))⟩] t H) := runR_reg'
def d11_4 : List AOper := [
  ⟨(some 13), none, (.val (.t 7))⟩,
  ⟨(some 14), none, (.val (.t 2))⟩,
  ⟨(some 15), none, (.nilc (.t 13))⟩,
  ⟨none, none, (.st 1 (.t 15) (.t 14))⟩]
theorem r11_4 {fn : AFun} {K : List AItem} {t : Nat → AV} {H : AH} {T : Tbl} : runR T fn (.code (.reg d11_4) :: K) t H = regR T fn K (aops (callR T) [
  ⟨(some 13), none, (.val (.t 7))⟩,
  ⟨(some 14), none, (.val (.t 2))⟩,
  ⟨(some 15), none, (.nilc (.t 13))⟩,
  ⟨none, none, (.st 1 (.t 15) (.t 14))⟩] t H) := runR_reg'
def d11_5 : List AOper := [
  ⟨(some 6), none, (.val (.c (.b true)))⟩]
theorem r11_5 {fn : AFun} {K : List AItem} {t : Nat → AV} {H : AH} {T : Tbl} : runR T fn (.code (.reg d11_5) :: K) t H = regR T fn K (aops (callR T) [
  ⟨(some 6), none, (.val (.c (.b true)))⟩] t H) := runR_reg'
def a11 : AFun := ⟨16, [(.tmp 6)], (.seq (.reg d11_0) (.seq (.reg d11_1) (.seq (.seq (.reg d11_2) (.cond (.t 12) (.seq (.reg d11_3) .ret) .skip)) (.seq (.reg d11_4) (.seq (.reg d11_5) .ret)))))⟩
theorem a11_ok : cfun Try.prog 11 = some a11 := by kernel_rfl
/-- (*futtock/cell.Memory).Load -/
def d12_0 : List AOper := [
  ⟨(some 4), none, (.val (.c (.i .u64 0)))⟩]
theorem r12_0 {fn : AFun} {K : List AItem} {t : Nat → AV} {H : AH} {T : Tbl} : runR T fn (.code (.reg d12_0) :: K) t H = regR T fn K (aops (callR T) [
  ⟨(some 4), none, (.val (.c (.i .u64 0)))⟩] t H) := runR_reg'
def d12_1 : List AOper := [
  ⟨(some 6), none, (.val (.t 0))⟩,
  ⟨(some 7), none, (.val (.t 1))⟩,
  ⟨(some 8), none, (.call 22 [(.t 6), (.t 7)])⟩,
  ⟨(some 5), none, (.val (.t 8))⟩]
theorem r12_1 {fn : AFun} {K : List AItem} {t : Nat → AV} {H : AH} {T : Tbl} : runR T fn (.code (.reg d12_1) :: K) t H = regR T fn K (aops (callR T) [
  ⟨(some 6), none, (.val (.t 0))⟩,
  ⟨(some 7), none, (.val (.t 1))⟩,
  ⟨(some 8), none, (.call 22 [(.t 6), (.t 7)])⟩,
  ⟨(some 5), none, (.val (.t 8))⟩] t H) := runR_reg'
def d12_2 : List AOper := [
  ⟨(some 9), none, (.val (.t 5))⟩,
  ⟨(some 10), none, (.eqn 0 false (.t 9) (.c (.p none)))⟩]
theorem r12_2 {fn : AFun} {K : List AItem} {t : Nat → AV} {H : AH} {T : Tbl} : runR T fn (.code (.reg d12_2) :: K) t H = regR T fn K (aops (callR T) [
  ⟨(some 9), none, (.val (.t 5))⟩,
  ⟨(some 10), none, (.eqn 0 false (.t 9) (.c (.p none)))⟩] t H) := runR_reg'
def d12_3 : List AOper := [
  ⟨(some 4), none, (.val (.c (.i .u64 0)))⟩]
theorem r12_3 {fn : AFun} {K : List AItem} {t : Nat → AV} {H : AH} {T : Tbl} : runR T fn (.code (.reg d12_3) :: K) t H = regR T fn K (aops (callR T) [
  ⟨(some 4), none, (.val (.c (.i .u64 0)))⟩] t H) := runR_reg'
def d12_4 : List AOper := [
  ⟨(some 11), none, (.val (.t 5))⟩,
  ⟨(some 12), none, (.nilc (.t 11))⟩,
  ⟨(some 13), none, (.ld none (.t 12))⟩,
  ⟨(some 4), none, (.val (.t 13))⟩]
theorem r12_4 {fn : AFun} {K : List AItem} {t : Nat → AV} {H : AH} {T : Tbl} : runR T fn (.code (.reg d12_4) :: K) t H = regR T fn K (aops (callR T) [
  ⟨(some 11), none, (.val (.t 5))⟩,
  ⟨(some 12), none, (.nilc (.t 11))⟩,
  ⟨(some 13), none, (.ld none (.t 12))⟩,
  ⟨(some 4), none, (.val (.t 13))⟩] t H) := runR_reg'
def a12 : AFun := ⟨14, [(.tmp 4)], (.seq (.reg d12_0) (.seq (.reg d12_1) (.seq (.seq (.reg d12_2) (.cond (.t 10) (.seq (.reg d12_3) .ret) .skip)) (.seq (.reg d12_4) .ret))))⟩
theorem a12_ok : cfun Try.prog 12 = some a12 := by kernel_rfl
/-- futtock/futtocklaw03.alive -/
def d13_0 : List AOper := [
  ⟨(some 0), none, (.val (.c (.b false)))⟩]
theorem r13_0 {fn : AFun} {K : List AItem} {t : Nat → AV} {H : AH} {T : Tbl} : runR T fn (.code (.reg d13_0) :: K) t H = regR T fn K (aops (callR T) [
  ⟨(some 0), none, (.val (.c (.b false)))⟩] t H) := runR_reg'
def d13_1 : List AOper := [
  ⟨(some 8), none, (.call 7 [(.c (.i .i64 2))])⟩,
  ⟨(some 7), none, (.val (.t 8))⟩,
  ⟨(some 9), none, (.ext (.t 7) 0)⟩,
  ⟨(some 10), none, (.ext (.t 7) 1)⟩,
  ⟨(some 1), none, (.val (.t 9))⟩,
  ⟨(some 2), none, (.val (.t 10))⟩]
theorem r13_1 {fn : AFun} {K : List AItem} {t : Nat → AV} {H : AH} {T : Tbl} : runR T fn (.code (.reg d13_1) :: K) t H = regR T fn K (aops (callR T) [
  ⟨(some 8), none, (.call 7 [(.c (.i .i64 2))])⟩,
  ⟨(some 7), none, (.val (.t 8))⟩,
  ⟨(some 9), none, (.ext (.t 7) 0)⟩,
  ⟨(some 10), none, (.ext (.t 7) 1)⟩,
  ⟨(some 1), none, (.val (.t 9))⟩,
  ⟨(some 2), none, (.val (.t 10))⟩] t H) := runR_reg'
def d13_2 : List AOper := [
  ⟨(some 11), none, (.val (.t 1))⟩,
  ⟨(some 12), none, (.eqn 0 false (.t 11) (.c (.p none)))⟩,
  ⟨(some 13), none, (.val (.t 12))⟩,
  ⟨(some 14), (some (13, false)), (.val (.t 2))⟩,
  ⟨(some 15), (some (13, false)), (.bin .neq (.t 14) (.c (.i .i64 0)))⟩,
  ⟨(some 16), none, (.pick (.t 13) (.c (.b true)) (.t 15))⟩]
theorem r13_2 {fn : AFun} {K : List AItem} {t : Nat → AV} {H : AH} {T : Tbl} : runR T fn (.code (.reg d13_2) :: K) t H = regR T fn K (aops (callR T) [
  ⟨(some 11), none, (.val (.t 1))⟩,
  ⟨(some 12), none, (.eqn 0 false (.t 11) (.c (.p none)))⟩,
  ⟨(some 13), none, (.val (.t 12))⟩,
  ⟨(some 14), (some (13, false)), (.val (.t 2))⟩,
  ⟨(some 15), (some (13, false)), (.bin .neq (.t 14) (.c (.i .i64 0)))⟩,
  ⟨(some 16), none, (.pick (.t 13) (.c (.b true)) (.t 15))⟩] t H) := runR_reg'
def d13_3 : List AOper := [
  ⟨(some 0), none, (.val (.c (.b false)))⟩]
theorem r13_3 {fn : AFun} {K : List AItem} {t : Nat → AV} {H : AH} {T : Tbl} : runR T fn (.code (.reg d13_3) :: K) t H = regR T fn K (aops (callR T) [
  ⟨(some 0), none, (.val (.c (.b false)))⟩] t H) := runR_reg'
def d13_4 : List AOper := [
  ⟨(some 18), none, (.val (.t 1))⟩,
  ⟨(some 19), none, (.call 10 [(.t 18), (.c (.i .i64 0)), (.c (.i .u64 0)), (.c (.i .u64 5))])⟩,
  ⟨(some 17), none, (.val (.t 19))⟩,
  ⟨(some 20), none, (.ext (.t 17) 0)⟩,
  ⟨(some 21), none, (.ext (.t 17) 1)⟩,
  ⟨(some 3), none, (.val (.t 20))⟩,
  ⟨(some 4), none, (.val (.t 21))⟩]
theorem r13_4 {fn : AFun} {K : List AItem} {t : Nat → AV} {H : AH} {T : Tbl} : runR T fn (.code (.reg d13_4) :: K) t H = regR T fn K (aops (callR T) [
  ⟨(some 18), none, (.val (.t 1))⟩,
  ⟨(some 19), none, (.call 10 [(.t 18), (.c (.i .i64 0)), (.c (.i .u64 0)), (.c (.i .u64 5))])⟩,
  ⟨(some 17), none, (.val (.t 19))⟩,
  ⟨(some 20), none, (.ext (.t 17) 0)⟩,
  ⟨(some 21), none, (.ext (.t 17) 1)⟩,
  ⟨(some 3), none, (.val (.t 20))⟩,
  ⟨(some 4), none, (.val (.t 21))⟩] t H) := runR_reg'
def d13_5 : List AOper := [
  ⟨(some 23), none, (.val (.t 1))⟩,
  ⟨(some 24), none, (.call 10 [(.t 23), (.c (.i .i64 0)), (.c (.i .u64 0)), (.c (.i .u64 6))])⟩,
  ⟨(some 22), none, (.val (.t 24))⟩,
  ⟨(some 25), none, (.ext (.t 22) 0)⟩,
  ⟨(some 26), none, (.ext (.t 22) 1)⟩,
  ⟨(some 5), none, (.val (.t 25))⟩,
  ⟨(some 6), none, (.val (.t 26))⟩]
theorem r13_5 {fn : AFun} {K : List AItem} {t : Nat → AV} {H : AH} {T : Tbl} : runR T fn (.code (.reg d13_5) :: K) t H = regR T fn K (aops (callR T) [
  ⟨(some 23), none, (.val (.t 1))⟩,
  ⟨(some 24), none, (.call 10 [(.t 23), (.c (.i .i64 0)), (.c (.i .u64 0)), (.c (.i .u64 6))])⟩,
  ⟨(some 22), none, (.val (.t 24))⟩,
  ⟨(some 25), none, (.ext (.t 22) 0)⟩,
  ⟨(some 26), none, (.ext (.t 22) 1)⟩,
  ⟨(some 5), none, (.val (.t 25))⟩,
  ⟨(some 6), none, (.val (.t 26))⟩] t H) := runR_reg'
def d13_6 : List AOper := [
  ⟨(some 27), none, (.val (.t 3))⟩,
  ⟨(some 28), none, (.bin .eql (.t 27) (.c (.i .u64 0)))⟩,
  ⟨(some 29), none, (.val (.t 28))⟩,
  ⟨(some 30), (some (29, true)), (.val (.t 4))⟩,
  ⟨(some 31), none, (.pick (.t 29) (.t 30) (.c (.b false)))⟩,
  ⟨(some 32), none, (.val (.t 31))⟩,
  ⟨(some 33), (some (32, true)), (.val (.t 5))⟩,
  ⟨(some 34), (some (32, true)), (.bin .eql (.t 33) (.c (.i .u64 5)))⟩,
  ⟨(some 35), none, (.pick (.t 32) (.t 34) (.c (.b false)))⟩,
  ⟨(some 36), none, (.val (.t 35))⟩,
  ⟨(some 37), (some (36, true)), (.val (.t 6))⟩,
  ⟨(some 38), (some (36, true)), (.un .not (.t 37))⟩,
  ⟨(some 39), none, (.pick (.t 36) (.t 38) (.c (.b false)))⟩,
  ⟨(some 40), none, (.val (.t 39))⟩,
  ⟨(some 41), (some (40, true)), (.val (.t 1))⟩,
  ⟨(some 42), (some (40, true)), (.call 12 [(.t 41), (.c (.i .i64 0))])⟩,
  ⟨(some 43), (some (40, true)), (.bin .eql (.t 42) (.c (.i .u64 5)))⟩,
  ⟨(some 44), none, (.pick (.t 40) (.t 43) (.c (.b false)))⟩,
  ⟨(some 45), none, (.val (.t 44))⟩,
  ⟨(some 46), (some (45, true)), (.val (.t 1))⟩,
  ⟨(some 47), (some (45, true)), (.call 15 [(.t 46)])⟩,
  ⟨(some 48), (some (45, true)), (.bin .eql (.t 47) (.c (.i .i64 3)))⟩,
  ⟨(some 49), none, (.pick (.t 45) (.t 48) (.c (.b false)))⟩,
  ⟨(some 0), none, (.val (.t 49))⟩]
theorem r13_6 {fn : AFun} {K : List AItem} {t : Nat → AV} {H : AH} {T : Tbl} : runR T fn (.code (.reg d13_6) :: K) t H = regR T fn K (aops (callR T) [
  ⟨(some 27), none, (.val (.t 3))⟩,
  ⟨(some 28), none, (.bin .eql (.t 27) (.c (.i .u64 0)))⟩,
  ⟨(some 29), none, (.val (.t 28))⟩,
  ⟨(some 30), (some (29, true)), (.val (.t 4))⟩,
  ⟨(some 31), none, (.pick (.t 29) (.t 30) (.c (.b false)))⟩,
  ⟨(some 32), none, (.val (.t 31))⟩,
  ⟨(some 33), (some (32, true)), (.val (.t 5))⟩,
  ⟨(some 34), (some (32, true)), (.bin .eql (.t 33) (.c (.i .u64 5)))⟩,
  ⟨(some 35), none, (.pick (.t 32) (.t 34) (.c (.b false)))⟩,
  ⟨(some 36), none, (.val (.t 35))⟩,
  ⟨(some 37), (some (36, true)), (.val (.t 6))⟩,
  ⟨(some 38), (some (36, true)), (.un .not (.t 37))⟩,
  ⟨(some 39), none, (.pick (.t 36) (.t 38) (.c (.b false)))⟩,
  ⟨(some 40), none, (.val (.t 39))⟩,
  ⟨(some 41), (some (40, true)), (.val (.t 1))⟩,
  ⟨(some 42), (some (40, true)), (.call 12 [(.t 41), (.c (.i .i64 0))])⟩,
  ⟨(some 43), (some (40, true)), (.bin .eql (.t 42) (.c (.i .u64 5)))⟩,
  ⟨(some 44), none, (.pick (.t 40) (.t 43) (.c (.b false)))⟩,
  ⟨(some 45), none, (.val (.t 44))⟩,
  ⟨(some 46), (some (45, true)), (.val (.t 1))⟩,
  ⟨(some 47), (some (45, true)), (.call 15 [(.t 46)])⟩,
  ⟨(some 48), (some (45, true)), (.bin .eql (.t 47) (.c (.i .i64 3)))⟩,
  ⟨(some 49), none, (.pick (.t 45) (.t 48) (.c (.b false)))⟩,
  ⟨(some 0), none, (.val (.t 49))⟩] t H) := runR_reg'
def a13 : AFun := ⟨50, [(.tmp 0)], (.seq (.reg d13_0) (.seq (.reg d13_1) (.seq (.seq (.reg d13_2) (.cond (.t 16) (.seq (.reg d13_3) .ret) .skip)) (.seq (.reg d13_4) (.seq (.reg d13_5) (.seq (.reg d13_6) .ret))))))⟩
theorem a13_ok : cfun Try.prog 13 = some a13 := by kernel_rfl
/-- (*futtock/cell.Memory).Look -/
def d14_0 : List AOper := [
  ⟨(some 4), none, (.val (.c (.i .u64 0)))⟩]
theorem r14_0 {fn : AFun} {K : List AItem} {t : Nat → AV} {H : AH} {T : Tbl} : runR T fn (.code (.reg d14_0) :: K) t H = regR T fn K (aops (callR T) [
  ⟨(some 4), none, (.val (.c (.i .u64 0)))⟩] t H) := runR_reg'
def d14_1 : List AOper := [
  ⟨(some 6), none, (.val (.t 0))⟩,
  ⟨(some 7), none, (.val (.t 1))⟩,
  ⟨(some 8), none, (.call 23 [(.t 6), (.t 7)])⟩,
  ⟨(some 5), none, (.val (.t 8))⟩]
theorem r14_1 {fn : AFun} {K : List AItem} {t : Nat → AV} {H : AH} {T : Tbl} : runR T fn (.code (.reg d14_1) :: K) t H = regR T fn K (aops (callR T) [
  ⟨(some 6), none, (.val (.t 0))⟩,
  ⟨(some 7), none, (.val (.t 1))⟩,
  ⟨(some 8), none, (.call 23 [(.t 6), (.t 7)])⟩,
  ⟨(some 5), none, (.val (.t 8))⟩] t H) := runR_reg'
def d14_2 : List AOper := [
  ⟨(some 9), none, (.val (.t 5))⟩,
  ⟨(some 10), none, (.eqn 0 false (.t 9) (.c (.p none)))⟩]
theorem r14_2 {fn : AFun} {K : List AItem} {t : Nat → AV} {H : AH} {T : Tbl} : runR T fn (.code (.reg d14_2) :: K) t H = regR T fn K (aops (callR T) [
  ⟨(some 9), none, (.val (.t 5))⟩,
  ⟨(some 10), none, (.eqn 0 false (.t 9) (.c (.p none)))⟩] t H) := runR_reg'
def d14_3 : List AOper := [
  ⟨(some 4), none, (.val (.c (.i .u64 0)))⟩]
theorem r14_3 {fn : AFun} {K : List AItem} {t : Nat → AV} {H : AH} {T : Tbl} : runR T fn (.code (.reg d14_3) :: K) t H = regR T fn K (aops (callR T) [
  ⟨(some 4), none, (.val (.c (.i .u64 0)))⟩] t H) := runR_reg'
def d14_4 : List AOper := [
  ⟨(some 11), none, (.val (.t 5))⟩,
  ⟨(some 12), none, (.nilc (.t 11))⟩,
  ⟨(some 13), none, (.ld none (.t 12))⟩,
  ⟨(some 4), none, (.val (.t 13))⟩]
theorem r14_4 {fn : AFun} {K : List AItem} {t : Nat → AV} {H : AH} {T : Tbl} : runR T fn (.code (.reg d14_4) :: K) t H = regR T fn K (aops (callR T) [
  ⟨(some 11), none, (.val (.t 5))⟩,
  ⟨(some 12), none, (.nilc (.t 11))⟩,
  ⟨(some 13), none, (.ld none (.t 12))⟩,
  ⟨(some 4), none, (.val (.t 13))⟩] t H) := runR_reg'
def a14 : AFun := ⟨14, [(.tmp 4)], (.seq (.reg d14_0) (.seq (.reg d14_1) (.seq (.seq (.reg d14_2) (.cond (.t 10) (.seq (.reg d14_3) .ret) .skip)) (.seq (.reg d14_4) .ret))))⟩
theorem a14_ok : cfun Try.prog 14 = some a14 := by kernel_rfl
/-- (*futtock/cell.Memory).Count -/
def d15_0 : List AOper := [
  ⟨(some 2), none, (.val (.c (.i .i64 0)))⟩]
theorem r15_0 {fn : AFun} {K : List AItem} {t : Nat → AV} {H : AH} {T : Tbl} : runR T fn (.code (.reg d15_0) :: K) t H = regR T fn K (aops (callR T) [
  ⟨(some 2), none, (.val (.c (.i .i64 0)))⟩] t H) := runR_reg'
def d15_1 : List AOper := [
  ⟨(some 3), none, (.val (.t 0))⟩,
  ⟨(some 4), none, (.eqn 0 false (.t 3) (.c (.p none)))⟩]
theorem r15_1 {fn : AFun} {K : List AItem} {t : Nat → AV} {H : AH} {T : Tbl} : runR T fn (.code (.reg d15_1) :: K) t H = regR T fn K (aops (callR T) [
  ⟨(some 3), none, (.val (.t 0))⟩,
  ⟨(some 4), none, (.eqn 0 false (.t 3) (.c (.p none)))⟩] t H) := runR_reg'
def d15_2 : List AOper := [
  ⟨(some 2), none, (.val (.c (.i .i64 0)))⟩]
theorem r15_2 {fn : AFun} {K : List AItem} {t : Nat → AV} {H : AH} {T : Tbl} : runR T fn (.code (.reg d15_2) :: K) t H = regR T fn K (aops (callR T) [
  ⟨(some 2), none, (.val (.c (.i .i64 0)))⟩] t H) := runR_reg'
def d15_3 : List AOper := [
  ⟨(some 5), none, (.val (.t 0))⟩,
  ⟨(some 6), none, (.nilc (.t 5))⟩,
  ⟨(some 7), none, (.fa 1 (.t 6))⟩,
  ⟨(some 8), none, (.ld none (.t 7))⟩,
  ⟨(some 2), none, (.val (.t 8))⟩]
theorem r15_3 {fn : AFun} {K : List AItem} {t : Nat → AV} {H : AH} {T : Tbl} : runR T fn (.code (.reg d15_3) :: K) t H = regR T fn K (aops (callR T) [
  ⟨(some 5), none, (.val (.t 0))⟩,
  ⟨(some 6), none, (.nilc (.t 5))⟩,
  ⟨(some 7), none, (.fa 1 (.t 6))⟩,
  ⟨(some 8), none, (.ld none (.t 7))⟩,
  ⟨(some 2), none, (.val (.t 8))⟩] t H) := runR_reg'
def a15 : AFun := ⟨9, [(.tmp 2)], (.seq (.reg d15_0) (.seq (.seq (.reg d15_1) (.cond (.t 4) (.seq (.reg d15_2) .ret) .skip)) (.seq (.reg d15_3) .ret)))⟩
theorem a15_ok : cfun Try.prog 15 = some a15 := by kernel_rfl
/-- (*futtock/futtockref03.Memory).Load -/
def d16_0 : List AOper := [
  ⟨(some 4), none, (.val (.c (.i .u64 0)))⟩]
theorem r16_0 {fn : AFun} {K : List AItem} {t : Nat → AV} {H : AH} {T : Tbl} : runR T fn (.code (.reg d16_0) :: K) t H = regR T fn K (aops (callR T) [
  ⟨(some 4), none, (.val (.c (.i .u64 0)))⟩] t H) := runR_reg'
def d16_1 : List AOper := [
  ⟨(some 5), none, (.val (.t 0))⟩,
  ⟨(some 6), none, (.val (.t 1))⟩,
  ⟨(some 7), none, (.call 24 [(.t 5), (.t 6)])⟩,
  ⟨(some 8), none, (.un .not (.t 7))⟩]
theorem r16_1 {fn : AFun} {K : List AItem} {t : Nat → AV} {H : AH} {T : Tbl} : runR T fn (.code (.reg d16_1) :: K) t H = regR T fn K (aops (callR T) [
  ⟨(some 5), none, (.val (.t 0))⟩,
  ⟨(some 6), none, (.val (.t 1))⟩,
  ⟨(some 7), none, (.call 24 [(.t 5), (.t 6)])⟩,
  ⟨(some 8), none, (.un .not (.t 7))⟩] t H) := runR_reg'
def d16_2 : List AOper := [
  ⟨(some 4), none, (.val (.c (.i .u64 0)))⟩]
theorem r16_2 {fn : AFun} {K : List AItem} {t : Nat → AV} {H : AH} {T : Tbl} : runR T fn (.code (.reg d16_2) :: K) t H = regR T fn K (aops (callR T) [
  ⟨(some 4), none, (.val (.c (.i .u64 0)))⟩] t H) := runR_reg'
def d16_3 : List AOper := [
  ⟨(some 9), none, (.val (.t 0))⟩,
  ⟨(some 10), none, (.nilc (.t 9))⟩,
  ⟨(some 11), none, (.fa 2 (.t 10))⟩,
  ⟨(some 12), none, (.ld none (.t 11))⟩,
  ⟨(some 13), none, (.bin .add (.t 12) (.c (.i .i64 1)))⟩,
  ⟨(some 14), none, (.nilc (.t 9))⟩,
  ⟨(some 15), none, (.fa 2 (.t 14))⟩,
  ⟨none, none, (.st 1 (.t 15) (.t 13))⟩]
theorem r16_3 {fn : AFun} {K : List AItem} {t : Nat → AV} {H : AH} {T : Tbl} : runR T fn (.code (.reg d16_3) :: K) t H = regR T fn K (aops (callR T) [
  ⟨(some 9), none, (.val (.t 0))⟩,
  ⟨(some 10), none, (.nilc (.t 9))⟩,
  ⟨(some 11), none, (.fa 2 (.t 10))⟩,
  ⟨(some 12), none, (.ld none (.t 11))⟩,
  ⟨(some 13), none, (.bin .add (.t 12) (.c (.i .i64 1)))⟩,
  ⟨(some 14), none, (.nilc (.t 9))⟩,
  ⟨(some 15), none, (.fa 2 (.t 14))⟩,
  ⟨none, none, (.st 1 (.t 15) (.t 13))⟩] t H) := runR_reg'
def d16_4 : List AOper := [
  ⟨(some 16), none, (.val (.t 0))⟩,
  ⟨(some 17), none, (.val (.t 1))⟩,
  ⟨(some 18), none, (.call 19 [(.t 16), (.t 17)])⟩,
  ⟨(some 4), none, (.val (.t 18))⟩]
theorem r16_4 {fn : AFun} {K : List AItem} {t : Nat → AV} {H : AH} {T : Tbl} : runR T fn (.code (.reg d16_4) :: K) t H = regR T fn K (aops (callR T) [
  ⟨(some 16), none, (.val (.t 0))⟩,
  ⟨(some 17), none, (.val (.t 1))⟩,
  ⟨(some 18), none, (.call 19 [(.t 16), (.t 17)])⟩,
  ⟨(some 4), none, (.val (.t 18))⟩] t H) := runR_reg'
def a16 : AFun := ⟨19, [(.tmp 4)], (.seq (.reg d16_0) (.seq (.seq (.reg d16_1) (.cond (.t 8) (.seq (.reg d16_2) .ret) .skip)) (.seq (.reg d16_3) (.seq (.reg d16_4) .ret))))⟩
theorem a16_ok : cfun Try.prog 16 = some a16 := by kernel_rfl
/-- (*futtock/futtockref03.Memory).Store -/
def d17_0 : List AOper := [
  ⟨(some 6), none, (.val (.c (.b false)))⟩]
theorem r17_0 {fn : AFun} {K : List AItem} {t : Nat → AV} {H : AH} {T : Tbl} : runR T fn (.code (.reg d17_0) :: K) t H = regR T fn K (aops (callR T) [
  ⟨(some 6), none, (.val (.c (.b false)))⟩] t H) := runR_reg'
def d17_1 : List AOper := [
  ⟨(some 7), none, (.val (.t 0))⟩,
  ⟨(some 8), none, (.val (.t 1))⟩,
  ⟨(some 9), none, (.call 24 [(.t 7), (.t 8)])⟩,
  ⟨(some 10), none, (.un .not (.t 9))⟩]
theorem r17_1 {fn : AFun} {K : List AItem} {t : Nat → AV} {H : AH} {T : Tbl} : runR T fn (.code (.reg d17_1) :: K) t H = regR T fn K (aops (callR T) [
  ⟨(some 7), none, (.val (.t 0))⟩,
  ⟨(some 8), none, (.val (.t 1))⟩,
  ⟨(some 9), none, (.call 24 [(.t 7), (.t 8)])⟩,
  ⟨(some 10), none, (.un .not (.t 9))⟩] t H) := runR_reg'
def d17_2 : List AOper := [
  ⟨(some 6), none, (.val (.c (.b false)))⟩]
theorem r17_2 {fn : AFun} {K : List AItem} {t : Nat → AV} {H : AH} {T : Tbl} : runR T fn (.code (.reg d17_2) :: K) t H = regR T fn K (aops (callR T) [
  ⟨(some 6), none, (.val (.c (.b false)))⟩] t H) := runR_reg'
def d17_3 : List AOper := [
  ⟨(some 11), none, (.val (.t 0))⟩,
  ⟨(some 12), none, (.nilc (.t 11))⟩,
  ⟨(some 13), none, (.fa 2 (.t 12))⟩,
  ⟨(some 14), none, (.ld none (.t 13))⟩,
  ⟨(some 15), none, (.bin .add (.t 14) (.c (.i .i64 1)))⟩,
  ⟨(some 16), none, (.nilc (.t 11))⟩,
  ⟨(some 17), none, (.fa 2 (.t 16))⟩,
  ⟨none, none, (.st 1 (.t 17) (.t 15))⟩]
theorem r17_3 {fn : AFun} {K : List AItem} {t : Nat → AV} {H : AH} {T : Tbl} : runR T fn (.code (.reg d17_3) :: K) t H = regR T fn K (aops (callR T) [
  ⟨(some 11), none, (.val (.t 0))⟩,
  ⟨(some 12), none, (.nilc (.t 11))⟩,
  ⟨(some 13), none, (.fa 2 (.t 12))⟩,
  ⟨(some 14), none, (.ld none (.t 13))⟩,
  ⟨(some 15), none, (.bin .add (.t 14) (.c (.i .i64 1)))⟩,
  ⟨(some 16), none, (.nilc (.t 11))⟩,
  ⟨(some 17), none, (.fa 2 (.t 16))⟩,
  ⟨none, none, (.st 1 (.t 17) (.t 15))⟩] t H) := runR_reg'
def d17_4 : List AOper := [
  ⟨(some 18), none, (.val (.t 0))⟩,
  ⟨(some 19), none, (.val (.t 0))⟩,
  ⟨(some 20), none, (.nilc (.t 19))⟩,
  ⟨(some 21), none, (.fa 1 (.t 20))⟩,
  ⟨(some 22), none, (.ld none (.t 21))⟩,
  ⟨(some 23), none, (.app [(.i .i64 0), (.i .u64 0)] 16 (.c (.sl none 0 0 true 0)) (.t 22))⟩,
  ⟨(some 24), none, (.val (.t 1))⟩,
  ⟨(some 25), none, (.val (.t 2))⟩,
  ⟨(some 26), none, (.build [(.i .i64 0), (.i .u64 0)] [(0, 1, (.t 24)), (1, 1, (.t 25))])⟩,
  ⟨(some 27), none, (.bsl [(.i .i64 0), (.i .u64 0)] 1 [(0, 2, (.t 26))])⟩,
  ⟨(some 28), none, (.app [(.i .i64 0), (.i .u64 0)] 16 (.t 23) (.t 27))⟩,
  ⟨(some 29), none, (.nilc (.t 18))⟩,
  ⟨(some 30), none, (.fa 1 (.t 29))⟩,
  ⟨none, none, (.st 1 (.t 30) (.t 28))⟩]
theorem r17_4 {fn : AFun} {K : List AItem} {t : Nat → AV} {H : AH} {T : Tbl} : runR T fn (.code (.reg d17_4) :: K) t H = regR T fn K (aops (callR T) [
  ⟨(some 18), none, (.val (.t 0))⟩,
  ⟨(some 19), none, (.val (.t 0))⟩,
  ⟨(some 20), none, (.nilc (.t 19))⟩,
  ⟨(some 21), none, (.fa 1 (.t 20))⟩,
  ⟨(some 22), none, (.ld none (.t 21))⟩,
  ⟨(some 23), none, (.app [(.i .i64 0), (.i .u64 0)] 16 (.c (.sl none 0 0 true 0)) (.t 22))⟩,
  ⟨(some 24), none, (.val (.t 1))⟩,
  ⟨(some 25), none, (.val (.t 2))⟩,
  ⟨(some 26), none, (.build [(.i .i64 0), (.i .u64 0)] [(0, 1, (.t 24)), (1, 1, (.t 25))])⟩,
  ⟨(some 27), none, (.bsl [(.i .i64 0), (.i .u64 0)] 1 [(0, 2, (.t 26))])⟩,
  ⟨(some 28), none, (.app [(.i .i64 0), (.i .u64 0)] 16 (.t 23) (.t 27))⟩,
  ⟨(some 29), none, (.nilc (.t 18))⟩,
  ⟨(some 30), none, (.fa 1 (.t 29))⟩,
  ⟨none, none, (.st 1 (.t 30) (.t 28))⟩] t H) := runR_reg'
def d17_5 : List AOper := [
  ⟨(some 6), none, (.val (.c (.b true)))⟩]
theorem r17_5 {fn : AFun} {K : List AItem} {t : Nat → AV} {H : AH} {T : Tbl} : runR T fn (.code (.reg d17_5) :: K) t H = regR T fn K (aops (callR T) [
  ⟨(some 6), none, (.val (.c (.b true)))⟩] t H) := runR_reg'
def a17 : AFun := ⟨31, [(.tmp 6)], (.seq (.reg d17_0) (.seq (.seq (.reg d17_1) (.cond (.t 10) (.seq (.reg d17_2) .ret) .skip)) (.seq (.reg d17_3) (.seq (.reg d17_4) (.seq (.reg d17_5) .ret)))))⟩
theorem a17_ok : cfun Try.prog 17 = some a17 := by kernel_rfl
/-- (*futtock/futtockref03.Memory).CAS -/
def d18_0 : List AOper := [
  ⟨(some 8), none, (.val (.c (.i .u64 0)))⟩,
  ⟨(some 9), none, (.val (.c (.b false)))⟩]
theorem r18_0 {fn : AFun} {K : List AItem} {t : Nat → AV} {H : AH} {T : Tbl} : runR T fn (.code (.reg d18_0) :: K) t H = regR T fn K (aops (callR T) [
  ⟨(some 8), none, (.val (.c (.i .u64 0)))⟩,
  ⟨(some 9), none, (.val (.c (.b false)))⟩] t H) := runR_reg'
def d18_1 : List AOper := [
  ⟨(some 11), none, (.val (.t 0))⟩,
  ⟨(some 12), none, (.val (.t 1))⟩,
  ⟨(some 13), none, (.call 24 [(.t 11), (.t 12)])⟩,
  ⟨(some 14), none, (.un .not (.t 13))⟩]
theorem r18_1 {fn : AFun} {K : List AItem} {t : Nat → AV} {H : AH} {T : Tbl} : runR T fn (.code (.reg d18_1) :: K) t H = regR T fn K (aops (callR T) [
  ⟨(some 11), none, (.val (.t 0))⟩,
  ⟨(some 12), none, (.val (.t 1))⟩,
  ⟨(some 13), none, (.call 24 [(.t 11), (.t 12)])⟩,
  ⟨(some 14), none, (.un .not (.t 13))⟩] t H) := runR_reg'
def d18_2 : List AOper := [
  ⟨(some 8), none, (.val (.c (.i .u64 0)))⟩,
  ⟨(some 9), none, (.val (.c (.b false)))⟩]
theorem r18_2 {fn : AFun} {K : List AItem} {t : Nat → AV} {H : AH} {T : Tbl} : runR T fn (.code (.reg d18_2) :: K) t H = regR T fn K (aops (callR T) [
  ⟨(some 8), none, (.val (.c (.i .u64 0)))⟩,
  ⟨(some 9), none, (.val (.c (.b false)))⟩] t H) := runR_reg'
def d18_3 : List AOper := [
  ⟨(some 15), none, (.val (.t 0))⟩,
  ⟨(some 16), none, (.val (.t 1))⟩,
  ⟨(some 17), none, (.call 19 [(.t 15), (.t 16)])⟩,
  ⟨(some 10), none, (.val (.t 17))⟩]
theorem r18_3 {fn : AFun} {K : List AItem} {t : Nat → AV} {H : AH} {T : Tbl} : runR T fn (.code (.reg d18_3) :: K) t H = regR T fn K (aops (callR T) [
  ⟨(some 15), none, (.val (.t 0))⟩,
  ⟨(some 16), none, (.val (.t 1))⟩,
  ⟨(some 17), none, (.call 19 [(.t 15), (.t 16)])⟩,
  ⟨(some 10), none, (.val (.t 17))⟩] t H) := runR_reg'
def d18_4 : List AOper := [
  ⟨(some 18), none, (.val (.t 10))⟩,
  ⟨(some 19), none, (.val (.t 2))⟩,
  ⟨(some 20), none, (.bin .neq (.t 18) (.t 19))⟩]
theorem r18_4 {fn : AFun} {K : List AItem} {t : Nat → AV} {H : AH} {T : Tbl} : runR T fn (.code (.reg d18_4) :: K) t H = regR T fn K (aops (callR T) [
  ⟨(some 18), none, (.val (.t 10))⟩,
  ⟨(some 19), none, (.val (.t 2))⟩,
  ⟨(some 20), none, (.bin .neq (.t 18) (.t 19))⟩] t H) := runR_reg'
def d18_5 : List AOper := [
  ⟨(some 21), none, (.val (.t 0))⟩,
  ⟨(some 22), none, (.nilc (.t 21))⟩,
  ⟨(some 23), none, (.fa 2 (.t 22))⟩,
  ⟨(some 24), none, (.ld none (.t 23))⟩,
  ⟨(some 25), none, (.bin .add (.t 24) (.c (.i .i64 1)))⟩,
  ⟨(some 26), none, (.nilc (.t 21))⟩,
  ⟨(some 27), none, (.fa 2 (.t 26))⟩,
  ⟨none, none, (.st 1 (.t 27) (.t 25))⟩]
theorem r18_5 {fn : AFun} {K : List AItem} {t : Nat → AV} {H : AH} {T : Tbl} : runR T fn (.code (.reg d18_5) :: K) t H = regR T fn K (aops (callR T) [
  ⟨(some 21), none, (.val (.t 0))⟩,
  ⟨(some 22), none, (.nilc (.t 21))⟩,
  ⟨(some 23), none, (.fa 2 (.t 22))⟩,
  ⟨(some 24), none, (.ld none (.t 23))⟩,
  ⟨(some 25), none, (.bin .add (.t 24) (.c (.i .i64 1)))⟩,
  ⟨(some 26), none, (.nilc (.t 21))⟩,
  ⟨(some 27), none, (.fa 2 (.t 26))⟩,
  ⟨none, none, (.st 1 (.t 27) (.t 25))⟩] t H) := runR_reg'
def d18_6 : List AOper := [
  ⟨(some 28), none, (.val (.t 10))⟩,
  ⟨(some 8), none, (.val (.t 28))⟩,
  ⟨(some 9), none, (.val (.c (.b false)))⟩]
theorem r18_6 {fn : AFun} {K : List AItem} {t : Nat → AV} {H : AH} {T : Tbl} : runR T fn (.code (.reg d18_6) :: K) t H = regR T fn K (aops (callR T) [
  ⟨(some 28), none, (.val (.t 10))⟩,
  ⟨(some 8), none, (.val (.t 28))⟩,
  ⟨(some 9), none, (.val (.c (.b false)))⟩] t H) := runR_reg'
def d18_7 : List AOper := [
  ⟨(some 29), none, (.val (.t 10))⟩,
  ⟨(some 30), none, (.val (.t 0))⟩,
  ⟨(some 31), none, (.val (.t 1))⟩,
  ⟨(some 32), none, (.val (.t 3))⟩,
  ⟨(some 33), none, (.call 17 [(.t 30), (.t 31), (.t 32)])⟩,
  ⟨(some 8), none, (.val (.t 29))⟩,
  ⟨(some 9), none, (.val (.t 33))⟩]
theorem r18_7 {fn : AFun} {K : List AItem} {t : Nat → AV} {H : AH} {T : Tbl} : runR T fn (.code (.reg d18_7) :: K) t H = regR T fn K (aops (callR T) [
  ⟨(some 29), none, (.val (.t 10))⟩,
  ⟨(some 30), none, (.val (.t 0))⟩,
  ⟨(some 31), none, (.val (.t 1))⟩,
  ⟨(some 32), none, (.val (.t 3))⟩,
  ⟨(some 33), none, (.call 17 [(.t 30), (.t 31), (.t 32)])⟩,
  ⟨(some 8), none, (.val (.t 29))⟩,
  ⟨(some 9), none, (.val (.t 33))⟩] t H) := runR_reg'
def a18 : AFun := ⟨34, [(.tmp 8), (.tmp 9)], (.seq (.reg d18_0) (.seq (.seq (.reg d18_1) (.cond (.t 14) (.seq (.reg d18_2) .ret) .skip)) (.seq (.reg d18_3) (.seq (.seq (.reg d18_4) (.cond (.t 20) (.seq (.reg d18_5) (.seq (.reg d18_6) .ret)) .skip)) (.seq (.reg d18_7) .ret)))))⟩
theorem a18_ok : cfun Try.prog 18 = some a18 := by kernel_rfl
/-- (*futtock/futtockref03.Memory).Look -/
def d19_0 : List AOper := [
  ⟨(some 4), none, (.val (.c (.i .u64 0)))⟩]
theorem r19_0 {fn : AFun} {K : List AItem} {t : Nat → AV} {H : AH} {T : Tbl} : runR T fn (.code (.reg d19_0) :: K) t H = regR T fn K (aops (callR T) [
  ⟨(some 4), none, (.val (.c (.i .u64 0)))⟩] t H) := runR_reg'
def d19_1 : List AOper := [
  ⟨(some 5), none, (.val (.c (.i .u64 0)))⟩]
theorem r19_1 {fn : AFun} {K : List AItem} {t : Nat → AV} {H : AH} {T : Tbl} : runR T fn (.code (.reg d19_1) :: K) t H = regR T fn K (aops (callR T) [
  ⟨(some 5), none, (.val (.c (.i .u64 0)))⟩] t H) := runR_reg'
def d19_2 : List AOper := [
  ⟨(some 6), none, (.val (.c (.i .i64 0)))⟩]
theorem r19_2 {fn : AFun} {K : List AItem} {t : Nat → AV} {H : AH} {T : Tbl} : runR T fn (.code (.reg d19_2) :: K) t H = regR T fn K (aops (callR T) [
  ⟨(some 6), none, (.val (.c (.i .i64 0)))⟩] t H) := runR_reg'
def d19_3 : List AOper := [
  ⟨(some 7), none, (.val (.t 6))⟩,
  ⟨(some 8), none, (.val (.t 0))⟩,
  ⟨(some 9), none, (.nilc (.t 8))⟩,
  ⟨(some 10), none, (.fa 1 (.t 9))⟩,
  ⟨(some 11), none, (.ld none (.t 10))⟩,
  ⟨(some 12), none, (.len (.t 11))⟩,
  ⟨(some 13), none, (.bin .lss (.t 7) (.t 12))⟩]
theorem r19_3 {fn : AFun} {K : List AItem} {t : Nat → AV} {H : AH} {T : Tbl} : runR T fn (.code (.reg d19_3) :: K) t H = regR T fn K (aops (callR T) [
  ⟨(some 7), none, (.val (.t 6))⟩,
  ⟨(some 8), none, (.val (.t 0))⟩,
  ⟨(some 9), none, (.nilc (.t 8))⟩,
  ⟨(some 10), none, (.fa 1 (.t 9))⟩,
  ⟨(some 11), none, (.ld none (.t 10))⟩,
  ⟨(some 12), none, (.len (.t 11))⟩,
  ⟨(some 13), none, (.bin .lss (.t 7) (.t 12))⟩] t H) := runR_reg'
def d19_4 : List AOper := [
  ⟨(some 16), none, (.val (.t 0))⟩,
  ⟨(some 17), none, (.nilc (.t 16))⟩,
  ⟨(some 18), none, (.fa 1 (.t 17))⟩,
  ⟨(some 19), none, (.ld none (.t 18))⟩,
  ⟨(some 20), none, (.val (.t 6))⟩,
  ⟨(some 21), none, (.ia 2 (.t 19) (.t 20))⟩,
  ⟨(some 22), none, (.fa 0 (.t 21))⟩,
  ⟨(some 23), none, (.ld none (.t 22))⟩,
  ⟨(some 24), none, (.val (.t 1))⟩,
  ⟨(some 25), none, (.bin .eql (.t 23) (.t 24))⟩]
theorem r19_4 {fn : AFun} {K : List AItem} {t : Nat → AV} {H : AH} {T : Tbl} : runR T fn (.code (.reg d19_4) :: K) t H = regR T fn K (aops (callR T) [
  ⟨(some 16), none, (.val (.t 0))⟩,
  ⟨(some 17), none, (.nilc (.t 16))⟩,
  ⟨(some 18), none, (.fa 1 (.t 17))⟩,
  ⟨(some 19), none, (.ld none (.t 18))⟩,
  ⟨(some 20), none, (.val (.t 6))⟩,
  ⟨(some 21), none, (.ia 2 (.t 19) (.t 20))⟩,
  ⟨(some 22), none, (.fa 0 (.t 21))⟩,
  ⟨(some 23), none, (.ld none (.t 22))⟩,
  ⟨(some 24), none, (.val (.t 1))⟩,
  ⟨(some 25), none, (.bin .eql (.t 23) (.t 24))⟩] t H) := runR_reg'
def d19_5 : List AOper := [
  ⟨(some 26), none, (.val (.t 0))⟩,
  ⟨(some 27), none, (.nilc (.t 26))⟩,
  ⟨(some 28), none, (.fa 1 (.t 27))⟩,
  ⟨(some 29), none, (.ld none (.t 28))⟩,
  ⟨(some 30), none, (.val (.t 6))⟩,
  ⟨(some 31), none, (.ia 2 (.t 29) (.t 30))⟩,
  ⟨(some 32), none, (.fa 1 (.t 31))⟩,
  ⟨(some 33), none, (.ld none (.t 32))⟩,
  ⟨(some 5), none, (.val (.t 33))⟩]
theorem r19_5 {fn : AFun} {K : List AItem} {t : Nat → AV} {H : AH} {T : Tbl} : runR T fn (.code (.reg d19_5) :: K) t H = regR T fn K (aops (callR T) [
  ⟨(some 26), none, (.val (.t 0))⟩,
  ⟨(some 27), none, (.nilc (.t 26))⟩,
  ⟨(some 28), none, (.fa 1 (.t 27))⟩,
  ⟨(some 29), none, (.ld none (.t 28))⟩,
  ⟨(some 30), none, (.val (.t 6))⟩,
  ⟨(some 31), none, (.ia 2 (.t 29) (.t 30))⟩,
  ⟨(some 32), none, (.fa 1 (.t 31))⟩,
  ⟨(some 33), none, (.ld none (.t 32))⟩,
  ⟨(some 5), none, (.val (.t 33))⟩] t H) := runR_reg'
def d19_6 : List AOper := [
  ⟨(some 14), none, (.val (.t 6))⟩,
  ⟨(some 15), none, (.bin .add (.t 14) (.c (.i .i64 1)))⟩,
  ⟨(some 6), none, (.val (.t 15))⟩]
theorem r19_6 {fn : AFun} {K : List AItem} {t : Nat → AV} {H : AH} {T : Tbl} : runR T fn (.code (.reg d19_6) :: K) t H = regR T fn K (aops (callR T) [
  ⟨(some 14), none, (.val (.t 6))⟩,
  ⟨(some 15), none, (.bin .add (.t 14) (.c (.i .i64 1)))⟩,
  ⟨(some 6), none, (.val (.t 15))⟩] t H) := runR_reg'
def l19_7 : ACode := (.seq (.seq (.reg d19_3) (.cond (.t 13) .skip (.exit 0))) (.seq (.block 1 (.seq (.reg d19_4) (.cond (.t 25) (.reg d19_5) .skip))) (.reg d19_6)))
def d19_8 : List AOper := [
  ⟨(some 34), none, (.val (.t 5))⟩,
  ⟨(some 4), none, (.val (.t 34))⟩]
theorem r19_8 {fn : AFun} {K : List AItem} {t : Nat → AV} {H : AH} {T : Tbl} : runR T fn (.code (.reg d19_8) :: K) t H = regR T fn K (aops (callR T) [
  ⟨(some 34), none, (.val (.t 5))⟩,
  ⟨(some 4), none, (.val (.t 34))⟩] t H) := runR_reg'
def a19 : AFun := ⟨35, [(.tmp 4)], (.seq (.reg d19_0) (.seq (.reg d19_1) (.seq (.seq (.reg d19_2) (.block 0 (.loop l19_7))) (.seq (.reg d19_8) .ret))))⟩
theorem a19_ok : cfun Try.prog 19 = some a19 := by kernel_rfl
/-- (*futtock/cell.Memory).Len -/
def d20_0 : List AOper := [
  ⟨(some 2), none, (.val (.c (.i .i64 0)))⟩]
theorem r20_0 {fn : AFun} {K : List AItem} {t : Nat → AV} {H : AH} {T : Tbl} : runR T fn (.code (.reg d20_0) :: K) t H = regR T fn K (aops (callR T) [
  ⟨(some 2), none, (.val (.c (.i .i64 0)))⟩] t H) := runR_reg'
def d20_1 : List AOper := [
  ⟨(some 3), none, (.val (.t 0))⟩,
  ⟨(some 4), none, (.call 9 [(.t 3)])⟩,
  ⟨(some 5), none, (.len (.t 4))⟩,
  ⟨(some 2), none, (.val (.t 5))⟩]
theorem r20_1 {fn : AFun} {K : List AItem} {t : Nat → AV} {H : AH} {T : Tbl} : runR T fn (.code (.reg d20_1) :: K) t H = regR T fn K (aops (callR T) [
  ⟨(some 3), none, (.val (.t 0))⟩,
  ⟨(some 4), none, (.call 9 [(.t 3)])⟩,
  ⟨(some 5), none, (.len (.t 4))⟩,
  ⟨(some 2), none, (.val (.t 5))⟩] t H) := runR_reg'
def a20 : AFun := ⟨6, [(.tmp 2)], (.seq (.reg d20_0) (.seq (.reg d20_1) .ret))⟩
theorem a20_ok : cfun Try.prog 20 = some a20 := by kernel_rfl
/-- (*futtock/cell.Memory).Same -/
def d21_0 : List AOper := [
  ⟨(some 4), none, (.val (.c (.b false)))⟩]
theorem r21_0 {fn : AFun} {K : List AItem} {t : Nat → AV} {H : AH} {T : Tbl} : runR T fn (.code (.reg d21_0) :: K) t H = regR T fn K (aops (callR T) [
  ⟨(some 4), none, (.val (.c (.b false)))⟩] t H) := runR_reg'
def d21_1 : List AOper := [
  ⟨(some 5), none, (.val (.t 0))⟩,
  ⟨(some 6), none, (.call 9 [(.t 5)])⟩,
  ⟨(some 7), none, (.val (.t 1))⟩,
  ⟨(some 8), none, (.call 9 [(.t 7)])⟩,
  ⟨(some 9), none, (.call 25 [(.t 6), (.t 8)])⟩,
  ⟨(some 4), none, (.val (.t 9))⟩]
theorem r21_1 {fn : AFun} {K : List AItem} {t : Nat → AV} {H : AH} {T : Tbl} : runR T fn (.code (.reg d21_1) :: K) t H = regR T fn K (aops (callR T) [
  ⟨(some 5), none, (.val (.t 0))⟩,
  ⟨(some 6), none, (.call 9 [(.t 5)])⟩,
  ⟨(some 7), none, (.val (.t 1))⟩,
  ⟨(some 8), none, (.call 9 [(.t 7)])⟩,
  ⟨(some 9), none, (.call 25 [(.t 6), (.t 8)])⟩,
  ⟨(some 4), none, (.val (.t 9))⟩] t H) := runR_reg'
def a21 : AFun := ⟨10, [(.tmp 4)], (.seq (.reg d21_0) (.seq (.reg d21_1) .ret))⟩
theorem a21_ok : cfun Try.prog 21 = some a21 := by kernel_rfl
/-- (*futtock/cell.Memory).access -/
def d22_0 : List AOper := [
  ⟨(some 4), none, (.val (.c (.p none)))⟩]
theorem r22_0 {fn : AFun} {K : List AItem} {t : Nat → AV} {H : AH} {T : Tbl} : runR T fn (.code (.reg d22_0) :: K) t H = regR T fn K (aops (callR T) [
  ⟨(some 4), none, (.val (.c (.p none)))⟩] t H) := runR_reg'
def d22_1 : List AOper := [
  ⟨(some 7), none, (.val (.t 0))⟩,
  ⟨(some 8), none, (.mkf (.func 23) [(.t 7)] [])⟩,
  ⟨(some 5), none, (.val (.t 8))⟩]
theorem r22_1 {fn : AFun} {K : List AItem} {t : Nat → AV} {H : AH} {T : Tbl} : runR T fn (.code (.reg d22_1) :: K) t H = regR T fn K (aops (callR T) [
  ⟨(some 7), none, (.val (.t 0))⟩,
  ⟨(some 8), none, (.mkf (.func 23) [(.t 7)] [])⟩,
  ⟨(some 5), none, (.val (.t 8))⟩] t H) := runR_reg'
def d22_2 : List AOper := [
  ⟨(some 9), none, (.val (.t 5))⟩,
  ⟨(some 10), none, (.val (.t 1))⟩,
  ⟨(some 11), none, (.callv (.t 9) [(.t 10)])⟩,
  ⟨(some 6), none, (.val (.t 11))⟩]
theorem r22_2 {fn : AFun} {K : List AItem} {t : Nat → AV} {H : AH} {T : Tbl} : runR T fn (.code (.reg d22_2) :: K) t H = regR T fn K (aops (callR T) [
  ⟨(some 9), none, (.val (.t 5))⟩,
  ⟨(some 10), none, (.val (.t 1))⟩,
  ⟨(some 11), none, (.callv (.t 9) [(.t 10)])⟩,
  ⟨(some 6), none, (.val (.t 11))⟩] t H) := runR_reg'
def d22_3 : List AOper := [
  ⟨(some 12), none, (.val (.t 6))⟩,
  ⟨(some 13), none, (.eqn 0 true (.t 12) (.c (.p none)))⟩,
  ⟨(some 14), none, (.val (.t 13))⟩,
  ⟨(some 15), (some (14, true)), (.val (.t 0))⟩,
  ⟨(some 16), (some (14, true)), (.nilc (.t 15))⟩,
  ⟨(some 17), (some (14, true)), (.fa 1 (.t 16))⟩,
  ⟨(some 18), (some (14, true)), (.ld none (.t 17))⟩,
  ⟨(some 19), (some (14, true)), (.bin .lss (.t 18) (.c (.i .i64 9223372036854775807)))⟩,
  ⟨(some 20), none, (.pick (.t 14) (.t 19) (.c (.b false)))⟩]
theorem r22_3 {fn : AFun} {K : List AItem} {t : Nat → AV} {H : AH} {T : Tbl} : runR T fn (.code (.reg d22_3) :: K) t H = regR T fn K (aops (callR T) [
  ⟨(some 12), none, (.val (.t 6))⟩,
  ⟨(some 13), none, (.eqn 0 true (.t 12) (.c (.p none)))⟩,
  ⟨(some 14), none, (.val (.t 13))⟩,
  ⟨(some 15), (some (14, true)), (.val (.t 0))⟩,
  ⟨(some 16), (some (14, true)), (.nilc (.t 15))⟩,
  ⟨(some 17), (some (14, true)), (.fa 1 (.t 16))⟩,
  ⟨(some 18), (some (14, true)), (.ld none (.t 17))⟩,
  ⟨(some 19), (some (14, true)), (.bin .lss (.t 18) (.c (.i .i64 9223372036854775807)))⟩,
  ⟨(some 20), none, (.pick (.t 14) (.t 19) (.c (.b false)))⟩] t H) := runR_reg'
def d22_4 : List AOper := [
  ⟨(some 21), none, (.val (.t 0))⟩,
  ⟨(some 22), none, (.nilc (.t 21))⟩,
  ⟨(some 23), none, (.fa 1 (.t 22))⟩,
  ⟨(some 24), none, (.ld none (.t 23))⟩,
  ⟨(some 25), none, (.bin .add (.t 24) (.c (.i .i64 1)))⟩,
  ⟨(some 26), none, (.nilc (.t 21))⟩,
  ⟨(some 27), none, (.fa 1 (.t 26))⟩,
  ⟨none, none, (.st 1 (.t 27) (.t 25))⟩]
theorem r22_4 {fn : AFun} {K : List AItem} {t : Nat → AV} {H : AH} {T : Tbl} : runR T fn (.code (.reg d22_4) :: K) t H = regR T fn K (aops (callR T) [
  ⟨(some 21), none, (.val (.t 0))⟩,
  ⟨(some 22), none, (.nilc (.t 21))⟩,
  ⟨(some 23), none, (.fa 1 (.t 22))⟩,
  ⟨(some 24), none, (.ld none (.t 23))⟩,
  ⟨(some 25), none, (.bin .add (.t 24) (.c (.i .i64 1)))⟩,
  ⟨(some 26), none, (.nilc (.t 21))⟩,
  ⟨(some 27), none, (.fa 1 (.t 26))⟩,
  ⟨none, none, (.st 1 (.t 27) (.t 25))⟩] t H) := runR_reg'
def d22_5 : List AOper := [
  ⟨(some 28), none, (.val (.t 6))⟩,
  ⟨(some 4), none, (.val (.t 28))⟩]
theorem r22_5 {fn : AFun} {K : List AItem} {t : Nat → AV} {H : AH} {T : Tbl} : runR T fn (.code (.reg d22_5) :: K) t H = regR T fn K (aops (callR T) [
  ⟨(some 28), none, (.val (.t 6))⟩,
  ⟨(some 4), none, (.val (.t 28))⟩] t H) := runR_reg'
def a22 : AFun := ⟨29, [(.tmp 4)], (.seq (.reg d22_0) (.seq (.reg d22_1) (.seq (.reg d22_2) (.seq (.seq (.reg d22_3) (.cond (.t 20) (.reg d22_4) .skip)) (.seq (.reg d22_5) .ret)))))⟩
theorem a22_ok : cfun Try.prog 22 = some a22 := by kernel_rfl
/-- (*futtock/cell.Memory).at -/
def d23_0 : List AOper := [
  ⟨(some 4), none, (.val (.c (.p none)))⟩]
theorem r23_0 {fn : AFun} {K : List AItem} {t : Nat → AV} {H : AH} {T : Tbl} : runR T fn (.code (.reg d23_0) :: K) t H = regR T fn K (aops (callR T) [
  ⟨(some 4), none, (.val (.c (.p none)))⟩] t H) := runR_reg'
def d23_1 : List AOper := [
  ⟨(some 5), none, (.val (.t 0))⟩,
  ⟨(some 6), none, (.eqn 0 false (.t 5) (.c (.p none)))⟩,
  ⟨(some 7), none, (.val (.t 6))⟩,
  ⟨(some 8), (some (7, false)), (.val (.t 1))⟩,
  ⟨(some 9), (some (7, false)), (.bin .lss (.t 8) (.c (.i .i64 0)))⟩,
  ⟨(some 10), none, (.pick (.t 7) (.c (.b true)) (.t 9))⟩,
  ⟨(some 11), none, (.val (.t 10))⟩,
  ⟨(some 12), (some (11, false)), (.val (.t 1))⟩,
  ⟨(some 13), (some (11, false)), (.val (.t 0))⟩,
  ⟨(some 14), (some (11, false)), (.nilc (.t 13))⟩,
  ⟨(some 15), (some (11, false)), (.fa 0 (.t 14))⟩,
  ⟨(some 16), (some (11, false)), (.ld none (.t 15))⟩,
  ⟨(some 17), (some (11, false)), (.len (.t 16))⟩,
  ⟨(some 18), (some (11, false)), (.bin .geq (.t 12) (.t 17))⟩,
  ⟨(some 19), none, (.pick (.t 11) (.c (.b true)) (.t 18))⟩]
theorem r23_1 {fn : AFun} {K : List AItem} {t : Nat → AV} {H : AH} {T : Tbl} : runR T fn (.code (.reg d23_1) :: K) t H = regR T fn K (aops (callR T) [
  ⟨(some 5), none, (.val (.t 0))⟩,
  ⟨(some 6), none, (.eqn 0 false (.t 5) (.c (.p none)))⟩,
  ⟨(some 7), none, (.val (.t 6))⟩,
  ⟨(some 8), (some (7, false)), (.val (.t 1))⟩,
  ⟨(some 9), (some (7, false)), (.bin .lss (.t 8) (.c (.i .i64 0)))⟩,
  ⟨(some 10), none, (.pick (.t 7) (.c (.b true)) (.t 9))⟩,
  ⟨(some 11), none, (.val (.t 10))⟩,
  ⟨(some 12), (some (11, false)), (.val (.t 1))⟩,
  ⟨(some 13), (some (11, false)), (.val (.t 0))⟩,
  ⟨(some 14), (some (11, false)), (.nilc (.t 13))⟩,
  ⟨(some 15), (some (11, false)), (.fa 0 (.t 14))⟩,
  ⟨(some 16), (some (11, false)), (.ld none (.t 15))⟩,
  ⟨(some 17), (some (11, false)), (.len (.t 16))⟩,
  ⟨(some 18), (some (11, false)), (.bin .geq (.t 12) (.t 17))⟩,
  ⟨(some 19), none, (.pick (.t 11) (.c (.b true)) (.t 18))⟩] t H) := runR_reg'
def d23_2 : List AOper := [
  ⟨(some 4), none, (.val (.c (.p none)))⟩]
theorem r23_2 {fn : AFun} {K : List AItem} {t : Nat → AV} {H : AH} {T : Tbl} : runR T fn (.code (.reg d23_2) :: K) t H = regR T fn K (aops (callR T) [
  ⟨(some 4), none, (.val (.c (.p none)))⟩] t H) := runR_reg'
def d23_3 : List AOper := [
  ⟨(some 20), none, (.val (.t 0))⟩,
  ⟨(some 21), none, (.nilc (.t 20))⟩,
  ⟨(some 22), none, (.fa 0 (.t 21))⟩,
  ⟨(some 23), none, (.ld none (.t 22))⟩,
  ⟨(some 24), none, (.val (.t 1))⟩,
  ⟨(some 25), none, (.ia 1 (.t 23) (.t 24))⟩,
  ⟨(some 4), none, (.val (.t 25))⟩]
theorem r23_3 {fn : AFun} {K : List AItem} {t : Nat → AV} {H : AH} {T : Tbl} : runR T fn (.code (.reg d23_3) :: K) t H = regR T fn K (aops (callR T) [
  ⟨(some 20), none, (.val (.t 0))⟩,
  ⟨(some 21), none, (.nilc (.t 20))⟩,
  ⟨(some 22), none, (.fa 0 (.t 21))⟩,
  ⟨(some 23), none, (.ld none (.t 22))⟩,
  ⟨(some 24), none, (.val (.t 1))⟩,
  ⟨(some 25), none, (.ia 1 (.t 23) (.t 24))⟩,
  ⟨(some 4), none, (.val (.t 25))⟩] t H) := runR_reg'
def a23 : AFun := ⟨26, [(.tmp 4)], (.seq (.reg d23_0) (.seq (.seq (.reg d23_1) (.cond (.t 19) (.seq (.reg d23_2) .ret) .skip)) (.seq (.reg d23_3) .ret)))⟩
theorem a23_ok : cfun Try.prog 23 = some a23 := by kernel_rfl
/-- (*futtock/futtockref03.Memory).has -/
def d24_0 : List AOper := [
  ⟨(some 4), none, (.val (.c (.b false)))⟩]
theorem r24_0 {fn : AFun} {K : List AItem} {t : Nat → AV} {H : AH} {T : Tbl} : runR T fn (.code (.reg d24_0) :: K) t H = regR T fn K (aops (callR T) [
  ⟨(some 4), none, (.val (.c (.b false)))⟩] t H) := runR_reg'
def d24_1 : List AOper := [
  ⟨(some 5), none, (.val (.t 1))⟩,
  ⟨(some 6), none, (.bin .geq (.t 5) (.c (.i .i64 0)))⟩,
  ⟨(some 7), none, (.val (.t 6))⟩,
  ⟨(some 8), (some (7, true)), (.val (.t 1))⟩,
  ⟨(some 9), (some (7, true)), (.val (.t 0))⟩,
  ⟨(some 10), (some (7, true)), (.nilc (.t 9))⟩,
  ⟨(some 11), (some (7, true)), (.fa 0 (.t 10))⟩,
  ⟨(some 12), (some (7, true)), (.ld none (.t 11))⟩,
  ⟨(some 13), (some (7, true)), (.bin .lss (.t 8) (.t 12))⟩,
  ⟨(some 14), none, (.pick (.t 7) (.t 13) (.c (.b false)))⟩,
  ⟨(some 4), none, (.val (.t 14))⟩]
theorem r24_1 {fn : AFun} {K : List AItem} {t : Nat → AV} {H : AH} {T : Tbl} : runR T fn (.code (.reg d24_1) :: K) t H = regR T fn K (aops (callR T) [
  ⟨(some 5), none, (.val (.t 1))⟩,
  ⟨(some 6), none, (.bin .geq (.t 5) (.c (.i .i64 0)))⟩,
  ⟨(some 7), none, (.val (.t 6))⟩,
  ⟨(some 8), (some (7, true)), (.val (.t 1))⟩,
  ⟨(some 9), (some (7, true)), (.val (.t 0))⟩,
  ⟨(some 10), (some (7, true)), (.nilc (.t 9))⟩,
  ⟨(some 11), (some (7, true)), (.fa 0 (.t 10))⟩,
  ⟨(some 12), (some (7, true)), (.ld none (.t 11))⟩,
  ⟨(some 13), (some (7, true)), (.bin .lss (.t 8) (.t 12))⟩,
  ⟨(some 14), none, (.pick (.t 7) (.t 13) (.c (.b false)))⟩,
  ⟨(some 4), none, (.val (.t 14))⟩] t H) := runR_reg'
def a24 : AFun := ⟨15, [(.tmp 4)], (.seq (.reg d24_0) (.seq (.reg d24_1) .ret))⟩
theorem a24_ok : cfun Try.prog 24 = some a24 := by kernel_rfl
/-- slices.Equal[[]uint64,uint64] -/
def d25_0 : List AOper := [
  ⟨(some 4), none, (.val (.c (.b false)))⟩]
theorem r25_0 {fn : AFun} {K : List AItem} {t : Nat → AV} {H : AH} {T : Tbl} : runR T fn (.code (.reg d25_0) :: K) t H = regR T fn K (aops (callR T) [
  ⟨(some 4), none, (.val (.c (.b false)))⟩] t H) := runR_reg'
def d25_1 : List AOper := [
  ⟨(some 6), none, (.val (.t 0))⟩,
  ⟨(some 7), none, (.len (.t 6))⟩,
  ⟨(some 8), none, (.val (.t 1))⟩,
  ⟨(some 9), none, (.len (.t 8))⟩,
  ⟨(some 10), none, (.bin .neq (.t 7) (.t 9))⟩]
theorem r25_1 {fn : AFun} {K : List AItem} {t : Nat → AV} {H : AH} {T : Tbl} : runR T fn (.code (.reg d25_1) :: K) t H = regR T fn K (aops (callR T) [
  ⟨(some 6), none, (.val (.t 0))⟩,
  ⟨(some 7), none, (.len (.t 6))⟩,
  ⟨(some 8), none, (.val (.t 1))⟩,
  ⟨(some 9), none, (.len (.t 8))⟩,
  ⟨(some 10), none, (.bin .neq (.t 7) (.t 9))⟩] t H) := runR_reg'
def d25_2 : List AOper := [
  ⟨(some 4), none, (.val (.c (.b false)))⟩]
theorem r25_2 {fn : AFun} {K : List AItem} {t : Nat → AV} {H : AH} {T : Tbl} : runR T fn (.code (.reg d25_2) :: K) t H = regR T fn K (aops (callR T) [
  ⟨(some 4), none, (.val (.c (.b false)))⟩] t H) := runR_reg'
def d25_3 : List AOper := [
  ⟨(some 11), none, (.val (.t 0))⟩,
  ⟨(some 12), none, (.len (.t 11))⟩,
  ⟨(some 13), none, (.val (.c (.i .i64 0)))⟩]
theorem r25_3 {fn : AFun} {K : List AItem} {t : Nat → AV} {H : AH} {T : Tbl} : runR T fn (.code (.reg d25_3) :: K) t H = regR T fn K (aops (callR T) [
  ⟨(some 11), none, (.val (.t 0))⟩,
  ⟨(some 12), none, (.len (.t 11))⟩,
  ⟨(some 13), none, (.val (.c (.i .i64 0)))⟩] t H) := runR_reg'
def d25_4 : List AOper := [
  ⟨(some 14), none, (.bin .lss (.t 13) (.t 12))⟩]
theorem r25_4 {fn : AFun} {K : List AItem} {t : Nat → AV} {H : AH} {T : Tbl} : runR T fn (.code (.reg d25_4) :: K) t H = regR T fn K (aops (callR T) [
  ⟨(some 14), none, (.bin .lss (.t 13) (.t 12))⟩] t H) := runR_reg'
def d25_5 : List AOper := [
  ⟨(some 15), none, (.val (.t 13))⟩,
  ⟨(some 5), none, (.val (.t 15))⟩]
theorem r25_5 {fn : AFun} {K : List AItem} {t : Nat → AV} {H : AH} {T : Tbl} : runR T fn (.code (.reg d25_5) :: K) t H = regR T fn K (aops (callR T) [
  ⟨(some 15), none, (.val (.t 13))⟩,
  ⟨(some 5), none, (.val (.t 15))⟩] t H) := runR_reg'
def d25_6 : List (AOper × List Nat) := [
  (⟨(some 16), none, (.val (.t 0))⟩, []),
  (⟨(some 17), none, (.val (.t 5))⟩, []),
  (⟨(some 18), none, (.ia 1 (.t 16) (.t 17))⟩, []),
  (⟨(some 19), none, (.ld none (.t 18))⟩, [1]),
  (⟨(some 20), none, (.val (.t 1))⟩, []),
  (⟨(some 21), none, (.val (.t 5))⟩, []),
  (⟨(some 22), none, (.ia 1 (.t 20) (.t 21))⟩, []),
  (⟨(some 23), none, (.ld none (.t 22))⟩, [1]),
  (⟨(some 24), none, (.bin .neq (.t 19) (.t 23))⟩, [])]
theorem r25_6 {fn : AFun} {K : List AItem} {t : Nat → AV} {H : AH} {T : Tbl} : runR T fn (.code (.drw d25_6) :: K) t H = regR T fn K (aops (callR T) [
  ⟨(some 16), none, (.val (.t 0))⟩,
  ⟨(some 17), none, (.val (.t 5))⟩,
  ⟨(some 18), none, (.ia 1 (.t 16) (.t 17))⟩,
  ⟨(some 19), none, (.ld none (.t 18))⟩,
  ⟨(some 20), none, (.val (.t 1))⟩,
  ⟨(some 21), none, (.val (.t 5))⟩,
  ⟨(some 22), none, (.ia 1 (.t 20) (.t 21))⟩,
  ⟨(some 23), none, (.ld none (.t 22))⟩,
  ⟨(some 24), none, (.bin .neq (.t 19) (.t 23))⟩] t H) := runR_plain rfl
def d25_7 : List AOper := [
  ⟨(some 4), none, (.val (.c (.b false)))⟩]
theorem r25_7 {fn : AFun} {K : List AItem} {t : Nat → AV} {H : AH} {T : Tbl} : runR T fn (.code (.reg d25_7) :: K) t H = regR T fn K (aops (callR T) [
  ⟨(some 4), none, (.val (.c (.b false)))⟩] t H) := runR_reg'
def d25_8 : List AOper := [
  ⟨(some 25), none, (.bin .add (.t 13) (.c (.i .i64 1)))⟩,
  ⟨(some 13), none, (.val (.t 25))⟩]
theorem r25_8 {fn : AFun} {K : List AItem} {t : Nat → AV} {H : AH} {T : Tbl} : runR T fn (.code (.reg d25_8) :: K) t H = regR T fn K (aops (callR T) [
  ⟨(some 25), none, (.bin .add (.t 13) (.c (.i .i64 1)))⟩,
  ⟨(some 13), none, (.val (.t 25))⟩] t H) := runR_reg'
def l25_9 : ACode := (.seq (.reg d25_4) (.seq (.cond (.t 14) .skip (.exit 0)) (.seq (.block 1 (.seq (.reg d25_5) (.seq (.drw d25_6) (.cond (.t 24) (.seq (.reg d25_7) .ret) .skip)))) (.reg d25_8))))
def d25_10 : List AOper := [
  ⟨(some 4), none, (.val (.c (.b true)))⟩]
theorem r25_10 {fn : AFun} {K : List AItem} {t : Nat → AV} {H : AH} {T : Tbl} : runR T fn (.code (.reg d25_10) :: K) t H = regR T fn K (aops (callR T) [
  ⟨(some 4), none, (.val (.c (.b true)))⟩] t H) := runR_reg'
def a25 : AFun := ⟨26, [(.tmp 4)], (.seq (.reg d25_0) (.seq (.seq (.reg d25_1) (.cond (.t 10) (.seq (.reg d25_2) .ret) .skip)) (.seq (.seq (.reg d25_3) (.block 0 (.loop l25_9))) (.seq (.reg d25_10) .ret))))⟩
theorem a25_ok : cfun Try.prog 25 = some a25 := by kernel_rfl
/-- All of them. -/
def tbl : Tbl
  | 3 => some a3
  | 4 => some a4
  | 5 => some a5
  | 6 => some a6
  | 7 => some a7
  | 8 => some a8
  | 9 => some a9
  | 10 => some a10
  | 11 => some a11
  | 12 => some a12
  | 13 => some a13
  | 14 => some a14
  | 15 => some a15
  | 16 => some a16
  | 17 => some a17
  | 18 => some a18
  | 19 => some a19
  | 20 => some a20
  | 21 => some a21
  | 22 => some a22
  | 23 => some a23
  | 24 => some a24
  | 25 => some a25
  | _ => none
/-- The heap behind a call of which the value alone is told. -/
noncomputable def hC (n : FuncId) (args : List AV) (H : AH) : AH := hAft (callR tbl n args H)
theorem hC_of {n : FuncId} {args : List AV} {H : AH} {v : AV} (h : ∃ H', callR tbl n args H = some (v, H')) : callR tbl n args H = some (v, hC n args H) := aft_of h
theorem tbl3 : tbl 3 = some a3 := rfl
theorem c3 {x0 x1 : AV} {H : AH} : callR tbl 3 [x0, x1] H = runR tbl a3 [.code a3.body] (ainit [x0, x1]) H := callR_of tbl3 (Nat.le_of_ble_eq_true rfl)
theorem b3 : a3.body = (.seq (.reg d3_0) (.seq (.reg d3_1) (.seq (.seq (.reg d3_2) (.cond (.t 26) (.seq (.reg d3_3) .ret) .skip)) (.seq (.seq (.reg d3_4) (.block 0 (.loop l3_22))) (.seq (.reg d3_23) .ret))))) := rfl
theorem s3 : a3.res = [(.tmp 4)] := rfl
theorem tbl4 : tbl 4 = some a4 := rfl
theorem c4 {x0 x1 : AV} {H : AH} : callR tbl 4 [x0, x1] H = runR tbl a4 [.code a4.body] (ainit [x0, x1]) H := callR_of tbl4 (Nat.le_of_ble_eq_true rfl)
theorem b4 : a4.body = (.seq (.reg d4_0) (.seq (.reg d4_1) (.seq (.seq (.reg d4_2) (.cond (.t 22) (.seq (.reg d4_3) .ret) .skip)) (.seq (.reg d4_4) (.seq (.seq (.reg d4_5) (.block 0 (.loop l4_18))) (.seq (.reg d4_19) .ret)))))) := rfl
theorem s4 : a4.res = [(.tmp 4)] := rfl
theorem tbl5 : tbl 5 = some a5 := rfl
theorem c5 {x0 x1 : AV} {H : AH} : callR tbl 5 [x0, x1] H = runR tbl a5 [.code a5.body] (ainit [x0, x1]) H := callR_of tbl5 (Nat.le_of_ble_eq_true rfl)
theorem b5 : a5.body = (.seq (.reg d5_0) (.seq (.reg d5_1) (.seq (.seq (.reg d5_2) (.seq (.reg d5_3) (.cond (.t 37) (.seq (.reg d5_4) .ret) .skip))) (.seq (.reg d5_5) (.seq (.seq (.reg d5_6) (.block 0 (.loop l5_26))) (.seq (.reg d5_27) .ret)))))) := rfl
theorem s5 : a5.res = [(.tmp 4)] := rfl
theorem tbl6 : tbl 6 = some a6 := rfl
theorem c6 {x0 x1 x2 : AV} {H : AH} : callR tbl 6 [x0, x1, x2] H = runR tbl a6 [.code a6.body] (ainit [x0, x1, x2]) H := callR_of tbl6 (Nat.le_of_ble_eq_true rfl)
theorem b6 : a6.body = (.seq (.reg d6_0) (.seq (.seq (.reg d6_1) (.block 0 (.loop l6_8))) (.seq (.reg d6_9) (.seq (.reg d6_10) (.seq (.seq (.reg d6_11) (.cond (.t 97) (.seq (.reg d6_12) .ret) .skip)) (.seq (.seq (.reg d6_13) (.block 2 (.loop l6_20))) (.seq (.seq (.reg d6_21) (.cond (.t 131) (.seq (.reg d6_22) .ret) .skip)) (.seq (.reg d6_23) (.seq (.reg d6_24) (.seq (.seq (.reg d6_25) (.block 4 (.loop l6_30))) (.seq (.drw d6_31) .ret))))))))))) := rfl
theorem s6 : a6.res = [(.tmp 6)] := rfl
theorem tbl7 : tbl 7 = some a7 := rfl
theorem c7 {x0 : AV} {H : AH} : callR tbl 7 [x0] H = runR tbl a7 [.code a7.body] (ainit [x0]) H := callR_of tbl7 (Nat.le_of_ble_eq_true rfl)
theorem b7 : a7.body = (.seq (.reg d7_0) (.seq (.seq (.reg d7_1) (.cond (.t 9) (.seq (.reg d7_2) .ret) .skip)) (.seq (.reg d7_3) .ret))) := rfl
theorem s7 : a7.res = [(.tmp 2), (.tmp 3)] := rfl
theorem tbl8 : tbl 8 = some a8 := rfl
theorem c8 {x0 : AV} {H : AH} : callR tbl 8 [x0] H = runR tbl a8 [.code a8.body] (ainit [x0]) H := callR_of tbl8 (Nat.le_of_ble_eq_true rfl)
theorem b8 : a8.body = (.seq (.reg d8_0) (.seq (.reg d8_1) .ret)) := rfl
theorem s8 : a8.res = [(.tmp 2)] := rfl
theorem tbl9 : tbl 9 = some a9 := rfl
theorem c9 {x0 : AV} {H : AH} : callR tbl 9 [x0] H = runR tbl a9 [.code a9.body] (ainit [x0]) H := callR_of tbl9 (Nat.le_of_ble_eq_true rfl)
theorem b9 : a9.body = (.seq (.reg d9_0) (.seq (.seq (.reg d9_1) (.cond (.t 5) (.seq (.reg d9_2) .ret) .skip)) (.seq (.reg d9_3) (.seq (.reg d9_4) (.seq (.reg d9_5) .ret))))) := rfl
theorem s9 : a9.res = [(.tmp 2)] := rfl
theorem tbl10 : tbl 10 = some a10 := rfl
theorem c10 {x0 x1 x2 x3 : AV} {H : AH} : callR tbl 10 [x0, x1, x2, x3] H = runR tbl a10 [.code a10.body] (ainit [x0, x1, x2, x3]) H := callR_of tbl10 (Nat.le_of_ble_eq_true rfl)
theorem b10 : a10.body = (.seq (.reg d10_0) (.seq (.reg d10_1) (.seq (.seq (.reg d10_2) (.cond (.t 16) (.seq (.reg d10_3) .ret) .skip)) (.seq (.reg d10_4) (.seq (.seq (.reg d10_5) (.cond (.t 22) (.reg d10_6) .skip)) (.seq (.reg d10_7) .ret)))))) := rfl
theorem s10 : a10.res = [(.tmp 8), (.tmp 9)] := rfl
theorem tbl11 : tbl 11 = some a11 := rfl
theorem c11 {x0 x1 x2 : AV} {H : AH} : callR tbl 11 [x0, x1, x2] H = runR tbl a11 [.code a11.body] (ainit [x0, x1, x2]) H := callR_of tbl11 (Nat.le_of_ble_eq_true rfl)
theorem b11 : a11.body = (.seq (.reg d11_0) (.seq (.reg d11_1) (.seq (.seq (.reg d11_2) (.cond (.t 12) (.seq (.reg d11_3) .ret) .skip)) (.seq (.reg d11_4) (.seq (.reg d11_5) .ret))))) := rfl
theorem s11 : a11.res = [(.tmp 6)] := rfl
theorem tbl12 : tbl 12 = some a12 := rfl
theorem c12 {x0 x1 : AV} {H : AH} : callR tbl 12 [x0, x1] H = runR tbl a12 [.code a12.body] (ainit [x0, x1]) H := callR_of tbl12 (Nat.le_of_ble_eq_true rfl)
theorem b12 : a12.body = (.seq (.reg d12_0) (.seq (.reg d12_1) (.seq (.seq (.reg d12_2) (.cond (.t 10) (.seq (.reg d12_3) .ret) .skip)) (.seq (.reg d12_4) .ret)))) := rfl
theorem s12 : a12.res = [(.tmp 4)] := rfl
theorem tbl13 : tbl 13 = some a13 := rfl
theorem c13 {H : AH} : callR tbl 13 [] H = runR tbl a13 [.code a13.body] (ainit []) H := callR_of tbl13 (Nat.le_of_ble_eq_true rfl)
theorem b13 : a13.body = (.seq (.reg d13_0) (.seq (.reg d13_1) (.seq (.seq (.reg d13_2) (.cond (.t 16) (.seq (.reg d13_3) .ret) .skip)) (.seq (.reg d13_4) (.seq (.reg d13_5) (.seq (.reg d13_6) .ret)))))) := rfl
theorem s13 : a13.res = [(.tmp 0)] := rfl
theorem tbl14 : tbl 14 = some a14 := rfl
theorem c14 {x0 x1 : AV} {H : AH} : callR tbl 14 [x0, x1] H = runR tbl a14 [.code a14.body] (ainit [x0, x1]) H := callR_of tbl14 (Nat.le_of_ble_eq_true rfl)
theorem b14 : a14.body = (.seq (.reg d14_0) (.seq (.reg d14_1) (.seq (.seq (.reg d14_2) (.cond (.t 10) (.seq (.reg d14_3) .ret) .skip)) (.seq (.reg d14_4) .ret)))) := rfl
theorem s14 : a14.res = [(.tmp 4)] := rfl
theorem tbl15 : tbl 15 = some a15 := rfl
theorem c15 {x0 : AV} {H : AH} : callR tbl 15 [x0] H = runR tbl a15 [.code a15.body] (ainit [x0]) H := callR_of tbl15 (Nat.le_of_ble_eq_true rfl)
theorem b15 : a15.body = (.seq (.reg d15_0) (.seq (.seq (.reg d15_1) (.cond (.t 4) (.seq (.reg d15_2) .ret) .skip)) (.seq (.reg d15_3) .ret))) := rfl
theorem s15 : a15.res = [(.tmp 2)] := rfl
theorem tbl16 : tbl 16 = some a16 := rfl
theorem c16 {x0 x1 : AV} {H : AH} : callR tbl 16 [x0, x1] H = runR tbl a16 [.code a16.body] (ainit [x0, x1]) H := callR_of tbl16 (Nat.le_of_ble_eq_true rfl)
theorem b16 : a16.body = (.seq (.reg d16_0) (.seq (.seq (.reg d16_1) (.cond (.t 8) (.seq (.reg d16_2) .ret) .skip)) (.seq (.reg d16_3) (.seq (.reg d16_4) .ret)))) := rfl
theorem s16 : a16.res = [(.tmp 4)] := rfl
theorem tbl17 : tbl 17 = some a17 := rfl
theorem c17 {x0 x1 x2 : AV} {H : AH} : callR tbl 17 [x0, x1, x2] H = runR tbl a17 [.code a17.body] (ainit [x0, x1, x2]) H := callR_of tbl17 (Nat.le_of_ble_eq_true rfl)
theorem b17 : a17.body = (.seq (.reg d17_0) (.seq (.seq (.reg d17_1) (.cond (.t 10) (.seq (.reg d17_2) .ret) .skip)) (.seq (.reg d17_3) (.seq (.reg d17_4) (.seq (.reg d17_5) .ret))))) := rfl
theorem s17 : a17.res = [(.tmp 6)] := rfl
theorem tbl18 : tbl 18 = some a18 := rfl
theorem c18 {x0 x1 x2 x3 : AV} {H : AH} : callR tbl 18 [x0, x1, x2, x3] H = runR tbl a18 [.code a18.body] (ainit [x0, x1, x2, x3]) H := callR_of tbl18 (Nat.le_of_ble_eq_true rfl)
theorem b18 : a18.body = (.seq (.reg d18_0) (.seq (.seq (.reg d18_1) (.cond (.t 14) (.seq (.reg d18_2) .ret) .skip)) (.seq (.reg d18_3) (.seq (.seq (.reg d18_4) (.cond (.t 20) (.seq (.reg d18_5) (.seq (.reg d18_6) .ret)) .skip)) (.seq (.reg d18_7) .ret))))) := rfl
theorem s18 : a18.res = [(.tmp 8), (.tmp 9)] := rfl
theorem tbl19 : tbl 19 = some a19 := rfl
theorem c19 {x0 x1 : AV} {H : AH} : callR tbl 19 [x0, x1] H = runR tbl a19 [.code a19.body] (ainit [x0, x1]) H := callR_of tbl19 (Nat.le_of_ble_eq_true rfl)
theorem b19 : a19.body = (.seq (.reg d19_0) (.seq (.reg d19_1) (.seq (.seq (.reg d19_2) (.block 0 (.loop l19_7))) (.seq (.reg d19_8) .ret)))) := rfl
theorem s19 : a19.res = [(.tmp 4)] := rfl
theorem tbl20 : tbl 20 = some a20 := rfl
theorem c20 {x0 : AV} {H : AH} : callR tbl 20 [x0] H = runR tbl a20 [.code a20.body] (ainit [x0]) H := callR_of tbl20 (Nat.le_of_ble_eq_true rfl)
theorem b20 : a20.body = (.seq (.reg d20_0) (.seq (.reg d20_1) .ret)) := rfl
theorem s20 : a20.res = [(.tmp 2)] := rfl
theorem tbl21 : tbl 21 = some a21 := rfl
theorem c21 {x0 x1 : AV} {H : AH} : callR tbl 21 [x0, x1] H = runR tbl a21 [.code a21.body] (ainit [x0, x1]) H := callR_of tbl21 (Nat.le_of_ble_eq_true rfl)
theorem b21 : a21.body = (.seq (.reg d21_0) (.seq (.reg d21_1) .ret)) := rfl
theorem s21 : a21.res = [(.tmp 4)] := rfl
theorem tbl22 : tbl 22 = some a22 := rfl
theorem c22 {x0 x1 : AV} {H : AH} : callR tbl 22 [x0, x1] H = runR tbl a22 [.code a22.body] (ainit [x0, x1]) H := callR_of tbl22 (Nat.le_of_ble_eq_true rfl)
theorem b22 : a22.body = (.seq (.reg d22_0) (.seq (.reg d22_1) (.seq (.reg d22_2) (.seq (.seq (.reg d22_3) (.cond (.t 20) (.reg d22_4) .skip)) (.seq (.reg d22_5) .ret))))) := rfl
theorem s22 : a22.res = [(.tmp 4)] := rfl
theorem tbl23 : tbl 23 = some a23 := rfl
theorem c23 {x0 x1 : AV} {H : AH} : callR tbl 23 [x0, x1] H = runR tbl a23 [.code a23.body] (ainit [x0, x1]) H := callR_of tbl23 (Nat.le_of_ble_eq_true rfl)
theorem b23 : a23.body = (.seq (.reg d23_0) (.seq (.seq (.reg d23_1) (.cond (.t 19) (.seq (.reg d23_2) .ret) .skip)) (.seq (.reg d23_3) .ret))) := rfl
theorem s23 : a23.res = [(.tmp 4)] := rfl
theorem tbl24 : tbl 24 = some a24 := rfl
theorem c24 {x0 x1 : AV} {H : AH} : callR tbl 24 [x0, x1] H = runR tbl a24 [.code a24.body] (ainit [x0, x1]) H := callR_of tbl24 (Nat.le_of_ble_eq_true rfl)
theorem b24 : a24.body = (.seq (.reg d24_0) (.seq (.reg d24_1) .ret)) := rfl
theorem s24 : a24.res = [(.tmp 4)] := rfl
theorem tbl25 : tbl 25 = some a25 := rfl
theorem c25 {x0 x1 : AV} {H : AH} : callR tbl 25 [x0, x1] H = runR tbl a25 [.code a25.body] (ainit [x0, x1]) H := callR_of tbl25 (Nat.le_of_ble_eq_true rfl)
theorem b25 : a25.body = (.seq (.reg d25_0) (.seq (.seq (.reg d25_1) (.cond (.t 10) (.seq (.reg d25_2) .ret) .skip)) (.seq (.seq (.reg d25_3) (.block 0 (.loop l25_9))) (.seq (.reg d25_10) .ret)))) := rfl
theorem s25 : a25.res = [(.tmp 4)] := rfl
theorem tbl_ok : ∀ f a, tbl f = some a → cfun Try.prog f = some a := by
  intro f a h
  unfold tbl at h
  split at h
  · cases h; exact a3_ok
  · cases h; exact a4_ok
  · cases h; exact a5_ok
  · cases h; exact a6_ok
  · cases h; exact a7_ok
  · cases h; exact a8_ok
  · cases h; exact a9_ok
  · cases h; exact a10_ok
  · cases h; exact a11_ok
  · cases h; exact a12_ok
  · cases h; exact a13_ok
  · cases h; exact a14_ok
  · cases h; exact a15_ok
  · cases h; exact a16_ok
  · cases h; exact a17_ok
  · cases h; exact a18_ok
  · cases h; exact a19_ok
  · cases h; exact a20_ok
  · cases h; exact a21_ok
  · cases h; exact a22_ok
  · cases h; exact a23_ok
  · cases h; exact a24_ok
  · cases h; exact a25_ok
  · cases h
end Go.Proofs.Ytlhfopjgcilngaa.Abs
