/- The functions that the laws of this seat reach, in the plain machine's form, and that they are the loaded ones. Printed by a program of this seat's own (gencode.py). No condition of its own. -/
import Derived.Test.YtaolkpkaiidmeaaProg
import Derived.Test.YtaolkpkaiidmeaaAbs3
import Derived.Test.YtaolkpkaiidmeaaEval
import Derived.KernelRfl
namespace Go.Proofs.Ytaolkpkaiidmeaa.Abs
set_option linter.unusedVariables false
set_option maxRecDepth 100000
/-- futtock/futtocklaw07.TimerNext -/
def d3_0 : List AOper := [
  ⟨(some 2), none, (.val (.c (.b false)))⟩]
theorem r3_0 {fn : AFun} {K : List AItem} {t : Nat → AV} {H : AH} {T : Tbl} : runR T fn (.code (.reg d3_0) :: K) t H = regR T fn K (aops (callR T) [
  ⟨(some 2), none, (.val (.c (.b false)))⟩] t H) := runR_reg'
def d3_1 : List AOper := [
  ⟨(some 9), none, (.call 7 [])⟩,
  ⟨(some 3), none, (.val (.t 9))⟩]
theorem r3_1 {fn : AFun} {K : List AItem} {t : Nat → AV} {H : AH} {T : Tbl} : runR T fn (.code (.reg d3_1) :: K) t H = regR T fn K (aops (callR T) [
  ⟨(some 9), none, (.call 7 [])⟩,
  ⟨(some 3), none, (.val (.t 9))⟩] t H) := runR_reg'
def d3_2 : List AOper := [
  ⟨(some 10), none, (.val (.t 3))⟩,
  ⟨(some 11), none, (.eqn 0 false (.t 10) (.c (.p none)))⟩]
theorem r3_2 {fn : AFun} {K : List AItem} {t : Nat → AV} {H : AH} {T : Tbl} : runR T fn (.code (.reg d3_2) :: K) t H = regR T fn K (aops (callR T) [
  ⟨(some 10), none, (.val (.t 3))⟩,
  ⟨(some 11), none, (.eqn 0 false (.t 10) (.c (.p none)))⟩] t H) := runR_reg'
def d3_3 : List AOper := [
  ⟨(some 2), none, (.val (.c (.b false)))⟩]
theorem r3_3 {fn : AFun} {K : List AItem} {t : Nat → AV} {H : AH} {T : Tbl} : runR T fn (.code (.reg d3_3) :: K) t H = regR T fn K (aops (callR T) [
  ⟨(some 2), none, (.val (.c (.b false)))⟩] t H) := runR_reg'
def d3_4 : List AOper := [
  ⟨(some 12), none, (.val (.t 0))⟩,
  ⟨(some 13), none, (.call 8 [(.t 12)])⟩,
  ⟨(some 14), none, (.len (.t 13))⟩,
  ⟨(some 15), none, (.val (.c (.i .i64 0)))⟩]
theorem r3_4 {fn : AFun} {K : List AItem} {t : Nat → AV} {H : AH} {T : Tbl} : runR T fn (.code (.reg d3_4) :: K) t H = regR T fn K (aops (callR T) [
  ⟨(some 12), none, (.val (.t 0))⟩,
  ⟨(some 13), none, (.call 8 [(.t 12)])⟩,
  ⟨(some 14), none, (.len (.t 13))⟩,
  ⟨(some 15), none, (.val (.c (.i .i64 0)))⟩] t H) := runR_reg'
def d3_5 : List AOper := [
  ⟨(some 16), none, (.bin .lss (.t 15) (.t 14))⟩]
theorem r3_5 {fn : AFun} {K : List AItem} {t : Nat → AV} {H : AH} {T : Tbl} : runR T fn (.code (.reg d3_5) :: K) t H = regR T fn K (aops (callR T) [
  ⟨(some 16), none, (.bin .lss (.t 15) (.t 14))⟩] t H) := runR_reg'
def d3_6 : List AOper := [
  ⟨(some 17), none, (.ia 3 (.t 13) (.t 15))⟩,
  ⟨(some 18), none, (.ld (some 3) (.t 17))⟩,
  ⟨(some 5), none, (.alloc [(.i .u8 0), (.i .i64 0), (.i .i64 0)])⟩,
  ⟨none, none, (.st 3 (.t 5) (.t 18))⟩]
theorem r3_6 {fn : AFun} {K : List AItem} {t : Nat → AV} {H : AH} {T : Tbl} : runR T fn (.code (.reg d3_6) :: K) t H = regR T fn K (aops (callR T) [
  ⟨(some 17), none, (.ia 3 (.t 13) (.t 15))⟩,
  ⟨(some 18), none, (.ld (some 3) (.t 17))⟩,
  ⟨(some 5), none, (.alloc [(.i .u8 0), (.i .i64 0), (.i .i64 0)])⟩,
  ⟨none, none, (.st 3 (.t 5) (.t 18))⟩] t H) := runR_reg'
def d3_7 : List AOper := [
  ⟨(some 19), none, (.fa 0 (.t 5))⟩,
  ⟨(some 20), none, (.ld none (.t 19))⟩,
  ⟨(some 21), none, (.bin .rem (.t 20) (.c (.i .u8 4)))⟩,
  ⟨(some 22), none, (.bin .eql (.t 21) (.c (.i .u8 2)))⟩]
theorem r3_7 {fn : AFun} {K : List AItem} {t : Nat → AV} {H : AH} {T : Tbl} : runR T fn (.code (.reg d3_7) :: K) t H = regR T fn K (aops (callR T) [
  ⟨(some 19), none, (.fa 0 (.t 5))⟩,
  ⟨(some 20), none, (.ld none (.t 19))⟩,
  ⟨(some 21), none, (.bin .rem (.t 20) (.c (.i .u8 4)))⟩,
  ⟨(some 22), none, (.bin .eql (.t 21) (.c (.i .u8 2)))⟩] t H) := runR_reg'
def d3_8 : List AOper := [
  ⟨(some 23), none, (.val (.t 3))⟩,
  ⟨(some 24), none, (.fa 2 (.t 5))⟩,
  ⟨(some 25), none, (.ld none (.t 24))⟩,
  ⟨(some 26), none, (.bin .and (.t 25) (.c (.i .i64 15)))⟩,
  ⟨(some 27), none, (.call 9 [(.t 23), (.t 26)])⟩]
theorem r3_8 {fn : AFun} {K : List AItem} {t : Nat → AV} {H : AH} {T : Tbl} : runR T fn (.code (.reg d3_8) :: K) t H = regR T fn K (aops (callR T) [
  ⟨(some 23), none, (.val (.t 3))⟩,
  ⟨(some 24), none, (.fa 2 (.t 5))⟩,
  ⟨(some 25), none, (.ld none (.t 24))⟩,
  ⟨(some 26), none, (.bin .and (.t 25) (.c (.i .i64 15)))⟩,
  ⟨(some 27), none, (.call 9 [(.t 23), (.t 26)])⟩] t H) := runR_reg'
def d3_9 : List AOper := [
  ⟨(some 28), none, (.val (.t 3))⟩,
  ⟨(some 29), none, (.fa 1 (.t 5))⟩,
  ⟨(some 30), none, (.ld none (.t 29))⟩,
  ⟨(some 31), none, (.fa 2 (.t 5))⟩,
  ⟨(some 32), none, (.ld none (.t 31))⟩,
  ⟨(some 33), none, (.call 10 [(.t 28), (.t 30), (.t 32)])⟩]
theorem r3_9 {fn : AFun} {K : List AItem} {t : Nat → AV} {H : AH} {T : Tbl} : runR T fn (.code (.reg d3_9) :: K) t H = regR T fn K (aops (callR T) [
  ⟨(some 28), none, (.val (.t 3))⟩,
  ⟨(some 29), none, (.fa 1 (.t 5))⟩,
  ⟨(some 30), none, (.ld none (.t 29))⟩,
  ⟨(some 31), none, (.fa 2 (.t 5))⟩,
  ⟨(some 32), none, (.ld none (.t 31))⟩,
  ⟨(some 33), none, (.call 10 [(.t 28), (.t 30), (.t 32)])⟩] t H) := runR_reg'
def d3_10 : List AOper := [
  ⟨(some 34), none, (.bin .add (.t 15) (.c (.i .i64 1)))⟩,
  ⟨(some 15), none, (.val (.t 34))⟩]
theorem r3_10 {fn : AFun} {K : List AItem} {t : Nat → AV} {H : AH} {T : Tbl} : runR T fn (.code (.reg d3_10) :: K) t H = regR T fn K (aops (callR T) [
  ⟨(some 34), none, (.bin .add (.t 15) (.c (.i .i64 1)))⟩,
  ⟨(some 15), none, (.val (.t 34))⟩] t H) := runR_reg'
def l3_11 : ACode := (.seq (.reg d3_5) (.seq (.cond (.t 16) .skip (.exit 0)) (.seq (.block 1 (.seq (.reg d3_6) (.seq (.seq (.reg d3_7) (.cond (.t 22) (.seq (.reg d3_8) (.exit 1)) .skip)) (.reg d3_9)))) (.reg d3_10))))
def d3_12 : List AOper := [
  ⟨(some 36), none, (.val (.t 3))⟩,
  ⟨(some 37), none, (.call 11 [(.t 36)])⟩,
  ⟨(some 35), none, (.val (.t 37))⟩,
  ⟨(some 38), none, (.ext (.t 35) 0)⟩,
  ⟨(some 39), none, (.ext (.t 35) 1)⟩,
  ⟨(some 6), none, (.val (.t 38))⟩,
  ⟨(some 7), none, (.val (.t 39))⟩]
theorem r3_12 {fn : AFun} {K : List AItem} {t : Nat → AV} {H : AH} {T : Tbl} : runR T fn (.code (.reg d3_12) :: K) t H = regR T fn K (aops (callR T) [
  ⟨(some 36), none, (.val (.t 3))⟩,
  ⟨(some 37), none, (.call 11 [(.t 36)])⟩,
  ⟨(some 35), none, (.val (.t 37))⟩,
  ⟨(some 38), none, (.ext (.t 35) 0)⟩,
  ⟨(some 39), none, (.ext (.t 35) 1)⟩,
  ⟨(some 6), none, (.val (.t 38))⟩,
  ⟨(some 7), none, (.val (.t 39))⟩] t H) := runR_reg'
def d3_13 : List AOper := [
  ⟨(some 40), none, (.val (.t 7))⟩,
  ⟨(some 41), none, (.un .not (.t 40))⟩,
  ⟨(some 42), none, (.val (.t 41))⟩,
  ⟨(some 43), (some (42, false)), (.val (.t 3))⟩,
  ⟨(some 44), (some (42, false)), (.call 12 [(.t 43)])⟩,
  ⟨(some 45), (some (42, false)), (.val (.t 6))⟩,
  ⟨(some 46), (some (42, false)), (.bin .geq (.t 44) (.t 45))⟩,
  ⟨(some 47), none, (.pick (.t 42) (.c (.b true)) (.t 46))⟩]
theorem r3_13 {fn : AFun} {K : List AItem} {t : Nat → AV} {H : AH} {T : Tbl} : runR T fn (.code (.reg d3_13) :: K) t H = regR T fn K (aops (callR T) [
  ⟨(some 40), none, (.val (.t 7))⟩,
  ⟨(some 41), none, (.un .not (.t 40))⟩,
  ⟨(some 42), none, (.val (.t 41))⟩,
  ⟨(some 43), (some (42, false)), (.val (.t 3))⟩,
  ⟨(some 44), (some (42, false)), (.call 12 [(.t 43)])⟩,
  ⟨(some 45), (some (42, false)), (.val (.t 6))⟩,
  ⟨(some 46), (some (42, false)), (.bin .geq (.t 44) (.t 45))⟩,
  ⟨(some 47), none, (.pick (.t 42) (.c (.b true)) (.t 46))⟩] t H) := runR_reg'
def d3_14 : List AOper := [
  ⟨(some 48), none, (.val (.t 6))⟩,
  ⟨(some 49), none, (.bin .eql (.t 48) (.c (.i .i64 0)))⟩,
  ⟨(some 50), none, (.val (.t 49))⟩,
  ⟨(some 51), (some (50, false)), (.val (.t 7))⟩,
  ⟨(some 52), none, (.pick (.t 50) (.c (.b true)) (.t 51))⟩,
  ⟨(some 53), none, (.val (.t 52))⟩,
  ⟨(some 54), (some (53, true)), (.call 13 [])⟩,
  ⟨(some 55), none, (.pick (.t 53) (.t 54) (.c (.b false)))⟩,
  ⟨(some 2), none, (.val (.t 55))⟩]
theorem r3_14 {fn : AFun} {K : List AItem} {t : Nat → AV} {H : AH} {T : Tbl} : runR T fn (.code (.reg d3_14) :: K) t H = regR T fn K (aops (callR T) [
  ⟨(some 48), none, (.val (.t 6))⟩,
  ⟨(some 49), none, (.bin .eql (.t 48) (.c (.i .i64 0)))⟩,
  ⟨(some 50), none, (.val (.t 49))⟩,
  ⟨(some 51), (some (50, false)), (.val (.t 7))⟩,
  ⟨(some 52), none, (.pick (.t 50) (.c (.b true)) (.t 51))⟩,
  ⟨(some 53), none, (.val (.t 52))⟩,
  ⟨(some 54), (some (53, true)), (.call 13 [])⟩,
  ⟨(some 55), none, (.pick (.t 53) (.t 54) (.c (.b false)))⟩,
  ⟨(some 2), none, (.val (.t 55))⟩] t H) := runR_reg'
def d3_15 : List AOper := [
  ⟨(some 56), none, (.val (.t 3))⟩,
  ⟨(some 57), none, (.val (.t 6))⟩,
  ⟨(some 58), none, (.bin .sub (.t 57) (.c (.i .i64 1)))⟩,
  ⟨(some 59), none, (.val (.t 3))⟩,
  ⟨(some 60), none, (.call 12 [(.t 59)])⟩,
  ⟨(some 61), none, (.bin .sub (.t 58) (.t 60))⟩,
  ⟨(some 62), none, (.call 9 [(.t 56), (.t 61)])⟩,
  ⟨(some 63), none, (.len (.t 62))⟩,
  ⟨(some 64), none, (.bin .neq (.t 63) (.c (.i .i64 0)))⟩]
theorem r3_15 {fn : AFun} {K : List AItem} {t : Nat → AV} {H : AH} {T : Tbl} : runR T fn (.code (.reg d3_15) :: K) t H = regR T fn K (aops (callR T) [
  ⟨(some 56), none, (.val (.t 3))⟩,
  ⟨(some 57), none, (.val (.t 6))⟩,
  ⟨(some 58), none, (.bin .sub (.t 57) (.c (.i .i64 1)))⟩,
  ⟨(some 59), none, (.val (.t 3))⟩,
  ⟨(some 60), none, (.call 12 [(.t 59)])⟩,
  ⟨(some 61), none, (.bin .sub (.t 58) (.t 60))⟩,
  ⟨(some 62), none, (.call 9 [(.t 56), (.t 61)])⟩,
  ⟨(some 63), none, (.len (.t 62))⟩,
  ⟨(some 64), none, (.bin .neq (.t 63) (.c (.i .i64 0)))⟩] t H) := runR_reg'
def d3_16 : List AOper := [
  ⟨(some 2), none, (.val (.c (.b false)))⟩]
theorem r3_16 {fn : AFun} {K : List AItem} {t : Nat → AV} {H : AH} {T : Tbl} : runR T fn (.code (.reg d3_16) :: K) t H = regR T fn K (aops (callR T) [
  ⟨(some 2), none, (.val (.c (.b false)))⟩] t H) := runR_reg'
def d3_17 : List AOper := [
  ⟨(some 65), none, (.val (.t 3))⟩,
  ⟨(some 66), none, (.call 9 [(.t 65), (.c (.i .i64 1))])⟩,
  ⟨(some 8), none, (.val (.t 66))⟩]
theorem r3_17 {fn : AFun} {K : List AItem} {t : Nat → AV} {H : AH} {T : Tbl} : runR T fn (.code (.reg d3_17) :: K) t H = regR T fn K (aops (callR T) [
  ⟨(some 65), none, (.val (.t 3))⟩,
  ⟨(some 66), none, (.call 9 [(.t 65), (.c (.i .i64 1))])⟩,
  ⟨(some 8), none, (.val (.t 66))⟩] t H) := runR_reg'
def d3_18 : List AOper := [
  ⟨(some 67), none, (.val (.t 8))⟩,
  ⟨(some 68), none, (.len (.t 67))⟩,
  ⟨(some 69), none, (.bin .gtr (.t 68) (.c (.i .i64 0)))⟩,
  ⟨(some 70), none, (.val (.t 69))⟩,
  ⟨(some 71), (some (70, true)), (.val (.t 3))⟩,
  ⟨(some 72), (some (70, true)), (.call 12 [(.t 71)])⟩,
  ⟨(some 73), (some (70, true)), (.val (.t 6))⟩,
  ⟨(some 74), (some (70, true)), (.bin .eql (.t 72) (.t 73))⟩,
  ⟨(some 75), none, (.pick (.t 70) (.t 74) (.c (.b false)))⟩,
  ⟨(some 76), none, (.val (.t 75))⟩,
  ⟨(some 77), (some (76, true)), (.call 13 [])⟩,
  ⟨(some 78), none, (.pick (.t 76) (.t 77) (.c (.b false)))⟩,
  ⟨(some 2), none, (.val (.t 78))⟩]
theorem r3_18 {fn : AFun} {K : List AItem} {t : Nat → AV} {H : AH} {T : Tbl} : runR T fn (.code (.reg d3_18) :: K) t H = regR T fn K (aops (callR T) [
  ⟨(some 67), none, (.val (.t 8))⟩,
  ⟨(some 68), none, (.len (.t 67))⟩,
  ⟨(some 69), none, (.bin .gtr (.t 68) (.c (.i .i64 0)))⟩,
  ⟨(some 70), none, (.val (.t 69))⟩,
  ⟨(some 71), (some (70, true)), (.val (.t 3))⟩,
  ⟨(some 72), (some (70, true)), (.call 12 [(.t 71)])⟩,
  ⟨(some 73), (some (70, true)), (.val (.t 6))⟩,
  ⟨(some 74), (some (70, true)), (.bin .eql (.t 72) (.t 73))⟩,
  ⟨(some 75), none, (.pick (.t 70) (.t 74) (.c (.b false)))⟩,
  ⟨(some 76), none, (.val (.t 75))⟩,
  ⟨(some 77), (some (76, true)), (.call 13 [])⟩,
  ⟨(some 78), none, (.pick (.t 76) (.t 77) (.c (.b false)))⟩,
  ⟨(some 2), none, (.val (.t 78))⟩] t H) := runR_reg'
def a3 : AFun := ⟨79, [(.tmp 2)], (.seq (.reg d3_0) (.seq (.reg d3_1) (.seq (.seq (.reg d3_2) (.cond (.t 11) (.seq (.reg d3_3) .ret) .skip)) (.seq (.seq (.reg d3_4) (.block 0 (.loop l3_11))) (.seq (.reg d3_12) (.seq (.seq (.reg d3_13) (.cond (.t 47) (.seq (.reg d3_14) .ret) .skip)) (.seq (.seq (.reg d3_15) (.cond (.t 64) (.seq (.reg d3_16) .ret) .skip)) (.seq (.reg d3_17) (.seq (.reg d3_18) .ret)))))))))⟩
theorem a3_ok : cfun Try.prog 3 = some a3 := by kernel_rfl
/-- futtock/futtocklaw07.TimerPlays -/
def d4_0 : List AOper := [
  ⟨(some 2), none, (.val (.c (.b false)))⟩]
theorem r4_0 {fn : AFun} {K : List AItem} {t : Nat → AV} {H : AH} {T : Tbl} : runR T fn (.code (.reg d4_0) :: K) t H = regR T fn K (aops (callR T) [
  ⟨(some 2), none, (.val (.c (.b false)))⟩] t H) := runR_reg'
def d4_1 : List AOper := [
  ⟨(some 15), none, (.call 7 [])⟩,
  ⟨(some 3), none, (.val (.t 15))⟩]
theorem r4_1 {fn : AFun} {K : List AItem} {t : Nat → AV} {H : AH} {T : Tbl} : runR T fn (.code (.reg d4_1) :: K) t H = regR T fn K (aops (callR T) [
  ⟨(some 15), none, (.call 7 [])⟩,
  ⟨(some 3), none, (.val (.t 15))⟩] t H) := runR_reg'
def d4_2 : List AOper := [
  ⟨(some 4), none, (.alloc [(.i .i64 0), (.i .i64 0), (.i .i64 0), (.i .i64 0), (.i .i64 0), (.i .i64 0), (.i .i64 0), (.i .i64 0), (.i .i64 0), (.i .i64 0), (.i .i64 0), (.i .i64 0), (.i .i64 0), (.i .i64 0), (.i .i64 0), (.i .i64 0), (.i .i64 0), (.i .i64 0), (.i .i64 0), (.i .i64 0), (.i .i64 0), (.i .i64 0), (.i .i64 0), (.i .i64 0), (.i .i64 0), (.i .i64 0), (.i .i64 0), (.i .i64 0), (.i .i64 0), (.i .i64 0), (.i .i64 0), (.i .i64 0), (.i .i64 0), (.i .i64 0), (.i .i64 0), (.i .i64 0), (.i .i64 0), (.i .i64 0), (.i .i64 0), (.i .i64 0), (.i .i64 0), (.i .i64 0), (.i .i64 0), (.i .i64 0), (.i .i64 0), (.i .i64 0), (.i .i64 0), (.i .i64 0), (.i .i64 0), (.i .i64 0), (.i .i64 0), (.i .i64 0), (.i .i64 0), (.i .i64 0), (.i .i64 0), (.i .i64 0), (.i .i64 0), (.i .i64 0), (.i .i64 0), (.i .i64 0), (.i .i64 0), (.i .i64 0), (.i .i64 0), (.i .i64 0), (.i .i64 0), (.i .i64 0), (.i .i64 0), (.i .i64 0), (.i .i64 0), (.i .i64 0), (.i .i64 0), (.i .i64 0), (.i .i64 0), (.i .i64 0), (.i .i64 0), (.i .i64 0), (.i .i64 0), (.i .i64 0), (.i .i64 0), (.i .i64 0), (.i .i64 0), (.i .i64 0), (.i .i64 0), (.i .i64 0), (.i .i64 0), (.i .i64 0), (.i .i64 0), (.i .i64 0), (.i .i64 0), (.i .i64 0), (.i .i64 0), (.i .i64 0), (.i .i64 0), (.i .i64 0), (.i .i64 0), (.i .i64 0), (.i .i64 0), (.i .i64 0), (.i .i64 0), (.i .i64 0), (.i .i64 0), (.i .i64 0), (.i .i64 0), (.i .i64 0), (.i .i64 0), (.i .i64 0), (.i .i64 0), (.i .i64 0), (.i .i64 0), (.i .i64 0), (.i .i64 0), (.i .i64 0), (.i .i64 0), (.i .i64 0), (.i .i64 0), (.i .i64 0), (.i .i64 0), (.i .i64 0), (.i .i64 0), (.i .i64 0), (.i .i64 0), (.i .i64 0), (.i .i64 0), (.i .i64 0), (.i .i64 0), (.i .i64 0), (.i .i64 0), (.i .i64 0), (.i .i64 0), (.i .i64 0), (.i .i64 0), (.i .i64 0), (.i .i64 0), (.i .i64 0), (.i .i64 0), (.i .i64 0), (.i .i64 0), (.i .i64 0), (.i .i64 0), (.i .i64 0), (.i .i64 0), (.i .i64 0), (.i .i64 0), (.i .i64 0), (.i .i64 0), (.i .i64 0), (.i .i64 0), (.i .i64 0), (.i .i64 0), (.i .i64 0), (.i .i64 0), (.i .i64 0), (.i .i64 0), (.i .i64 0), (.i .i64 0), (.i .i64 0), (.i .i64 0), (.i .i64 0), (.i .i64 0), (.i .i64 0), (.i .i64 0), (.i .i64 0), (.i .i64 0), (.i .i64 0), (.i .i64 0), (.i .i64 0), (.i .i64 0), (.i .i64 0), (.i .i64 0), (.i .i64 0), (.i .i64 0), (.i .i64 0), (.i .i64 0), (.i .i64 0), (.i .i64 0), (.i .i64 0), (.i .i64 0), (.i .i64 0), (.i .i64 0), (.i .i64 0), (.i .i64 0), (.i .i64 0), (.i .i64 0), (.i .i64 0), (.i .i64 0), (.i .i64 0), (.i .i64 0), (.i .i64 0), (.i .i64 0), (.i .i64 0), (.i .i64 0), (.i .i64 0), (.i .i64 0), (.i .i64 0), (.i .i64 0), (.i .i64 0), (.i .i64 0), (.i .i64 0), (.i .i64 0), (.i .i64 0), (.i .i64 0), (.i .i64 0), (.i .i64 0), (.i .i64 0), (.i .i64 0), (.i .i64 0), (.i .i64 0), (.i .i64 0), (.i .i64 0), (.i .i64 0), (.i .i64 0), (.i .i64 0), (.i .i64 0), (.i .i64 0), (.i .i64 0), (.i .i64 0), (.i .i64 0), (.i .i64 0), (.i .i64 0), (.i .i64 0), (.i .i64 0), (.i .i64 0), (.i .i64 0), (.i .i64 0), (.i .i64 0), (.i .i64 0), (.i .i64 0), (.i .i64 0), (.i .i64 0), (.i .i64 0), (.i .i64 0), (.i .i64 0), (.i .i64 0), (.i .i64 0), (.i .i64 0), (.i .i64 0), (.i .i64 0), (.i .i64 0), (.i .i64 0), (.i .i64 0), (.i .i64 0), (.i .i64 0), (.i .i64 0), (.i .i64 0), (.i .i64 0), (.i .i64 0), (.i .i64 0), (.i .i64 0), (.i .i64 0), (.i .i64 0), (.i .i64 0), (.i .i64 0), (.i .i64 0), (.i .i64 0), (.i .i64 0), (.i .i64 0), (.i .i64 0)])⟩]
theorem r4_2 {fn : AFun} {K : List AItem} {t : Nat → AV} {H : AH} {T : Tbl} : runR T fn (.code (.reg d4_2) :: K) t H = regR T fn K (aops (callR T) [
  ⟨(some 4), none, (.alloc [(.i .i64 0), (.i .i64 0), (.i .i64 0), (.i .i64 0), (.i .i64 0), (.i .i64 0), (.i .i64 0), (.i .i64 0), (.i .i64 0), (.i .i64 0), (.i .i64 0), (.i .i64 0), (.i .i64 0), (.i .i64 0), (.i .i64 0), (.i .i64 0), (.i .i64 0), (.i .i64 0), (.i .i64 0), (.i .i64 0), (.i .i64 0), (.i .i64 0), (.i .i64 0), (.i .i64 0), (.i .i64 0), (.i .i64 0), (.i .i64 0), (.i .i64 0), (.i .i64 0), (.i .i64 0), (.i .i64 0), (.i .i64 0), (.i .i64 0), (.i .i64 0), (.i .i64 0), (.i .i64 0), (.i .i64 0), (.i .i64 0), (.i .i64 0), (.i .i64 0), (.i .i64 0), (.i .i64 0), (.i .i64 0), (.i .i64 0), (.i .i64 0), (.i .i64 0), (.i .i64 0), (.i .i64 0), (.i .i64 0), (.i .i64 0), (.i .i64 0), (.i .i64 0), (.i .i64 0), (.i .i64 0), (.i .i64 0), (.i .i64 0), (.i .i64 0), (.i .i64 0), (.i .i64 0), (.i .i64 0), (.i .i64 0), (.i .i64 0), (.i .i64 0), (.i .i64 0), (.i .i64 0), (.i .i64 0), (.i .i64 0), (.i .i64 0), (.i .i64 0), (.i .i64 0), (.i .i64 0), (.i .i64 0), (.i .i64 0), (.i .i64 0), (.i .i64 0), (.i .i64 0), (.i .i64 0), (.i .i64 0), (.i .i64 0), (.i .i64 0), (.i .i64 0), (.i .i64 0), (.i .i64 0), (.i .i64 0), (.i .i64 0), (.i .i64 0), (.i .i64 0), (.i .i64 0), (.i .i64 0), (.i .i64 0), (.i .i64 0), (.i .i64 0), (.i .i64 0), (.i .i64 0), (.i .i64 0), (.i .i64 0), (.i .i64 0), (.i .i64 0), (.i .i64 0), (.i .i64 0), (.i .i64 0), (.i .i64 0), (.i .i64 0), (.i .i64 0), (.i .i64 0), (.i .i64 0), (.i .i64 0), (.i .i64 0), (.i .i64 0), (.i .i64 0), (.i .i64 0), (.i .i64 0), (.i .i64 0), (.i .i64 0), (.i .i64 0), (.i .i64 0), (.i .i64 0), (.i .i64 0), (.i .i64 0), (.i .i64 0), (.i .i64 0), (.i .i64 0), (.i .i64 0), (.i .i64 0), (.i .i64 0), (.i .i64 0), (.i .i64 0), (.i .i64 0), (.i .i64 0), (.i .i64 0), (.i .i64 0), (.i .i64 0), (.i .i64 0), (.i .i64 0), (.i .i64 0), (.i .i64 0), (.i .i64 0), (.i .i64 0), (.i .i64 0), (.i .i64 0), (.i .i64 0), (.i .i64 0), (.i .i64 0), (.i .i64 0), (.i .i64 0), (.i .i64 0), (.i .i64 0), (.i .i64 0), (.i .i64 0), (.i .i64 0), (.i .i64 0), (.i .i64 0), (.i .i64 0), (.i .i64 0), (.i .i64 0), (.i .i64 0), (.i .i64 0), (.i .i64 0), (.i .i64 0), (.i .i64 0), (.i .i64 0), (.i .i64 0), (.i .i64 0), (.i .i64 0), (.i .i64 0), (.i .i64 0), (.i .i64 0), (.i .i64 0), (.i .i64 0), (.i .i64 0), (.i .i64 0), (.i .i64 0), (.i .i64 0), (.i .i64 0), (.i .i64 0), (.i .i64 0), (.i .i64 0), (.i .i64 0), (.i .i64 0), (.i .i64 0), (.i .i64 0), (.i .i64 0), (.i .i64 0), (.i .i64 0), (.i .i64 0), (.i .i64 0), (.i .i64 0), (.i .i64 0), (.i .i64 0), (.i .i64 0), (.i .i64 0), (.i .i64 0), (.i .i64 0), (.i .i64 0), (.i .i64 0), (.i .i64 0), (.i .i64 0), (.i .i64 0), (.i .i64 0), (.i .i64 0), (.i .i64 0), (.i .i64 0), (.i .i64 0), (.i .i64 0), (.i .i64 0), (.i .i64 0), (.i .i64 0), (.i .i64 0), (.i .i64 0), (.i .i64 0), (.i .i64 0), (.i .i64 0), (.i .i64 0), (.i .i64 0), (.i .i64 0), (.i .i64 0), (.i .i64 0), (.i .i64 0), (.i .i64 0), (.i .i64 0), (.i .i64 0), (.i .i64 0), (.i .i64 0), (.i .i64 0), (.i .i64 0), (.i .i64 0), (.i .i64 0), (.i .i64 0), (.i .i64 0), (.i .i64 0), (.i .i64 0), (.i .i64 0), (.i .i64 0), (.i .i64 0), (.i .i64 0), (.i .i64 0), (.i .i64 0), (.i .i64 0), (.i .i64 0), (.i .i64 0), (.i .i64 0), (.i .i64 0), (.i .i64 0), (.i .i64 0), (.i .i64 0), (.i .i64 0), (.i .i64 0), (.i .i64 0), (.i .i64 0), (.i .i64 0), (.i .i64 0), (.i .i64 0), (.i .i64 0), (.i .i64 0), (.i .i64 0), (.i .i64 0), (.i .i64 0)])⟩] t H) := runR_reg'
def d4_3 : List AOper := [
  ⟨(some 16), none, (.val (.t 3))⟩,
  ⟨(some 17), none, (.eqn 0 false (.t 16) (.c (.p none)))⟩]
theorem r4_3 {fn : AFun} {K : List AItem} {t : Nat → AV} {H : AH} {T : Tbl} : runR T fn (.code (.reg d4_3) :: K) t H = regR T fn K (aops (callR T) [
  ⟨(some 16), none, (.val (.t 3))⟩,
  ⟨(some 17), none, (.eqn 0 false (.t 16) (.c (.p none)))⟩] t H) := runR_reg'
def d4_4 : List AOper := [
  ⟨(some 2), none, (.val (.c (.b false)))⟩]
theorem r4_4 {fn : AFun} {K : List AItem} {t : Nat → AV} {H : AH} {T : Tbl} : runR T fn (.code (.reg d4_4) :: K) t H = regR T fn K (aops (callR T) [
  ⟨(some 2), none, (.val (.c (.b false)))⟩] t H) := runR_reg'
def d4_5 : List AOper := [
  ⟨(some 18), none, (.val (.t 0))⟩,
  ⟨(some 19), none, (.call 8 [(.t 18)])⟩,
  ⟨(some 20), none, (.len (.t 19))⟩,
  ⟨(some 21), none, (.val (.c (.i .i64 0)))⟩]
theorem r4_5 {fn : AFun} {K : List AItem} {t : Nat → AV} {H : AH} {T : Tbl} : runR T fn (.code (.reg d4_5) :: K) t H = regR T fn K (aops (callR T) [
  ⟨(some 18), none, (.val (.t 0))⟩,
  ⟨(some 19), none, (.call 8 [(.t 18)])⟩,
  ⟨(some 20), none, (.len (.t 19))⟩,
  ⟨(some 21), none, (.val (.c (.i .i64 0)))⟩] t H) := runR_reg'
def d4_6 : List AOper := [
  ⟨(some 22), none, (.bin .lss (.t 21) (.t 20))⟩]
theorem r4_6 {fn : AFun} {K : List AItem} {t : Nat → AV} {H : AH} {T : Tbl} : runR T fn (.code (.reg d4_6) :: K) t H = regR T fn K (aops (callR T) [
  ⟨(some 22), none, (.bin .lss (.t 21) (.t 20))⟩] t H) := runR_reg'
def d4_7 : List AOper := [
  ⟨(some 23), none, (.ia 3 (.t 19) (.t 21))⟩,
  ⟨(some 24), none, (.ld (some 3) (.t 23))⟩,
  ⟨(some 6), none, (.alloc [(.i .u8 0), (.i .i64 0), (.i .i64 0)])⟩,
  ⟨none, none, (.st 3 (.t 6) (.t 24))⟩]
theorem r4_7 {fn : AFun} {K : List AItem} {t : Nat → AV} {H : AH} {T : Tbl} : runR T fn (.code (.reg d4_7) :: K) t H = regR T fn K (aops (callR T) [
  ⟨(some 23), none, (.ia 3 (.t 19) (.t 21))⟩,
  ⟨(some 24), none, (.ld (some 3) (.t 23))⟩,
  ⟨(some 6), none, (.alloc [(.i .u8 0), (.i .i64 0), (.i .i64 0)])⟩,
  ⟨none, none, (.st 3 (.t 6) (.t 24))⟩] t H) := runR_reg'
def d4_8 : List AOper := [
  ⟨(some 7), none, (.val (.c (.b false)))⟩]
theorem r4_8 {fn : AFun} {K : List AItem} {t : Nat → AV} {H : AH} {T : Tbl} : runR T fn (.code (.reg d4_8) :: K) t H = regR T fn K (aops (callR T) [
  ⟨(some 7), none, (.val (.c (.b false)))⟩] t H) := runR_reg'
def d4_9 : List AOper := [
  ⟨(some 25), none, (.fa 0 (.t 6))⟩,
  ⟨(some 26), none, (.ld none (.t 25))⟩,
  ⟨(some 27), none, (.bin .rem (.t 26) (.c (.i .u8 4)))⟩]
theorem r4_9 {fn : AFun} {K : List AItem} {t : Nat → AV} {H : AH} {T : Tbl} : runR T fn (.code (.reg d4_9) :: K) t H = regR T fn K (aops (callR T) [
  ⟨(some 25), none, (.fa 0 (.t 6))⟩,
  ⟨(some 26), none, (.ld none (.t 25))⟩,
  ⟨(some 27), none, (.bin .rem (.t 26) (.c (.i .u8 4)))⟩] t H) := runR_reg'
def d4_10 : List AOper := [
  ⟨(some 41), none, (.bin .eql (.t 27) (.c (.i .u8 1)))⟩,
  ⟨(some 40), none, (.val (.t 41))⟩]
theorem r4_10 {fn : AFun} {K : List AItem} {t : Nat → AV} {H : AH} {T : Tbl} : runR T fn (.code (.reg d4_10) :: K) t H = regR T fn K (aops (callR T) [
  ⟨(some 41), none, (.bin .eql (.t 27) (.c (.i .u8 1)))⟩,
  ⟨(some 40), none, (.val (.t 41))⟩] t H) := runR_reg'
def d4_11 : List (AOper × List Nat) := [
  (⟨(some 42), none, (.val (.t 3))⟩, []),
  (⟨(some 43), none, (.fa 1 (.t 6))⟩, []),
  (⟨(some 44), none, (.ld none (.t 43))⟩, [1]),
  (⟨(some 45), none, (.call 14 [(.t 42), (.t 44)])⟩, []),
  (⟨(some 46), none, (.fa 1 (.t 6))⟩, []),
  (⟨(some 47), none, (.ld none (.t 46))⟩, [2]),
  (⟨(some 48), none, (.call 15 [(.t 4), (.t 47)])⟩, []),
  (⟨(some 49), none, (.eqb false (.t 45) (.t 48))⟩, []),
  (⟨(some 7), none, (.val (.t 49))⟩, [])]
theorem r4_11 {fn : AFun} {K : List AItem} {t : Nat → AV} {H : AH} {T : Tbl} : runR T fn (.code (.drw d4_11) :: K) t H = regR T fn K (adrn (callR T) [
  (⟨(some 42), none, (.val (.t 3))⟩, []),
  (⟨(some 43), none, (.fa 1 (.t 6))⟩, []),
  (⟨(some 44), none, (.ld none (.t 43))⟩, [1]),
  (⟨(some 45), none, (.call 14 [(.t 42), (.t 44)])⟩, []),
  (⟨(some 46), none, (.fa 1 (.t 6))⟩, []),
  (⟨(some 47), none, (.ld none (.t 46))⟩, [2]),
  (⟨(some 48), none, (.call 15 [(.t 4), (.t 47)])⟩, []),
  (⟨(some 49), none, (.eqb false (.t 45) (.t 48))⟩, []),
  (⟨(some 7), none, (.val (.t 49))⟩, [])] t H [H]) := runR_free rfl
def d4_12 : List AOper := [
  ⟨(some 51), none, (.bin .eql (.t 27) (.c (.i .u8 2)))⟩,
  ⟨(some 50), none, (.val (.t 51))⟩]
theorem r4_12 {fn : AFun} {K : List AItem} {t : Nat → AV} {H : AH} {T : Tbl} : runR T fn (.code (.reg d4_12) :: K) t H = regR T fn K (aops (callR T) [
  ⟨(some 51), none, (.bin .eql (.t 27) (.c (.i .u8 2)))⟩,
  ⟨(some 50), none, (.val (.t 51))⟩] t H) := runR_reg'
def d4_13 : List (AOper × List Nat) := [
  (⟨(some 52), none, (.val (.t 3))⟩, []),
  (⟨(some 53), none, (.fa 2 (.t 6))⟩, []),
  (⟨(some 54), none, (.ld none (.t 53))⟩, [1]),
  (⟨(some 55), none, (.call 9 [(.t 52), (.t 54)])⟩, []),
  (⟨(some 56), none, (.fa 2 (.t 6))⟩, []),
  (⟨(some 57), none, (.ld none (.t 56))⟩, [2]),
  (⟨(some 58), none, (.call 17 [(.t 4), (.t 57)])⟩, []),
  (⟨(some 59), none, (.call 16 [(.t 55), (.t 58)])⟩, []),
  (⟨(some 7), none, (.val (.t 59))⟩, [])]
theorem r4_13 {fn : AFun} {K : List AItem} {t : Nat → AV} {H : AH} {T : Tbl} : runR T fn (.code (.drw d4_13) :: K) t H = regR T fn K (adrn (callR T) [
  (⟨(some 52), none, (.val (.t 3))⟩, []),
  (⟨(some 53), none, (.fa 2 (.t 6))⟩, []),
  (⟨(some 54), none, (.ld none (.t 53))⟩, [1]),
  (⟨(some 55), none, (.call 9 [(.t 52), (.t 54)])⟩, []),
  (⟨(some 56), none, (.fa 2 (.t 6))⟩, []),
  (⟨(some 57), none, (.ld none (.t 56))⟩, [2]),
  (⟨(some 58), none, (.call 17 [(.t 4), (.t 57)])⟩, []),
  (⟨(some 59), none, (.call 16 [(.t 55), (.t 58)])⟩, []),
  (⟨(some 7), none, (.val (.t 59))⟩, [])] t H [H]) := runR_free rfl
def d4_14 : List (AOper × List Nat) := [
  (⟨(some 28), none, (.val (.t 3))⟩, []),
  (⟨(some 29), none, (.fa 1 (.t 6))⟩, []),
  (⟨(some 30), none, (.ld none (.t 29))⟩, [1]),
  (⟨(some 31), none, (.fa 2 (.t 6))⟩, []),
  (⟨(some 32), none, (.ld none (.t 31))⟩, [1]),
  (⟨(some 33), none, (.call 10 [(.t 28), (.t 30), (.t 32)])⟩, []),
  (⟨(some 34), none, (.fa 1 (.t 6))⟩, []),
  (⟨(some 35), none, (.ld none (.t 34))⟩, [2]),
  (⟨(some 36), none, (.fa 2 (.t 6))⟩, []),
  (⟨(some 37), none, (.ld none (.t 36))⟩, [2]),
  (⟨(some 38), none, (.call 18 [(.t 4), (.t 35), (.t 37)])⟩, []),
  (⟨(some 39), none, (.bin .eql (.t 33) (.t 38))⟩, []),
  (⟨(some 7), none, (.val (.t 39))⟩, [])]
theorem r4_14 {fn : AFun} {K : List AItem} {t : Nat → AV} {H : AH} {T : Tbl} : runR T fn (.code (.drw d4_14) :: K) t H = regR T fn K (adrn (callR T) [
  (⟨(some 28), none, (.val (.t 3))⟩, []),
  (⟨(some 29), none, (.fa 1 (.t 6))⟩, []),
  (⟨(some 30), none, (.ld none (.t 29))⟩, [1]),
  (⟨(some 31), none, (.fa 2 (.t 6))⟩, []),
  (⟨(some 32), none, (.ld none (.t 31))⟩, [1]),
  (⟨(some 33), none, (.call 10 [(.t 28), (.t 30), (.t 32)])⟩, []),
  (⟨(some 34), none, (.fa 1 (.t 6))⟩, []),
  (⟨(some 35), none, (.ld none (.t 34))⟩, [2]),
  (⟨(some 36), none, (.fa 2 (.t 6))⟩, []),
  (⟨(some 37), none, (.ld none (.t 36))⟩, [2]),
  (⟨(some 38), none, (.call 18 [(.t 4), (.t 35), (.t 37)])⟩, []),
  (⟨(some 39), none, (.bin .eql (.t 33) (.t 38))⟩, []),
  (⟨(some 7), none, (.val (.t 39))⟩, [])] t H [H]) := runR_free rfl
def d4_15 : List AOper := [
  ⟨(some 61), none, (.val (.t 3))⟩,
  ⟨(some 62), none, (.fa 1 (.t 6))⟩,
  ⟨(some 63), none, (.ld none (.t 62))⟩,
  ⟨(some 64), none, (.call 19 [(.t 61), (.t 63)])⟩,
  ⟨(some 60), none, (.val (.t 64))⟩,
  ⟨(some 65), none, (.ext (.t 60) 0)⟩,
  ⟨(some 66), none, (.ext (.t 60) 1)⟩,
  ⟨(some 8), none, (.val (.t 65))⟩,
  ⟨(some 9), none, (.val (.t 66))⟩]
theorem r4_15 {fn : AFun} {K : List AItem} {t : Nat → AV} {H : AH} {T : Tbl} : runR T fn (.code (.reg d4_15) :: K) t H = regR T fn K (aops (callR T) [
  ⟨(some 61), none, (.val (.t 3))⟩,
  ⟨(some 62), none, (.fa 1 (.t 6))⟩,
  ⟨(some 63), none, (.ld none (.t 62))⟩,
  ⟨(some 64), none, (.call 19 [(.t 61), (.t 63)])⟩,
  ⟨(some 60), none, (.val (.t 64))⟩,
  ⟨(some 65), none, (.ext (.t 60) 0)⟩,
  ⟨(some 66), none, (.ext (.t 60) 1)⟩,
  ⟨(some 8), none, (.val (.t 65))⟩,
  ⟨(some 9), none, (.val (.t 66))⟩] t H) := runR_reg'
def d4_16 : List AOper := [
  ⟨(some 10), none, (.val (.c (.i .i64 0)))⟩]
theorem r4_16 {fn : AFun} {K : List AItem} {t : Nat → AV} {H : AH} {T : Tbl} : runR T fn (.code (.reg d4_16) :: K) t H = regR T fn K (aops (callR T) [
  ⟨(some 10), none, (.val (.c (.i .i64 0)))⟩] t H) := runR_reg'
def d4_17 : List AOper := [
  ⟨(some 67), none, (.fa 1 (.t 6))⟩,
  ⟨(some 68), none, (.ld none (.t 67))⟩,
  ⟨(some 69), none, (.bin .geq (.t 68) (.c (.i .i64 0)))⟩,
  ⟨(some 70), none, (.val (.t 69))⟩,
  ⟨(some 71), (some (70, true)), (.fa 1 (.t 6))⟩,
  ⟨(some 72), (some (70, true)), (.ld none (.t 71))⟩,
  ⟨(some 73), (some (70, true)), (.bin .lss (.t 72) (.c (.i .i64 256)))⟩,
  ⟨(some 74), none, (.pick (.t 70) (.t 73) (.c (.b false)))⟩]
theorem r4_17 {fn : AFun} {K : List AItem} {t : Nat → AV} {H : AH} {T : Tbl} : runR T fn (.code (.reg d4_17) :: K) t H = regR T fn K (aops (callR T) [
  ⟨(some 67), none, (.fa 1 (.t 6))⟩,
  ⟨(some 68), none, (.ld none (.t 67))⟩,
  ⟨(some 69), none, (.bin .geq (.t 68) (.c (.i .i64 0)))⟩,
  ⟨(some 70), none, (.val (.t 69))⟩,
  ⟨(some 71), (some (70, true)), (.fa 1 (.t 6))⟩,
  ⟨(some 72), (some (70, true)), (.ld none (.t 71))⟩,
  ⟨(some 73), (some (70, true)), (.bin .lss (.t 72) (.c (.i .i64 256)))⟩,
  ⟨(some 74), none, (.pick (.t 70) (.t 73) (.c (.b false)))⟩] t H) := runR_reg'
def d4_18 : List AOper := [
  ⟨(some 75), none, (.fa 1 (.t 6))⟩,
  ⟨(some 76), none, (.ld none (.t 75))⟩,
  ⟨(some 77), none, (.fa 1 (.t 4))⟩,
  ⟨(some 78), none, (.iaa 256 1 (.t 77) (.t 76))⟩,
  ⟨(some 79), none, (.ld none (.t 78))⟩,
  ⟨(some 10), none, (.val (.t 79))⟩]
theorem r4_18 {fn : AFun} {K : List AItem} {t : Nat → AV} {H : AH} {T : Tbl} : runR T fn (.code (.reg d4_18) :: K) t H = regR T fn K (aops (callR T) [
  ⟨(some 75), none, (.fa 1 (.t 6))⟩,
  ⟨(some 76), none, (.ld none (.t 75))⟩,
  ⟨(some 77), none, (.fa 1 (.t 4))⟩,
  ⟨(some 78), none, (.iaa 256 1 (.t 77) (.t 76))⟩,
  ⟨(some 79), none, (.ld none (.t 78))⟩,
  ⟨(some 10), none, (.val (.t 79))⟩] t H) := runR_reg'
def d4_19 : List AOper := [
  ⟨(some 81), none, (.val (.t 3))⟩,
  ⟨(some 82), none, (.call 11 [(.t 81)])⟩,
  ⟨(some 80), none, (.val (.t 82))⟩,
  ⟨(some 83), none, (.ext (.t 80) 0)⟩,
  ⟨(some 84), none, (.ext (.t 80) 1)⟩,
  ⟨(some 11), none, (.val (.t 83))⟩,
  ⟨(some 12), none, (.val (.t 84))⟩]
theorem r4_19 {fn : AFun} {K : List AItem} {t : Nat → AV} {H : AH} {T : Tbl} : runR T fn (.code (.reg d4_19) :: K) t H = regR T fn K (aops (callR T) [
  ⟨(some 81), none, (.val (.t 3))⟩,
  ⟨(some 82), none, (.call 11 [(.t 81)])⟩,
  ⟨(some 80), none, (.val (.t 82))⟩,
  ⟨(some 83), none, (.ext (.t 80) 0)⟩,
  ⟨(some 84), none, (.ext (.t 80) 1)⟩,
  ⟨(some 11), none, (.val (.t 83))⟩,
  ⟨(some 12), none, (.val (.t 84))⟩] t H) := runR_reg'
def d4_20 : List AOper := [
  ⟨(some 86), none, (.call 20 [(.t 4)])⟩,
  ⟨(some 85), none, (.val (.t 86))⟩,
  ⟨(some 87), none, (.ext (.t 85) 0)⟩,
  ⟨(some 88), none, (.ext (.t 85) 1)⟩,
  ⟨(some 13), none, (.val (.t 87))⟩,
  ⟨(some 14), none, (.val (.t 88))⟩]
theorem r4_20 {fn : AFun} {K : List AItem} {t : Nat → AV} {H : AH} {T : Tbl} : runR T fn (.code (.reg d4_20) :: K) t H = regR T fn K (aops (callR T) [
  ⟨(some 86), none, (.call 20 [(.t 4)])⟩,
  ⟨(some 85), none, (.val (.t 86))⟩,
  ⟨(some 87), none, (.ext (.t 85) 0)⟩,
  ⟨(some 88), none, (.ext (.t 85) 1)⟩,
  ⟨(some 13), none, (.val (.t 87))⟩,
  ⟨(some 14), none, (.val (.t 88))⟩] t H) := runR_reg'
def d4_21 : List (AOper × List Nat) := [
  (⟨(some 89), none, (.val (.t 7))⟩, []),
  (⟨(some 90), none, (.un .not (.t 89))⟩, []),
  (⟨(some 91), none, (.val (.t 90))⟩, []),
  (⟨(some 92), (some (91, false)), (.val (.t 8))⟩, []),
  (⟨(some 93), (some (91, false)), (.val (.t 10))⟩, []),
  (⟨(some 94), (some (91, false)), (.bin .neq (.t 92) (.t 93))⟩, []),
  (⟨(some 95), none, (.pick (.t 91) (.c (.b true)) (.t 94))⟩, []),
  (⟨(some 96), none, (.val (.t 95))⟩, []),
  (⟨(some 97), (some (96, false)), (.val (.t 9))⟩, []),
  (⟨(some 98), (some (96, false)), (.val (.t 10))⟩, []),
  (⟨(some 99), (some (96, false)), (.bin .neq (.t 98) (.c (.i .i64 0)))⟩, []),
  (⟨(some 100), (some (96, false)), (.eqb true (.t 97) (.t 99))⟩, []),
  (⟨(some 101), none, (.pick (.t 96) (.c (.b true)) (.t 100))⟩, []),
  (⟨(some 102), none, (.val (.t 101))⟩, []),
  (⟨(some 103), (some (102, false)), (.val (.t 11))⟩, []),
  (⟨(some 104), (some (102, false)), (.val (.t 13))⟩, []),
  (⟨(some 105), (some (102, false)), (.bin .neq (.t 103) (.t 104))⟩, []),
  (⟨(some 106), none, (.pick (.t 102) (.c (.b true)) (.t 105))⟩, []),
  (⟨(some 107), none, (.val (.t 106))⟩, []),
  (⟨(some 108), (some (107, false)), (.val (.t 12))⟩, []),
  (⟨(some 109), (some (107, false)), (.val (.t 14))⟩, []),
  (⟨(some 110), (some (107, false)), (.eqb true (.t 108) (.t 109))⟩, []),
  (⟨(some 111), none, (.pick (.t 107) (.c (.b true)) (.t 110))⟩, []),
  (⟨(some 112), none, (.val (.t 111))⟩, []),
  (⟨(some 113), (some (112, false)), (.val (.t 3))⟩, []),
  (⟨(some 114), (some (112, false)), (.call 21 [(.t 113)])⟩, []),
  (⟨(some 115), (some (112, false)), (.call 22 [(.t 4)])⟩, []),
  (⟨(some 116), (some (112, false)), (.bin .neq (.t 114) (.t 115))⟩, []),
  (⟨(some 117), none, (.pick (.t 112) (.c (.b true)) (.t 116))⟩, []),
  (⟨(some 118), none, (.val (.t 117))⟩, []),
  (⟨(some 119), (some (118, false)), (.val (.t 3))⟩, []),
  (⟨(some 120), (some (118, false)), (.call 12 [(.t 119)])⟩, []),
  (⟨(some 121), (some (118, false)), (.fa 0 (.t 4))⟩, []),
  (⟨(some 122), (some (118, false)), (.ld none (.t 121))⟩, [2]),
  (⟨(some 123), (some (118, false)), (.bin .neq (.t 120) (.t 122))⟩, []),
  (⟨(some 124), none, (.pick (.t 118) (.c (.b true)) (.t 123))⟩, [])]
theorem r4_21 {fn : AFun} {K : List AItem} {t : Nat → AV} {H : AH} {T : Tbl} : runR T fn (.code (.drw d4_21) :: K) t H = regR T fn K (adrn (callR T) [
  (⟨(some 89), none, (.val (.t 7))⟩, []),
  (⟨(some 90), none, (.un .not (.t 89))⟩, []),
  (⟨(some 91), none, (.val (.t 90))⟩, []),
  (⟨(some 92), (some (91, false)), (.val (.t 8))⟩, []),
  (⟨(some 93), (some (91, false)), (.val (.t 10))⟩, []),
  (⟨(some 94), (some (91, false)), (.bin .neq (.t 92) (.t 93))⟩, []),
  (⟨(some 95), none, (.pick (.t 91) (.c (.b true)) (.t 94))⟩, []),
  (⟨(some 96), none, (.val (.t 95))⟩, []),
  (⟨(some 97), (some (96, false)), (.val (.t 9))⟩, []),
  (⟨(some 98), (some (96, false)), (.val (.t 10))⟩, []),
  (⟨(some 99), (some (96, false)), (.bin .neq (.t 98) (.c (.i .i64 0)))⟩, []),
  (⟨(some 100), (some (96, false)), (.eqb true (.t 97) (.t 99))⟩, []),
  (⟨(some 101), none, (.pick (.t 96) (.c (.b true)) (.t 100))⟩, []),
  (⟨(some 102), none, (.val (.t 101))⟩, []),
  (⟨(some 103), (some (102, false)), (.val (.t 11))⟩, []),
  (⟨(some 104), (some (102, false)), (.val (.t 13))⟩, []),
  (⟨(some 105), (some (102, false)), (.bin .neq (.t 103) (.t 104))⟩, []),
  (⟨(some 106), none, (.pick (.t 102) (.c (.b true)) (.t 105))⟩, []),
  (⟨(some 107), none, (.val (.t 106))⟩, []),
  (⟨(some 108), (some (107, false)), (.val (.t 12))⟩, []),
  (⟨(some 109), (some (107, false)), (.val (.t 14))⟩, []),
  (⟨(some 110), (some (107, false)), (.eqb true (.t 108) (.t 109))⟩, []),
  (⟨(some 111), none, (.pick (.t 107) (.c (.b true)) (.t 110))⟩, []),
  (⟨(some 112), none, (.val (.t 111))⟩, []),
  (⟨(some 113), (some (112, false)), (.val (.t 3))⟩, []),
  (⟨(some 114), (some (112, false)), (.call 21 [(.t 113)])⟩, []),
  (⟨(some 115), (some (112, false)), (.call 22 [(.t 4)])⟩, []),
  (⟨(some 116), (some (112, false)), (.bin .neq (.t 114) (.t 115))⟩, []),
  (⟨(some 117), none, (.pick (.t 112) (.c (.b true)) (.t 116))⟩, []),
  (⟨(some 118), none, (.val (.t 117))⟩, []),
  (⟨(some 119), (some (118, false)), (.val (.t 3))⟩, []),
  (⟨(some 120), (some (118, false)), (.call 12 [(.t 119)])⟩, []),
  (⟨(some 121), (some (118, false)), (.fa 0 (.t 4))⟩, []),
  (⟨(some 122), (some (118, false)), (.ld none (.t 121))⟩, [2]),
  (⟨(some 123), (some (118, false)), (.bin .neq (.t 120) (.t 122))⟩, []),
  (⟨(some 124), none, (.pick (.t 118) (.c (.b true)) (.t 123))⟩, [])] t H [H]) := runR_free rfl
def d4_22 : List AOper := [
  ⟨(some 2), none, (.val (.c (.b false)))⟩]
theorem r4_22 {fn : AFun} {K : List AItem} {t : Nat → AV} {H : AH} {T : Tbl} : runR T fn (.code (.reg d4_22) :: K) t H = regR T fn K (aops (callR T) [
  ⟨(some 2), none, (.val (.c (.b false)))⟩] t H) := runR_reg'
def d4_23 : List AOper := [
  ⟨(some 125), none, (.bin .add (.t 21) (.c (.i .i64 1)))⟩,
  ⟨(some 21), none, (.val (.t 125))⟩]
theorem r4_23 {fn : AFun} {K : List AItem} {t : Nat → AV} {H : AH} {T : Tbl} : runR T fn (.code (.reg d4_23) :: K) t H = regR T fn K (aops (callR T) [
  ⟨(some 125), none, (.bin .add (.t 21) (.c (.i .i64 1)))⟩,
  ⟨(some 21), none, (.val (.t 125))⟩] t H) := runR_reg'
def l4_24 : ACode := (.seq (.reg d4_6) (.seq (.cond (.t 22) .skip (.exit 0)) (.seq (.block 1 (.seq (.reg d4_7) (.seq (.reg d4_8) (.seq (.seq (.reg d4_9) (.block 2 (.seq (.reg d4_10) (.cond (.t 40) (.drw d4_11) (.seq (.reg d4_12) (.cond (.t 50) (.drw d4_13) (.drw d4_14))))))) (.seq (.reg d4_15) (.seq (.reg d4_16) (.seq (.seq (.reg d4_17) (.cond (.t 74) (.reg d4_18) .skip)) (.seq (.reg d4_19) (.seq (.reg d4_20) (.seq (.drw d4_21) (.cond (.t 124) (.seq (.reg d4_22) .ret) .skip))))))))))) (.reg d4_23))))
def d4_25 : List AOper := [
  ⟨(some 126), none, (.call 13 [])⟩,
  ⟨(some 2), none, (.val (.t 126))⟩]
theorem r4_25 {fn : AFun} {K : List AItem} {t : Nat → AV} {H : AH} {T : Tbl} : runR T fn (.code (.reg d4_25) :: K) t H = regR T fn K (aops (callR T) [
  ⟨(some 126), none, (.call 13 [])⟩,
  ⟨(some 2), none, (.val (.t 126))⟩] t H) := runR_reg'
def a4 : AFun := ⟨127, [(.tmp 2)], (.seq (.reg d4_0) (.seq (.reg d4_1) (.seq (.reg d4_2) (.seq (.seq (.reg d4_3) (.cond (.t 17) (.seq (.reg d4_4) .ret) .skip)) (.seq (.seq (.reg d4_5) (.block 0 (.loop l4_24))) (.seq (.reg d4_25) .ret))))))⟩
theorem a4_ok : cfun Try.prog 4 = some a4 := by kernel_rfl
/-- futtock/futtocklaw07.TimerOnce -/
def d5_0 : List AOper := [
  ⟨(some 2), none, (.val (.c (.b false)))⟩]
theorem r5_0 {fn : AFun} {K : List AItem} {t : Nat → AV} {H : AH} {T : Tbl} : runR T fn (.code (.reg d5_0) :: K) t H = regR T fn K (aops (callR T) [
  ⟨(some 2), none, (.val (.c (.b false)))⟩] t H) := runR_reg'
def d5_1 : List AOper := [
  ⟨(some 13), none, (.call 7 [])⟩,
  ⟨(some 3), none, (.val (.t 13))⟩]
theorem r5_1 {fn : AFun} {K : List AItem} {t : Nat → AV} {H : AH} {T : Tbl} : runR T fn (.code (.reg d5_1) :: K) t H = regR T fn K (aops (callR T) [
  ⟨(some 13), none, (.call 7 [])⟩,
  ⟨(some 3), none, (.val (.t 13))⟩] t H) := runR_reg'
def d5_2 : List AOper := [
  ⟨(some 14), none, (.val (.t 3))⟩,
  ⟨(some 15), none, (.eqn 0 false (.t 14) (.c (.p none)))⟩]
theorem r5_2 {fn : AFun} {K : List AItem} {t : Nat → AV} {H : AH} {T : Tbl} : runR T fn (.code (.reg d5_2) :: K) t H = regR T fn K (aops (callR T) [
  ⟨(some 14), none, (.val (.t 3))⟩,
  ⟨(some 15), none, (.eqn 0 false (.t 14) (.c (.p none)))⟩] t H) := runR_reg'
def d5_3 : List AOper := [
  ⟨(some 2), none, (.val (.c (.b false)))⟩]
theorem r5_3 {fn : AFun} {K : List AItem} {t : Nat → AV} {H : AH} {T : Tbl} : runR T fn (.code (.reg d5_3) :: K) t H = regR T fn K (aops (callR T) [
  ⟨(some 2), none, (.val (.c (.b false)))⟩] t H) := runR_reg'
def d5_4 : List AOper := [
  ⟨(some 4), none, (.alloc [(.i .i64 0), (.i .i64 0), (.i .i64 0), (.i .i64 0), (.i .i64 0), (.i .i64 0), (.i .i64 0), (.i .i64 0), (.i .i64 0), (.i .i64 0), (.i .i64 0), (.i .i64 0), (.i .i64 0), (.i .i64 0), (.i .i64 0), (.i .i64 0), (.i .i64 0), (.i .i64 0), (.i .i64 0), (.i .i64 0), (.i .i64 0), (.i .i64 0), (.i .i64 0), (.i .i64 0), (.i .i64 0), (.i .i64 0), (.i .i64 0), (.i .i64 0), (.i .i64 0), (.i .i64 0), (.i .i64 0), (.i .i64 0), (.i .i64 0), (.i .i64 0), (.i .i64 0), (.i .i64 0), (.i .i64 0), (.i .i64 0), (.i .i64 0), (.i .i64 0), (.i .i64 0), (.i .i64 0), (.i .i64 0), (.i .i64 0), (.i .i64 0), (.i .i64 0), (.i .i64 0), (.i .i64 0), (.i .i64 0), (.i .i64 0), (.i .i64 0), (.i .i64 0), (.i .i64 0), (.i .i64 0), (.i .i64 0), (.i .i64 0), (.i .i64 0), (.i .i64 0), (.i .i64 0), (.i .i64 0), (.i .i64 0), (.i .i64 0), (.i .i64 0), (.i .i64 0), (.i .i64 0), (.i .i64 0), (.i .i64 0), (.i .i64 0), (.i .i64 0), (.i .i64 0), (.i .i64 0), (.i .i64 0), (.i .i64 0), (.i .i64 0), (.i .i64 0), (.i .i64 0), (.i .i64 0), (.i .i64 0), (.i .i64 0), (.i .i64 0), (.i .i64 0), (.i .i64 0), (.i .i64 0), (.i .i64 0), (.i .i64 0), (.i .i64 0), (.i .i64 0), (.i .i64 0), (.i .i64 0), (.i .i64 0), (.i .i64 0), (.i .i64 0), (.i .i64 0), (.i .i64 0), (.i .i64 0), (.i .i64 0), (.i .i64 0), (.i .i64 0), (.i .i64 0), (.i .i64 0), (.i .i64 0), (.i .i64 0), (.i .i64 0), (.i .i64 0), (.i .i64 0), (.i .i64 0), (.i .i64 0), (.i .i64 0), (.i .i64 0), (.i .i64 0), (.i .i64 0), (.i .i64 0), (.i .i64 0), (.i .i64 0), (.i .i64 0), (.i .i64 0), (.i .i64 0), (.i .i64 0), (.i .i64 0), (.i .i64 0), (.i .i64 0), (.i .i64 0), (.i .i64 0), (.i .i64 0), (.i .i64 0), (.i .i64 0), (.i .i64 0), (.i .i64 0), (.i .i64 0), (.i .i64 0), (.i .i64 0), (.i .i64 0), (.i .i64 0), (.i .i64 0), (.i .i64 0), (.i .i64 0), (.i .i64 0), (.i .i64 0), (.i .i64 0), (.i .i64 0), (.i .i64 0), (.i .i64 0), (.i .i64 0), (.i .i64 0), (.i .i64 0), (.i .i64 0), (.i .i64 0), (.i .i64 0), (.i .i64 0), (.i .i64 0), (.i .i64 0), (.i .i64 0), (.i .i64 0), (.i .i64 0), (.i .i64 0), (.i .i64 0), (.i .i64 0), (.i .i64 0), (.i .i64 0), (.i .i64 0), (.i .i64 0), (.i .i64 0), (.i .i64 0), (.i .i64 0), (.i .i64 0), (.i .i64 0), (.i .i64 0), (.i .i64 0), (.i .i64 0), (.i .i64 0), (.i .i64 0), (.i .i64 0), (.i .i64 0), (.i .i64 0), (.i .i64 0), (.i .i64 0), (.i .i64 0), (.i .i64 0), (.i .i64 0), (.i .i64 0), (.i .i64 0), (.i .i64 0), (.i .i64 0), (.i .i64 0), (.i .i64 0), (.i .i64 0), (.i .i64 0), (.i .i64 0), (.i .i64 0), (.i .i64 0), (.i .i64 0), (.i .i64 0), (.i .i64 0), (.i .i64 0), (.i .i64 0), (.i .i64 0), (.i .i64 0), (.i .i64 0), (.i .i64 0), (.i .i64 0), (.i .i64 0), (.i .i64 0), (.i .i64 0), (.i .i64 0), (.i .i64 0), (.i .i64 0), (.i .i64 0), (.i .i64 0), (.i .i64 0), (.i .i64 0), (.i .i64 0), (.i .i64 0), (.i .i64 0), (.i .i64 0), (.i .i64 0), (.i .i64 0), (.i .i64 0), (.i .i64 0), (.i .i64 0), (.i .i64 0), (.i .i64 0), (.i .i64 0), (.i .i64 0), (.i .i64 0), (.i .i64 0), (.i .i64 0), (.i .i64 0), (.i .i64 0), (.i .i64 0), (.i .i64 0), (.i .i64 0), (.i .i64 0), (.i .i64 0), (.i .i64 0), (.i .i64 0), (.i .i64 0), (.i .i64 0), (.i .i64 0), (.i .i64 0), (.i .i64 0), (.i .i64 0), (.i .i64 0), (.i .i64 0), (.i .i64 0), (.i .i64 0), (.i .i64 0), (.i .i64 0), (.i .i64 0), (.i .i64 0), (.i .i64 0), (.i .i64 0), (.i .i64 0), (.i .i64 0), (.i .i64 0), (.i .i64 0), (.i .i64 0)])⟩]
theorem r5_4 {fn : AFun} {K : List AItem} {t : Nat → AV} {H : AH} {T : Tbl} : runR T fn (.code (.reg d5_4) :: K) t H = regR T fn K (aops (callR T) [
  ⟨(some 4), none, (.alloc [(.i .i64 0), (.i .i64 0), (.i .i64 0), (.i .i64 0), (.i .i64 0), (.i .i64 0), (.i .i64 0), (.i .i64 0), (.i .i64 0), (.i .i64 0), (.i .i64 0), (.i .i64 0), (.i .i64 0), (.i .i64 0), (.i .i64 0), (.i .i64 0), (.i .i64 0), (.i .i64 0), (.i .i64 0), (.i .i64 0), (.i .i64 0), (.i .i64 0), (.i .i64 0), (.i .i64 0), (.i .i64 0), (.i .i64 0), (.i .i64 0), (.i .i64 0), (.i .i64 0), (.i .i64 0), (.i .i64 0), (.i .i64 0), (.i .i64 0), (.i .i64 0), (.i .i64 0), (.i .i64 0), (.i .i64 0), (.i .i64 0), (.i .i64 0), (.i .i64 0), (.i .i64 0), (.i .i64 0), (.i .i64 0), (.i .i64 0), (.i .i64 0), (.i .i64 0), (.i .i64 0), (.i .i64 0), (.i .i64 0), (.i .i64 0), (.i .i64 0), (.i .i64 0), (.i .i64 0), (.i .i64 0), (.i .i64 0), (.i .i64 0), (.i .i64 0), (.i .i64 0), (.i .i64 0), (.i .i64 0), (.i .i64 0), (.i .i64 0), (.i .i64 0), (.i .i64 0), (.i .i64 0), (.i .i64 0), (.i .i64 0), (.i .i64 0), (.i .i64 0), (.i .i64 0), (.i .i64 0), (.i .i64 0), (.i .i64 0), (.i .i64 0), (.i .i64 0), (.i .i64 0), (.i .i64 0), (.i .i64 0), (.i .i64 0), (.i .i64 0), (.i .i64 0), (.i .i64 0), (.i .i64 0), (.i .i64 0), (.i .i64 0), (.i .i64 0), (.i .i64 0), (.i .i64 0), (.i .i64 0), (.i .i64 0), (.i .i64 0), (.i .i64 0), (.i .i64 0), (.i .i64 0), (.i .i64 0), (.i .i64 0), (.i .i64 0), (.i .i64 0), (.i .i64 0), (.i .i64 0), (.i .i64 0), (.i .i64 0), (.i .i64 0), (.i .i64 0), (.i .i64 0), (.i .i64 0), (.i .i64 0), (.i .i64 0), (.i .i64 0), (.i .i64 0), (.i .i64 0), (.i .i64 0), (.i .i64 0), (.i .i64 0), (.i .i64 0), (.i .i64 0), (.i .i64 0), (.i .i64 0), (.i .i64 0), (.i .i64 0), (.i .i64 0), (.i .i64 0), (.i .i64 0), (.i .i64 0), (.i .i64 0), (.i .i64 0), (.i .i64 0), (.i .i64 0), (.i .i64 0), (.i .i64 0), (.i .i64 0), (.i .i64 0), (.i .i64 0), (.i .i64 0), (.i .i64 0), (.i .i64 0), (.i .i64 0), (.i .i64 0), (.i .i64 0), (.i .i64 0), (.i .i64 0), (.i .i64 0), (.i .i64 0), (.i .i64 0), (.i .i64 0), (.i .i64 0), (.i .i64 0), (.i .i64 0), (.i .i64 0), (.i .i64 0), (.i .i64 0), (.i .i64 0), (.i .i64 0), (.i .i64 0), (.i .i64 0), (.i .i64 0), (.i .i64 0), (.i .i64 0), (.i .i64 0), (.i .i64 0), (.i .i64 0), (.i .i64 0), (.i .i64 0), (.i .i64 0), (.i .i64 0), (.i .i64 0), (.i .i64 0), (.i .i64 0), (.i .i64 0), (.i .i64 0), (.i .i64 0), (.i .i64 0), (.i .i64 0), (.i .i64 0), (.i .i64 0), (.i .i64 0), (.i .i64 0), (.i .i64 0), (.i .i64 0), (.i .i64 0), (.i .i64 0), (.i .i64 0), (.i .i64 0), (.i .i64 0), (.i .i64 0), (.i .i64 0), (.i .i64 0), (.i .i64 0), (.i .i64 0), (.i .i64 0), (.i .i64 0), (.i .i64 0), (.i .i64 0), (.i .i64 0), (.i .i64 0), (.i .i64 0), (.i .i64 0), (.i .i64 0), (.i .i64 0), (.i .i64 0), (.i .i64 0), (.i .i64 0), (.i .i64 0), (.i .i64 0), (.i .i64 0), (.i .i64 0), (.i .i64 0), (.i .i64 0), (.i .i64 0), (.i .i64 0), (.i .i64 0), (.i .i64 0), (.i .i64 0), (.i .i64 0), (.i .i64 0), (.i .i64 0), (.i .i64 0), (.i .i64 0), (.i .i64 0), (.i .i64 0), (.i .i64 0), (.i .i64 0), (.i .i64 0), (.i .i64 0), (.i .i64 0), (.i .i64 0), (.i .i64 0), (.i .i64 0), (.i .i64 0), (.i .i64 0), (.i .i64 0), (.i .i64 0), (.i .i64 0), (.i .i64 0), (.i .i64 0), (.i .i64 0), (.i .i64 0), (.i .i64 0), (.i .i64 0), (.i .i64 0), (.i .i64 0), (.i .i64 0), (.i .i64 0), (.i .i64 0), (.i .i64 0), (.i .i64 0), (.i .i64 0), (.i .i64 0), (.i .i64 0), (.i .i64 0), (.i .i64 0), (.i .i64 0), (.i .i64 0), (.i .i64 0), (.i .i64 0), (.i .i64 0)])⟩] t H) := runR_reg'
def d5_5 : List AOper := [
  ⟨(some 16), none, (.val (.t 0))⟩,
  ⟨(some 17), none, (.call 8 [(.t 16)])⟩,
  ⟨(some 18), none, (.len (.t 17))⟩,
  ⟨(some 19), none, (.val (.c (.i .i64 0)))⟩]
theorem r5_5 {fn : AFun} {K : List AItem} {t : Nat → AV} {H : AH} {T : Tbl} : runR T fn (.code (.reg d5_5) :: K) t H = regR T fn K (aops (callR T) [
  ⟨(some 16), none, (.val (.t 0))⟩,
  ⟨(some 17), none, (.call 8 [(.t 16)])⟩,
  ⟨(some 18), none, (.len (.t 17))⟩,
  ⟨(some 19), none, (.val (.c (.i .i64 0)))⟩] t H) := runR_reg'
def d5_6 : List AOper := [
  ⟨(some 20), none, (.bin .lss (.t 19) (.t 18))⟩]
theorem r5_6 {fn : AFun} {K : List AItem} {t : Nat → AV} {H : AH} {T : Tbl} : runR T fn (.code (.reg d5_6) :: K) t H = regR T fn K (aops (callR T) [
  ⟨(some 20), none, (.bin .lss (.t 19) (.t 18))⟩] t H) := runR_reg'
def d5_7 : List AOper := [
  ⟨(some 21), none, (.ia 3 (.t 17) (.t 19))⟩,
  ⟨(some 22), none, (.ld (some 3) (.t 21))⟩,
  ⟨(some 6), none, (.alloc [(.i .u8 0), (.i .i64 0), (.i .i64 0)])⟩,
  ⟨none, none, (.st 3 (.t 6) (.t 22))⟩]
theorem r5_7 {fn : AFun} {K : List AItem} {t : Nat → AV} {H : AH} {T : Tbl} : runR T fn (.code (.reg d5_7) :: K) t H = regR T fn K (aops (callR T) [
  ⟨(some 21), none, (.ia 3 (.t 17) (.t 19))⟩,
  ⟨(some 22), none, (.ld (some 3) (.t 21))⟩,
  ⟨(some 6), none, (.alloc [(.i .u8 0), (.i .i64 0), (.i .i64 0)])⟩,
  ⟨none, none, (.st 3 (.t 6) (.t 22))⟩] t H) := runR_reg'
def d5_8 : List AOper := [
  ⟨(some 23), none, (.fa 1 (.t 6))⟩,
  ⟨(some 24), none, (.ld none (.t 23))⟩,
  ⟨(some 25), none, (.bin .and (.t 24) (.c (.i .i64 255)))⟩,
  ⟨(some 7), none, (.val (.t 25))⟩]
theorem r5_8 {fn : AFun} {K : List AItem} {t : Nat → AV} {H : AH} {T : Tbl} : runR T fn (.code (.reg d5_8) :: K) t H = regR T fn K (aops (callR T) [
  ⟨(some 23), none, (.fa 1 (.t 6))⟩,
  ⟨(some 24), none, (.ld none (.t 23))⟩,
  ⟨(some 25), none, (.bin .and (.t 24) (.c (.i .i64 255)))⟩,
  ⟨(some 7), none, (.val (.t 25))⟩] t H) := runR_reg'
def d5_9 : List AOper := [
  ⟨(some 26), none, (.fa 0 (.t 6))⟩,
  ⟨(some 27), none, (.ld none (.t 26))⟩,
  ⟨(some 28), none, (.bin .rem (.t 27) (.c (.i .u8 4)))⟩]
theorem r5_9 {fn : AFun} {K : List AItem} {t : Nat → AV} {H : AH} {T : Tbl} : runR T fn (.code (.reg d5_9) :: K) t H = regR T fn K (aops (callR T) [
  ⟨(some 26), none, (.fa 0 (.t 6))⟩,
  ⟨(some 27), none, (.ld none (.t 26))⟩,
  ⟨(some 28), none, (.bin .rem (.t 27) (.c (.i .u8 4)))⟩] t H) := runR_reg'
def d5_10 : List AOper := [
  ⟨(some 55), none, (.bin .eql (.t 28) (.c (.i .u8 1)))⟩,
  ⟨(some 54), none, (.val (.t 55))⟩]
theorem r5_10 {fn : AFun} {K : List AItem} {t : Nat → AV} {H : AH} {T : Tbl} : runR T fn (.code (.reg d5_10) :: K) t H = regR T fn K (aops (callR T) [
  ⟨(some 55), none, (.bin .eql (.t 28) (.c (.i .u8 1)))⟩,
  ⟨(some 54), none, (.val (.t 55))⟩] t H) := runR_reg'
def d5_11 : List (AOper × List Nat) := [
  (⟨(some 56), none, (.val (.t 3))⟩, []),
  (⟨(some 57), none, (.val (.t 7))⟩, []),
  (⟨(some 58), none, (.call 14 [(.t 56), (.t 57)])⟩, []),
  (⟨(some 59), none, (.val (.t 7))⟩, []),
  (⟨(some 60), none, (.iaa 256 1 (.t 4) (.t 59))⟩, []),
  (⟨(some 61), none, (.ld none (.t 60))⟩, [2]),
  (⟨(some 62), none, (.bin .gtr (.t 61) (.c (.i .i64 0)))⟩, []),
  (⟨(some 63), none, (.eqb true (.t 58) (.t 62))⟩, [])]
theorem r5_11 {fn : AFun} {K : List AItem} {t : Nat → AV} {H : AH} {T : Tbl} : runR T fn (.code (.drw d5_11) :: K) t H = regR T fn K (adrn (callR T) [
  (⟨(some 56), none, (.val (.t 3))⟩, []),
  (⟨(some 57), none, (.val (.t 7))⟩, []),
  (⟨(some 58), none, (.call 14 [(.t 56), (.t 57)])⟩, []),
  (⟨(some 59), none, (.val (.t 7))⟩, []),
  (⟨(some 60), none, (.iaa 256 1 (.t 4) (.t 59))⟩, []),
  (⟨(some 61), none, (.ld none (.t 60))⟩, [2]),
  (⟨(some 62), none, (.bin .gtr (.t 61) (.c (.i .i64 0)))⟩, []),
  (⟨(some 63), none, (.eqb true (.t 58) (.t 62))⟩, [])] t H [H]) := runR_free rfl
def d5_12 : List AOper := [
  ⟨(some 2), none, (.val (.c (.b false)))⟩]
theorem r5_12 {fn : AFun} {K : List AItem} {t : Nat → AV} {H : AH} {T : Tbl} : runR T fn (.code (.reg d5_12) :: K) t H = regR T fn K (aops (callR T) [
  ⟨(some 2), none, (.val (.c (.b false)))⟩] t H) := runR_reg'
def d5_13 : List AOper := [
  ⟨(some 64), none, (.val (.t 7))⟩,
  ⟨(some 65), none, (.iaa 256 1 (.t 4) (.t 64))⟩,
  ⟨none, none, (.st 1 (.t 65) (.c (.i .i64 0)))⟩]
theorem r5_13 {fn : AFun} {K : List AItem} {t : Nat → AV} {H : AH} {T : Tbl} : runR T fn (.code (.reg d5_13) :: K) t H = regR T fn K (aops (callR T) [
  ⟨(some 64), none, (.val (.t 7))⟩,
  ⟨(some 65), none, (.iaa 256 1 (.t 4) (.t 64))⟩,
  ⟨none, none, (.st 1 (.t 65) (.c (.i .i64 0)))⟩] t H) := runR_reg'
def d5_14 : List AOper := [
  ⟨(some 67), none, (.bin .eql (.t 28) (.c (.i .u8 2)))⟩,
  ⟨(some 66), none, (.val (.t 67))⟩]
theorem r5_14 {fn : AFun} {K : List AItem} {t : Nat → AV} {H : AH} {T : Tbl} : runR T fn (.code (.reg d5_14) :: K) t H = regR T fn K (aops (callR T) [
  ⟨(some 67), none, (.bin .eql (.t 28) (.c (.i .u8 2)))⟩,
  ⟨(some 66), none, (.val (.t 67))⟩] t H) := runR_reg'
def d5_15 : List AOper := [
  ⟨(some 8), none, (.val (.c (.i .i64 0)))⟩]
theorem r5_15 {fn : AFun} {K : List AItem} {t : Nat → AV} {H : AH} {T : Tbl} : runR T fn (.code (.reg d5_15) :: K) t H = regR T fn K (aops (callR T) [
  ⟨(some 8), none, (.val (.c (.i .i64 0)))⟩] t H) := runR_reg'
def d5_16 : List AOper := [
  ⟨(some 68), none, (.val (.t 3))⟩,
  ⟨(some 69), none, (.fa 2 (.t 6))⟩,
  ⟨(some 70), none, (.ld none (.t 69))⟩,
  ⟨(some 71), none, (.call 9 [(.t 68), (.t 70)])⟩,
  ⟨(some 72), none, (.len (.t 71))⟩,
  ⟨(some 73), none, (.val (.c (.i .i64 0)))⟩]
theorem r5_16 {fn : AFun} {K : List AItem} {t : Nat → AV} {H : AH} {T : Tbl} : runR T fn (.code (.reg d5_16) :: K) t H = regR T fn K (aops (callR T) [
  ⟨(some 68), none, (.val (.t 3))⟩,
  ⟨(some 69), none, (.fa 2 (.t 6))⟩,
  ⟨(some 70), none, (.ld none (.t 69))⟩,
  ⟨(some 71), none, (.call 9 [(.t 68), (.t 70)])⟩,
  ⟨(some 72), none, (.len (.t 71))⟩,
  ⟨(some 73), none, (.val (.c (.i .i64 0)))⟩] t H) := runR_reg'
def d5_17 : List AOper := [
  ⟨(some 74), none, (.bin .lss (.t 73) (.t 72))⟩]
theorem r5_17 {fn : AFun} {K : List AItem} {t : Nat → AV} {H : AH} {T : Tbl} : runR T fn (.code (.reg d5_17) :: K) t H = regR T fn K (aops (callR T) [
  ⟨(some 74), none, (.bin .lss (.t 73) (.t 72))⟩] t H) := runR_reg'
def d5_18 : List AOper := [
  ⟨(some 75), none, (.ia 1 (.t 71) (.t 73))⟩,
  ⟨(some 76), none, (.ld none (.t 75))⟩,
  ⟨(some 10), none, (.val (.t 76))⟩]
theorem r5_18 {fn : AFun} {K : List AItem} {t : Nat → AV} {H : AH} {T : Tbl} : runR T fn (.code (.reg d5_18) :: K) t H = regR T fn K (aops (callR T) [
  ⟨(some 75), none, (.ia 1 (.t 71) (.t 73))⟩,
  ⟨(some 76), none, (.ld none (.t 75))⟩,
  ⟨(some 10), none, (.val (.t 76))⟩] t H) := runR_reg'
def d5_19 : List (AOper × List Nat) := [
  (⟨(some 77), none, (.val (.t 10))⟩, []),
  (⟨(some 78), none, (.bin .lss (.t 77) (.c (.i .i64 0)))⟩, []),
  (⟨(some 79), none, (.val (.t 78))⟩, []),
  (⟨(some 80), (some (79, false)), (.val (.t 10))⟩, []),
  (⟨(some 81), (some (79, false)), (.bin .gtr (.t 80) (.c (.i .i64 255)))⟩, []),
  (⟨(some 82), none, (.pick (.t 79) (.c (.b true)) (.t 81))⟩, []),
  (⟨(some 83), none, (.val (.t 82))⟩, []),
  (⟨(some 84), (some (83, false)), (.val (.t 10))⟩, []),
  (⟨(some 85), (some (83, false)), (.iaa 256 1 (.t 4) (.t 84))⟩, []),
  (⟨(some 86), (some (83, false)), (.ld none (.t 85))⟩, [1]),
  (⟨(some 87), (some (83, false)), (.bin .eql (.t 86) (.c (.i .i64 0)))⟩, []),
  (⟨(some 88), none, (.pick (.t 83) (.c (.b true)) (.t 87))⟩, []),
  (⟨(some 89), none, (.val (.t 88))⟩, []),
  (⟨(some 90), (some (89, false)), (.val (.t 10))⟩, []),
  (⟨(some 91), (some (89, false)), (.iaa 256 1 (.t 4) (.t 90))⟩, []),
  (⟨(some 92), (some (89, false)), (.ld none (.t 91))⟩, [1]),
  (⟨(some 93), (some (89, false)), (.val (.t 3))⟩, []),
  (⟨(some 94), (some (89, false)), (.call 12 [(.t 93)])⟩, [0]),
  (⟨(some 95), (some (89, false)), (.bin .gtr (.t 92) (.t 94))⟩, []),
  (⟨(some 96), none, (.pick (.t 89) (.c (.b true)) (.t 95))⟩, []),
  (⟨(some 97), none, (.val (.t 96))⟩, []),
  (⟨(some 98), (some (97, false)), (.val (.t 10))⟩, []),
  (⟨(some 99), (some (97, false)), (.iaa 256 1 (.t 4) (.t 98))⟩, []),
  (⟨(some 100), (some (97, false)), (.ld none (.t 99))⟩, [1]),
  (⟨(some 101), (some (97, false)), (.val (.t 8))⟩, []),
  (⟨(some 102), (some (97, false)), (.bin .lss (.t 100) (.t 101))⟩, []),
  (⟨(some 103), none, (.pick (.t 97) (.c (.b true)) (.t 102))⟩, [])]
theorem r5_19 {fn : AFun} {K : List AItem} {t : Nat → AV} {H : AH} {T : Tbl} : runR T fn (.code (.drw d5_19) :: K) t H = regR T fn K (adrw (callR T) [
  (⟨(some 77), none, (.val (.t 10))⟩, []),
  (⟨(some 78), none, (.bin .lss (.t 77) (.c (.i .i64 0)))⟩, []),
  (⟨(some 79), none, (.val (.t 78))⟩, []),
  (⟨(some 80), (some (79, false)), (.val (.t 10))⟩, []),
  (⟨(some 81), (some (79, false)), (.bin .gtr (.t 80) (.c (.i .i64 255)))⟩, []),
  (⟨(some 82), none, (.pick (.t 79) (.c (.b true)) (.t 81))⟩, []),
  (⟨(some 83), none, (.val (.t 82))⟩, []),
  (⟨(some 84), (some (83, false)), (.val (.t 10))⟩, []),
  (⟨(some 85), (some (83, false)), (.iaa 256 1 (.t 4) (.t 84))⟩, []),
  (⟨(some 86), (some (83, false)), (.ld none (.t 85))⟩, [1]),
  (⟨(some 87), (some (83, false)), (.bin .eql (.t 86) (.c (.i .i64 0)))⟩, []),
  (⟨(some 88), none, (.pick (.t 83) (.c (.b true)) (.t 87))⟩, []),
  (⟨(some 89), none, (.val (.t 88))⟩, []),
  (⟨(some 90), (some (89, false)), (.val (.t 10))⟩, []),
  (⟨(some 91), (some (89, false)), (.iaa 256 1 (.t 4) (.t 90))⟩, []),
  (⟨(some 92), (some (89, false)), (.ld none (.t 91))⟩, [1]),
  (⟨(some 93), (some (89, false)), (.val (.t 3))⟩, []),
  (⟨(some 94), (some (89, false)), (.call 12 [(.t 93)])⟩, [0]),
  (⟨(some 95), (some (89, false)), (.bin .gtr (.t 92) (.t 94))⟩, []),
  (⟨(some 96), none, (.pick (.t 89) (.c (.b true)) (.t 95))⟩, []),
  (⟨(some 97), none, (.val (.t 96))⟩, []),
  (⟨(some 98), (some (97, false)), (.val (.t 10))⟩, []),
  (⟨(some 99), (some (97, false)), (.iaa 256 1 (.t 4) (.t 98))⟩, []),
  (⟨(some 100), (some (97, false)), (.ld none (.t 99))⟩, [1]),
  (⟨(some 101), (some (97, false)), (.val (.t 8))⟩, []),
  (⟨(some 102), (some (97, false)), (.bin .lss (.t 100) (.t 101))⟩, []),
  (⟨(some 103), none, (.pick (.t 97) (.c (.b true)) (.t 102))⟩, [])] t H [H] []) := runR_drw'
def d5_20 : List AOper := [
  ⟨(some 2), none, (.val (.c (.b false)))⟩]
theorem r5_20 {fn : AFun} {K : List AItem} {t : Nat → AV} {H : AH} {T : Tbl} : runR T fn (.code (.reg d5_20) :: K) t H = regR T fn K (aops (callR T) [
  ⟨(some 2), none, (.val (.c (.b false)))⟩] t H) := runR_reg'
def d5_21 : List AOper := [
  ⟨(some 104), none, (.val (.t 10))⟩,
  ⟨(some 105), none, (.iaa 256 1 (.t 4) (.t 104))⟩,
  ⟨(some 106), none, (.ld none (.t 105))⟩,
  ⟨(some 8), none, (.val (.t 106))⟩]
theorem r5_21 {fn : AFun} {K : List AItem} {t : Nat → AV} {H : AH} {T : Tbl} : runR T fn (.code (.reg d5_21) :: K) t H = regR T fn K (aops (callR T) [
  ⟨(some 104), none, (.val (.t 10))⟩,
  ⟨(some 105), none, (.iaa 256 1 (.t 4) (.t 104))⟩,
  ⟨(some 106), none, (.ld none (.t 105))⟩,
  ⟨(some 8), none, (.val (.t 106))⟩] t H) := runR_reg'
def d5_22 : List AOper := [
  ⟨(some 107), none, (.val (.t 10))⟩,
  ⟨(some 108), none, (.iaa 256 1 (.t 4) (.t 107))⟩,
  ⟨none, none, (.st 1 (.t 108) (.c (.i .i64 0)))⟩]
theorem r5_22 {fn : AFun} {K : List AItem} {t : Nat → AV} {H : AH} {T : Tbl} : runR T fn (.code (.reg d5_22) :: K) t H = regR T fn K (aops (callR T) [
  ⟨(some 107), none, (.val (.t 10))⟩,
  ⟨(some 108), none, (.iaa 256 1 (.t 4) (.t 107))⟩,
  ⟨none, none, (.st 1 (.t 108) (.c (.i .i64 0)))⟩] t H) := runR_reg'
def d5_23 : List AOper := [
  ⟨(some 109), none, (.bin .add (.t 73) (.c (.i .i64 1)))⟩,
  ⟨(some 73), none, (.val (.t 109))⟩]
theorem r5_23 {fn : AFun} {K : List AItem} {t : Nat → AV} {H : AH} {T : Tbl} : runR T fn (.code (.reg d5_23) :: K) t H = regR T fn K (aops (callR T) [
  ⟨(some 109), none, (.bin .add (.t 73) (.c (.i .i64 1)))⟩,
  ⟨(some 73), none, (.val (.t 109))⟩] t H) := runR_reg'
def l5_24 : ACode := (.seq (.reg d5_17) (.seq (.cond (.t 74) .skip (.exit 3)) (.seq (.block 4 (.seq (.reg d5_18) (.seq (.seq (.drw d5_19) (.cond (.t 103) (.seq (.reg d5_20) .ret) .skip)) (.seq (.reg d5_21) (.reg d5_22))))) (.reg d5_23))))
def d5_25 : List AOper := [
  ⟨(some 110), none, (.ld (some 256) (.t 4))⟩,
  ⟨(some 111), none, (.val (.c (.i .i64 0)))⟩]
theorem r5_25 {fn : AFun} {K : List AItem} {t : Nat → AV} {H : AH} {T : Tbl} : runR T fn (.code (.reg d5_25) :: K) t H = regR T fn K (aops (callR T) [
  ⟨(some 110), none, (.ld (some 256) (.t 4))⟩,
  ⟨(some 111), none, (.val (.c (.i .i64 0)))⟩] t H) := runR_reg'
def d5_26 : List AOper := [
  ⟨(some 112), none, (.bin .lss (.t 111) (.c (.i .i64 256)))⟩]
theorem r5_26 {fn : AFun} {K : List AItem} {t : Nat → AV} {H : AH} {T : Tbl} : runR T fn (.code (.reg d5_26) :: K) t H = regR T fn K (aops (callR T) [
  ⟨(some 112), none, (.bin .lss (.t 111) (.c (.i .i64 256)))⟩] t H) := runR_reg'
def d5_27 : List AOper := [
  ⟨(some 113), none, (.ix none 256 1 (.t 110) (.t 111))⟩,
  ⟨(some 12), none, (.val (.t 113))⟩]
theorem r5_27 {fn : AFun} {K : List AItem} {t : Nat → AV} {H : AH} {T : Tbl} : runR T fn (.code (.reg d5_27) :: K) t H = regR T fn K (aops (callR T) [
  ⟨(some 113), none, (.ix none 256 1 (.t 110) (.t 111))⟩,
  ⟨(some 12), none, (.val (.t 113))⟩] t H) := runR_reg'
def d5_28 : List AOper := [
  ⟨(some 114), none, (.val (.t 12))⟩,
  ⟨(some 115), none, (.bin .gtr (.t 114) (.c (.i .i64 0)))⟩,
  ⟨(some 116), none, (.val (.t 115))⟩,
  ⟨(some 117), (some (116, true)), (.val (.t 12))⟩,
  ⟨(some 118), (some (116, true)), (.val (.t 3))⟩,
  ⟨(some 119), (some (116, true)), (.call 12 [(.t 118)])⟩,
  ⟨(some 120), (some (116, true)), (.bin .leq (.t 117) (.t 119))⟩,
  ⟨(some 121), none, (.pick (.t 116) (.t 120) (.c (.b false)))⟩]
theorem r5_28 {fn : AFun} {K : List AItem} {t : Nat → AV} {H : AH} {T : Tbl} : runR T fn (.code (.reg d5_28) :: K) t H = regR T fn K (aops (callR T) [
  ⟨(some 114), none, (.val (.t 12))⟩,
  ⟨(some 115), none, (.bin .gtr (.t 114) (.c (.i .i64 0)))⟩,
  ⟨(some 116), none, (.val (.t 115))⟩,
  ⟨(some 117), (some (116, true)), (.val (.t 12))⟩,
  ⟨(some 118), (some (116, true)), (.val (.t 3))⟩,
  ⟨(some 119), (some (116, true)), (.call 12 [(.t 118)])⟩,
  ⟨(some 120), (some (116, true)), (.bin .leq (.t 117) (.t 119))⟩,
  ⟨(some 121), none, (.pick (.t 116) (.t 120) (.c (.b false)))⟩] t H) := runR_reg'
def d5_29 : List AOper := [
  ⟨(some 2), none, (.val (.c (.b false)))⟩]
theorem r5_29 {fn : AFun} {K : List AItem} {t : Nat → AV} {H : AH} {T : Tbl} : runR T fn (.code (.reg d5_29) :: K) t H = regR T fn K (aops (callR T) [
  ⟨(some 2), none, (.val (.c (.b false)))⟩] t H) := runR_reg'
def d5_30 : List AOper := [
  ⟨(some 122), none, (.bin .add (.t 111) (.c (.i .i64 1)))⟩,
  ⟨(some 111), none, (.val (.t 122))⟩]
theorem r5_30 {fn : AFun} {K : List AItem} {t : Nat → AV} {H : AH} {T : Tbl} : runR T fn (.code (.reg d5_30) :: K) t H = regR T fn K (aops (callR T) [
  ⟨(some 122), none, (.bin .add (.t 111) (.c (.i .i64 1)))⟩,
  ⟨(some 111), none, (.val (.t 122))⟩] t H) := runR_reg'
def l5_31 : ACode := (.seq (.reg d5_26) (.seq (.cond (.t 112) .skip (.exit 5)) (.seq (.block 6 (.seq (.reg d5_27) (.seq (.reg d5_28) (.cond (.t 121) (.seq (.reg d5_29) .ret) .skip)))) (.reg d5_30))))
def d5_32 : List AOper := [
  ⟨(some 29), none, (.val (.t 3))⟩,
  ⟨(some 30), none, (.val (.t 7))⟩,
  ⟨(some 31), none, (.fa 2 (.t 6))⟩,
  ⟨(some 32), none, (.ld none (.t 31))⟩,
  ⟨(some 33), none, (.call 10 [(.t 29), (.t 30), (.t 32)])⟩,
  ⟨(some 34), none, (.bin .eql (.t 33) (.c (.i .i64 0)))⟩]
theorem r5_32 {fn : AFun} {K : List AItem} {t : Nat → AV} {H : AH} {T : Tbl} : runR T fn (.code (.reg d5_32) :: K) t H = regR T fn K (aops (callR T) [
  ⟨(some 29), none, (.val (.t 3))⟩,
  ⟨(some 30), none, (.val (.t 7))⟩,
  ⟨(some 31), none, (.fa 2 (.t 6))⟩,
  ⟨(some 32), none, (.ld none (.t 31))⟩,
  ⟨(some 33), none, (.call 10 [(.t 29), (.t 30), (.t 32)])⟩,
  ⟨(some 34), none, (.bin .eql (.t 33) (.c (.i .i64 0)))⟩] t H) := runR_reg'
def d5_33 : List AOper := [
  ⟨(some 36), none, (.val (.t 7))⟩,
  ⟨(some 37), none, (.val (.t 3))⟩,
  ⟨(some 38), none, (.val (.t 7))⟩,
  ⟨(some 39), none, (.call 19 [(.t 37), (.t 38)])⟩,
  ⟨(some 35), none, (.val (.t 39))⟩,
  ⟨(some 40), none, (.ext (.t 35) 0)⟩,
  ⟨(some 41), none, (.ext (.t 35) 1)⟩,
  ⟨(some 42), none, (.iaa 256 1 (.t 4) (.t 36))⟩,
  ⟨none, none, (.st 1 (.t 42) (.t 40))⟩]
theorem r5_33 {fn : AFun} {K : List AItem} {t : Nat → AV} {H : AH} {T : Tbl} : runR T fn (.code (.reg d5_33) :: K) t H = regR T fn K (aops (callR T) [
  ⟨(some 36), none, (.val (.t 7))⟩,
  ⟨(some 37), none, (.val (.t 3))⟩,
  ⟨(some 38), none, (.val (.t 7))⟩,
  ⟨(some 39), none, (.call 19 [(.t 37), (.t 38)])⟩,
  ⟨(some 35), none, (.val (.t 39))⟩,
  ⟨(some 40), none, (.ext (.t 35) 0)⟩,
  ⟨(some 41), none, (.ext (.t 35) 1)⟩,
  ⟨(some 42), none, (.iaa 256 1 (.t 4) (.t 36))⟩,
  ⟨none, none, (.st 1 (.t 42) (.t 40))⟩] t H) := runR_reg'
def d5_34 : List (AOper × List Nat) := [
  (⟨(some 43), none, (.val (.t 7))⟩, []),
  (⟨(some 44), none, (.iaa 256 1 (.t 4) (.t 43))⟩, []),
  (⟨(some 45), none, (.ld none (.t 44))⟩, [1]),
  (⟨(some 46), none, (.val (.t 3))⟩, []),
  (⟨(some 47), none, (.call 12 [(.t 46)])⟩, [0]),
  (⟨(some 48), none, (.bin .leq (.t 45) (.t 47))⟩, []),
  (⟨(some 49), none, (.val (.t 48))⟩, []),
  (⟨(some 50), (some (49, true)), (.val (.t 3))⟩, []),
  (⟨(some 51), (some (49, true)), (.call 12 [(.t 50)])⟩, []),
  (⟨(some 52), (some (49, true)), (.bin .lss (.t 51) (.c (.i .i64 1099511627776)))⟩, []),
  (⟨(some 53), none, (.pick (.t 49) (.t 52) (.c (.b false)))⟩, [])]
theorem r5_34 {fn : AFun} {K : List AItem} {t : Nat → AV} {H : AH} {T : Tbl} : runR T fn (.code (.drw d5_34) :: K) t H = regR T fn K (adrw (callR T) [
  (⟨(some 43), none, (.val (.t 7))⟩, []),
  (⟨(some 44), none, (.iaa 256 1 (.t 4) (.t 43))⟩, []),
  (⟨(some 45), none, (.ld none (.t 44))⟩, [1]),
  (⟨(some 46), none, (.val (.t 3))⟩, []),
  (⟨(some 47), none, (.call 12 [(.t 46)])⟩, [0]),
  (⟨(some 48), none, (.bin .leq (.t 45) (.t 47))⟩, []),
  (⟨(some 49), none, (.val (.t 48))⟩, []),
  (⟨(some 50), (some (49, true)), (.val (.t 3))⟩, []),
  (⟨(some 51), (some (49, true)), (.call 12 [(.t 50)])⟩, []),
  (⟨(some 52), (some (49, true)), (.bin .lss (.t 51) (.c (.i .i64 1099511627776)))⟩, []),
  (⟨(some 53), none, (.pick (.t 49) (.t 52) (.c (.b false)))⟩, [])] t H [H] []) := runR_drw'
def d5_35 : List AOper := [
  ⟨(some 2), none, (.val (.c (.b false)))⟩]
theorem r5_35 {fn : AFun} {K : List AItem} {t : Nat → AV} {H : AH} {T : Tbl} : runR T fn (.code (.reg d5_35) :: K) t H = regR T fn K (aops (callR T) [
  ⟨(some 2), none, (.val (.c (.b false)))⟩] t H) := runR_reg'
def d5_36 : List AOper := [
  ⟨(some 123), none, (.bin .add (.t 19) (.c (.i .i64 1)))⟩,
  ⟨(some 19), none, (.val (.t 123))⟩]
theorem r5_36 {fn : AFun} {K : List AItem} {t : Nat → AV} {H : AH} {T : Tbl} : runR T fn (.code (.reg d5_36) :: K) t H = regR T fn K (aops (callR T) [
  ⟨(some 123), none, (.bin .add (.t 19) (.c (.i .i64 1)))⟩,
  ⟨(some 19), none, (.val (.t 123))⟩] t H) := runR_reg'
def l5_37 : ACode := (.seq (.reg d5_6) (.seq (.cond (.t 20) .skip (.exit 0)) (.seq (.block 1 (.seq (.reg d5_7) (.seq (.reg d5_8) (.seq (.reg d5_9) (.block 2 (.seq (.reg d5_10) (.cond (.t 54) (.seq (.seq (.drw d5_11) (.cond (.t 63) (.seq (.reg d5_12) .ret) .skip)) (.reg d5_13)) (.seq (.reg d5_14) (.cond (.t 66) (.seq (.reg d5_15) (.seq (.seq (.reg d5_16) (.block 3 (.loop l5_24))) (.seq (.reg d5_25) (.block 5 (.loop l5_31))))) (.seq (.reg d5_32) (.cond (.t 34) (.seq (.reg d5_33) (.seq (.drw d5_34) (.cond (.t 53) (.seq (.reg d5_35) .ret) .skip))) .skip))))))))))) (.reg d5_36))))
def d5_38 : List AOper := [
  ⟨(some 124), none, (.call 13 [])⟩,
  ⟨(some 2), none, (.val (.t 124))⟩]
theorem r5_38 {fn : AFun} {K : List AItem} {t : Nat → AV} {H : AH} {T : Tbl} : runR T fn (.code (.reg d5_38) :: K) t H = regR T fn K (aops (callR T) [
  ⟨(some 124), none, (.call 13 [])⟩,
  ⟨(some 2), none, (.val (.t 124))⟩] t H) := runR_reg'
def a5 : AFun := ⟨125, [(.tmp 2)], (.seq (.reg d5_0) (.seq (.reg d5_1) (.seq (.seq (.reg d5_2) (.cond (.t 15) (.seq (.reg d5_3) .ret) .skip)) (.seq (.reg d5_4) (.seq (.seq (.reg d5_5) (.block 0 (.loop l5_37))) (.seq (.reg d5_38) .ret))))))⟩
theorem a5_ok : cfun Try.prog 5 = some a5 := by kernel_rfl
/-- futtock/futtocklaw07.TimerNobody -/
def d6_0 : List AOper := [
  ⟨(some 1), none, (.box (.t 0))⟩,
  ⟨(some 2), none, (.val (.c (.b false)))⟩]
theorem r6_0 {fn : AFun} {K : List AItem} {t : Nat → AV} {H : AH} {T : Tbl} : runR T fn (.code (.reg d6_0) :: K) t H = regR T fn K (aops (callR T) [
  ⟨(some 1), none, (.box (.t 0))⟩,
  ⟨(some 2), none, (.val (.c (.b false)))⟩] t H) := runR_reg'
def d6_1 : List AOper := [
  ⟨(some 9), none, (.build [(.i .i64 0), (.mp none)] [])⟩,
  ⟨(some 10), none, (.box (.t 9))⟩,
  ⟨(some 11), none, (.bsl [(.p none)] 2 [(0, 1, (.c (.p none))), (1, 1, (.t 10))])⟩,
  ⟨(some 12), none, (.len (.t 11))⟩,
  ⟨(some 13), none, (.val (.c (.i .i64 0)))⟩]
theorem r6_1 {fn : AFun} {K : List AItem} {t : Nat → AV} {H : AH} {T : Tbl} : runR T fn (.code (.reg d6_1) :: K) t H = regR T fn K (aops (callR T) [
  ⟨(some 9), none, (.build [(.i .i64 0), (.mp none)] [])⟩,
  ⟨(some 10), none, (.box (.t 9))⟩,
  ⟨(some 11), none, (.bsl [(.p none)] 2 [(0, 1, (.c (.p none))), (1, 1, (.t 10))])⟩,
  ⟨(some 12), none, (.len (.t 11))⟩,
  ⟨(some 13), none, (.val (.c (.i .i64 0)))⟩] t H) := runR_reg'
def d6_2 : List AOper := [
  ⟨(some 14), none, (.bin .lss (.t 13) (.t 12))⟩]
theorem r6_2 {fn : AFun} {K : List AItem} {t : Nat → AV} {H : AH} {T : Tbl} : runR T fn (.code (.reg d6_2) :: K) t H = regR T fn K (aops (callR T) [
  ⟨(some 14), none, (.bin .lss (.t 13) (.t 12))⟩] t H) := runR_reg'
def d6_3 : List AOper := [
  ⟨(some 15), none, (.ia 1 (.t 11) (.t 13))⟩,
  ⟨(some 16), none, (.ld none (.t 15))⟩,
  ⟨(some 4), none, (.val (.t 16))⟩]
theorem r6_3 {fn : AFun} {K : List AItem} {t : Nat → AV} {H : AH} {T : Tbl} : runR T fn (.code (.reg d6_3) :: K) t H = regR T fn K (aops (callR T) [
  ⟨(some 15), none, (.ia 1 (.t 11) (.t 13))⟩,
  ⟨(some 16), none, (.ld none (.t 15))⟩,
  ⟨(some 4), none, (.val (.t 16))⟩] t H) := runR_reg'
def d6_4 : List AOper := [
  ⟨(some 18), none, (.val (.t 4))⟩,
  ⟨(some 19), none, (.fa 1 (.t 1))⟩,
  ⟨(some 20), none, (.ld none (.t 19))⟩,
  ⟨(some 21), none, (.call 19 [(.t 18), (.t 20)])⟩,
  ⟨(some 17), none, (.val (.t 21))⟩,
  ⟨(some 22), none, (.ext (.t 17) 0)⟩,
  ⟨(some 23), none, (.ext (.t 17) 1)⟩,
  ⟨(some 5), none, (.val (.t 22))⟩,
  ⟨(some 6), none, (.val (.t 23))⟩]
theorem r6_4 {fn : AFun} {K : List AItem} {t : Nat → AV} {H : AH} {T : Tbl} : runR T fn (.code (.reg d6_4) :: K) t H = regR T fn K (aops (callR T) [
  ⟨(some 18), none, (.val (.t 4))⟩,
  ⟨(some 19), none, (.fa 1 (.t 1))⟩,
  ⟨(some 20), none, (.ld none (.t 19))⟩,
  ⟨(some 21), none, (.call 19 [(.t 18), (.t 20)])⟩,
  ⟨(some 17), none, (.val (.t 21))⟩,
  ⟨(some 22), none, (.ext (.t 17) 0)⟩,
  ⟨(some 23), none, (.ext (.t 17) 1)⟩,
  ⟨(some 5), none, (.val (.t 22))⟩,
  ⟨(some 6), none, (.val (.t 23))⟩] t H) := runR_reg'
def d6_5 : List AOper := [
  ⟨(some 25), none, (.val (.t 4))⟩,
  ⟨(some 26), none, (.call 11 [(.t 25)])⟩,
  ⟨(some 24), none, (.val (.t 26))⟩,
  ⟨(some 27), none, (.ext (.t 24) 0)⟩,
  ⟨(some 28), none, (.ext (.t 24) 1)⟩,
  ⟨(some 7), none, (.val (.t 27))⟩,
  ⟨(some 8), none, (.val (.t 28))⟩]
theorem r6_5 {fn : AFun} {K : List AItem} {t : Nat → AV} {H : AH} {T : Tbl} : runR T fn (.code (.reg d6_5) :: K) t H = regR T fn K (aops (callR T) [
  ⟨(some 25), none, (.val (.t 4))⟩,
  ⟨(some 26), none, (.call 11 [(.t 25)])⟩,
  ⟨(some 24), none, (.val (.t 26))⟩,
  ⟨(some 27), none, (.ext (.t 24) 0)⟩,
  ⟨(some 28), none, (.ext (.t 24) 1)⟩,
  ⟨(some 7), none, (.val (.t 27))⟩,
  ⟨(some 8), none, (.val (.t 28))⟩] t H) := runR_reg'
def d6_6 : List AOper := [
  ⟨(some 29), none, (.val (.t 4))⟩,
  ⟨(some 30), none, (.fa 1 (.t 1))⟩,
  ⟨(some 31), none, (.ld none (.t 30))⟩,
  ⟨(some 32), none, (.fa 2 (.t 1))⟩,
  ⟨(some 33), none, (.ld none (.t 32))⟩,
  ⟨(some 34), none, (.call 10 [(.t 29), (.t 31), (.t 33)])⟩,
  ⟨(some 35), none, (.bin .neq (.t 34) (.c (.i .i64 2)))⟩,
  ⟨(some 36), none, (.val (.t 35))⟩,
  ⟨(some 37), (some (36, false)), (.val (.t 4))⟩,
  ⟨(some 38), (some (36, false)), (.fa 1 (.t 1))⟩,
  ⟨(some 39), (some (36, false)), (.ld none (.t 38))⟩,
  ⟨(some 40), (some (36, false)), (.call 14 [(.t 37), (.t 39)])⟩,
  ⟨(some 41), none, (.pick (.t 36) (.c (.b true)) (.t 40))⟩,
  ⟨(some 42), none, (.val (.t 41))⟩,
  ⟨(some 43), (some (42, false)), (.val (.t 4))⟩,
  ⟨(some 44), (some (42, false)), (.fa 2 (.t 1))⟩,
  ⟨(some 45), (some (42, false)), (.ld none (.t 44))⟩,
  ⟨(some 46), (some (42, false)), (.call 9 [(.t 43), (.t 45)])⟩,
  ⟨(some 47), (some (42, false)), (.len (.t 46))⟩,
  ⟨(some 48), (some (42, false)), (.bin .neq (.t 47) (.c (.i .i64 0)))⟩,
  ⟨(some 49), none, (.pick (.t 42) (.c (.b true)) (.t 48))⟩,
  ⟨(some 50), none, (.val (.t 49))⟩,
  ⟨(some 51), (some (50, false)), (.val (.t 5))⟩,
  ⟨(some 52), (some (50, false)), (.bin .neq (.t 51) (.c (.i .i64 0)))⟩,
  ⟨(some 53), none, (.pick (.t 50) (.c (.b true)) (.t 52))⟩,
  ⟨(some 54), none, (.val (.t 53))⟩,
  ⟨(some 55), (some (54, false)), (.val (.t 6))⟩,
  ⟨(some 56), none, (.pick (.t 54) (.c (.b true)) (.t 55))⟩,
  ⟨(some 57), none, (.val (.t 56))⟩,
  ⟨(some 58), (some (57, false)), (.val (.t 7))⟩,
  ⟨(some 59), (some (57, false)), (.bin .neq (.t 58) (.c (.i .i64 0)))⟩,
  ⟨(some 60), none, (.pick (.t 57) (.c (.b true)) (.t 59))⟩,
  ⟨(some 61), none, (.val (.t 60))⟩,
  ⟨(some 62), (some (61, false)), (.val (.t 8))⟩,
  ⟨(some 63), none, (.pick (.t 61) (.c (.b true)) (.t 62))⟩,
  ⟨(some 64), none, (.val (.t 63))⟩,
  ⟨(some 65), (some (64, false)), (.val (.t 4))⟩,
  ⟨(some 66), (some (64, false)), (.call 12 [(.t 65)])⟩,
  ⟨(some 67), (some (64, false)), (.bin .neq (.t 66) (.c (.i .i64 0)))⟩,
  ⟨(some 68), none, (.pick (.t 64) (.c (.b true)) (.t 67))⟩,
  ⟨(some 69), none, (.val (.t 68))⟩,
  ⟨(some 70), (some (69, false)), (.val (.t 4))⟩,
  ⟨(some 71), (some (69, false)), (.call 21 [(.t 70)])⟩,
  ⟨(some 72), (some (69, false)), (.bin .neq (.t 71) (.c (.i .i64 0)))⟩,
  ⟨(some 73), none, (.pick (.t 69) (.c (.b true)) (.t 72))⟩]
theorem r6_6 {fn : AFun} {K : List AItem} {t : Nat → AV} {H : AH} {T : Tbl} : runR T fn (.code (.reg d6_6) :: K) t H = regR T fn K (aops (callR T) [
  ⟨(some 29), none, (.val (.t 4))⟩,
  ⟨(some 30), none, (.fa 1 (.t 1))⟩,
  ⟨(some 31), none, (.ld none (.t 30))⟩,
  ⟨(some 32), none, (.fa 2 (.t 1))⟩,
  ⟨(some 33), none, (.ld none (.t 32))⟩,
  ⟨(some 34), none, (.call 10 [(.t 29), (.t 31), (.t 33)])⟩,
  ⟨(some 35), none, (.bin .neq (.t 34) (.c (.i .i64 2)))⟩,
  ⟨(some 36), none, (.val (.t 35))⟩,
  ⟨(some 37), (some (36, false)), (.val (.t 4))⟩,
  ⟨(some 38), (some (36, false)), (.fa 1 (.t 1))⟩,
  ⟨(some 39), (some (36, false)), (.ld none (.t 38))⟩,
  ⟨(some 40), (some (36, false)), (.call 14 [(.t 37), (.t 39)])⟩,
  ⟨(some 41), none, (.pick (.t 36) (.c (.b true)) (.t 40))⟩,
  ⟨(some 42), none, (.val (.t 41))⟩,
  ⟨(some 43), (some (42, false)), (.val (.t 4))⟩,
  ⟨(some 44), (some (42, false)), (.fa 2 (.t 1))⟩,
  ⟨(some 45), (some (42, false)), (.ld none (.t 44))⟩,
  ⟨(some 46), (some (42, false)), (.call 9 [(.t 43), (.t 45)])⟩,
  ⟨(some 47), (some (42, false)), (.len (.t 46))⟩,
  ⟨(some 48), (some (42, false)), (.bin .neq (.t 47) (.c (.i .i64 0)))⟩,
  ⟨(some 49), none, (.pick (.t 42) (.c (.b true)) (.t 48))⟩,
  ⟨(some 50), none, (.val (.t 49))⟩,
  ⟨(some 51), (some (50, false)), (.val (.t 5))⟩,
  ⟨(some 52), (some (50, false)), (.bin .neq (.t 51) (.c (.i .i64 0)))⟩,
  ⟨(some 53), none, (.pick (.t 50) (.c (.b true)) (.t 52))⟩,
  ⟨(some 54), none, (.val (.t 53))⟩,
  ⟨(some 55), (some (54, false)), (.val (.t 6))⟩,
  ⟨(some 56), none, (.pick (.t 54) (.c (.b true)) (.t 55))⟩,
  ⟨(some 57), none, (.val (.t 56))⟩,
  ⟨(some 58), (some (57, false)), (.val (.t 7))⟩,
  ⟨(some 59), (some (57, false)), (.bin .neq (.t 58) (.c (.i .i64 0)))⟩,
  ⟨(some 60), none, (.pick (.t 57) (.c (.b true)) (.t 59))⟩,
  ⟨(some 61), none, (.val (.t 60))⟩,
  ⟨(some 62), (some (61, false)), (.val (.t 8))⟩,
  ⟨(some 63), none, (.pick (.t 61) (.c (.b true)) (.t 62))⟩,
  ⟨(some 64), none, (.val (.t 63))⟩,
  ⟨(some 65), (some (64, false)), (.val (.t 4))⟩,
  ⟨(some 66), (some (64, false)), (.call 12 [(.t 65)])⟩,
  ⟨(some 67), (some (64, false)), (.bin .neq (.t 66) (.c (.i .i64 0)))⟩,
  ⟨(some 68), none, (.pick (.t 64) (.c (.b true)) (.t 67))⟩,
  ⟨(some 69), none, (.val (.t 68))⟩,
  ⟨(some 70), (some (69, false)), (.val (.t 4))⟩,
  ⟨(some 71), (some (69, false)), (.call 21 [(.t 70)])⟩,
  ⟨(some 72), (some (69, false)), (.bin .neq (.t 71) (.c (.i .i64 0)))⟩,
  ⟨(some 73), none, (.pick (.t 69) (.c (.b true)) (.t 72))⟩] t H) := runR_reg'
def d6_7 : List AOper := [
  ⟨(some 2), none, (.val (.c (.b false)))⟩]
theorem r6_7 {fn : AFun} {K : List AItem} {t : Nat → AV} {H : AH} {T : Tbl} : runR T fn (.code (.reg d6_7) :: K) t H = regR T fn K (aops (callR T) [
  ⟨(some 2), none, (.val (.c (.b false)))⟩] t H) := runR_reg'
def d6_8 : List AOper := [
  ⟨(some 74), none, (.bin .add (.t 13) (.c (.i .i64 1)))⟩,
  ⟨(some 13), none, (.val (.t 74))⟩]
theorem r6_8 {fn : AFun} {K : List AItem} {t : Nat → AV} {H : AH} {T : Tbl} : runR T fn (.code (.reg d6_8) :: K) t H = regR T fn K (aops (callR T) [
  ⟨(some 74), none, (.bin .add (.t 13) (.c (.i .i64 1)))⟩,
  ⟨(some 13), none, (.val (.t 74))⟩] t H) := runR_reg'
def l6_9 : ACode := (.seq (.reg d6_2) (.seq (.cond (.t 14) .skip (.exit 0)) (.seq (.block 1 (.seq (.reg d6_3) (.seq (.reg d6_4) (.seq (.reg d6_5) (.seq (.reg d6_6) (.cond (.t 73) (.seq (.reg d6_7) .ret) .skip)))))) (.reg d6_8))))
def d6_10 : List AOper := [
  ⟨(some 75), none, (.call 13 [])⟩,
  ⟨(some 2), none, (.val (.t 75))⟩]
theorem r6_10 {fn : AFun} {K : List AItem} {t : Nat → AV} {H : AH} {T : Tbl} : runR T fn (.code (.reg d6_10) :: K) t H = regR T fn K (aops (callR T) [
  ⟨(some 75), none, (.call 13 [])⟩,
  ⟨(some 2), none, (.val (.t 75))⟩] t H) := runR_reg'
def a6 : AFun := ⟨76, [(.tmp 2)], (.seq (.reg d6_0) (.seq (.seq (.reg d6_1) (.block 0 (.loop l6_9))) (.seq (.reg d6_10) .ret)))⟩
theorem a6_ok : cfun Try.prog 6 = some a6 := by kernel_rfl
/-- futtock/timer.New -/
def d7_0 : List AOper := [
  ⟨(some 0), none, (.val (.c (.p none)))⟩]
theorem r7_0 {fn : AFun} {K : List AItem} {t : Nat → AV} {H : AH} {T : Tbl} : runR T fn (.code (.reg d7_0) :: K) t H = regR T fn K (aops (callR T) [
  ⟨(some 0), none, (.val (.c (.p none)))⟩] t H) := runR_reg'
def d7_1 : List AOper := [
  ⟨(some 1), none, .mkm⟩,
  ⟨(some 2), none, (.build [(.i .i64 0), (.mp none)] [(1, 1, (.t 1))])⟩,
  ⟨(some 3), none, (.box (.t 2))⟩,
  ⟨(some 0), none, (.val (.t 3))⟩]
theorem r7_1 {fn : AFun} {K : List AItem} {t : Nat → AV} {H : AH} {T : Tbl} : runR T fn (.code (.reg d7_1) :: K) t H = regR T fn K (aops (callR T) [
  ⟨(some 1), none, .mkm⟩,
  ⟨(some 2), none, (.build [(.i .i64 0), (.mp none)] [(1, 1, (.t 1))])⟩,
  ⟨(some 3), none, (.box (.t 2))⟩,
  ⟨(some 0), none, (.val (.t 3))⟩] t H) := runR_reg'
def a7 : AFun := ⟨4, [(.tmp 0)], (.seq (.reg d7_0) (.seq (.reg d7_1) .ret))⟩
theorem a7_ok : cfun Try.prog 7 = some a7 := by kernel_rfl
/-- futtock/futtocklaw07.short -/
def d8_0 : List AOper := [
  ⟨(some 2), none, (.val (.c (.sl none 0 0 true 0)))⟩]
theorem r8_0 {fn : AFun} {K : List AItem} {t : Nat → AV} {H : AH} {T : Tbl} : runR T fn (.code (.reg d8_0) :: K) t H = regR T fn K (aops (callR T) [
  ⟨(some 2), none, (.val (.c (.sl none 0 0 true 0)))⟩] t H) := runR_reg'
def d8_1 : List AOper := [
  ⟨(some 3), none, (.val (.t 0))⟩,
  ⟨(some 4), none, (.val (.t 0))⟩,
  ⟨(some 5), none, (.len (.t 4))⟩,
  ⟨(some 6), none, (.mm false [(.t 5), (.c (.i .i64 200))])⟩,
  ⟨(some 7), none, (.sls 3 (.t 3) none (some (.t 6)) none)⟩,
  ⟨(some 2), none, (.val (.t 7))⟩]
theorem r8_1 {fn : AFun} {K : List AItem} {t : Nat → AV} {H : AH} {T : Tbl} : runR T fn (.code (.reg d8_1) :: K) t H = regR T fn K (aops (callR T) [
  ⟨(some 3), none, (.val (.t 0))⟩,
  ⟨(some 4), none, (.val (.t 0))⟩,
  ⟨(some 5), none, (.len (.t 4))⟩,
  ⟨(some 6), none, (.mm false [(.t 5), (.c (.i .i64 200))])⟩,
  ⟨(some 7), none, (.sls 3 (.t 3) none (some (.t 6)) none)⟩,
  ⟨(some 2), none, (.val (.t 7))⟩] t H) := runR_reg'
def a8 : AFun := ⟨8, [(.tmp 2)], (.seq (.reg d8_0) (.seq (.reg d8_1) .ret))⟩
theorem a8_ok : cfun Try.prog 8 = some a8 := by kernel_rfl
/-- (*futtock/timer.Clock).Tick -/
def d9_0 : List AOper := [
  ⟨(some 4), none, (.val (.c (.sl none 0 0 true 0)))⟩]
theorem r9_0 {fn : AFun} {K : List AItem} {t : Nat → AV} {H : AH} {T : Tbl} : runR T fn (.code (.reg d9_0) :: K) t H = regR T fn K (aops (callR T) [
  ⟨(some 4), none, (.val (.c (.sl none 0 0 true 0)))⟩] t H) := runR_reg'
def d9_1 : List AOper := [
  ⟨(some 10), none, (.val (.t 0))⟩,
  ⟨(some 11), none, (.call 23 [(.t 10)])⟩,
  ⟨(some 12), none, (.un .not (.t 11))⟩]
theorem r9_1 {fn : AFun} {K : List AItem} {t : Nat → AV} {H : AH} {T : Tbl} : runR T fn (.code (.reg d9_1) :: K) t H = regR T fn K (aops (callR T) [
  ⟨(some 10), none, (.val (.t 0))⟩,
  ⟨(some 11), none, (.call 23 [(.t 10)])⟩,
  ⟨(some 12), none, (.un .not (.t 11))⟩] t H) := runR_reg'
def d9_2 : List AOper := [
  ⟨(some 4), none, (.val (.c (.sl none 0 0 true 0)))⟩]
theorem r9_2 {fn : AFun} {K : List AItem} {t : Nat → AV} {H : AH} {T : Tbl} : runR T fn (.code (.reg d9_2) :: K) t H = regR T fn K (aops (callR T) [
  ⟨(some 4), none, (.val (.c (.sl none 0 0 true 0)))⟩] t H) := runR_reg'
def d9_3 : List (AOper × List Nat) := [
  (⟨(some 13), none, (.val (.t 0))⟩, []),
  (⟨(some 14), none, (.nilc (.t 13))⟩, []),
  (⟨(some 15), none, (.fa 0 (.t 14))⟩, []),
  (⟨(some 16), none, (.ld none (.t 15))⟩, [1]),
  (⟨(some 17), none, (.val (.t 1))⟩, []),
  (⟨(some 18), none, (.mm true [(.t 17), (.c (.i .i64 0))])⟩, []),
  (⟨(some 19), none, (.val (.t 0))⟩, []),
  (⟨(some 20), none, (.nilc (.t 19))⟩, []),
  (⟨(some 21), none, (.fa 0 (.t 20))⟩, []),
  (⟨(some 22), none, (.ld none (.t 21))⟩, [1]),
  (⟨(some 23), none, (.bin .sub (.c (.i .i64 1099511627776)) (.t 22))⟩, []),
  (⟨(some 24), none, (.mm false [(.t 18), (.t 23)])⟩, []),
  (⟨(some 25), none, (.bin .add (.t 16) (.t 24))⟩, []),
  (⟨(some 26), none, (.nilc (.t 13))⟩, []),
  (⟨(some 27), none, (.fa 0 (.t 26))⟩, []),
  (⟨none, none, (.st 1 (.t 27) (.t 25))⟩, [])]
theorem r9_3 {fn : AFun} {K : List AItem} {t : Nat → AV} {H : AH} {T : Tbl} : runR T fn (.code (.drw d9_3) :: K) t H = regR T fn K (aops (callR T) [
  ⟨(some 13), none, (.val (.t 0))⟩,
  ⟨(some 14), none, (.nilc (.t 13))⟩,
  ⟨(some 15), none, (.fa 0 (.t 14))⟩,
  ⟨(some 16), none, (.ld none (.t 15))⟩,
  ⟨(some 17), none, (.val (.t 1))⟩,
  ⟨(some 18), none, (.mm true [(.t 17), (.c (.i .i64 0))])⟩,
  ⟨(some 19), none, (.val (.t 0))⟩,
  ⟨(some 20), none, (.nilc (.t 19))⟩,
  ⟨(some 21), none, (.fa 0 (.t 20))⟩,
  ⟨(some 22), none, (.ld none (.t 21))⟩,
  ⟨(some 23), none, (.bin .sub (.c (.i .i64 1099511627776)) (.t 22))⟩,
  ⟨(some 24), none, (.mm false [(.t 18), (.t 23)])⟩,
  ⟨(some 25), none, (.bin .add (.t 16) (.t 24))⟩,
  ⟨(some 26), none, (.nilc (.t 13))⟩,
  ⟨(some 27), none, (.fa 0 (.t 26))⟩,
  ⟨none, none, (.st 1 (.t 27) (.t 25))⟩] t H) := runR_plain rfl
def d9_4 : List AOper := [
  ⟨(some 5), none, (.val (.c (.sl none 0 0 true 0)))⟩]
theorem r9_4 {fn : AFun} {K : List AItem} {t : Nat → AV} {H : AH} {T : Tbl} : runR T fn (.code (.reg d9_4) :: K) t H = regR T fn K (aops (callR T) [
  ⟨(some 5), none, (.val (.c (.sl none 0 0 true 0)))⟩] t H) := runR_reg'
def d9_5 : List AOper := [
  ⟨(some 28), none, (.val (.t 0))⟩,
  ⟨(some 29), none, (.nilc (.t 28))⟩,
  ⟨(some 30), none, (.fa 1 (.t 29))⟩,
  ⟨(some 31), none, (.ld none (.t 30))⟩,
  ⟨(some 32), none, (.call 25 [(.t 31)])⟩,
  ⟨(some 33), none, (.val (.t 0))⟩,
  ⟨(some 34), none, (.mkf (.func 26) [(.t 33)] [])⟩,
  ⟨(some 35), none, (.call 24 [(.t 32), (.t 34)])⟩,
  ⟨(some 36), none, (.len (.t 35))⟩,
  ⟨(some 37), none, (.val (.c (.i .i64 0)))⟩]
theorem r9_5 {fn : AFun} {K : List AItem} {t : Nat → AV} {H : AH} {T : Tbl} : runR T fn (.code (.reg d9_5) :: K) t H = regR T fn K (aops (callR T) [
  ⟨(some 28), none, (.val (.t 0))⟩,
  ⟨(some 29), none, (.nilc (.t 28))⟩,
  ⟨(some 30), none, (.fa 1 (.t 29))⟩,
  ⟨(some 31), none, (.ld none (.t 30))⟩,
  ⟨(some 32), none, (.call 25 [(.t 31)])⟩,
  ⟨(some 33), none, (.val (.t 0))⟩,
  ⟨(some 34), none, (.mkf (.func 26) [(.t 33)] [])⟩,
  ⟨(some 35), none, (.call 24 [(.t 32), (.t 34)])⟩,
  ⟨(some 36), none, (.len (.t 35))⟩,
  ⟨(some 37), none, (.val (.c (.i .i64 0)))⟩] t H) := runR_reg'
def d9_6 : List AOper := [
  ⟨(some 38), none, (.bin .lss (.t 37) (.t 36))⟩]
theorem r9_6 {fn : AFun} {K : List AItem} {t : Nat → AV} {H : AH} {T : Tbl} : runR T fn (.code (.reg d9_6) :: K) t H = regR T fn K (aops (callR T) [
  ⟨(some 38), none, (.bin .lss (.t 37) (.t 36))⟩] t H) := runR_reg'
def d9_7 : List AOper := [
  ⟨(some 39), none, (.ia 1 (.t 35) (.t 37))⟩,
  ⟨(some 40), none, (.ld none (.t 39))⟩,
  ⟨(some 7), none, (.val (.t 40))⟩]
theorem r9_7 {fn : AFun} {K : List AItem} {t : Nat → AV} {H : AH} {T : Tbl} : runR T fn (.code (.reg d9_7) :: K) t H = regR T fn K (aops (callR T) [
  ⟨(some 39), none, (.ia 1 (.t 35) (.t 37))⟩,
  ⟨(some 40), none, (.ld none (.t 39))⟩,
  ⟨(some 7), none, (.val (.t 40))⟩] t H) := runR_reg'
def d9_8 : List (AOper × List Nat) := [
  (⟨(some 41), none, (.val (.t 0))⟩, []),
  (⟨(some 42), none, (.nilc (.t 41))⟩, []),
  (⟨(some 43), none, (.fa 1 (.t 42))⟩, []),
  (⟨(some 44), none, (.ld none (.t 43))⟩, [1]),
  (⟨(some 45), none, (.val (.t 7))⟩, []),
  (⟨(some 46), none, (.lk [0] (.i .i64 0) (.t 44) (.t 45) false)⟩, [1]),
  (⟨(some 47), none, (.val (.t 0))⟩, []),
  (⟨(some 48), none, (.nilc (.t 47))⟩, []),
  (⟨(some 49), none, (.fa 0 (.t 48))⟩, []),
  (⟨(some 50), none, (.ld none (.t 49))⟩, [1]),
  (⟨(some 51), none, (.bin .gtr (.t 46) (.t 50))⟩, [])]
theorem r9_8 {fn : AFun} {K : List AItem} {t : Nat → AV} {H : AH} {T : Tbl} : runR T fn (.code (.drw d9_8) :: K) t H = regR T fn K (aops (callR T) [
  ⟨(some 41), none, (.val (.t 0))⟩,
  ⟨(some 42), none, (.nilc (.t 41))⟩,
  ⟨(some 43), none, (.fa 1 (.t 42))⟩,
  ⟨(some 44), none, (.ld none (.t 43))⟩,
  ⟨(some 45), none, (.val (.t 7))⟩,
  ⟨(some 46), none, (.lk [0] (.i .i64 0) (.t 44) (.t 45) false)⟩,
  ⟨(some 47), none, (.val (.t 0))⟩,
  ⟨(some 48), none, (.nilc (.t 47))⟩,
  ⟨(some 49), none, (.fa 0 (.t 48))⟩,
  ⟨(some 50), none, (.ld none (.t 49))⟩,
  ⟨(some 51), none, (.bin .gtr (.t 46) (.t 50))⟩] t H) := runR_plain rfl
def d9_9 : List AOper := [
  ⟨(some 52), none, (.val (.t 5))⟩,
  ⟨(some 53), none, (.val (.t 7))⟩,
  ⟨(some 54), none, (.bsl [(.i .i64 0)] 1 [(0, 1, (.t 53))])⟩,
  ⟨(some 55), none, (.app [(.i .i64 0)] 8 (.t 52) (.t 54))⟩,
  ⟨(some 5), none, (.val (.t 55))⟩]
theorem r9_9 {fn : AFun} {K : List AItem} {t : Nat → AV} {H : AH} {T : Tbl} : runR T fn (.code (.reg d9_9) :: K) t H = regR T fn K (aops (callR T) [
  ⟨(some 52), none, (.val (.t 5))⟩,
  ⟨(some 53), none, (.val (.t 7))⟩,
  ⟨(some 54), none, (.bsl [(.i .i64 0)] 1 [(0, 1, (.t 53))])⟩,
  ⟨(some 55), none, (.app [(.i .i64 0)] 8 (.t 52) (.t 54))⟩,
  ⟨(some 5), none, (.val (.t 55))⟩] t H) := runR_reg'
def d9_10 : List AOper := [
  ⟨(some 56), none, (.bin .add (.t 37) (.c (.i .i64 1)))⟩,
  ⟨(some 37), none, (.val (.t 56))⟩]
theorem r9_10 {fn : AFun} {K : List AItem} {t : Nat → AV} {H : AH} {T : Tbl} : runR T fn (.code (.reg d9_10) :: K) t H = regR T fn K (aops (callR T) [
  ⟨(some 56), none, (.bin .add (.t 37) (.c (.i .i64 1)))⟩,
  ⟨(some 37), none, (.val (.t 56))⟩] t H) := runR_reg'
def l9_11 : ACode := (.seq (.reg d9_6) (.seq (.cond (.t 38) .skip (.exit 0)) (.seq (.block 1 (.seq (.reg d9_7) (.seq (.seq (.drw d9_8) (.cond (.t 51) (.exit 0) .skip)) (.reg d9_9)))) (.reg d9_10))))
def d9_12 : List AOper := [
  ⟨(some 57), none, (.val (.t 5))⟩,
  ⟨(some 58), none, (.len (.t 57))⟩,
  ⟨(some 59), none, (.val (.c (.i .i64 0)))⟩]
theorem r9_12 {fn : AFun} {K : List AItem} {t : Nat → AV} {H : AH} {T : Tbl} : runR T fn (.code (.reg d9_12) :: K) t H = regR T fn K (aops (callR T) [
  ⟨(some 57), none, (.val (.t 5))⟩,
  ⟨(some 58), none, (.len (.t 57))⟩,
  ⟨(some 59), none, (.val (.c (.i .i64 0)))⟩] t H) := runR_reg'
def d9_13 : List AOper := [
  ⟨(some 60), none, (.bin .lss (.t 59) (.t 58))⟩]
theorem r9_13 {fn : AFun} {K : List AItem} {t : Nat → AV} {H : AH} {T : Tbl} : runR T fn (.code (.reg d9_13) :: K) t H = regR T fn K (aops (callR T) [
  ⟨(some 60), none, (.bin .lss (.t 59) (.t 58))⟩] t H) := runR_reg'
def d9_14 : List AOper := [
  ⟨(some 61), none, (.ia 1 (.t 57) (.t 59))⟩,
  ⟨(some 62), none, (.ld none (.t 61))⟩,
  ⟨(some 9), none, (.val (.t 62))⟩]
theorem r9_14 {fn : AFun} {K : List AItem} {t : Nat → AV} {H : AH} {T : Tbl} : runR T fn (.code (.reg d9_14) :: K) t H = regR T fn K (aops (callR T) [
  ⟨(some 61), none, (.ia 1 (.t 57) (.t 59))⟩,
  ⟨(some 62), none, (.ld none (.t 61))⟩,
  ⟨(some 9), none, (.val (.t 62))⟩] t H) := runR_reg'
def d9_15 : List AOper := [
  ⟨(some 63), none, (.val (.t 0))⟩,
  ⟨(some 64), none, (.nilc (.t 63))⟩,
  ⟨(some 65), none, (.fa 1 (.t 64))⟩,
  ⟨(some 66), none, (.ld none (.t 65))⟩,
  ⟨(some 67), none, (.val (.t 9))⟩,
  ⟨none, none, (.dl [0] (.t 66) (.t 67))⟩]
theorem r9_15 {fn : AFun} {K : List AItem} {t : Nat → AV} {H : AH} {T : Tbl} : runR T fn (.code (.reg d9_15) :: K) t H = regR T fn K (aops (callR T) [
  ⟨(some 63), none, (.val (.t 0))⟩,
  ⟨(some 64), none, (.nilc (.t 63))⟩,
  ⟨(some 65), none, (.fa 1 (.t 64))⟩,
  ⟨(some 66), none, (.ld none (.t 65))⟩,
  ⟨(some 67), none, (.val (.t 9))⟩,
  ⟨none, none, (.dl [0] (.t 66) (.t 67))⟩] t H) := runR_reg'
def d9_16 : List AOper := [
  ⟨(some 68), none, (.bin .add (.t 59) (.c (.i .i64 1)))⟩,
  ⟨(some 59), none, (.val (.t 68))⟩]
theorem r9_16 {fn : AFun} {K : List AItem} {t : Nat → AV} {H : AH} {T : Tbl} : runR T fn (.code (.reg d9_16) :: K) t H = regR T fn K (aops (callR T) [
  ⟨(some 68), none, (.bin .add (.t 59) (.c (.i .i64 1)))⟩,
  ⟨(some 59), none, (.val (.t 68))⟩] t H) := runR_reg'
def l9_17 : ACode := (.seq (.reg d9_13) (.seq (.cond (.t 60) .skip (.exit 2)) (.seq (.block 3 (.seq (.reg d9_14) (.reg d9_15))) (.reg d9_16))))
def d9_18 : List AOper := [
  ⟨(some 69), none, (.val (.t 5))⟩,
  ⟨(some 4), none, (.val (.t 69))⟩]
theorem r9_18 {fn : AFun} {K : List AItem} {t : Nat → AV} {H : AH} {T : Tbl} : runR T fn (.code (.reg d9_18) :: K) t H = regR T fn K (aops (callR T) [
  ⟨(some 69), none, (.val (.t 5))⟩,
  ⟨(some 4), none, (.val (.t 69))⟩] t H) := runR_reg'
def a9 : AFun := ⟨70, [(.tmp 4)], (.seq (.reg d9_0) (.seq (.seq (.reg d9_1) (.cond (.t 12) (.seq (.reg d9_2) .ret) .skip)) (.seq (.drw d9_3) (.seq (.reg d9_4) (.seq (.seq (.reg d9_5) (.block 0 (.loop l9_11))) (.seq (.seq (.reg d9_12) (.block 2 (.loop l9_17))) (.seq (.reg d9_18) .ret)))))))⟩
theorem a9_ok : cfun Try.prog 9 = some a9 := by kernel_rfl
/-- (*futtock/timer.Clock).Set -/
def d10_0 : List AOper := [
  ⟨(some 6), none, (.val (.c (.i .i64 0)))⟩]
theorem r10_0 {fn : AFun} {K : List AItem} {t : Nat → AV} {H : AH} {T : Tbl} : runR T fn (.code (.reg d10_0) :: K) t H = regR T fn K (aops (callR T) [
  ⟨(some 6), none, (.val (.c (.i .i64 0)))⟩] t H) := runR_reg'
def d10_1 : List AOper := [
  ⟨(some 8), none, (.val (.t 0))⟩,
  ⟨(some 9), none, (.call 23 [(.t 8)])⟩,
  ⟨(some 10), none, (.un .not (.t 9))⟩,
  ⟨(some 7), none, (.val (.t 10))⟩]
theorem r10_1 {fn : AFun} {K : List AItem} {t : Nat → AV} {H : AH} {T : Tbl} : runR T fn (.code (.reg d10_1) :: K) t H = regR T fn K (aops (callR T) [
  ⟨(some 8), none, (.val (.t 0))⟩,
  ⟨(some 9), none, (.call 23 [(.t 8)])⟩,
  ⟨(some 10), none, (.un .not (.t 9))⟩,
  ⟨(some 7), none, (.val (.t 10))⟩] t H) := runR_reg'
def d10_2 : List AOper := [
  ⟨(some 6), none, (.val (.c (.i .i64 2)))⟩]
theorem r10_2 {fn : AFun} {K : List AItem} {t : Nat → AV} {H : AH} {T : Tbl} : runR T fn (.code (.reg d10_2) :: K) t H = regR T fn K (aops (callR T) [
  ⟨(some 6), none, (.val (.c (.i .i64 2)))⟩] t H) := runR_reg'
def d10_3 : List AOper := [
  ⟨(some 12), none, (.val (.t 1))⟩,
  ⟨(some 13), none, (.bin .lss (.t 12) (.c (.i .i64 0)))⟩,
  ⟨(some 14), none, (.val (.t 13))⟩,
  ⟨(some 15), (some (14, false)), (.val (.t 1))⟩,
  ⟨(some 16), (some (14, false)), (.bin .geq (.t 15) (.c (.i .i64 256)))⟩,
  ⟨(some 17), none, (.pick (.t 14) (.c (.b true)) (.t 16))⟩,
  ⟨(some 18), none, (.val (.t 17))⟩,
  ⟨(some 19), (some (18, false)), (.val (.t 2))⟩,
  ⟨(some 20), (some (18, false)), (.bin .lss (.t 19) (.c (.i .i64 1)))⟩,
  ⟨(some 21), none, (.pick (.t 18) (.c (.b true)) (.t 20))⟩,
  ⟨(some 11), none, (.val (.t 21))⟩]
theorem r10_3 {fn : AFun} {K : List AItem} {t : Nat → AV} {H : AH} {T : Tbl} : runR T fn (.code (.reg d10_3) :: K) t H = regR T fn K (aops (callR T) [
  ⟨(some 12), none, (.val (.t 1))⟩,
  ⟨(some 13), none, (.bin .lss (.t 12) (.c (.i .i64 0)))⟩,
  ⟨(some 14), none, (.val (.t 13))⟩,
  ⟨(some 15), (some (14, false)), (.val (.t 1))⟩,
  ⟨(some 16), (some (14, false)), (.bin .geq (.t 15) (.c (.i .i64 256)))⟩,
  ⟨(some 17), none, (.pick (.t 14) (.c (.b true)) (.t 16))⟩,
  ⟨(some 18), none, (.val (.t 17))⟩,
  ⟨(some 19), (some (18, false)), (.val (.t 2))⟩,
  ⟨(some 20), (some (18, false)), (.bin .lss (.t 19) (.c (.i .i64 1)))⟩,
  ⟨(some 21), none, (.pick (.t 18) (.c (.b true)) (.t 20))⟩,
  ⟨(some 11), none, (.val (.t 21))⟩] t H) := runR_reg'
def d10_4 : List AOper := [
  ⟨(some 6), none, (.val (.c (.i .i64 1)))⟩]
theorem r10_4 {fn : AFun} {K : List AItem} {t : Nat → AV} {H : AH} {T : Tbl} : runR T fn (.code (.reg d10_4) :: K) t H = regR T fn K (aops (callR T) [
  ⟨(some 6), none, (.val (.c (.i .i64 1)))⟩] t H) := runR_reg'
def d10_5 : List (AOper × List Nat) := [
  (⟨(some 22), none, (.val (.t 0))⟩, []),
  (⟨(some 23), none, (.nilc (.t 22))⟩, []),
  (⟨(some 24), none, (.fa 1 (.t 23))⟩, []),
  (⟨(some 25), none, (.ld none (.t 24))⟩, [1]),
  (⟨(some 26), none, (.val (.t 1))⟩, []),
  (⟨(some 27), none, (.val (.t 0))⟩, []),
  (⟨(some 28), none, (.nilc (.t 27))⟩, []),
  (⟨(some 29), none, (.fa 0 (.t 28))⟩, []),
  (⟨(some 30), none, (.ld none (.t 29))⟩, [1]),
  (⟨(some 31), none, (.val (.t 2))⟩, []),
  (⟨(some 32), none, (.val (.t 0))⟩, []),
  (⟨(some 33), none, (.nilc (.t 32))⟩, []),
  (⟨(some 34), none, (.fa 0 (.t 33))⟩, []),
  (⟨(some 35), none, (.ld none (.t 34))⟩, [1]),
  (⟨(some 36), none, (.bin .sub (.c (.i .i64 1099511627776)) (.t 35))⟩, []),
  (⟨(some 37), none, (.mm false [(.t 31), (.t 36)])⟩, []),
  (⟨(some 38), none, (.bin .add (.t 30) (.t 37))⟩, []),
  (⟨none, none, (.mu [0] (.t 25) (.t 26) (.t 38))⟩, [])]
theorem r10_5 {fn : AFun} {K : List AItem} {t : Nat → AV} {H : AH} {T : Tbl} : runR T fn (.code (.drw d10_5) :: K) t H = regR T fn K (aops (callR T) [
  ⟨(some 22), none, (.val (.t 0))⟩,
  ⟨(some 23), none, (.nilc (.t 22))⟩,
  ⟨(some 24), none, (.fa 1 (.t 23))⟩,
  ⟨(some 25), none, (.ld none (.t 24))⟩,
  ⟨(some 26), none, (.val (.t 1))⟩,
  ⟨(some 27), none, (.val (.t 0))⟩,
  ⟨(some 28), none, (.nilc (.t 27))⟩,
  ⟨(some 29), none, (.fa 0 (.t 28))⟩,
  ⟨(some 30), none, (.ld none (.t 29))⟩,
  ⟨(some 31), none, (.val (.t 2))⟩,
  ⟨(some 32), none, (.val (.t 0))⟩,
  ⟨(some 33), none, (.nilc (.t 32))⟩,
  ⟨(some 34), none, (.fa 0 (.t 33))⟩,
  ⟨(some 35), none, (.ld none (.t 34))⟩,
  ⟨(some 36), none, (.bin .sub (.c (.i .i64 1099511627776)) (.t 35))⟩,
  ⟨(some 37), none, (.mm false [(.t 31), (.t 36)])⟩,
  ⟨(some 38), none, (.bin .add (.t 30) (.t 37))⟩,
  ⟨none, none, (.mu [0] (.t 25) (.t 26) (.t 38))⟩] t H) := runR_plain rfl
def d10_6 : List AOper := [
  ⟨(some 6), none, (.val (.c (.i .i64 0)))⟩]
theorem r10_6 {fn : AFun} {K : List AItem} {t : Nat → AV} {H : AH} {T : Tbl} : runR T fn (.code (.reg d10_6) :: K) t H = regR T fn K (aops (callR T) [
  ⟨(some 6), none, (.val (.c (.i .i64 0)))⟩] t H) := runR_reg'
def a10 : AFun := ⟨39, [(.tmp 6)], (.seq (.reg d10_0) (.seq (.block 0 (.seq (.reg d10_1) (.cond (.t 7) (.seq (.reg d10_2) .ret) (.seq (.reg d10_3) (.cond (.t 11) (.seq (.reg d10_4) .ret) .skip))))) (.seq (.drw d10_5) (.seq (.reg d10_6) .ret))))⟩
theorem a10_ok : cfun Try.prog 10 = some a10 := by kernel_rfl
/-- (*futtock/timer.Clock).Next -/
def d11_0 : List AOper := [
  ⟨(some 2), none, (.val (.c (.i .i64 0)))⟩,
  ⟨(some 3), none, (.val (.c (.b false)))⟩]
theorem r11_0 {fn : AFun} {K : List AItem} {t : Nat → AV} {H : AH} {T : Tbl} : runR T fn (.code (.reg d11_0) :: K) t H = regR T fn K (aops (callR T) [
  ⟨(some 2), none, (.val (.c (.i .i64 0)))⟩,
  ⟨(some 3), none, (.val (.c (.b false)))⟩] t H) := runR_reg'
def d11_1 : List AOper := [
  ⟨(some 7), none, (.val (.t 0))⟩,
  ⟨(some 8), none, (.call 21 [(.t 7)])⟩,
  ⟨(some 9), none, (.bin .eql (.t 8) (.c (.i .i64 0)))⟩]
theorem r11_1 {fn : AFun} {K : List AItem} {t : Nat → AV} {H : AH} {T : Tbl} : runR T fn (.code (.reg d11_1) :: K) t H = regR T fn K (aops (callR T) [
  ⟨(some 7), none, (.val (.t 0))⟩,
  ⟨(some 8), none, (.call 21 [(.t 7)])⟩,
  ⟨(some 9), none, (.bin .eql (.t 8) (.c (.i .i64 0)))⟩] t H) := runR_reg'
def d11_2 : List AOper := [
  ⟨(some 2), none, (.val (.c (.i .i64 0)))⟩,
  ⟨(some 3), none, (.val (.c (.b false)))⟩]
theorem r11_2 {fn : AFun} {K : List AItem} {t : Nat → AV} {H : AH} {T : Tbl} : runR T fn (.code (.reg d11_2) :: K) t H = regR T fn K (aops (callR T) [
  ⟨(some 2), none, (.val (.c (.i .i64 0)))⟩,
  ⟨(some 3), none, (.val (.c (.b false)))⟩] t H) := runR_reg'
def d11_3 : List AOper := [
  ⟨(some 4), none, (.val (.c (.i .i64 1099511627776)))⟩]
theorem r11_3 {fn : AFun} {K : List AItem} {t : Nat → AV} {H : AH} {T : Tbl} : runR T fn (.code (.reg d11_3) :: K) t H = regR T fn K (aops (callR T) [
  ⟨(some 4), none, (.val (.c (.i .i64 1099511627776)))⟩] t H) := runR_reg'
def d11_4 : List AOper := [
  ⟨(some 10), none, (.val (.t 0))⟩,
  ⟨(some 11), none, (.nilc (.t 10))⟩,
  ⟨(some 12), none, (.fa 1 (.t 11))⟩,
  ⟨(some 13), none, (.ld none (.t 12))⟩,
  ⟨(some 14), none, (.rng (.t 13))⟩]
theorem r11_4 {fn : AFun} {K : List AItem} {t : Nat → AV} {H : AH} {T : Tbl} : runR T fn (.code (.reg d11_4) :: K) t H = regR T fn K (aops (callR T) [
  ⟨(some 10), none, (.val (.t 0))⟩,
  ⟨(some 11), none, (.nilc (.t 10))⟩,
  ⟨(some 12), none, (.fa 1 (.t 11))⟩,
  ⟨(some 13), none, (.ld none (.t 12))⟩,
  ⟨(some 14), none, (.rng (.t 13))⟩] t H) := runR_reg'
def d11_5 : List AOper := [
  ⟨(some 15), none, (.nxt (.t 14))⟩,
  ⟨(some 16), none, (.ext (.t 15) 0)⟩]
theorem r11_5 {fn : AFun} {K : List AItem} {t : Nat → AV} {H : AH} {T : Tbl} : runR T fn (.code (.reg d11_5) :: K) t H = regR T fn K (aops (callR T) [
  ⟨(some 15), none, (.nxt (.t 14))⟩,
  ⟨(some 16), none, (.ext (.t 15) 0)⟩] t H) := runR_reg'
def d11_6 : List AOper := [
  ⟨(some 17), none, (.ent (.t 14))⟩,
  ⟨(some 18), none, (.ext (.t 17) 1)⟩,
  ⟨(some 6), none, (.val (.t 18))⟩]
theorem r11_6 {fn : AFun} {K : List AItem} {t : Nat → AV} {H : AH} {T : Tbl} : runR T fn (.code (.reg d11_6) :: K) t H = regR T fn K (aops (callR T) [
  ⟨(some 17), none, (.ent (.t 14))⟩,
  ⟨(some 18), none, (.ext (.t 17) 1)⟩,
  ⟨(some 6), none, (.val (.t 18))⟩] t H) := runR_reg'
def d11_7 : List AOper := [
  ⟨(some 19), none, (.val (.t 4))⟩,
  ⟨(some 20), none, (.val (.t 6))⟩,
  ⟨(some 21), none, (.mm false [(.t 19), (.t 20)])⟩,
  ⟨(some 4), none, (.val (.t 21))⟩]
theorem r11_7 {fn : AFun} {K : List AItem} {t : Nat → AV} {H : AH} {T : Tbl} : runR T fn (.code (.reg d11_7) :: K) t H = regR T fn K (aops (callR T) [
  ⟨(some 19), none, (.val (.t 4))⟩,
  ⟨(some 20), none, (.val (.t 6))⟩,
  ⟨(some 21), none, (.mm false [(.t 19), (.t 20)])⟩,
  ⟨(some 4), none, (.val (.t 21))⟩] t H) := runR_reg'
def l11_8 : ACode := (.seq (.reg d11_5) (.seq (.cond (.t 16) .skip (.exit 0)) (.block 1 (.seq (.reg d11_6) (.reg d11_7)))))
def d11_9 : List AOper := [
  ⟨(some 22), none, (.val (.t 4))⟩,
  ⟨(some 2), none, (.val (.t 22))⟩,
  ⟨(some 3), none, (.val (.c (.b true)))⟩]
theorem r11_9 {fn : AFun} {K : List AItem} {t : Nat → AV} {H : AH} {T : Tbl} : runR T fn (.code (.reg d11_9) :: K) t H = regR T fn K (aops (callR T) [
  ⟨(some 22), none, (.val (.t 4))⟩,
  ⟨(some 2), none, (.val (.t 22))⟩,
  ⟨(some 3), none, (.val (.c (.b true)))⟩] t H) := runR_reg'
def a11 : AFun := ⟨23, [(.tmp 2), (.tmp 3)], (.seq (.reg d11_0) (.seq (.seq (.reg d11_1) (.cond (.t 9) (.seq (.reg d11_2) .ret) .skip)) (.seq (.reg d11_3) (.seq (.seq (.reg d11_4) (.block 0 (.loop l11_8))) (.seq (.reg d11_9) .ret)))))⟩
theorem a11_ok : cfun Try.prog 11 = some a11 := by kernel_rfl
/-- (*futtock/timer.Clock).Now -/
def d12_0 : List AOper := [
  ⟨(some 2), none, (.val (.c (.i .i64 0)))⟩]
theorem r12_0 {fn : AFun} {K : List AItem} {t : Nat → AV} {H : AH} {T : Tbl} : runR T fn (.code (.reg d12_0) :: K) t H = regR T fn K (aops (callR T) [
  ⟨(some 2), none, (.val (.c (.i .i64 0)))⟩] t H) := runR_reg'
def d12_1 : List AOper := [
  ⟨(some 3), none, (.val (.t 0))⟩,
  ⟨(some 4), none, (.call 23 [(.t 3)])⟩,
  ⟨(some 5), none, (.un .not (.t 4))⟩]
theorem r12_1 {fn : AFun} {K : List AItem} {t : Nat → AV} {H : AH} {T : Tbl} : runR T fn (.code (.reg d12_1) :: K) t H = regR T fn K (aops (callR T) [
  ⟨(some 3), none, (.val (.t 0))⟩,
  ⟨(some 4), none, (.call 23 [(.t 3)])⟩,
  ⟨(some 5), none, (.un .not (.t 4))⟩] t H) := runR_reg'
def d12_2 : List AOper := [
  ⟨(some 2), none, (.val (.c (.i .i64 0)))⟩]
theorem r12_2 {fn : AFun} {K : List AItem} {t : Nat → AV} {H : AH} {T : Tbl} : runR T fn (.code (.reg d12_2) :: K) t H = regR T fn K (aops (callR T) [
  ⟨(some 2), none, (.val (.c (.i .i64 0)))⟩] t H) := runR_reg'
def d12_3 : List AOper := [
  ⟨(some 6), none, (.val (.t 0))⟩,
  ⟨(some 7), none, (.nilc (.t 6))⟩,
  ⟨(some 8), none, (.fa 0 (.t 7))⟩,
  ⟨(some 9), none, (.ld none (.t 8))⟩,
  ⟨(some 2), none, (.val (.t 9))⟩]
theorem r12_3 {fn : AFun} {K : List AItem} {t : Nat → AV} {H : AH} {T : Tbl} : runR T fn (.code (.reg d12_3) :: K) t H = regR T fn K (aops (callR T) [
  ⟨(some 6), none, (.val (.t 0))⟩,
  ⟨(some 7), none, (.nilc (.t 6))⟩,
  ⟨(some 8), none, (.fa 0 (.t 7))⟩,
  ⟨(some 9), none, (.ld none (.t 8))⟩,
  ⟨(some 2), none, (.val (.t 9))⟩] t H) := runR_reg'
def a12 : AFun := ⟨10, [(.tmp 2)], (.seq (.reg d12_0) (.seq (.seq (.reg d12_1) (.cond (.t 5) (.seq (.reg d12_2) .ret) .skip)) (.seq (.reg d12_3) .ret)))⟩
theorem a12_ok : cfun Try.prog 12 = some a12 := by kernel_rfl
/-- futtock/futtocklaw07.alive -/
def d13_0 : List AOper := [
  ⟨(some 0), none, (.val (.c (.b false)))⟩]
theorem r13_0 {fn : AFun} {K : List AItem} {t : Nat → AV} {H : AH} {T : Tbl} : runR T fn (.code (.reg d13_0) :: K) t H = regR T fn K (aops (callR T) [
  ⟨(some 0), none, (.val (.c (.b false)))⟩] t H) := runR_reg'
def d13_1 : List AOper := [
  ⟨(some 5), none, (.call 7 [])⟩,
  ⟨(some 1), none, (.val (.t 5))⟩]
theorem r13_1 {fn : AFun} {K : List AItem} {t : Nat → AV} {H : AH} {T : Tbl} : runR T fn (.code (.reg d13_1) :: K) t H = regR T fn K (aops (callR T) [
  ⟨(some 5), none, (.call 7 [])⟩,
  ⟨(some 1), none, (.val (.t 5))⟩] t H) := runR_reg'
def d13_2 : List AOper := [
  ⟨(some 6), none, (.val (.t 1))⟩,
  ⟨(some 7), none, (.eqn 0 false (.t 6) (.c (.p none)))⟩,
  ⟨(some 8), none, (.val (.t 7))⟩,
  ⟨(some 9), (some (8, false)), (.val (.t 1))⟩,
  ⟨(some 10), (some (8, false)), (.call 10 [(.t 9), (.c (.i .i64 1)), (.c (.i .i64 5))])⟩,
  ⟨(some 11), (some (8, false)), (.bin .neq (.t 10) (.c (.i .i64 0)))⟩,
  ⟨(some 12), none, (.pick (.t 8) (.c (.b true)) (.t 11))⟩,
  ⟨(some 13), none, (.val (.t 12))⟩,
  ⟨(some 14), (some (13, false)), (.val (.t 1))⟩,
  ⟨(some 15), (some (13, false)), (.call 10 [(.t 14), (.c (.i .i64 2)), (.c (.i .i64 3))])⟩,
  ⟨(some 16), (some (13, false)), (.bin .neq (.t 15) (.c (.i .i64 0)))⟩,
  ⟨(some 17), none, (.pick (.t 13) (.c (.b true)) (.t 16))⟩]
theorem r13_2 {fn : AFun} {K : List AItem} {t : Nat → AV} {H : AH} {T : Tbl} : runR T fn (.code (.reg d13_2) :: K) t H = regR T fn K (aops (callR T) [
  ⟨(some 6), none, (.val (.t 1))⟩,
  ⟨(some 7), none, (.eqn 0 false (.t 6) (.c (.p none)))⟩,
  ⟨(some 8), none, (.val (.t 7))⟩,
  ⟨(some 9), (some (8, false)), (.val (.t 1))⟩,
  ⟨(some 10), (some (8, false)), (.call 10 [(.t 9), (.c (.i .i64 1)), (.c (.i .i64 5))])⟩,
  ⟨(some 11), (some (8, false)), (.bin .neq (.t 10) (.c (.i .i64 0)))⟩,
  ⟨(some 12), none, (.pick (.t 8) (.c (.b true)) (.t 11))⟩,
  ⟨(some 13), none, (.val (.t 12))⟩,
  ⟨(some 14), (some (13, false)), (.val (.t 1))⟩,
  ⟨(some 15), (some (13, false)), (.call 10 [(.t 14), (.c (.i .i64 2)), (.c (.i .i64 3))])⟩,
  ⟨(some 16), (some (13, false)), (.bin .neq (.t 15) (.c (.i .i64 0)))⟩,
  ⟨(some 17), none, (.pick (.t 13) (.c (.b true)) (.t 16))⟩] t H) := runR_reg'
def d13_3 : List AOper := [
  ⟨(some 0), none, (.val (.c (.b false)))⟩]
theorem r13_3 {fn : AFun} {K : List AItem} {t : Nat → AV} {H : AH} {T : Tbl} : runR T fn (.code (.reg d13_3) :: K) t H = regR T fn K (aops (callR T) [
  ⟨(some 0), none, (.val (.c (.b false)))⟩] t H) := runR_reg'
def d13_4 : List AOper := [
  ⟨(some 19), none, (.val (.t 1))⟩,
  ⟨(some 20), none, (.call 11 [(.t 19)])⟩,
  ⟨(some 18), none, (.val (.t 20))⟩,
  ⟨(some 21), none, (.ext (.t 18) 0)⟩,
  ⟨(some 22), none, (.ext (.t 18) 1)⟩,
  ⟨(some 2), none, (.val (.t 21))⟩,
  ⟨(some 3), none, (.val (.t 22))⟩]
theorem r13_4 {fn : AFun} {K : List AItem} {t : Nat → AV} {H : AH} {T : Tbl} : runR T fn (.code (.reg d13_4) :: K) t H = regR T fn K (aops (callR T) [
  ⟨(some 19), none, (.val (.t 1))⟩,
  ⟨(some 20), none, (.call 11 [(.t 19)])⟩,
  ⟨(some 18), none, (.val (.t 20))⟩,
  ⟨(some 21), none, (.ext (.t 18) 0)⟩,
  ⟨(some 22), none, (.ext (.t 18) 1)⟩,
  ⟨(some 2), none, (.val (.t 21))⟩,
  ⟨(some 3), none, (.val (.t 22))⟩] t H) := runR_reg'
def d13_5 : List AOper := [
  ⟨(some 23), none, (.val (.t 1))⟩,
  ⟨(some 24), none, (.call 9 [(.t 23), (.c (.i .i64 5))])⟩,
  ⟨(some 4), none, (.val (.t 24))⟩]
theorem r13_5 {fn : AFun} {K : List AItem} {t : Nat → AV} {H : AH} {T : Tbl} : runR T fn (.code (.reg d13_5) :: K) t H = regR T fn K (aops (callR T) [
  ⟨(some 23), none, (.val (.t 1))⟩,
  ⟨(some 24), none, (.call 9 [(.t 23), (.c (.i .i64 5))])⟩,
  ⟨(some 4), none, (.val (.t 24))⟩] t H) := runR_reg'
def d13_6 : List AOper := [
  ⟨(some 25), none, (.val (.t 2))⟩,
  ⟨(some 26), none, (.bin .eql (.t 25) (.c (.i .i64 3)))⟩,
  ⟨(some 27), none, (.val (.t 26))⟩,
  ⟨(some 28), (some (27, true)), (.val (.t 3))⟩,
  ⟨(some 29), none, (.pick (.t 27) (.t 28) (.c (.b false)))⟩,
  ⟨(some 30), none, (.val (.t 29))⟩,
  ⟨(some 31), (some (30, true)), (.val (.t 4))⟩,
  ⟨(some 32), (some (30, true)), (.len (.t 31))⟩,
  ⟨(some 33), (some (30, true)), (.bin .eql (.t 32) (.c (.i .i64 2)))⟩,
  ⟨(some 34), none, (.pick (.t 30) (.t 33) (.c (.b false)))⟩,
  ⟨(some 35), none, (.val (.t 34))⟩,
  ⟨(some 36), (some (35, true)), (.val (.t 4))⟩,
  ⟨(some 37), (some (35, true)), (.ia 1 (.t 36) (.c (.i .i64 0)))⟩,
  ⟨(some 38), (some (35, true)), (.ld none (.t 37))⟩,
  ⟨(some 39), (some (35, true)), (.bin .eql (.t 38) (.c (.i .i64 2)))⟩,
  ⟨(some 40), none, (.pick (.t 35) (.t 39) (.c (.b false)))⟩,
  ⟨(some 41), none, (.val (.t 40))⟩,
  ⟨(some 42), (some (41, true)), (.val (.t 4))⟩,
  ⟨(some 43), (some (41, true)), (.ia 1 (.t 42) (.c (.i .i64 1)))⟩,
  ⟨(some 44), (some (41, true)), (.ld none (.t 43))⟩,
  ⟨(some 45), (some (41, true)), (.bin .eql (.t 44) (.c (.i .i64 1)))⟩,
  ⟨(some 46), none, (.pick (.t 41) (.t 45) (.c (.b false)))⟩,
  ⟨(some 47), none, (.val (.t 46))⟩,
  ⟨(some 48), (some (47, true)), (.val (.t 1))⟩,
  ⟨(some 49), (some (47, true)), (.call 21 [(.t 48)])⟩,
  ⟨(some 50), (some (47, true)), (.bin .eql (.t 49) (.c (.i .i64 0)))⟩,
  ⟨(some 51), none, (.pick (.t 47) (.t 50) (.c (.b false)))⟩,
  ⟨(some 52), none, (.val (.t 51))⟩,
  ⟨(some 53), (some (52, true)), (.val (.t 1))⟩,
  ⟨(some 54), (some (52, true)), (.call 12 [(.t 53)])⟩,
  ⟨(some 55), (some (52, true)), (.bin .eql (.t 54) (.c (.i .i64 5)))⟩,
  ⟨(some 56), none, (.pick (.t 52) (.t 55) (.c (.b false)))⟩,
  ⟨(some 0), none, (.val (.t 56))⟩]
theorem r13_6 {fn : AFun} {K : List AItem} {t : Nat → AV} {H : AH} {T : Tbl} : runR T fn (.code (.reg d13_6) :: K) t H = regR T fn K (aops (callR T) [
  ⟨(some 25), none, (.val (.t 2))⟩,
  ⟨(some 26), none, (.bin .eql (.t 25) (.c (.i .i64 3)))⟩,
  ⟨(some 27), none, (.val (.t 26))⟩,
  ⟨(some 28), (some (27, true)), (.val (.t 3))⟩,
  ⟨(some 29), none, (.pick (.t 27) (.t 28) (.c (.b false)))⟩,
  ⟨(some 30), none, (.val (.t 29))⟩,
  ⟨(some 31), (some (30, true)), (.val (.t 4))⟩,
  ⟨(some 32), (some (30, true)), (.len (.t 31))⟩,
  ⟨(some 33), (some (30, true)), (.bin .eql (.t 32) (.c (.i .i64 2)))⟩,
  ⟨(some 34), none, (.pick (.t 30) (.t 33) (.c (.b false)))⟩,
  ⟨(some 35), none, (.val (.t 34))⟩,
  ⟨(some 36), (some (35, true)), (.val (.t 4))⟩,
  ⟨(some 37), (some (35, true)), (.ia 1 (.t 36) (.c (.i .i64 0)))⟩,
  ⟨(some 38), (some (35, true)), (.ld none (.t 37))⟩,
  ⟨(some 39), (some (35, true)), (.bin .eql (.t 38) (.c (.i .i64 2)))⟩,
  ⟨(some 40), none, (.pick (.t 35) (.t 39) (.c (.b false)))⟩,
  ⟨(some 41), none, (.val (.t 40))⟩,
  ⟨(some 42), (some (41, true)), (.val (.t 4))⟩,
  ⟨(some 43), (some (41, true)), (.ia 1 (.t 42) (.c (.i .i64 1)))⟩,
  ⟨(some 44), (some (41, true)), (.ld none (.t 43))⟩,
  ⟨(some 45), (some (41, true)), (.bin .eql (.t 44) (.c (.i .i64 1)))⟩,
  ⟨(some 46), none, (.pick (.t 41) (.t 45) (.c (.b false)))⟩,
  ⟨(some 47), none, (.val (.t 46))⟩,
  ⟨(some 48), (some (47, true)), (.val (.t 1))⟩,
  ⟨(some 49), (some (47, true)), (.call 21 [(.t 48)])⟩,
  ⟨(some 50), (some (47, true)), (.bin .eql (.t 49) (.c (.i .i64 0)))⟩,
  ⟨(some 51), none, (.pick (.t 47) (.t 50) (.c (.b false)))⟩,
  ⟨(some 52), none, (.val (.t 51))⟩,
  ⟨(some 53), (some (52, true)), (.val (.t 1))⟩,
  ⟨(some 54), (some (52, true)), (.call 12 [(.t 53)])⟩,
  ⟨(some 55), (some (52, true)), (.bin .eql (.t 54) (.c (.i .i64 5)))⟩,
  ⟨(some 56), none, (.pick (.t 52) (.t 55) (.c (.b false)))⟩,
  ⟨(some 0), none, (.val (.t 56))⟩] t H) := runR_reg'
def a13 : AFun := ⟨57, [(.tmp 0)], (.seq (.reg d13_0) (.seq (.reg d13_1) (.seq (.seq (.reg d13_2) (.cond (.t 17) (.seq (.reg d13_3) .ret) .skip)) (.seq (.reg d13_4) (.seq (.reg d13_5) (.seq (.reg d13_6) .ret))))))⟩
theorem a13_ok : cfun Try.prog 13 = some a13 := by kernel_rfl
/-- (*futtock/timer.Clock).Clear -/
def d14_0 : List AOper := [
  ⟨(some 4), none, (.val (.c (.b false)))⟩]
theorem r14_0 {fn : AFun} {K : List AItem} {t : Nat → AV} {H : AH} {T : Tbl} : runR T fn (.code (.reg d14_0) :: K) t H = regR T fn K (aops (callR T) [
  ⟨(some 4), none, (.val (.c (.b false)))⟩] t H) := runR_reg'
def d14_1 : List AOper := [
  ⟨(some 8), none, (.val (.t 0))⟩,
  ⟨(some 9), none, (.val (.t 1))⟩,
  ⟨(some 10), none, (.call 19 [(.t 8), (.t 9)])⟩,
  ⟨(some 7), none, (.val (.t 10))⟩,
  ⟨(some 11), none, (.ext (.t 7) 0)⟩,
  ⟨(some 12), none, (.ext (.t 7) 1)⟩,
  ⟨(some 5), none, (.val (.t 11))⟩,
  ⟨(some 6), none, (.val (.t 12))⟩]
theorem r14_1 {fn : AFun} {K : List AItem} {t : Nat → AV} {H : AH} {T : Tbl} : runR T fn (.code (.reg d14_1) :: K) t H = regR T fn K (aops (callR T) [
  ⟨(some 8), none, (.val (.t 0))⟩,
  ⟨(some 9), none, (.val (.t 1))⟩,
  ⟨(some 10), none, (.call 19 [(.t 8), (.t 9)])⟩,
  ⟨(some 7), none, (.val (.t 10))⟩,
  ⟨(some 11), none, (.ext (.t 7) 0)⟩,
  ⟨(some 12), none, (.ext (.t 7) 1)⟩,
  ⟨(some 5), none, (.val (.t 11))⟩,
  ⟨(some 6), none, (.val (.t 12))⟩] t H) := runR_reg'
def d14_2 : List AOper := [
  ⟨(some 13), none, (.val (.t 6))⟩]
theorem r14_2 {fn : AFun} {K : List AItem} {t : Nat → AV} {H : AH} {T : Tbl} : runR T fn (.code (.reg d14_2) :: K) t H = regR T fn K (aops (callR T) [
  ⟨(some 13), none, (.val (.t 6))⟩] t H) := runR_reg'
def d14_3 : List AOper := [
  ⟨(some 14), none, (.val (.t 0))⟩,
  ⟨(some 15), none, (.nilc (.t 14))⟩,
  ⟨(some 16), none, (.fa 1 (.t 15))⟩,
  ⟨(some 17), none, (.ld none (.t 16))⟩,
  ⟨(some 18), none, (.val (.t 1))⟩,
  ⟨none, none, (.dl [0] (.t 17) (.t 18))⟩]
theorem r14_3 {fn : AFun} {K : List AItem} {t : Nat → AV} {H : AH} {T : Tbl} : runR T fn (.code (.reg d14_3) :: K) t H = regR T fn K (aops (callR T) [
  ⟨(some 14), none, (.val (.t 0))⟩,
  ⟨(some 15), none, (.nilc (.t 14))⟩,
  ⟨(some 16), none, (.fa 1 (.t 15))⟩,
  ⟨(some 17), none, (.ld none (.t 16))⟩,
  ⟨(some 18), none, (.val (.t 1))⟩,
  ⟨none, none, (.dl [0] (.t 17) (.t 18))⟩] t H) := runR_reg'
def d14_4 : List AOper := [
  ⟨(some 19), none, (.val (.t 6))⟩,
  ⟨(some 4), none, (.val (.t 19))⟩]
theorem r14_4 {fn : AFun} {K : List AItem} {t : Nat → AV} {H : AH} {T : Tbl} : runR T fn (.code (.reg d14_4) :: K) t H = regR T fn K (aops (callR T) [
  ⟨(some 19), none, (.val (.t 6))⟩,
  ⟨(some 4), none, (.val (.t 19))⟩] t H) := runR_reg'
def a14 : AFun := ⟨20, [(.tmp 4)], (.seq (.reg d14_0) (.seq (.reg d14_1) (.seq (.seq (.reg d14_2) (.cond (.t 13) (.reg d14_3) .skip)) (.seq (.reg d14_4) .ret))))⟩
theorem a14_ok : cfun Try.prog 14 = some a14 := by kernel_rfl
/-- (*futtock/futtockref07.Clock).Clear -/
def d15_0 : List AOper := [
  ⟨(some 4), none, (.val (.c (.b false)))⟩]
theorem r15_0 {fn : AFun} {K : List AItem} {t : Nat → AV} {H : AH} {T : Tbl} : runR T fn (.code (.reg d15_0) :: K) t H = regR T fn K (aops (callR T) [
  ⟨(some 4), none, (.val (.c (.b false)))⟩] t H) := runR_reg'
def d15_1 : List AOper := [
  ⟨(some 5), none, (.val (.t 1))⟩,
  ⟨(some 6), none, (.call 27 [(.t 5)])⟩,
  ⟨(some 7), none, (.un .not (.t 6))⟩,
  ⟨(some 8), none, (.val (.t 7))⟩,
  ⟨(some 9), (some (8, false)), (.val (.t 0))⟩,
  ⟨(some 10), (some (8, false)), (.val (.t 1))⟩,
  ⟨(some 11), (some (8, false)), (.nilc (.t 9))⟩,
  ⟨(some 12), (some (8, false)), (.fa 1 (.t 11))⟩,
  ⟨(some 13), (some (8, false)), (.iaa 256 1 (.t 12) (.t 10))⟩,
  ⟨(some 14), (some (8, false)), (.ld none (.t 13))⟩,
  ⟨(some 15), (some (8, false)), (.bin .eql (.t 14) (.c (.i .i64 0)))⟩,
  ⟨(some 16), none, (.pick (.t 8) (.c (.b true)) (.t 15))⟩]
theorem r15_1 {fn : AFun} {K : List AItem} {t : Nat → AV} {H : AH} {T : Tbl} : runR T fn (.code (.reg d15_1) :: K) t H = regR T fn K (aops (callR T) [
  ⟨(some 5), none, (.val (.t 1))⟩,
  ⟨(some 6), none, (.call 27 [(.t 5)])⟩,
  ⟨(some 7), none, (.un .not (.t 6))⟩,
  ⟨(some 8), none, (.val (.t 7))⟩,
  ⟨(some 9), (some (8, false)), (.val (.t 0))⟩,
  ⟨(some 10), (some (8, false)), (.val (.t 1))⟩,
  ⟨(some 11), (some (8, false)), (.nilc (.t 9))⟩,
  ⟨(some 12), (some (8, false)), (.fa 1 (.t 11))⟩,
  ⟨(some 13), (some (8, false)), (.iaa 256 1 (.t 12) (.t 10))⟩,
  ⟨(some 14), (some (8, false)), (.ld none (.t 13))⟩,
  ⟨(some 15), (some (8, false)), (.bin .eql (.t 14) (.c (.i .i64 0)))⟩,
  ⟨(some 16), none, (.pick (.t 8) (.c (.b true)) (.t 15))⟩] t H) := runR_reg'
def d15_2 : List AOper := [
  ⟨(some 4), none, (.val (.c (.b false)))⟩]
theorem r15_2 {fn : AFun} {K : List AItem} {t : Nat → AV} {H : AH} {T : Tbl} : runR T fn (.code (.reg d15_2) :: K) t H = regR T fn K (aops (callR T) [
  ⟨(some 4), none, (.val (.c (.b false)))⟩] t H) := runR_reg'
def d15_3 : List AOper := [
  ⟨(some 17), none, (.val (.t 0))⟩,
  ⟨(some 18), none, (.val (.t 1))⟩,
  ⟨(some 19), none, (.nilc (.t 17))⟩,
  ⟨(some 20), none, (.fa 1 (.t 19))⟩,
  ⟨(some 21), none, (.iaa 256 1 (.t 20) (.t 18))⟩,
  ⟨none, none, (.st 1 (.t 21) (.c (.i .i64 0)))⟩]
theorem r15_3 {fn : AFun} {K : List AItem} {t : Nat → AV} {H : AH} {T : Tbl} : runR T fn (.code (.reg d15_3) :: K) t H = regR T fn K (aops (callR T) [
  ⟨(some 17), none, (.val (.t 0))⟩,
  ⟨(some 18), none, (.val (.t 1))⟩,
  ⟨(some 19), none, (.nilc (.t 17))⟩,
  ⟨(some 20), none, (.fa 1 (.t 19))⟩,
  ⟨(some 21), none, (.iaa 256 1 (.t 20) (.t 18))⟩,
  ⟨none, none, (.st 1 (.t 21) (.c (.i .i64 0)))⟩] t H) := runR_reg'
def d15_4 : List AOper := [
  ⟨(some 4), none, (.val (.c (.b true)))⟩]
theorem r15_4 {fn : AFun} {K : List AItem} {t : Nat → AV} {H : AH} {T : Tbl} : runR T fn (.code (.reg d15_4) :: K) t H = regR T fn K (aops (callR T) [
  ⟨(some 4), none, (.val (.c (.b true)))⟩] t H) := runR_reg'
def a15 : AFun := ⟨22, [(.tmp 4)], (.seq (.reg d15_0) (.seq (.seq (.reg d15_1) (.cond (.t 16) (.seq (.reg d15_2) .ret) .skip)) (.seq (.reg d15_3) (.seq (.reg d15_4) .ret))))⟩
theorem a15_ok : cfun Try.prog 15 = some a15 := by kernel_rfl
/-- futtock/futtocklaw07.same -/
def d16_0 : List AOper := [
  ⟨(some 4), none, (.val (.c (.b false)))⟩]
theorem r16_0 {fn : AFun} {K : List AItem} {t : Nat → AV} {H : AH} {T : Tbl} : runR T fn (.code (.reg d16_0) :: K) t H = regR T fn K (aops (callR T) [
  ⟨(some 4), none, (.val (.c (.b false)))⟩] t H) := runR_reg'
def d16_1 : List AOper := [
  ⟨(some 6), none, (.val (.t 0))⟩,
  ⟨(some 7), none, (.len (.t 6))⟩,
  ⟨(some 8), none, (.val (.t 1))⟩,
  ⟨(some 9), none, (.len (.t 8))⟩,
  ⟨(some 10), none, (.bin .neq (.t 7) (.t 9))⟩]
theorem r16_1 {fn : AFun} {K : List AItem} {t : Nat → AV} {H : AH} {T : Tbl} : runR T fn (.code (.reg d16_1) :: K) t H = regR T fn K (aops (callR T) [
  ⟨(some 6), none, (.val (.t 0))⟩,
  ⟨(some 7), none, (.len (.t 6))⟩,
  ⟨(some 8), none, (.val (.t 1))⟩,
  ⟨(some 9), none, (.len (.t 8))⟩,
  ⟨(some 10), none, (.bin .neq (.t 7) (.t 9))⟩] t H) := runR_reg'
def d16_2 : List AOper := [
  ⟨(some 4), none, (.val (.c (.b false)))⟩]
theorem r16_2 {fn : AFun} {K : List AItem} {t : Nat → AV} {H : AH} {T : Tbl} : runR T fn (.code (.reg d16_2) :: K) t H = regR T fn K (aops (callR T) [
  ⟨(some 4), none, (.val (.c (.b false)))⟩] t H) := runR_reg'
def d16_3 : List AOper := [
  ⟨(some 11), none, (.val (.t 0))⟩,
  ⟨(some 12), none, (.len (.t 11))⟩,
  ⟨(some 13), none, (.val (.c (.i .i64 0)))⟩]
theorem r16_3 {fn : AFun} {K : List AItem} {t : Nat → AV} {H : AH} {T : Tbl} : runR T fn (.code (.reg d16_3) :: K) t H = regR T fn K (aops (callR T) [
  ⟨(some 11), none, (.val (.t 0))⟩,
  ⟨(some 12), none, (.len (.t 11))⟩,
  ⟨(some 13), none, (.val (.c (.i .i64 0)))⟩] t H) := runR_reg'
def d16_4 : List AOper := [
  ⟨(some 14), none, (.bin .lss (.t 13) (.t 12))⟩]
theorem r16_4 {fn : AFun} {K : List AItem} {t : Nat → AV} {H : AH} {T : Tbl} : runR T fn (.code (.reg d16_4) :: K) t H = regR T fn K (aops (callR T) [
  ⟨(some 14), none, (.bin .lss (.t 13) (.t 12))⟩] t H) := runR_reg'
def d16_5 : List AOper := [
  ⟨(some 15), none, (.val (.t 13))⟩,
  ⟨(some 5), none, (.val (.t 15))⟩]
theorem r16_5 {fn : AFun} {K : List AItem} {t : Nat → AV} {H : AH} {T : Tbl} : runR T fn (.code (.reg d16_5) :: K) t H = regR T fn K (aops (callR T) [
  ⟨(some 15), none, (.val (.t 13))⟩,
  ⟨(some 5), none, (.val (.t 15))⟩] t H) := runR_reg'
def d16_6 : List (AOper × List Nat) := [
  (⟨(some 16), none, (.val (.t 0))⟩, []),
  (⟨(some 17), none, (.val (.t 5))⟩, []),
  (⟨(some 18), none, (.ia 1 (.t 16) (.t 17))⟩, []),
  (⟨(some 19), none, (.ld none (.t 18))⟩, [1]),
  (⟨(some 20), none, (.val (.t 1))⟩, []),
  (⟨(some 21), none, (.val (.t 5))⟩, []),
  (⟨(some 22), none, (.ia 1 (.t 20) (.t 21))⟩, []),
  (⟨(some 23), none, (.ld none (.t 22))⟩, [1]),
  (⟨(some 24), none, (.bin .neq (.t 19) (.t 23))⟩, [])]
theorem r16_6 {fn : AFun} {K : List AItem} {t : Nat → AV} {H : AH} {T : Tbl} : runR T fn (.code (.drw d16_6) :: K) t H = regR T fn K (aops (callR T) [
  ⟨(some 16), none, (.val (.t 0))⟩,
  ⟨(some 17), none, (.val (.t 5))⟩,
  ⟨(some 18), none, (.ia 1 (.t 16) (.t 17))⟩,
  ⟨(some 19), none, (.ld none (.t 18))⟩,
  ⟨(some 20), none, (.val (.t 1))⟩,
  ⟨(some 21), none, (.val (.t 5))⟩,
  ⟨(some 22), none, (.ia 1 (.t 20) (.t 21))⟩,
  ⟨(some 23), none, (.ld none (.t 22))⟩,
  ⟨(some 24), none, (.bin .neq (.t 19) (.t 23))⟩] t H) := runR_plain rfl
def d16_7 : List AOper := [
  ⟨(some 4), none, (.val (.c (.b false)))⟩]
theorem r16_7 {fn : AFun} {K : List AItem} {t : Nat → AV} {H : AH} {T : Tbl} : runR T fn (.code (.reg d16_7) :: K) t H = regR T fn K (aops (callR T) [
  ⟨(some 4), none, (.val (.c (.b false)))⟩] t H) := runR_reg'
def d16_8 : List AOper := [
  ⟨(some 25), none, (.bin .add (.t 13) (.c (.i .i64 1)))⟩,
  ⟨(some 13), none, (.val (.t 25))⟩]
theorem r16_8 {fn : AFun} {K : List AItem} {t : Nat → AV} {H : AH} {T : Tbl} : runR T fn (.code (.reg d16_8) :: K) t H = regR T fn K (aops (callR T) [
  ⟨(some 25), none, (.bin .add (.t 13) (.c (.i .i64 1)))⟩,
  ⟨(some 13), none, (.val (.t 25))⟩] t H) := runR_reg'
def l16_9 : ACode := (.seq (.reg d16_4) (.seq (.cond (.t 14) .skip (.exit 0)) (.seq (.block 1 (.seq (.reg d16_5) (.seq (.drw d16_6) (.cond (.t 24) (.seq (.reg d16_7) .ret) .skip)))) (.reg d16_8))))
def d16_10 : List AOper := [
  ⟨(some 4), none, (.val (.c (.b true)))⟩]
theorem r16_10 {fn : AFun} {K : List AItem} {t : Nat → AV} {H : AH} {T : Tbl} : runR T fn (.code (.reg d16_10) :: K) t H = regR T fn K (aops (callR T) [
  ⟨(some 4), none, (.val (.c (.b true)))⟩] t H) := runR_reg'
def a16 : AFun := ⟨26, [(.tmp 4)], (.seq (.reg d16_0) (.seq (.seq (.reg d16_1) (.cond (.t 10) (.seq (.reg d16_2) .ret) .skip)) (.seq (.seq (.reg d16_3) (.block 0 (.loop l16_9))) (.seq (.reg d16_10) .ret))))⟩
theorem a16_ok : cfun Try.prog 16 = some a16 := by kernel_rfl
/-- (*futtock/futtockref07.Clock).Tick -/
def d17_0 : List AOper := [
  ⟨(some 4), none, (.val (.c (.sl none 0 0 true 0)))⟩]
theorem r17_0 {fn : AFun} {K : List AItem} {t : Nat → AV} {H : AH} {T : Tbl} : runR T fn (.code (.reg d17_0) :: K) t H = regR T fn K (aops (callR T) [
  ⟨(some 4), none, (.val (.c (.sl none 0 0 true 0)))⟩] t H) := runR_reg'
def d17_1 : List AOper := [
  ⟨(some 10), none, (.val (.t 1))⟩,
  ⟨(some 11), none, (.val (.t 0))⟩,
  ⟨(some 12), none, (.nilc (.t 11))⟩,
  ⟨(some 13), none, (.fa 0 (.t 12))⟩,
  ⟨(some 14), none, (.ld none (.t 13))⟩,
  ⟨(some 15), none, (.bin .sub (.c (.i .i64 1099511627776)) (.t 14))⟩,
  ⟨(some 16), none, (.bin .gtr (.t 10) (.t 15))⟩]
theorem r17_1 {fn : AFun} {K : List AItem} {t : Nat → AV} {H : AH} {T : Tbl} : runR T fn (.code (.reg d17_1) :: K) t H = regR T fn K (aops (callR T) [
  ⟨(some 10), none, (.val (.t 1))⟩,
  ⟨(some 11), none, (.val (.t 0))⟩,
  ⟨(some 12), none, (.nilc (.t 11))⟩,
  ⟨(some 13), none, (.fa 0 (.t 12))⟩,
  ⟨(some 14), none, (.ld none (.t 13))⟩,
  ⟨(some 15), none, (.bin .sub (.c (.i .i64 1099511627776)) (.t 14))⟩,
  ⟨(some 16), none, (.bin .gtr (.t 10) (.t 15))⟩] t H) := runR_reg'
def d17_2 : List AOper := [
  ⟨(some 17), none, (.val (.t 0))⟩,
  ⟨(some 18), none, (.nilc (.t 17))⟩,
  ⟨(some 19), none, (.fa 0 (.t 18))⟩,
  ⟨(some 20), none, (.ld none (.t 19))⟩,
  ⟨(some 21), none, (.bin .sub (.c (.i .i64 1099511627776)) (.t 20))⟩,
  ⟨(some 1), none, (.val (.t 21))⟩]
theorem r17_2 {fn : AFun} {K : List AItem} {t : Nat → AV} {H : AH} {T : Tbl} : runR T fn (.code (.reg d17_2) :: K) t H = regR T fn K (aops (callR T) [
  ⟨(some 17), none, (.val (.t 0))⟩,
  ⟨(some 18), none, (.nilc (.t 17))⟩,
  ⟨(some 19), none, (.fa 0 (.t 18))⟩,
  ⟨(some 20), none, (.ld none (.t 19))⟩,
  ⟨(some 21), none, (.bin .sub (.c (.i .i64 1099511627776)) (.t 20))⟩,
  ⟨(some 1), none, (.val (.t 21))⟩] t H) := runR_reg'
def d17_3 : List AOper := [
  ⟨(some 22), none, (.val (.t 1))⟩,
  ⟨(some 23), none, (.bin .gtr (.t 22) (.c (.i .i64 0)))⟩]
theorem r17_3 {fn : AFun} {K : List AItem} {t : Nat → AV} {H : AH} {T : Tbl} : runR T fn (.code (.reg d17_3) :: K) t H = regR T fn K (aops (callR T) [
  ⟨(some 22), none, (.val (.t 1))⟩,
  ⟨(some 23), none, (.bin .gtr (.t 22) (.c (.i .i64 0)))⟩] t H) := runR_reg'
def d17_4 : List AOper := [
  ⟨(some 24), none, (.val (.t 0))⟩,
  ⟨(some 25), none, (.nilc (.t 24))⟩,
  ⟨(some 26), none, (.fa 0 (.t 25))⟩,
  ⟨(some 27), none, (.ld none (.t 26))⟩,
  ⟨(some 28), none, (.val (.t 1))⟩,
  ⟨(some 29), none, (.bin .add (.t 27) (.t 28))⟩,
  ⟨(some 30), none, (.nilc (.t 24))⟩,
  ⟨(some 31), none, (.fa 0 (.t 30))⟩,
  ⟨none, none, (.st 1 (.t 31) (.t 29))⟩]
theorem r17_4 {fn : AFun} {K : List AItem} {t : Nat → AV} {H : AH} {T : Tbl} : runR T fn (.code (.reg d17_4) :: K) t H = regR T fn K (aops (callR T) [
  ⟨(some 24), none, (.val (.t 0))⟩,
  ⟨(some 25), none, (.nilc (.t 24))⟩,
  ⟨(some 26), none, (.fa 0 (.t 25))⟩,
  ⟨(some 27), none, (.ld none (.t 26))⟩,
  ⟨(some 28), none, (.val (.t 1))⟩,
  ⟨(some 29), none, (.bin .add (.t 27) (.t 28))⟩,
  ⟨(some 30), none, (.nilc (.t 24))⟩,
  ⟨(some 31), none, (.fa 0 (.t 30))⟩,
  ⟨none, none, (.st 1 (.t 31) (.t 29))⟩] t H) := runR_reg'
def d17_5 : List AOper := [
  ⟨(some 5), none, (.val (.c (.sl none 0 0 true 0)))⟩]
theorem r17_5 {fn : AFun} {K : List AItem} {t : Nat → AV} {H : AH} {T : Tbl} : runR T fn (.code (.reg d17_5) :: K) t H = regR T fn K (aops (callR T) [
  ⟨(some 5), none, (.val (.c (.sl none 0 0 true 0)))⟩] t H) := runR_reg'
def d17_6 : List AOper := [
  ⟨(some 6), none, (.val (.c (.i .i64 0)))⟩]
theorem r17_6 {fn : AFun} {K : List AItem} {t : Nat → AV} {H : AH} {T : Tbl} : runR T fn (.code (.reg d17_6) :: K) t H = regR T fn K (aops (callR T) [
  ⟨(some 6), none, (.val (.c (.i .i64 0)))⟩] t H) := runR_reg'
def d17_7 : List AOper := [
  ⟨(some 32), none, (.val (.t 6))⟩,
  ⟨(some 33), none, (.bin .lss (.t 32) (.c (.i .i64 256)))⟩]
theorem r17_7 {fn : AFun} {K : List AItem} {t : Nat → AV} {H : AH} {T : Tbl} : runR T fn (.code (.reg d17_7) :: K) t H = regR T fn K (aops (callR T) [
  ⟨(some 32), none, (.val (.t 6))⟩,
  ⟨(some 33), none, (.bin .lss (.t 32) (.c (.i .i64 256)))⟩] t H) := runR_reg'
def d17_8 : List AOper := [
  ⟨(some 37), none, (.val (.t 0))⟩,
  ⟨(some 38), none, (.call 20 [(.t 37)])⟩,
  ⟨(some 36), none, (.val (.t 38))⟩,
  ⟨(some 39), none, (.ext (.t 36) 0)⟩,
  ⟨(some 40), none, (.ext (.t 36) 1)⟩,
  ⟨(some 7), none, (.val (.t 39))⟩,
  ⟨(some 8), none, (.val (.t 40))⟩]
theorem r17_8 {fn : AFun} {K : List AItem} {t : Nat → AV} {H : AH} {T : Tbl} : runR T fn (.code (.reg d17_8) :: K) t H = regR T fn K (aops (callR T) [
  ⟨(some 37), none, (.val (.t 0))⟩,
  ⟨(some 38), none, (.call 20 [(.t 37)])⟩,
  ⟨(some 36), none, (.val (.t 38))⟩,
  ⟨(some 39), none, (.ext (.t 36) 0)⟩,
  ⟨(some 40), none, (.ext (.t 36) 1)⟩,
  ⟨(some 7), none, (.val (.t 39))⟩,
  ⟨(some 8), none, (.val (.t 40))⟩] t H) := runR_reg'
def d17_9 : List AOper := [
  ⟨(some 41), none, (.val (.t 8))⟩,
  ⟨(some 42), none, (.un .not (.t 41))⟩,
  ⟨(some 43), none, (.val (.t 42))⟩,
  ⟨(some 44), (some (43, false)), (.val (.t 7))⟩,
  ⟨(some 45), (some (43, false)), (.val (.t 0))⟩,
  ⟨(some 46), (some (43, false)), (.nilc (.t 45))⟩,
  ⟨(some 47), (some (43, false)), (.fa 0 (.t 46))⟩,
  ⟨(some 48), (some (43, false)), (.ld none (.t 47))⟩,
  ⟨(some 49), (some (43, false)), (.bin .gtr (.t 44) (.t 48))⟩,
  ⟨(some 50), none, (.pick (.t 43) (.c (.b true)) (.t 49))⟩]
theorem r17_9 {fn : AFun} {K : List AItem} {t : Nat → AV} {H : AH} {T : Tbl} : runR T fn (.code (.reg d17_9) :: K) t H = regR T fn K (aops (callR T) [
  ⟨(some 41), none, (.val (.t 8))⟩,
  ⟨(some 42), none, (.un .not (.t 41))⟩,
  ⟨(some 43), none, (.val (.t 42))⟩,
  ⟨(some 44), (some (43, false)), (.val (.t 7))⟩,
  ⟨(some 45), (some (43, false)), (.val (.t 0))⟩,
  ⟨(some 46), (some (43, false)), (.nilc (.t 45))⟩,
  ⟨(some 47), (some (43, false)), (.fa 0 (.t 46))⟩,
  ⟨(some 48), (some (43, false)), (.ld none (.t 47))⟩,
  ⟨(some 49), (some (43, false)), (.bin .gtr (.t 44) (.t 48))⟩,
  ⟨(some 50), none, (.pick (.t 43) (.c (.b true)) (.t 49))⟩] t H) := runR_reg'
def d17_10 : List AOper := [
  ⟨(some 51), none, (.val (.t 5))⟩,
  ⟨(some 4), none, (.val (.t 51))⟩]
theorem r17_10 {fn : AFun} {K : List AItem} {t : Nat → AV} {H : AH} {T : Tbl} : runR T fn (.code (.reg d17_10) :: K) t H = regR T fn K (aops (callR T) [
  ⟨(some 51), none, (.val (.t 5))⟩,
  ⟨(some 4), none, (.val (.t 51))⟩] t H) := runR_reg'
def d17_11 : List AOper := [
  ⟨(some 9), none, (.val (.c (.i .i64 0)))⟩]
theorem r17_11 {fn : AFun} {K : List AItem} {t : Nat → AV} {H : AH} {T : Tbl} : runR T fn (.code (.reg d17_11) :: K) t H = regR T fn K (aops (callR T) [
  ⟨(some 9), none, (.val (.c (.i .i64 0)))⟩] t H) := runR_reg'
def d17_12 : List AOper := [
  ⟨(some 52), none, (.val (.t 9))⟩,
  ⟨(some 53), none, (.bin .lss (.t 52) (.c (.i .i64 256)))⟩]
theorem r17_12 {fn : AFun} {K : List AItem} {t : Nat → AV} {H : AH} {T : Tbl} : runR T fn (.code (.reg d17_12) :: K) t H = regR T fn K (aops (callR T) [
  ⟨(some 52), none, (.val (.t 9))⟩,
  ⟨(some 53), none, (.bin .lss (.t 52) (.c (.i .i64 256)))⟩] t H) := runR_reg'
def d17_13 : List AOper := [
  ⟨(some 56), none, (.val (.t 0))⟩,
  ⟨(some 57), none, (.val (.t 9))⟩,
  ⟨(some 58), none, (.nilc (.t 56))⟩,
  ⟨(some 59), none, (.fa 1 (.t 58))⟩,
  ⟨(some 60), none, (.iaa 256 1 (.t 59) (.t 57))⟩,
  ⟨(some 61), none, (.ld none (.t 60))⟩,
  ⟨(some 62), none, (.val (.t 7))⟩,
  ⟨(some 63), none, (.bin .eql (.t 61) (.t 62))⟩]
theorem r17_13 {fn : AFun} {K : List AItem} {t : Nat → AV} {H : AH} {T : Tbl} : runR T fn (.code (.reg d17_13) :: K) t H = regR T fn K (aops (callR T) [
  ⟨(some 56), none, (.val (.t 0))⟩,
  ⟨(some 57), none, (.val (.t 9))⟩,
  ⟨(some 58), none, (.nilc (.t 56))⟩,
  ⟨(some 59), none, (.fa 1 (.t 58))⟩,
  ⟨(some 60), none, (.iaa 256 1 (.t 59) (.t 57))⟩,
  ⟨(some 61), none, (.ld none (.t 60))⟩,
  ⟨(some 62), none, (.val (.t 7))⟩,
  ⟨(some 63), none, (.bin .eql (.t 61) (.t 62))⟩] t H) := runR_reg'
def d17_14 : List AOper := [
  ⟨(some 64), none, (.val (.t 5))⟩,
  ⟨(some 65), none, (.val (.t 9))⟩,
  ⟨(some 66), none, (.bsl [(.i .i64 0)] 1 [(0, 1, (.t 65))])⟩,
  ⟨(some 67), none, (.app [(.i .i64 0)] 8 (.t 64) (.t 66))⟩,
  ⟨(some 5), none, (.val (.t 67))⟩]
theorem r17_14 {fn : AFun} {K : List AItem} {t : Nat → AV} {H : AH} {T : Tbl} : runR T fn (.code (.reg d17_14) :: K) t H = regR T fn K (aops (callR T) [
  ⟨(some 64), none, (.val (.t 5))⟩,
  ⟨(some 65), none, (.val (.t 9))⟩,
  ⟨(some 66), none, (.bsl [(.i .i64 0)] 1 [(0, 1, (.t 65))])⟩,
  ⟨(some 67), none, (.app [(.i .i64 0)] 8 (.t 64) (.t 66))⟩,
  ⟨(some 5), none, (.val (.t 67))⟩] t H) := runR_reg'
def d17_15 : List AOper := [
  ⟨(some 68), none, (.val (.t 0))⟩,
  ⟨(some 69), none, (.val (.t 9))⟩,
  ⟨(some 70), none, (.nilc (.t 68))⟩,
  ⟨(some 71), none, (.fa 1 (.t 70))⟩,
  ⟨(some 72), none, (.iaa 256 1 (.t 71) (.t 69))⟩,
  ⟨none, none, (.st 1 (.t 72) (.c (.i .i64 0)))⟩]
theorem r17_15 {fn : AFun} {K : List AItem} {t : Nat → AV} {H : AH} {T : Tbl} : runR T fn (.code (.reg d17_15) :: K) t H = regR T fn K (aops (callR T) [
  ⟨(some 68), none, (.val (.t 0))⟩,
  ⟨(some 69), none, (.val (.t 9))⟩,
  ⟨(some 70), none, (.nilc (.t 68))⟩,
  ⟨(some 71), none, (.fa 1 (.t 70))⟩,
  ⟨(some 72), none, (.iaa 256 1 (.t 71) (.t 69))⟩,
  ⟨none, none, (.st 1 (.t 72) (.c (.i .i64 0)))⟩] t H) := runR_reg'
def d17_16 : List AOper := [
  ⟨(some 54), none, (.val (.t 9))⟩,
  ⟨(some 55), none, (.bin .add (.t 54) (.c (.i .i64 1)))⟩,
  ⟨(some 9), none, (.val (.t 55))⟩]
theorem r17_16 {fn : AFun} {K : List AItem} {t : Nat → AV} {H : AH} {T : Tbl} : runR T fn (.code (.reg d17_16) :: K) t H = regR T fn K (aops (callR T) [
  ⟨(some 54), none, (.val (.t 9))⟩,
  ⟨(some 55), none, (.bin .add (.t 54) (.c (.i .i64 1)))⟩,
  ⟨(some 9), none, (.val (.t 55))⟩] t H) := runR_reg'
def l17_17 : ACode := (.seq (.seq (.reg d17_12) (.cond (.t 53) .skip (.exit 2))) (.seq (.block 3 (.seq (.reg d17_13) (.cond (.t 63) (.seq (.reg d17_14) (.reg d17_15)) .skip))) (.reg d17_16)))
def d17_18 : List AOper := [
  ⟨(some 34), none, (.val (.t 6))⟩,
  ⟨(some 35), none, (.bin .add (.t 34) (.c (.i .i64 1)))⟩,
  ⟨(some 6), none, (.val (.t 35))⟩]
theorem r17_18 {fn : AFun} {K : List AItem} {t : Nat → AV} {H : AH} {T : Tbl} : runR T fn (.code (.reg d17_18) :: K) t H = regR T fn K (aops (callR T) [
  ⟨(some 34), none, (.val (.t 6))⟩,
  ⟨(some 35), none, (.bin .add (.t 34) (.c (.i .i64 1)))⟩,
  ⟨(some 6), none, (.val (.t 35))⟩] t H) := runR_reg'
def l17_19 : ACode := (.seq (.seq (.reg d17_7) (.cond (.t 33) .skip (.exit 0))) (.seq (.block 1 (.seq (.reg d17_8) (.seq (.seq (.reg d17_9) (.cond (.t 50) (.seq (.reg d17_10) .ret) .skip)) (.seq (.reg d17_11) (.block 2 (.loop l17_17)))))) (.reg d17_18)))
def d17_20 : List AOper := [
  ⟨(some 73), none, (.val (.t 5))⟩,
  ⟨(some 4), none, (.val (.t 73))⟩]
theorem r17_20 {fn : AFun} {K : List AItem} {t : Nat → AV} {H : AH} {T : Tbl} : runR T fn (.code (.reg d17_20) :: K) t H = regR T fn K (aops (callR T) [
  ⟨(some 73), none, (.val (.t 5))⟩,
  ⟨(some 4), none, (.val (.t 73))⟩] t H) := runR_reg'
def a17 : AFun := ⟨74, [(.tmp 4)], (.seq (.reg d17_0) (.seq (.seq (.reg d17_1) (.cond (.t 16) (.reg d17_2) .skip)) (.seq (.seq (.reg d17_3) (.cond (.t 23) (.reg d17_4) .skip)) (.seq (.reg d17_5) (.seq (.seq (.reg d17_6) (.block 0 (.loop l17_19))) (.seq (.reg d17_20) .ret))))))⟩
theorem a17_ok : cfun Try.prog 17 = some a17 := by kernel_rfl
/-- (*futtock/futtockref07.Clock).Set -/
def d18_0 : List AOper := [
  ⟨(some 6), none, (.val (.c (.i .i64 0)))⟩]
theorem r18_0 {fn : AFun} {K : List AItem} {t : Nat → AV} {H : AH} {T : Tbl} : runR T fn (.code (.reg d18_0) :: K) t H = regR T fn K (aops (callR T) [
  ⟨(some 6), none, (.val (.c (.i .i64 0)))⟩] t H) := runR_reg'
def d18_1 : List AOper := [
  ⟨(some 7), none, (.val (.t 1))⟩,
  ⟨(some 8), none, (.call 27 [(.t 7)])⟩,
  ⟨(some 9), none, (.un .not (.t 8))⟩,
  ⟨(some 10), none, (.val (.t 9))⟩,
  ⟨(some 11), (some (10, false)), (.val (.t 2))⟩,
  ⟨(some 12), (some (10, false)), (.bin .lss (.t 11) (.c (.i .i64 1)))⟩,
  ⟨(some 13), none, (.pick (.t 10) (.c (.b true)) (.t 12))⟩]
theorem r18_1 {fn : AFun} {K : List AItem} {t : Nat → AV} {H : AH} {T : Tbl} : runR T fn (.code (.reg d18_1) :: K) t H = regR T fn K (aops (callR T) [
  ⟨(some 7), none, (.val (.t 1))⟩,
  ⟨(some 8), none, (.call 27 [(.t 7)])⟩,
  ⟨(some 9), none, (.un .not (.t 8))⟩,
  ⟨(some 10), none, (.val (.t 9))⟩,
  ⟨(some 11), (some (10, false)), (.val (.t 2))⟩,
  ⟨(some 12), (some (10, false)), (.bin .lss (.t 11) (.c (.i .i64 1)))⟩,
  ⟨(some 13), none, (.pick (.t 10) (.c (.b true)) (.t 12))⟩] t H) := runR_reg'
def d18_2 : List AOper := [
  ⟨(some 6), none, (.val (.c (.i .i64 1)))⟩]
theorem r18_2 {fn : AFun} {K : List AItem} {t : Nat → AV} {H : AH} {T : Tbl} : runR T fn (.code (.reg d18_2) :: K) t H = regR T fn K (aops (callR T) [
  ⟨(some 6), none, (.val (.c (.i .i64 1)))⟩] t H) := runR_reg'
def d18_3 : List AOper := [
  ⟨(some 14), none, (.val (.t 0))⟩,
  ⟨(some 15), none, (.val (.t 1))⟩,
  ⟨(some 16), none, (.nilc (.t 14))⟩,
  ⟨(some 17), none, (.fa 1 (.t 16))⟩,
  ⟨(some 18), none, (.iaa 256 1 (.t 17) (.t 15))⟩,
  ⟨none, none, (.st 1 (.t 18) (.c (.i .i64 1099511627776)))⟩]
theorem r18_3 {fn : AFun} {K : List AItem} {t : Nat → AV} {H : AH} {T : Tbl} : runR T fn (.code (.reg d18_3) :: K) t H = regR T fn K (aops (callR T) [
  ⟨(some 14), none, (.val (.t 0))⟩,
  ⟨(some 15), none, (.val (.t 1))⟩,
  ⟨(some 16), none, (.nilc (.t 14))⟩,
  ⟨(some 17), none, (.fa 1 (.t 16))⟩,
  ⟨(some 18), none, (.iaa 256 1 (.t 17) (.t 15))⟩,
  ⟨none, none, (.st 1 (.t 18) (.c (.i .i64 1099511627776)))⟩] t H) := runR_reg'
def d18_4 : List AOper := [
  ⟨(some 19), none, (.val (.t 2))⟩,
  ⟨(some 20), none, (.val (.t 0))⟩,
  ⟨(some 21), none, (.nilc (.t 20))⟩,
  ⟨(some 22), none, (.fa 0 (.t 21))⟩,
  ⟨(some 23), none, (.ld none (.t 22))⟩,
  ⟨(some 24), none, (.bin .sub (.c (.i .i64 1099511627776)) (.t 23))⟩,
  ⟨(some 25), none, (.bin .lss (.t 19) (.t 24))⟩]
theorem r18_4 {fn : AFun} {K : List AItem} {t : Nat → AV} {H : AH} {T : Tbl} : runR T fn (.code (.reg d18_4) :: K) t H = regR T fn K (aops (callR T) [
  ⟨(some 19), none, (.val (.t 2))⟩,
  ⟨(some 20), none, (.val (.t 0))⟩,
  ⟨(some 21), none, (.nilc (.t 20))⟩,
  ⟨(some 22), none, (.fa 0 (.t 21))⟩,
  ⟨(some 23), none, (.ld none (.t 22))⟩,
  ⟨(some 24), none, (.bin .sub (.c (.i .i64 1099511627776)) (.t 23))⟩,
  ⟨(some 25), none, (.bin .lss (.t 19) (.t 24))⟩] t H) := runR_reg'
def d18_5 : List (AOper × List Nat) := [
  (⟨(some 26), none, (.val (.t 0))⟩, []),
  (⟨(some 27), none, (.val (.t 1))⟩, []),
  (⟨(some 28), none, (.val (.t 0))⟩, []),
  (⟨(some 29), none, (.nilc (.t 28))⟩, []),
  (⟨(some 30), none, (.fa 0 (.t 29))⟩, []),
  (⟨(some 31), none, (.ld none (.t 30))⟩, [1]),
  (⟨(some 32), none, (.val (.t 2))⟩, []),
  (⟨(some 33), none, (.bin .add (.t 31) (.t 32))⟩, []),
  (⟨(some 34), none, (.nilc (.t 26))⟩, []),
  (⟨(some 35), none, (.fa 1 (.t 34))⟩, []),
  (⟨(some 36), none, (.iaa 256 1 (.t 35) (.t 27))⟩, []),
  (⟨none, none, (.st 1 (.t 36) (.t 33))⟩, [])]
theorem r18_5 {fn : AFun} {K : List AItem} {t : Nat → AV} {H : AH} {T : Tbl} : runR T fn (.code (.drw d18_5) :: K) t H = regR T fn K (aops (callR T) [
  ⟨(some 26), none, (.val (.t 0))⟩,
  ⟨(some 27), none, (.val (.t 1))⟩,
  ⟨(some 28), none, (.val (.t 0))⟩,
  ⟨(some 29), none, (.nilc (.t 28))⟩,
  ⟨(some 30), none, (.fa 0 (.t 29))⟩,
  ⟨(some 31), none, (.ld none (.t 30))⟩,
  ⟨(some 32), none, (.val (.t 2))⟩,
  ⟨(some 33), none, (.bin .add (.t 31) (.t 32))⟩,
  ⟨(some 34), none, (.nilc (.t 26))⟩,
  ⟨(some 35), none, (.fa 1 (.t 34))⟩,
  ⟨(some 36), none, (.iaa 256 1 (.t 35) (.t 27))⟩,
  ⟨none, none, (.st 1 (.t 36) (.t 33))⟩] t H) := runR_plain rfl
def d18_6 : List AOper := [
  ⟨(some 6), none, (.val (.c (.i .i64 0)))⟩]
theorem r18_6 {fn : AFun} {K : List AItem} {t : Nat → AV} {H : AH} {T : Tbl} : runR T fn (.code (.reg d18_6) :: K) t H = regR T fn K (aops (callR T) [
  ⟨(some 6), none, (.val (.c (.i .i64 0)))⟩] t H) := runR_reg'
def a18 : AFun := ⟨37, [(.tmp 6)], (.seq (.reg d18_0) (.seq (.seq (.reg d18_1) (.cond (.t 13) (.seq (.reg d18_2) .ret) .skip)) (.seq (.reg d18_3) (.seq (.seq (.reg d18_4) (.cond (.t 25) (.drw d18_5) .skip)) (.seq (.reg d18_6) .ret)))))⟩
theorem a18_ok : cfun Try.prog 18 = some a18 := by kernel_rfl
/-- (*futtock/timer.Clock).At -/
def d19_0 : List AOper := [
  ⟨(some 4), none, (.val (.c (.i .i64 0)))⟩,
  ⟨(some 5), none, (.val (.c (.b false)))⟩]
theorem r19_0 {fn : AFun} {K : List AItem} {t : Nat → AV} {H : AH} {T : Tbl} : runR T fn (.code (.reg d19_0) :: K) t H = regR T fn K (aops (callR T) [
  ⟨(some 4), none, (.val (.c (.i .i64 0)))⟩,
  ⟨(some 5), none, (.val (.c (.b false)))⟩] t H) := runR_reg'
def d19_1 : List AOper := [
  ⟨(some 8), none, (.val (.t 0))⟩,
  ⟨(some 9), none, (.call 23 [(.t 8)])⟩,
  ⟨(some 10), none, (.un .not (.t 9))⟩]
theorem r19_1 {fn : AFun} {K : List AItem} {t : Nat → AV} {H : AH} {T : Tbl} : runR T fn (.code (.reg d19_1) :: K) t H = regR T fn K (aops (callR T) [
  ⟨(some 8), none, (.val (.t 0))⟩,
  ⟨(some 9), none, (.call 23 [(.t 8)])⟩,
  ⟨(some 10), none, (.un .not (.t 9))⟩] t H) := runR_reg'
def d19_2 : List AOper := [
  ⟨(some 4), none, (.val (.c (.i .i64 0)))⟩,
  ⟨(some 5), none, (.val (.c (.b false)))⟩]
theorem r19_2 {fn : AFun} {K : List AItem} {t : Nat → AV} {H : AH} {T : Tbl} : runR T fn (.code (.reg d19_2) :: K) t H = regR T fn K (aops (callR T) [
  ⟨(some 4), none, (.val (.c (.i .i64 0)))⟩,
  ⟨(some 5), none, (.val (.c (.b false)))⟩] t H) := runR_reg'
def d19_3 : List AOper := [
  ⟨(some 12), none, (.val (.t 0))⟩,
  ⟨(some 13), none, (.nilc (.t 12))⟩,
  ⟨(some 14), none, (.fa 1 (.t 13))⟩,
  ⟨(some 15), none, (.ld none (.t 14))⟩,
  ⟨(some 16), none, (.val (.t 1))⟩,
  ⟨(some 17), none, (.lk [0] (.i .i64 0) (.t 15) (.t 16) true)⟩,
  ⟨(some 11), none, (.val (.t 17))⟩,
  ⟨(some 18), none, (.ext (.t 11) 0)⟩,
  ⟨(some 19), none, (.ext (.t 11) 1)⟩,
  ⟨(some 6), none, (.val (.t 18))⟩,
  ⟨(some 7), none, (.val (.t 19))⟩]
theorem r19_3 {fn : AFun} {K : List AItem} {t : Nat → AV} {H : AH} {T : Tbl} : runR T fn (.code (.reg d19_3) :: K) t H = regR T fn K (aops (callR T) [
  ⟨(some 12), none, (.val (.t 0))⟩,
  ⟨(some 13), none, (.nilc (.t 12))⟩,
  ⟨(some 14), none, (.fa 1 (.t 13))⟩,
  ⟨(some 15), none, (.ld none (.t 14))⟩,
  ⟨(some 16), none, (.val (.t 1))⟩,
  ⟨(some 17), none, (.lk [0] (.i .i64 0) (.t 15) (.t 16) true)⟩,
  ⟨(some 11), none, (.val (.t 17))⟩,
  ⟨(some 18), none, (.ext (.t 11) 0)⟩,
  ⟨(some 19), none, (.ext (.t 11) 1)⟩,
  ⟨(some 6), none, (.val (.t 18))⟩,
  ⟨(some 7), none, (.val (.t 19))⟩] t H) := runR_reg'
def d19_4 : List AOper := [
  ⟨(some 20), none, (.val (.t 6))⟩,
  ⟨(some 21), none, (.val (.t 7))⟩,
  ⟨(some 4), none, (.val (.t 20))⟩,
  ⟨(some 5), none, (.val (.t 21))⟩]
theorem r19_4 {fn : AFun} {K : List AItem} {t : Nat → AV} {H : AH} {T : Tbl} : runR T fn (.code (.reg d19_4) :: K) t H = regR T fn K (aops (callR T) [
  ⟨(some 20), none, (.val (.t 6))⟩,
  ⟨(some 21), none, (.val (.t 7))⟩,
  ⟨(some 4), none, (.val (.t 20))⟩,
  ⟨(some 5), none, (.val (.t 21))⟩] t H) := runR_reg'
def a19 : AFun := ⟨22, [(.tmp 4), (.tmp 5)], (.seq (.reg d19_0) (.seq (.seq (.reg d19_1) (.cond (.t 10) (.seq (.reg d19_2) .ret) .skip)) (.seq (.reg d19_3) (.seq (.reg d19_4) .ret))))⟩
theorem a19_ok : cfun Try.prog 19 = some a19 := by kernel_rfl
/-- (*futtock/futtockref07.Clock).Next -/
def d20_0 : List AOper := [
  ⟨(some 2), none, (.val (.c (.i .i64 0)))⟩,
  ⟨(some 3), none, (.val (.c (.b false)))⟩]
theorem r20_0 {fn : AFun} {K : List AItem} {t : Nat → AV} {H : AH} {T : Tbl} : runR T fn (.code (.reg d20_0) :: K) t H = regR T fn K (aops (callR T) [
  ⟨(some 2), none, (.val (.c (.i .i64 0)))⟩,
  ⟨(some 3), none, (.val (.c (.b false)))⟩] t H) := runR_reg'
def d20_1 : List AOper := [
  ⟨(some 4), none, (.val (.c (.i .i64 0)))⟩]
theorem r20_1 {fn : AFun} {K : List AItem} {t : Nat → AV} {H : AH} {T : Tbl} : runR T fn (.code (.reg d20_1) :: K) t H = regR T fn K (aops (callR T) [
  ⟨(some 4), none, (.val (.c (.i .i64 0)))⟩] t H) := runR_reg'
def d20_2 : List AOper := [
  ⟨(some 5), none, (.val (.c (.i .i64 0)))⟩]
theorem r20_2 {fn : AFun} {K : List AItem} {t : Nat → AV} {H : AH} {T : Tbl} : runR T fn (.code (.reg d20_2) :: K) t H = regR T fn K (aops (callR T) [
  ⟨(some 5), none, (.val (.c (.i .i64 0)))⟩] t H) := runR_reg'
def d20_3 : List AOper := [
  ⟨(some 6), none, (.val (.t 5))⟩,
  ⟨(some 7), none, (.bin .lss (.t 6) (.c (.i .i64 256)))⟩]
theorem r20_3 {fn : AFun} {K : List AItem} {t : Nat → AV} {H : AH} {T : Tbl} : runR T fn (.code (.reg d20_3) :: K) t H = regR T fn K (aops (callR T) [
  ⟨(some 6), none, (.val (.t 5))⟩,
  ⟨(some 7), none, (.bin .lss (.t 6) (.c (.i .i64 256)))⟩] t H) := runR_reg'
def d20_4 : List AOper := [
  ⟨(some 10), none, (.val (.t 0))⟩,
  ⟨(some 11), none, (.val (.t 5))⟩,
  ⟨(some 12), none, (.nilc (.t 10))⟩,
  ⟨(some 13), none, (.fa 1 (.t 12))⟩,
  ⟨(some 14), none, (.iaa 256 1 (.t 13) (.t 11))⟩,
  ⟨(some 15), none, (.ld none (.t 14))⟩,
  ⟨(some 16), none, (.bin .neq (.t 15) (.c (.i .i64 0)))⟩,
  ⟨(some 17), none, (.val (.t 16))⟩,
  ⟨(some 18), (some (17, true)), (.val (.t 4))⟩,
  ⟨(some 19), (some (17, true)), (.bin .eql (.t 18) (.c (.i .i64 0)))⟩,
  ⟨(some 20), (some (17, true)), (.val (.t 19))⟩,
  ⟨(some 21), (some (20, false)), (.val (.t 0))⟩,
  ⟨(some 22), (some (20, false)), (.val (.t 5))⟩,
  ⟨(some 23), (some (20, false)), (.nilc (.t 21))⟩,
  ⟨(some 24), (some (20, false)), (.fa 1 (.t 23))⟩,
  ⟨(some 25), (some (20, false)), (.iaa 256 1 (.t 24) (.t 22))⟩,
  ⟨(some 26), (some (20, false)), (.ld none (.t 25))⟩,
  ⟨(some 27), (some (20, false)), (.val (.t 4))⟩,
  ⟨(some 28), (some (20, false)), (.bin .lss (.t 26) (.t 27))⟩,
  ⟨(some 29), (some (17, true)), (.pick (.t 20) (.c (.b true)) (.t 28))⟩,
  ⟨(some 30), none, (.pick (.t 17) (.t 29) (.c (.b false)))⟩]
theorem r20_4 {fn : AFun} {K : List AItem} {t : Nat → AV} {H : AH} {T : Tbl} : runR T fn (.code (.reg d20_4) :: K) t H = regR T fn K (aops (callR T) [
  ⟨(some 10), none, (.val (.t 0))⟩,
  ⟨(some 11), none, (.val (.t 5))⟩,
  ⟨(some 12), none, (.nilc (.t 10))⟩,
  ⟨(some 13), none, (.fa 1 (.t 12))⟩,
  ⟨(some 14), none, (.iaa 256 1 (.t 13) (.t 11))⟩,
  ⟨(some 15), none, (.ld none (.t 14))⟩,
  ⟨(some 16), none, (.bin .neq (.t 15) (.c (.i .i64 0)))⟩,
  ⟨(some 17), none, (.val (.t 16))⟩,
  ⟨(some 18), (some (17, true)), (.val (.t 4))⟩,
  ⟨(some 19), (some (17, true)), (.bin .eql (.t 18) (.c (.i .i64 0)))⟩,
  ⟨(some 20), (some (17, true)), (.val (.t 19))⟩,
  ⟨(some 21), (some (20, false)), (.val (.t 0))⟩,
  ⟨(some 22), (some (20, false)), (.val (.t 5))⟩,
  ⟨(some 23), (some (20, false)), (.nilc (.t 21))⟩,
  ⟨(some 24), (some (20, false)), (.fa 1 (.t 23))⟩,
  ⟨(some 25), (some (20, false)), (.iaa 256 1 (.t 24) (.t 22))⟩,
  ⟨(some 26), (some (20, false)), (.ld none (.t 25))⟩,
  ⟨(some 27), (some (20, false)), (.val (.t 4))⟩,
  ⟨(some 28), (some (20, false)), (.bin .lss (.t 26) (.t 27))⟩,
  ⟨(some 29), (some (17, true)), (.pick (.t 20) (.c (.b true)) (.t 28))⟩,
  ⟨(some 30), none, (.pick (.t 17) (.t 29) (.c (.b false)))⟩] t H) := runR_reg'
def d20_5 : List AOper := [
  ⟨(some 31), none, (.val (.t 0))⟩,
  ⟨(some 32), none, (.val (.t 5))⟩,
  ⟨(some 33), none, (.nilc (.t 31))⟩,
  ⟨(some 34), none, (.fa 1 (.t 33))⟩,
  ⟨(some 35), none, (.iaa 256 1 (.t 34) (.t 32))⟩,
  ⟨(some 36), none, (.ld none (.t 35))⟩,
  ⟨(some 4), none, (.val (.t 36))⟩]
theorem r20_5 {fn : AFun} {K : List AItem} {t : Nat → AV} {H : AH} {T : Tbl} : runR T fn (.code (.reg d20_5) :: K) t H = regR T fn K (aops (callR T) [
  ⟨(some 31), none, (.val (.t 0))⟩,
  ⟨(some 32), none, (.val (.t 5))⟩,
  ⟨(some 33), none, (.nilc (.t 31))⟩,
  ⟨(some 34), none, (.fa 1 (.t 33))⟩,
  ⟨(some 35), none, (.iaa 256 1 (.t 34) (.t 32))⟩,
  ⟨(some 36), none, (.ld none (.t 35))⟩,
  ⟨(some 4), none, (.val (.t 36))⟩] t H) := runR_reg'
def d20_6 : List AOper := [
  ⟨(some 8), none, (.val (.t 5))⟩,
  ⟨(some 9), none, (.bin .add (.t 8) (.c (.i .i64 1)))⟩,
  ⟨(some 5), none, (.val (.t 9))⟩]
theorem r20_6 {fn : AFun} {K : List AItem} {t : Nat → AV} {H : AH} {T : Tbl} : runR T fn (.code (.reg d20_6) :: K) t H = regR T fn K (aops (callR T) [
  ⟨(some 8), none, (.val (.t 5))⟩,
  ⟨(some 9), none, (.bin .add (.t 8) (.c (.i .i64 1)))⟩,
  ⟨(some 5), none, (.val (.t 9))⟩] t H) := runR_reg'
def l20_7 : ACode := (.seq (.seq (.reg d20_3) (.cond (.t 7) .skip (.exit 0))) (.seq (.block 1 (.seq (.reg d20_4) (.cond (.t 30) (.reg d20_5) .skip))) (.reg d20_6)))
def d20_8 : List AOper := [
  ⟨(some 37), none, (.val (.t 4))⟩,
  ⟨(some 38), none, (.val (.t 4))⟩,
  ⟨(some 39), none, (.bin .neq (.t 38) (.c (.i .i64 0)))⟩,
  ⟨(some 2), none, (.val (.t 37))⟩,
  ⟨(some 3), none, (.val (.t 39))⟩]
theorem r20_8 {fn : AFun} {K : List AItem} {t : Nat → AV} {H : AH} {T : Tbl} : runR T fn (.code (.reg d20_8) :: K) t H = regR T fn K (aops (callR T) [
  ⟨(some 37), none, (.val (.t 4))⟩,
  ⟨(some 38), none, (.val (.t 4))⟩,
  ⟨(some 39), none, (.bin .neq (.t 38) (.c (.i .i64 0)))⟩,
  ⟨(some 2), none, (.val (.t 37))⟩,
  ⟨(some 3), none, (.val (.t 39))⟩] t H) := runR_reg'
def a20 : AFun := ⟨40, [(.tmp 2), (.tmp 3)], (.seq (.reg d20_0) (.seq (.reg d20_1) (.seq (.seq (.reg d20_2) (.block 0 (.loop l20_7))) (.seq (.reg d20_8) .ret))))⟩
theorem a20_ok : cfun Try.prog 20 = some a20 := by kernel_rfl
/-- (*futtock/timer.Clock).Len -/
def d21_0 : List AOper := [
  ⟨(some 2), none, (.val (.c (.i .i64 0)))⟩]
theorem r21_0 {fn : AFun} {K : List AItem} {t : Nat → AV} {H : AH} {T : Tbl} : runR T fn (.code (.reg d21_0) :: K) t H = regR T fn K (aops (callR T) [
  ⟨(some 2), none, (.val (.c (.i .i64 0)))⟩] t H) := runR_reg'
def d21_1 : List AOper := [
  ⟨(some 3), none, (.val (.t 0))⟩,
  ⟨(some 4), none, (.call 23 [(.t 3)])⟩,
  ⟨(some 5), none, (.un .not (.t 4))⟩]
theorem r21_1 {fn : AFun} {K : List AItem} {t : Nat → AV} {H : AH} {T : Tbl} : runR T fn (.code (.reg d21_1) :: K) t H = regR T fn K (aops (callR T) [
  ⟨(some 3), none, (.val (.t 0))⟩,
  ⟨(some 4), none, (.call 23 [(.t 3)])⟩,
  ⟨(some 5), none, (.un .not (.t 4))⟩] t H) := runR_reg'
def d21_2 : List AOper := [
  ⟨(some 2), none, (.val (.c (.i .i64 0)))⟩]
theorem r21_2 {fn : AFun} {K : List AItem} {t : Nat → AV} {H : AH} {T : Tbl} : runR T fn (.code (.reg d21_2) :: K) t H = regR T fn K (aops (callR T) [
  ⟨(some 2), none, (.val (.c (.i .i64 0)))⟩] t H) := runR_reg'
def d21_3 : List AOper := [
  ⟨(some 6), none, (.val (.t 0))⟩,
  ⟨(some 7), none, (.nilc (.t 6))⟩,
  ⟨(some 8), none, (.fa 1 (.t 7))⟩,
  ⟨(some 9), none, (.ld none (.t 8))⟩,
  ⟨(some 10), none, (.lenm (.t 9))⟩,
  ⟨(some 2), none, (.val (.t 10))⟩]
theorem r21_3 {fn : AFun} {K : List AItem} {t : Nat → AV} {H : AH} {T : Tbl} : runR T fn (.code (.reg d21_3) :: K) t H = regR T fn K (aops (callR T) [
  ⟨(some 6), none, (.val (.t 0))⟩,
  ⟨(some 7), none, (.nilc (.t 6))⟩,
  ⟨(some 8), none, (.fa 1 (.t 7))⟩,
  ⟨(some 9), none, (.ld none (.t 8))⟩,
  ⟨(some 10), none, (.lenm (.t 9))⟩,
  ⟨(some 2), none, (.val (.t 10))⟩] t H) := runR_reg'
def a21 : AFun := ⟨11, [(.tmp 2)], (.seq (.reg d21_0) (.seq (.seq (.reg d21_1) (.cond (.t 5) (.seq (.reg d21_2) .ret) .skip)) (.seq (.reg d21_3) .ret)))⟩
theorem a21_ok : cfun Try.prog 21 = some a21 := by kernel_rfl
/-- (*futtock/futtockref07.Clock).Len -/
def d22_0 : List AOper := [
  ⟨(some 2), none, (.val (.c (.i .i64 0)))⟩]
theorem r22_0 {fn : AFun} {K : List AItem} {t : Nat → AV} {H : AH} {T : Tbl} : runR T fn (.code (.reg d22_0) :: K) t H = regR T fn K (aops (callR T) [
  ⟨(some 2), none, (.val (.c (.i .i64 0)))⟩] t H) := runR_reg'
def d22_1 : List AOper := [
  ⟨(some 3), none, (.val (.c (.i .i64 0)))⟩]
theorem r22_1 {fn : AFun} {K : List AItem} {t : Nat → AV} {H : AH} {T : Tbl} : runR T fn (.code (.reg d22_1) :: K) t H = regR T fn K (aops (callR T) [
  ⟨(some 3), none, (.val (.c (.i .i64 0)))⟩] t H) := runR_reg'
def d22_2 : List AOper := [
  ⟨(some 4), none, (.val (.c (.i .i64 0)))⟩]
theorem r22_2 {fn : AFun} {K : List AItem} {t : Nat → AV} {H : AH} {T : Tbl} : runR T fn (.code (.reg d22_2) :: K) t H = regR T fn K (aops (callR T) [
  ⟨(some 4), none, (.val (.c (.i .i64 0)))⟩] t H) := runR_reg'
def d22_3 : List AOper := [
  ⟨(some 5), none, (.val (.t 4))⟩,
  ⟨(some 6), none, (.bin .lss (.t 5) (.c (.i .i64 256)))⟩]
theorem r22_3 {fn : AFun} {K : List AItem} {t : Nat → AV} {H : AH} {T : Tbl} : runR T fn (.code (.reg d22_3) :: K) t H = regR T fn K (aops (callR T) [
  ⟨(some 5), none, (.val (.t 4))⟩,
  ⟨(some 6), none, (.bin .lss (.t 5) (.c (.i .i64 256)))⟩] t H) := runR_reg'
def d22_4 : List AOper := [
  ⟨(some 9), none, (.val (.t 0))⟩,
  ⟨(some 10), none, (.val (.t 4))⟩,
  ⟨(some 11), none, (.nilc (.t 9))⟩,
  ⟨(some 12), none, (.fa 1 (.t 11))⟩,
  ⟨(some 13), none, (.iaa 256 1 (.t 12) (.t 10))⟩,
  ⟨(some 14), none, (.ld none (.t 13))⟩,
  ⟨(some 15), none, (.bin .neq (.t 14) (.c (.i .i64 0)))⟩]
theorem r22_4 {fn : AFun} {K : List AItem} {t : Nat → AV} {H : AH} {T : Tbl} : runR T fn (.code (.reg d22_4) :: K) t H = regR T fn K (aops (callR T) [
  ⟨(some 9), none, (.val (.t 0))⟩,
  ⟨(some 10), none, (.val (.t 4))⟩,
  ⟨(some 11), none, (.nilc (.t 9))⟩,
  ⟨(some 12), none, (.fa 1 (.t 11))⟩,
  ⟨(some 13), none, (.iaa 256 1 (.t 12) (.t 10))⟩,
  ⟨(some 14), none, (.ld none (.t 13))⟩,
  ⟨(some 15), none, (.bin .neq (.t 14) (.c (.i .i64 0)))⟩] t H) := runR_reg'
def d22_5 : List AOper := [
  ⟨(some 16), none, (.val (.t 3))⟩,
  ⟨(some 17), none, (.bin .add (.t 16) (.c (.i .i64 1)))⟩,
  ⟨(some 3), none, (.val (.t 17))⟩]
theorem r22_5 {fn : AFun} {K : List AItem} {t : Nat → AV} {H : AH} {T : Tbl} : runR T fn (.code (.reg d22_5) :: K) t H = regR T fn K (aops (callR T) [
  ⟨(some 16), none, (.val (.t 3))⟩,
  ⟨(some 17), none, (.bin .add (.t 16) (.c (.i .i64 1)))⟩,
  ⟨(some 3), none, (.val (.t 17))⟩] t H) := runR_reg'
def d22_6 : List AOper := [
  ⟨(some 7), none, (.val (.t 4))⟩,
  ⟨(some 8), none, (.bin .add (.t 7) (.c (.i .i64 1)))⟩,
  ⟨(some 4), none, (.val (.t 8))⟩]
theorem r22_6 {fn : AFun} {K : List AItem} {t : Nat → AV} {H : AH} {T : Tbl} : runR T fn (.code (.reg d22_6) :: K) t H = regR T fn K (aops (callR T) [
  ⟨(some 7), none, (.val (.t 4))⟩,
  ⟨(some 8), none, (.bin .add (.t 7) (.c (.i .i64 1)))⟩,
  ⟨(some 4), none, (.val (.t 8))⟩] t H) := runR_reg'
def l22_7 : ACode := (.seq (.seq (.reg d22_3) (.cond (.t 6) .skip (.exit 0))) (.seq (.block 1 (.seq (.reg d22_4) (.cond (.t 15) (.reg d22_5) .skip))) (.reg d22_6)))
def d22_8 : List AOper := [
  ⟨(some 18), none, (.val (.t 3))⟩,
  ⟨(some 2), none, (.val (.t 18))⟩]
theorem r22_8 {fn : AFun} {K : List AItem} {t : Nat → AV} {H : AH} {T : Tbl} : runR T fn (.code (.reg d22_8) :: K) t H = regR T fn K (aops (callR T) [
  ⟨(some 18), none, (.val (.t 3))⟩,
  ⟨(some 2), none, (.val (.t 18))⟩] t H) := runR_reg'
def a22 : AFun := ⟨19, [(.tmp 2)], (.seq (.reg d22_0) (.seq (.reg d22_1) (.seq (.seq (.reg d22_2) (.block 0 (.loop l22_7))) (.seq (.reg d22_8) .ret))))⟩
theorem a22_ok : cfun Try.prog 22 = some a22 := by kernel_rfl
/-- (*futtock/timer.Clock).ok -/
def d23_0 : List AOper := [
  ⟨(some 2), none, (.val (.c (.b false)))⟩]
theorem r23_0 {fn : AFun} {K : List AItem} {t : Nat → AV} {H : AH} {T : Tbl} : runR T fn (.code (.reg d23_0) :: K) t H = regR T fn K (aops (callR T) [
  ⟨(some 2), none, (.val (.c (.b false)))⟩] t H) := runR_reg'
def d23_1 : List AOper := [
  ⟨(some 3), none, (.val (.t 0))⟩,
  ⟨(some 4), none, (.eqn 0 true (.t 3) (.c (.p none)))⟩,
  ⟨(some 5), none, (.val (.t 4))⟩,
  ⟨(some 6), (some (5, true)), (.val (.t 0))⟩,
  ⟨(some 7), (some (5, true)), (.nilc (.t 6))⟩,
  ⟨(some 8), (some (5, true)), (.fa 1 (.t 7))⟩,
  ⟨(some 9), (some (5, true)), (.ld none (.t 8))⟩,
  ⟨(some 10), (some (5, true)), (.eqn 2 true (.t 9) (.c (.mp none)))⟩,
  ⟨(some 11), none, (.pick (.t 5) (.t 10) (.c (.b false)))⟩,
  ⟨(some 2), none, (.val (.t 11))⟩]
theorem r23_1 {fn : AFun} {K : List AItem} {t : Nat → AV} {H : AH} {T : Tbl} : runR T fn (.code (.reg d23_1) :: K) t H = regR T fn K (aops (callR T) [
  ⟨(some 3), none, (.val (.t 0))⟩,
  ⟨(some 4), none, (.eqn 0 true (.t 3) (.c (.p none)))⟩,
  ⟨(some 5), none, (.val (.t 4))⟩,
  ⟨(some 6), (some (5, true)), (.val (.t 0))⟩,
  ⟨(some 7), (some (5, true)), (.nilc (.t 6))⟩,
  ⟨(some 8), (some (5, true)), (.fa 1 (.t 7))⟩,
  ⟨(some 9), (some (5, true)), (.ld none (.t 8))⟩,
  ⟨(some 10), (some (5, true)), (.eqn 2 true (.t 9) (.c (.mp none)))⟩,
  ⟨(some 11), none, (.pick (.t 5) (.t 10) (.c (.b false)))⟩,
  ⟨(some 2), none, (.val (.t 11))⟩] t H) := runR_reg'
def a23 : AFun := ⟨12, [(.tmp 2)], (.seq (.reg d23_0) (.seq (.reg d23_1) .ret))⟩
theorem a23_ok : cfun Try.prog 23 = some a23 := by kernel_rfl
/-- slices.SortedFunc[int] -/
def d24_0 : List AOper := [
  ⟨(some 4), none, (.val (.c (.sl none 0 0 true 0)))⟩]
theorem r24_0 {fn : AFun} {K : List AItem} {t : Nat → AV} {H : AH} {T : Tbl} : runR T fn (.code (.reg d24_0) :: K) t H = regR T fn K (aops (callR T) [
  ⟨(some 4), none, (.val (.c (.sl none 0 0 true 0)))⟩] t H) := runR_reg'
def d24_1 : List AOper := [
  ⟨(some 6), none, (.val (.t 0))⟩,
  ⟨(some 7), none, (.call 28 [(.t 6)])⟩,
  ⟨(some 5), none, (.val (.t 7))⟩]
theorem r24_1 {fn : AFun} {K : List AItem} {t : Nat → AV} {H : AH} {T : Tbl} : runR T fn (.code (.reg d24_1) :: K) t H = regR T fn K (aops (callR T) [
  ⟨(some 6), none, (.val (.t 0))⟩,
  ⟨(some 7), none, (.call 28 [(.t 6)])⟩,
  ⟨(some 5), none, (.val (.t 7))⟩] t H) := runR_reg'
def d24_2 : List AOper := [
  ⟨(some 8), none, (.val (.t 5))⟩,
  ⟨(some 9), none, (.val (.t 1))⟩,
  ⟨(some 10), none, (.call 29 [(.t 8), (.t 9)])⟩]
theorem r24_2 {fn : AFun} {K : List AItem} {t : Nat → AV} {H : AH} {T : Tbl} : runR T fn (.code (.reg d24_2) :: K) t H = regR T fn K (aops (callR T) [
  ⟨(some 8), none, (.val (.t 5))⟩,
  ⟨(some 9), none, (.val (.t 1))⟩,
  ⟨(some 10), none, (.call 29 [(.t 8), (.t 9)])⟩] t H) := runR_reg'
def d24_3 : List AOper := [
  ⟨(some 11), none, (.val (.t 5))⟩,
  ⟨(some 4), none, (.val (.t 11))⟩]
theorem r24_3 {fn : AFun} {K : List AItem} {t : Nat → AV} {H : AH} {T : Tbl} : runR T fn (.code (.reg d24_3) :: K) t H = regR T fn K (aops (callR T) [
  ⟨(some 11), none, (.val (.t 5))⟩,
  ⟨(some 4), none, (.val (.t 11))⟩] t H) := runR_reg'
def a24 : AFun := ⟨12, [(.tmp 4)], (.seq (.reg d24_0) (.seq (.reg d24_1) (.seq (.reg d24_2) (.seq (.reg d24_3) .ret))))⟩
theorem a24_ok : cfun Try.prog 24 = some a24 := by kernel_rfl
/-- maps.Keys[map[int]int64,int,int64] -/
def d25_0 : List AOper := [
  ⟨(some 1), none, (.box (.t 0))⟩,
  ⟨(some 2), none, (.val (.c .nf))⟩]
theorem r25_0 {fn : AFun} {K : List AItem} {t : Nat → AV} {H : AH} {T : Tbl} : runR T fn (.code (.reg d25_0) :: K) t H = regR T fn K (aops (callR T) [
  ⟨(some 1), none, (.box (.t 0))⟩,
  ⟨(some 2), none, (.val (.c .nf))⟩] t H) := runR_reg'
def d25_1 : List AOper := [
  ⟨(some 3), none, (.mkf (.func 30) [] [(.t 1)])⟩,
  ⟨(some 2), none, (.val (.t 3))⟩]
theorem r25_1 {fn : AFun} {K : List AItem} {t : Nat → AV} {H : AH} {T : Tbl} : runR T fn (.code (.reg d25_1) :: K) t H = regR T fn K (aops (callR T) [
  ⟨(some 3), none, (.mkf (.func 30) [] [(.t 1)])⟩,
  ⟨(some 2), none, (.val (.t 3))⟩] t H) := runR_reg'
def a25 : AFun := ⟨4, [(.tmp 2)], (.seq (.reg d25_0) (.seq (.reg d25_1) .ret))⟩
theorem a25_ok : cfun Try.prog 25 = some a25 := by kernel_rfl
/-- (*futtock/timer.Clock).sooner -/
def d26_0 : List AOper := [
  ⟨(some 6), none, (.val (.c (.i .i64 0)))⟩]
theorem r26_0 {fn : AFun} {K : List AItem} {t : Nat → AV} {H : AH} {T : Tbl} : runR T fn (.code (.reg d26_0) :: K) t H = regR T fn K (aops (callR T) [
  ⟨(some 6), none, (.val (.c (.i .i64 0)))⟩] t H) := runR_reg'
def d26_1 : List (AOper × List Nat) := [
  (⟨(some 7), none, (.val (.t 0))⟩, []),
  (⟨(some 8), none, (.nilc (.t 7))⟩, []),
  (⟨(some 9), none, (.fa 1 (.t 8))⟩, []),
  (⟨(some 10), none, (.ld none (.t 9))⟩, [1]),
  (⟨(some 11), none, (.val (.t 1))⟩, []),
  (⟨(some 12), none, (.lk [0] (.i .i64 0) (.t 10) (.t 11) false)⟩, [1]),
  (⟨(some 13), none, (.val (.t 0))⟩, []),
  (⟨(some 14), none, (.nilc (.t 13))⟩, []),
  (⟨(some 15), none, (.fa 1 (.t 14))⟩, []),
  (⟨(some 16), none, (.ld none (.t 15))⟩, [1]),
  (⟨(some 17), none, (.val (.t 2))⟩, []),
  (⟨(some 18), none, (.lk [0] (.i .i64 0) (.t 16) (.t 17) false)⟩, [1]),
  (⟨(some 19), none, (.call 32 [(.t 12), (.t 18)])⟩, []),
  (⟨(some 20), none, (.val (.t 1))⟩, []),
  (⟨(some 21), none, (.val (.t 2))⟩, []),
  (⟨(some 22), none, (.call 33 [(.t 20), (.t 21)])⟩, []),
  (⟨(some 23), none, (.bsl [(.i .i64 0)] 2 [(0, 1, (.t 19)), (1, 1, (.t 22))])⟩, []),
  (⟨(some 24), none, (.call 31 [(.t 23)])⟩, []),
  (⟨(some 6), none, (.val (.t 24))⟩, [])]
theorem r26_1 {fn : AFun} {K : List AItem} {t : Nat → AV} {H : AH} {T : Tbl} : runR T fn (.code (.drw d26_1) :: K) t H = regR T fn K (aops (callR T) [
  ⟨(some 7), none, (.val (.t 0))⟩,
  ⟨(some 8), none, (.nilc (.t 7))⟩,
  ⟨(some 9), none, (.fa 1 (.t 8))⟩,
  ⟨(some 10), none, (.ld none (.t 9))⟩,
  ⟨(some 11), none, (.val (.t 1))⟩,
  ⟨(some 12), none, (.lk [0] (.i .i64 0) (.t 10) (.t 11) false)⟩,
  ⟨(some 13), none, (.val (.t 0))⟩,
  ⟨(some 14), none, (.nilc (.t 13))⟩,
  ⟨(some 15), none, (.fa 1 (.t 14))⟩,
  ⟨(some 16), none, (.ld none (.t 15))⟩,
  ⟨(some 17), none, (.val (.t 2))⟩,
  ⟨(some 18), none, (.lk [0] (.i .i64 0) (.t 16) (.t 17) false)⟩,
  ⟨(some 19), none, (.call 32 [(.t 12), (.t 18)])⟩,
  ⟨(some 20), none, (.val (.t 1))⟩,
  ⟨(some 21), none, (.val (.t 2))⟩,
  ⟨(some 22), none, (.call 33 [(.t 20), (.t 21)])⟩,
  ⟨(some 23), none, (.bsl [(.i .i64 0)] 2 [(0, 1, (.t 19)), (1, 1, (.t 22))])⟩,
  ⟨(some 24), none, (.call 31 [(.t 23)])⟩,
  ⟨(some 6), none, (.val (.t 24))⟩] t H) := runR_plain rfl
def a26 : AFun := ⟨25, [(.tmp 6)], (.seq (.reg d26_0) (.seq (.drw d26_1) .ret))⟩
theorem a26_ok : cfun Try.prog 26 = some a26 := by kernel_rfl
/-- futtock/futtockref07.is -/
def d27_0 : List AOper := [
  ⟨(some 2), none, (.val (.c (.b false)))⟩]
theorem r27_0 {fn : AFun} {K : List AItem} {t : Nat → AV} {H : AH} {T : Tbl} : runR T fn (.code (.reg d27_0) :: K) t H = regR T fn K (aops (callR T) [
  ⟨(some 2), none, (.val (.c (.b false)))⟩] t H) := runR_reg'
def d27_1 : List AOper := [
  ⟨(some 3), none, (.val (.t 0))⟩,
  ⟨(some 4), none, (.bin .geq (.t 3) (.c (.i .i64 0)))⟩,
  ⟨(some 5), none, (.val (.t 4))⟩,
  ⟨(some 6), (some (5, true)), (.val (.t 0))⟩,
  ⟨(some 7), (some (5, true)), (.bin .lss (.t 6) (.c (.i .i64 256)))⟩,
  ⟨(some 8), none, (.pick (.t 5) (.t 7) (.c (.b false)))⟩,
  ⟨(some 2), none, (.val (.t 8))⟩]
theorem r27_1 {fn : AFun} {K : List AItem} {t : Nat → AV} {H : AH} {T : Tbl} : runR T fn (.code (.reg d27_1) :: K) t H = regR T fn K (aops (callR T) [
  ⟨(some 3), none, (.val (.t 0))⟩,
  ⟨(some 4), none, (.bin .geq (.t 3) (.c (.i .i64 0)))⟩,
  ⟨(some 5), none, (.val (.t 4))⟩,
  ⟨(some 6), (some (5, true)), (.val (.t 0))⟩,
  ⟨(some 7), (some (5, true)), (.bin .lss (.t 6) (.c (.i .i64 256)))⟩,
  ⟨(some 8), none, (.pick (.t 5) (.t 7) (.c (.b false)))⟩,
  ⟨(some 2), none, (.val (.t 8))⟩] t H) := runR_reg'
def a27 : AFun := ⟨9, [(.tmp 2)], (.seq (.reg d27_0) (.seq (.reg d27_1) .ret))⟩
theorem a27_ok : cfun Try.prog 27 = some a27 := by kernel_rfl
/-- slices.Collect[int] -/
def d28_0 : List AOper := [
  ⟨(some 2), none, (.val (.c (.sl none 0 0 true 0)))⟩]
theorem r28_0 {fn : AFun} {K : List AItem} {t : Nat → AV} {H : AH} {T : Tbl} : runR T fn (.code (.reg d28_0) :: K) t H = regR T fn K (aops (callR T) [
  ⟨(some 2), none, (.val (.c (.sl none 0 0 true 0)))⟩] t H) := runR_reg'
def d28_1 : List AOper := [
  ⟨(some 3), none, (.val (.t 0))⟩,
  ⟨(some 4), none, (.call 34 [(.c (.sl none 0 0 true 0)), (.t 3)])⟩,
  ⟨(some 2), none, (.val (.t 4))⟩]
theorem r28_1 {fn : AFun} {K : List AItem} {t : Nat → AV} {H : AH} {T : Tbl} : runR T fn (.code (.reg d28_1) :: K) t H = regR T fn K (aops (callR T) [
  ⟨(some 3), none, (.val (.t 0))⟩,
  ⟨(some 4), none, (.call 34 [(.c (.sl none 0 0 true 0)), (.t 3)])⟩,
  ⟨(some 2), none, (.val (.t 4))⟩] t H) := runR_reg'
def a28 : AFun := ⟨5, [(.tmp 2)], (.seq (.reg d28_0) (.seq (.reg d28_1) .ret))⟩
theorem a28_ok : cfun Try.prog 28 = some a28 := by kernel_rfl
/-- slices.SortFunc[[]int,int] -/
def d29_0 : List AOper := [
  ⟨(some 5), none, (.val (.t 0))⟩,
  ⟨(some 6), none, (.len (.t 5))⟩,
  ⟨(some 4), none, (.val (.t 6))⟩]
theorem r29_0 {fn : AFun} {K : List AItem} {t : Nat → AV} {H : AH} {T : Tbl} : runR T fn (.code (.reg d29_0) :: K) t H = regR T fn K (aops (callR T) [
  ⟨(some 5), none, (.val (.t 0))⟩,
  ⟨(some 6), none, (.len (.t 5))⟩,
  ⟨(some 4), none, (.val (.t 6))⟩] t H) := runR_reg'
def d29_1 : List AOper := [
  ⟨(some 7), none, (.val (.t 0))⟩,
  ⟨(some 8), none, (.val (.t 4))⟩,
  ⟨(some 9), none, (.val (.t 4))⟩,
  ⟨(some 10), none, (.cvi .u64 (.t 9))⟩,
  ⟨(some 11), none, (.call 36 [(.t 10)])⟩,
  ⟨(some 12), none, (.val (.t 1))⟩,
  ⟨(some 13), none, (.call 35 [(.t 7), (.c (.i .i64 0)), (.t 8), (.t 11), (.t 12)])⟩]
theorem r29_1 {fn : AFun} {K : List AItem} {t : Nat → AV} {H : AH} {T : Tbl} : runR T fn (.code (.reg d29_1) :: K) t H = regR T fn K (aops (callR T) [
  ⟨(some 7), none, (.val (.t 0))⟩,
  ⟨(some 8), none, (.val (.t 4))⟩,
  ⟨(some 9), none, (.val (.t 4))⟩,
  ⟨(some 10), none, (.cvi .u64 (.t 9))⟩,
  ⟨(some 11), none, (.call 36 [(.t 10)])⟩,
  ⟨(some 12), none, (.val (.t 1))⟩,
  ⟨(some 13), none, (.call 35 [(.t 7), (.c (.i .i64 0)), (.t 8), (.t 11), (.t 12)])⟩] t H) := runR_reg'
def a29 : AFun := ⟨14, [], (.seq (.reg d29_0) (.reg d29_1))⟩
theorem a29_ok : cfun Try.prog 29 = some a29 := by kernel_rfl
/-- maps.Keys[map[int]int64,int,int64]$1 -/
def d30_0 : List AOper := [
  ⟨(some 4), none, (.ld none (.t 1))⟩,
  ⟨(some 5), none, (.rng (.t 4))⟩]
theorem r30_0 {fn : AFun} {K : List AItem} {t : Nat → AV} {H : AH} {T : Tbl} : runR T fn (.code (.reg d30_0) :: K) t H = regR T fn K (aops (callR T) [
  ⟨(some 4), none, (.ld none (.t 1))⟩,
  ⟨(some 5), none, (.rng (.t 4))⟩] t H) := runR_reg'
def d30_1 : List AOper := [
  ⟨(some 6), none, (.nxt (.t 5))⟩,
  ⟨(some 7), none, (.ext (.t 6) 0)⟩]
theorem r30_1 {fn : AFun} {K : List AItem} {t : Nat → AV} {H : AH} {T : Tbl} : runR T fn (.code (.reg d30_1) :: K) t H = regR T fn K (aops (callR T) [
  ⟨(some 6), none, (.nxt (.t 5))⟩,
  ⟨(some 7), none, (.ext (.t 6) 0)⟩] t H) := runR_reg'
def d30_2 : List AOper := [
  ⟨(some 8), none, (.ent (.t 5))⟩,
  ⟨(some 9), none, (.ext (.t 8) 0)⟩,
  ⟨(some 3), none, (.val (.t 9))⟩]
theorem r30_2 {fn : AFun} {K : List AItem} {t : Nat → AV} {H : AH} {T : Tbl} : runR T fn (.code (.reg d30_2) :: K) t H = regR T fn K (aops (callR T) [
  ⟨(some 8), none, (.ent (.t 5))⟩,
  ⟨(some 9), none, (.ext (.t 8) 0)⟩,
  ⟨(some 3), none, (.val (.t 9))⟩] t H) := runR_reg'
def d30_3 : List AOper := [
  ⟨(some 10), none, (.val (.t 0))⟩,
  ⟨(some 11), none, (.val (.t 3))⟩,
  ⟨(some 12), none, (.callv (.t 10) [(.t 11)])⟩,
  ⟨(some 13), none, (.un .not (.t 12))⟩]
theorem r30_3 {fn : AFun} {K : List AItem} {t : Nat → AV} {H : AH} {T : Tbl} : runR T fn (.code (.reg d30_3) :: K) t H = regR T fn K (aops (callR T) [
  ⟨(some 10), none, (.val (.t 0))⟩,
  ⟨(some 11), none, (.val (.t 3))⟩,
  ⟨(some 12), none, (.callv (.t 10) [(.t 11)])⟩,
  ⟨(some 13), none, (.un .not (.t 12))⟩] t H) := runR_reg'
def l30_4 : ACode := (.seq (.reg d30_1) (.seq (.cond (.t 7) .skip (.exit 0)) (.block 1 (.seq (.reg d30_2) (.seq (.reg d30_3) (.cond (.t 13) .ret .skip))))))
def a30 : AFun := ⟨14, [], (.seq (.reg d30_0) (.block 0 (.loop l30_4)))⟩
theorem a30_ok : cfun Try.prog 30 = some a30 := by kernel_rfl
/-- cmp.Or[int] -/
def d31_0 : List AOper := [
  ⟨(some 2), none, (.val (.c (.i .i64 0)))⟩]
theorem r31_0 {fn : AFun} {K : List AItem} {t : Nat → AV} {H : AH} {T : Tbl} : runR T fn (.code (.reg d31_0) :: K) t H = regR T fn K (aops (callR T) [
  ⟨(some 2), none, (.val (.c (.i .i64 0)))⟩] t H) := runR_reg'
def d31_1 : List AOper := [
  ⟨(some 3), none, (.val (.c (.i .i64 0)))⟩]
theorem r31_1 {fn : AFun} {K : List AItem} {t : Nat → AV} {H : AH} {T : Tbl} : runR T fn (.code (.reg d31_1) :: K) t H = regR T fn K (aops (callR T) [
  ⟨(some 3), none, (.val (.c (.i .i64 0)))⟩] t H) := runR_reg'
def d31_2 : List AOper := [
  ⟨(some 6), none, (.val (.t 0))⟩,
  ⟨(some 7), none, (.len (.t 6))⟩,
  ⟨(some 8), none, (.val (.c (.i .i64 0)))⟩]
theorem r31_2 {fn : AFun} {K : List AItem} {t : Nat → AV} {H : AH} {T : Tbl} : runR T fn (.code (.reg d31_2) :: K) t H = regR T fn K (aops (callR T) [
  ⟨(some 6), none, (.val (.t 0))⟩,
  ⟨(some 7), none, (.len (.t 6))⟩,
  ⟨(some 8), none, (.val (.c (.i .i64 0)))⟩] t H) := runR_reg'
def d31_3 : List AOper := [
  ⟨(some 9), none, (.bin .lss (.t 8) (.t 7))⟩]
theorem r31_3 {fn : AFun} {K : List AItem} {t : Nat → AV} {H : AH} {T : Tbl} : runR T fn (.code (.reg d31_3) :: K) t H = regR T fn K (aops (callR T) [
  ⟨(some 9), none, (.bin .lss (.t 8) (.t 7))⟩] t H) := runR_reg'
def d31_4 : List AOper := [
  ⟨(some 10), none, (.ia 1 (.t 6) (.t 8))⟩,
  ⟨(some 11), none, (.ld none (.t 10))⟩,
  ⟨(some 5), none, (.val (.t 11))⟩]
theorem r31_4 {fn : AFun} {K : List AItem} {t : Nat → AV} {H : AH} {T : Tbl} : runR T fn (.code (.reg d31_4) :: K) t H = regR T fn K (aops (callR T) [
  ⟨(some 10), none, (.ia 1 (.t 6) (.t 8))⟩,
  ⟨(some 11), none, (.ld none (.t 10))⟩,
  ⟨(some 5), none, (.val (.t 11))⟩] t H) := runR_reg'
def d31_5 : List AOper := [
  ⟨(some 12), none, (.val (.t 5))⟩,
  ⟨(some 13), none, (.val (.t 3))⟩,
  ⟨(some 14), none, (.bin .neq (.t 12) (.t 13))⟩]
theorem r31_5 {fn : AFun} {K : List AItem} {t : Nat → AV} {H : AH} {T : Tbl} : runR T fn (.code (.reg d31_5) :: K) t H = regR T fn K (aops (callR T) [
  ⟨(some 12), none, (.val (.t 5))⟩,
  ⟨(some 13), none, (.val (.t 3))⟩,
  ⟨(some 14), none, (.bin .neq (.t 12) (.t 13))⟩] t H) := runR_reg'
def d31_6 : List AOper := [
  ⟨(some 15), none, (.val (.t 5))⟩,
  ⟨(some 2), none, (.val (.t 15))⟩]
theorem r31_6 {fn : AFun} {K : List AItem} {t : Nat → AV} {H : AH} {T : Tbl} : runR T fn (.code (.reg d31_6) :: K) t H = regR T fn K (aops (callR T) [
  ⟨(some 15), none, (.val (.t 5))⟩,
  ⟨(some 2), none, (.val (.t 15))⟩] t H) := runR_reg'
def d31_7 : List AOper := [
  ⟨(some 16), none, (.bin .add (.t 8) (.c (.i .i64 1)))⟩,
  ⟨(some 8), none, (.val (.t 16))⟩]
theorem r31_7 {fn : AFun} {K : List AItem} {t : Nat → AV} {H : AH} {T : Tbl} : runR T fn (.code (.reg d31_7) :: K) t H = regR T fn K (aops (callR T) [
  ⟨(some 16), none, (.bin .add (.t 8) (.c (.i .i64 1)))⟩,
  ⟨(some 8), none, (.val (.t 16))⟩] t H) := runR_reg'
def l31_8 : ACode := (.seq (.reg d31_3) (.seq (.cond (.t 9) .skip (.exit 0)) (.seq (.block 1 (.seq (.reg d31_4) (.seq (.reg d31_5) (.cond (.t 14) (.seq (.reg d31_6) .ret) .skip)))) (.reg d31_7))))
def d31_9 : List AOper := [
  ⟨(some 17), none, (.val (.t 3))⟩,
  ⟨(some 2), none, (.val (.t 17))⟩]
theorem r31_9 {fn : AFun} {K : List AItem} {t : Nat → AV} {H : AH} {T : Tbl} : runR T fn (.code (.reg d31_9) :: K) t H = regR T fn K (aops (callR T) [
  ⟨(some 17), none, (.val (.t 3))⟩,
  ⟨(some 2), none, (.val (.t 17))⟩] t H) := runR_reg'
def a31 : AFun := ⟨18, [(.tmp 2)], (.seq (.reg d31_0) (.seq (.reg d31_1) (.seq (.seq (.reg d31_2) (.block 0 (.loop l31_8))) (.seq (.reg d31_9) .ret))))⟩
theorem a31_ok : cfun Try.prog 31 = some a31 := by kernel_rfl
/-- cmp.Compare[int64] -/
def d32_0 : List AOper := [
  ⟨(some 4), none, (.val (.c (.i .i64 0)))⟩]
theorem r32_0 {fn : AFun} {K : List AItem} {t : Nat → AV} {H : AH} {T : Tbl} : runR T fn (.code (.reg d32_0) :: K) t H = regR T fn K (aops (callR T) [
  ⟨(some 4), none, (.val (.c (.i .i64 0)))⟩] t H) := runR_reg'
def d32_1 : List AOper := [
  ⟨(some 7), none, (.val (.t 0))⟩,
  ⟨(some 8), none, (.call 37 [(.t 7)])⟩,
  ⟨(some 5), none, (.val (.t 8))⟩]
theorem r32_1 {fn : AFun} {K : List AItem} {t : Nat → AV} {H : AH} {T : Tbl} : runR T fn (.code (.reg d32_1) :: K) t H = regR T fn K (aops (callR T) [
  ⟨(some 7), none, (.val (.t 0))⟩,
  ⟨(some 8), none, (.call 37 [(.t 7)])⟩,
  ⟨(some 5), none, (.val (.t 8))⟩] t H) := runR_reg'
def d32_2 : List AOper := [
  ⟨(some 9), none, (.val (.t 1))⟩,
  ⟨(some 10), none, (.call 37 [(.t 9)])⟩,
  ⟨(some 6), none, (.val (.t 10))⟩]
theorem r32_2 {fn : AFun} {K : List AItem} {t : Nat → AV} {H : AH} {T : Tbl} : runR T fn (.code (.reg d32_2) :: K) t H = regR T fn K (aops (callR T) [
  ⟨(some 9), none, (.val (.t 1))⟩,
  ⟨(some 10), none, (.call 37 [(.t 9)])⟩,
  ⟨(some 6), none, (.val (.t 10))⟩] t H) := runR_reg'
def d32_3 : List AOper := [
  ⟨(some 11), none, (.val (.t 5))⟩]
theorem r32_3 {fn : AFun} {K : List AItem} {t : Nat → AV} {H : AH} {T : Tbl} : runR T fn (.code (.reg d32_3) :: K) t H = regR T fn K (aops (callR T) [
  ⟨(some 11), none, (.val (.t 5))⟩] t H) := runR_reg'
def d32_4 : List AOper := [
  ⟨(some 12), none, (.val (.t 6))⟩]
theorem r32_4 {fn : AFun} {K : List AItem} {t : Nat → AV} {H : AH} {T : Tbl} : runR T fn (.code (.reg d32_4) :: K) t H = regR T fn K (aops (callR T) [
  ⟨(some 12), none, (.val (.t 6))⟩] t H) := runR_reg'
def d32_5 : List AOper := [
  ⟨(some 4), none, (.val (.c (.i .i64 0)))⟩]
theorem r32_5 {fn : AFun} {K : List AItem} {t : Nat → AV} {H : AH} {T : Tbl} : runR T fn (.code (.reg d32_5) :: K) t H = regR T fn K (aops (callR T) [
  ⟨(some 4), none, (.val (.c (.i .i64 0)))⟩] t H) := runR_reg'
def d32_6 : List AOper := [
  ⟨(some 4), none, (.val (.c (.i .i64 (-1))))⟩]
theorem r32_6 {fn : AFun} {K : List AItem} {t : Nat → AV} {H : AH} {T : Tbl} : runR T fn (.code (.reg d32_6) :: K) t H = regR T fn K (aops (callR T) [
  ⟨(some 4), none, (.val (.c (.i .i64 (-1))))⟩] t H) := runR_reg'
def d32_7 : List AOper := [
  ⟨(some 13), none, (.val (.t 6))⟩]
theorem r32_7 {fn : AFun} {K : List AItem} {t : Nat → AV} {H : AH} {T : Tbl} : runR T fn (.code (.reg d32_7) :: K) t H = regR T fn K (aops (callR T) [
  ⟨(some 13), none, (.val (.t 6))⟩] t H) := runR_reg'
def d32_8 : List AOper := [
  ⟨(some 4), none, (.val (.c (.i .i64 1)))⟩]
theorem r32_8 {fn : AFun} {K : List AItem} {t : Nat → AV} {H : AH} {T : Tbl} : runR T fn (.code (.reg d32_8) :: K) t H = regR T fn K (aops (callR T) [
  ⟨(some 4), none, (.val (.c (.i .i64 1)))⟩] t H) := runR_reg'
def d32_9 : List AOper := [
  ⟨(some 14), none, (.val (.t 0))⟩,
  ⟨(some 15), none, (.val (.t 1))⟩,
  ⟨(some 16), none, (.bin .lss (.t 14) (.t 15))⟩]
theorem r32_9 {fn : AFun} {K : List AItem} {t : Nat → AV} {H : AH} {T : Tbl} : runR T fn (.code (.reg d32_9) :: K) t H = regR T fn K (aops (callR T) [
  ⟨(some 14), none, (.val (.t 0))⟩,
  ⟨(some 15), none, (.val (.t 1))⟩,
  ⟨(some 16), none, (.bin .lss (.t 14) (.t 15))⟩] t H) := runR_reg'
def d32_10 : List AOper := [
  ⟨(some 4), none, (.val (.c (.i .i64 (-1))))⟩]
theorem r32_10 {fn : AFun} {K : List AItem} {t : Nat → AV} {H : AH} {T : Tbl} : runR T fn (.code (.reg d32_10) :: K) t H = regR T fn K (aops (callR T) [
  ⟨(some 4), none, (.val (.c (.i .i64 (-1))))⟩] t H) := runR_reg'
def d32_11 : List AOper := [
  ⟨(some 17), none, (.val (.t 0))⟩,
  ⟨(some 18), none, (.val (.t 1))⟩,
  ⟨(some 19), none, (.bin .gtr (.t 17) (.t 18))⟩]
theorem r32_11 {fn : AFun} {K : List AItem} {t : Nat → AV} {H : AH} {T : Tbl} : runR T fn (.code (.reg d32_11) :: K) t H = regR T fn K (aops (callR T) [
  ⟨(some 17), none, (.val (.t 0))⟩,
  ⟨(some 18), none, (.val (.t 1))⟩,
  ⟨(some 19), none, (.bin .gtr (.t 17) (.t 18))⟩] t H) := runR_reg'
def d32_12 : List AOper := [
  ⟨(some 4), none, (.val (.c (.i .i64 1)))⟩]
theorem r32_12 {fn : AFun} {K : List AItem} {t : Nat → AV} {H : AH} {T : Tbl} : runR T fn (.code (.reg d32_12) :: K) t H = regR T fn K (aops (callR T) [
  ⟨(some 4), none, (.val (.c (.i .i64 1)))⟩] t H) := runR_reg'
def d32_13 : List AOper := [
  ⟨(some 4), none, (.val (.c (.i .i64 0)))⟩]
theorem r32_13 {fn : AFun} {K : List AItem} {t : Nat → AV} {H : AH} {T : Tbl} : runR T fn (.code (.reg d32_13) :: K) t H = regR T fn K (aops (callR T) [
  ⟨(some 4), none, (.val (.c (.i .i64 0)))⟩] t H) := runR_reg'
def a32 : AFun := ⟨20, [(.tmp 4)], (.seq (.reg d32_0) (.seq (.reg d32_1) (.seq (.reg d32_2) (.seq (.seq (.reg d32_3) (.cond (.t 11) (.seq (.seq (.reg d32_4) (.cond (.t 12) (.seq (.reg d32_5) .ret) .skip)) (.seq (.reg d32_6) .ret)) .skip)) (.seq (.seq (.reg d32_7) (.cond (.t 13) (.seq (.reg d32_8) .ret) .skip)) (.seq (.seq (.reg d32_9) (.cond (.t 16) (.seq (.reg d32_10) .ret) .skip)) (.seq (.seq (.reg d32_11) (.cond (.t 19) (.seq (.reg d32_12) .ret) .skip)) (.seq (.reg d32_13) .ret))))))))⟩
theorem a32_ok : cfun Try.prog 32 = some a32 := by kernel_rfl
/-- cmp.Compare[int] -/
def d33_0 : List AOper := [
  ⟨(some 4), none, (.val (.c (.i .i64 0)))⟩]
theorem r33_0 {fn : AFun} {K : List AItem} {t : Nat → AV} {H : AH} {T : Tbl} : runR T fn (.code (.reg d33_0) :: K) t H = regR T fn K (aops (callR T) [
  ⟨(some 4), none, (.val (.c (.i .i64 0)))⟩] t H) := runR_reg'
def d33_1 : List AOper := [
  ⟨(some 7), none, (.val (.t 0))⟩,
  ⟨(some 8), none, (.call 38 [(.t 7)])⟩,
  ⟨(some 5), none, (.val (.t 8))⟩]
theorem r33_1 {fn : AFun} {K : List AItem} {t : Nat → AV} {H : AH} {T : Tbl} : runR T fn (.code (.reg d33_1) :: K) t H = regR T fn K (aops (callR T) [
  ⟨(some 7), none, (.val (.t 0))⟩,
  ⟨(some 8), none, (.call 38 [(.t 7)])⟩,
  ⟨(some 5), none, (.val (.t 8))⟩] t H) := runR_reg'
def d33_2 : List AOper := [
  ⟨(some 9), none, (.val (.t 1))⟩,
  ⟨(some 10), none, (.call 38 [(.t 9)])⟩,
  ⟨(some 6), none, (.val (.t 10))⟩]
theorem r33_2 {fn : AFun} {K : List AItem} {t : Nat → AV} {H : AH} {T : Tbl} : runR T fn (.code (.reg d33_2) :: K) t H = regR T fn K (aops (callR T) [
  ⟨(some 9), none, (.val (.t 1))⟩,
  ⟨(some 10), none, (.call 38 [(.t 9)])⟩,
  ⟨(some 6), none, (.val (.t 10))⟩] t H) := runR_reg'
def d33_3 : List AOper := [
  ⟨(some 11), none, (.val (.t 5))⟩]
theorem r33_3 {fn : AFun} {K : List AItem} {t : Nat → AV} {H : AH} {T : Tbl} : runR T fn (.code (.reg d33_3) :: K) t H = regR T fn K (aops (callR T) [
  ⟨(some 11), none, (.val (.t 5))⟩] t H) := runR_reg'
def d33_4 : List AOper := [
  ⟨(some 12), none, (.val (.t 6))⟩]
theorem r33_4 {fn : AFun} {K : List AItem} {t : Nat → AV} {H : AH} {T : Tbl} : runR T fn (.code (.reg d33_4) :: K) t H = regR T fn K (aops (callR T) [
  ⟨(some 12), none, (.val (.t 6))⟩] t H) := runR_reg'
def d33_5 : List AOper := [
  ⟨(some 4), none, (.val (.c (.i .i64 0)))⟩]
theorem r33_5 {fn : AFun} {K : List AItem} {t : Nat → AV} {H : AH} {T : Tbl} : runR T fn (.code (.reg d33_5) :: K) t H = regR T fn K (aops (callR T) [
  ⟨(some 4), none, (.val (.c (.i .i64 0)))⟩] t H) := runR_reg'
def d33_6 : List AOper := [
  ⟨(some 4), none, (.val (.c (.i .i64 (-1))))⟩]
theorem r33_6 {fn : AFun} {K : List AItem} {t : Nat → AV} {H : AH} {T : Tbl} : runR T fn (.code (.reg d33_6) :: K) t H = regR T fn K (aops (callR T) [
  ⟨(some 4), none, (.val (.c (.i .i64 (-1))))⟩] t H) := runR_reg'
def d33_7 : List AOper := [
  ⟨(some 13), none, (.val (.t 6))⟩]
theorem r33_7 {fn : AFun} {K : List AItem} {t : Nat → AV} {H : AH} {T : Tbl} : runR T fn (.code (.reg d33_7) :: K) t H = regR T fn K (aops (callR T) [
  ⟨(some 13), none, (.val (.t 6))⟩] t H) := runR_reg'
def d33_8 : List AOper := [
  ⟨(some 4), none, (.val (.c (.i .i64 1)))⟩]
theorem r33_8 {fn : AFun} {K : List AItem} {t : Nat → AV} {H : AH} {T : Tbl} : runR T fn (.code (.reg d33_8) :: K) t H = regR T fn K (aops (callR T) [
  ⟨(some 4), none, (.val (.c (.i .i64 1)))⟩] t H) := runR_reg'
def d33_9 : List AOper := [
  ⟨(some 14), none, (.val (.t 0))⟩,
  ⟨(some 15), none, (.val (.t 1))⟩,
  ⟨(some 16), none, (.bin .lss (.t 14) (.t 15))⟩]
theorem r33_9 {fn : AFun} {K : List AItem} {t : Nat → AV} {H : AH} {T : Tbl} : runR T fn (.code (.reg d33_9) :: K) t H = regR T fn K (aops (callR T) [
  ⟨(some 14), none, (.val (.t 0))⟩,
  ⟨(some 15), none, (.val (.t 1))⟩,
  ⟨(some 16), none, (.bin .lss (.t 14) (.t 15))⟩] t H) := runR_reg'
def d33_10 : List AOper := [
  ⟨(some 4), none, (.val (.c (.i .i64 (-1))))⟩]
theorem r33_10 {fn : AFun} {K : List AItem} {t : Nat → AV} {H : AH} {T : Tbl} : runR T fn (.code (.reg d33_10) :: K) t H = regR T fn K (aops (callR T) [
  ⟨(some 4), none, (.val (.c (.i .i64 (-1))))⟩] t H) := runR_reg'
def d33_11 : List AOper := [
  ⟨(some 17), none, (.val (.t 0))⟩,
  ⟨(some 18), none, (.val (.t 1))⟩,
  ⟨(some 19), none, (.bin .gtr (.t 17) (.t 18))⟩]
theorem r33_11 {fn : AFun} {K : List AItem} {t : Nat → AV} {H : AH} {T : Tbl} : runR T fn (.code (.reg d33_11) :: K) t H = regR T fn K (aops (callR T) [
  ⟨(some 17), none, (.val (.t 0))⟩,
  ⟨(some 18), none, (.val (.t 1))⟩,
  ⟨(some 19), none, (.bin .gtr (.t 17) (.t 18))⟩] t H) := runR_reg'
def d33_12 : List AOper := [
  ⟨(some 4), none, (.val (.c (.i .i64 1)))⟩]
theorem r33_12 {fn : AFun} {K : List AItem} {t : Nat → AV} {H : AH} {T : Tbl} : runR T fn (.code (.reg d33_12) :: K) t H = regR T fn K (aops (callR T) [
  ⟨(some 4), none, (.val (.c (.i .i64 1)))⟩] t H) := runR_reg'
def d33_13 : List AOper := [
  ⟨(some 4), none, (.val (.c (.i .i64 0)))⟩]
theorem r33_13 {fn : AFun} {K : List AItem} {t : Nat → AV} {H : AH} {T : Tbl} : runR T fn (.code (.reg d33_13) :: K) t H = regR T fn K (aops (callR T) [
  ⟨(some 4), none, (.val (.c (.i .i64 0)))⟩] t H) := runR_reg'
def a33 : AFun := ⟨20, [(.tmp 4)], (.seq (.reg d33_0) (.seq (.reg d33_1) (.seq (.reg d33_2) (.seq (.seq (.reg d33_3) (.cond (.t 11) (.seq (.seq (.reg d33_4) (.cond (.t 12) (.seq (.reg d33_5) .ret) .skip)) (.seq (.reg d33_6) .ret)) .skip)) (.seq (.seq (.reg d33_7) (.cond (.t 13) (.seq (.reg d33_8) .ret) .skip)) (.seq (.seq (.reg d33_9) (.cond (.t 16) (.seq (.reg d33_10) .ret) .skip)) (.seq (.seq (.reg d33_11) (.cond (.t 19) (.seq (.reg d33_12) .ret) .skip)) (.seq (.reg d33_13) .ret))))))))⟩
theorem a33_ok : cfun Try.prog 33 = some a33 := by kernel_rfl
/-- slices.AppendSeq[[]int,int] -/
def d34_0 : List AOper := [
  ⟨(some 2), none, (.box (.t 0))⟩,
  ⟨(some 4), none, (.val (.c (.sl none 0 0 true 0)))⟩]
theorem r34_0 {fn : AFun} {K : List AItem} {t : Nat → AV} {H : AH} {T : Tbl} : runR T fn (.code (.reg d34_0) :: K) t H = regR T fn K (aops (callR T) [
  ⟨(some 2), none, (.box (.t 0))⟩,
  ⟨(some 4), none, (.val (.c (.sl none 0 0 true 0)))⟩] t H) := runR_reg'
def d34_1 : List AOper := [
  ⟨(some 6), none, (.val (.t 1))⟩]
theorem r34_1 {fn : AFun} {K : List AItem} {t : Nat → AV} {H : AH} {T : Tbl} : runR T fn (.code (.reg d34_1) :: K) t H = regR T fn K (aops (callR T) [
  ⟨(some 6), none, (.val (.t 1))⟩] t H) := runR_reg'
def d34_2 : List AOper := [
  ⟨(some 5), none, (.val (.t 7))⟩]
theorem r34_2 {fn : AFun} {K : List AItem} {t : Nat → AV} {H : AH} {T : Tbl} : runR T fn (.code (.reg d34_2) :: K) t H = regR T fn K (aops (callR T) [
  ⟨(some 5), none, (.val (.t 7))⟩] t H) := runR_reg'
def d34_3 : List AOper := [
  ⟨(some 8), none, (.ld none (.t 2))⟩,
  ⟨(some 9), none, (.val (.t 5))⟩,
  ⟨(some 10), none, (.bsl [(.i .i64 0)] 1 [(0, 1, (.t 9))])⟩,
  ⟨(some 11), none, (.app [(.i .i64 0)] 8 (.t 8) (.t 10))⟩,
  ⟨none, none, (.st 1 (.t 2) (.t 11))⟩]
theorem r34_3 {fn : AFun} {K : List AItem} {t : Nat → AV} {H : AH} {T : Tbl} : runR T fn (.code (.reg d34_3) :: K) t H = regR T fn K (aops (callR T) [
  ⟨(some 8), none, (.ld none (.t 2))⟩,
  ⟨(some 9), none, (.val (.t 5))⟩,
  ⟨(some 10), none, (.bsl [(.i .i64 0)] 1 [(0, 1, (.t 9))])⟩,
  ⟨(some 11), none, (.app [(.i .i64 0)] 8 (.t 8) (.t 10))⟩,
  ⟨none, none, (.st 1 (.t 2) (.t 11))⟩] t H) := runR_reg'
def f34_4a : ACode := (.reg d34_2)
def f34_4b : ACode := (.block 1 (.reg d34_3))
def d34_5 : List AOper := [
  ⟨(some 12), none, (.ld none (.t 2))⟩,
  ⟨(some 4), none, (.val (.t 12))⟩]
theorem r34_5 {fn : AFun} {K : List AItem} {t : Nat → AV} {H : AH} {T : Tbl} : runR T fn (.code (.reg d34_5) :: K) t H = regR T fn K (aops (callR T) [
  ⟨(some 12), none, (.ld none (.t 2))⟩,
  ⟨(some 4), none, (.val (.t 12))⟩] t H) := runR_reg'
def a34 : AFun := ⟨13, [(.tmp 4)], (.seq (.reg d34_0) (.seq (.seq (.reg d34_1) (.block 0 (.rf (.t 6) [7] f34_4a f34_4b))) (.seq (.reg d34_5) .ret)))⟩
theorem a34_ok : cfun Try.prog 34 = some a34 := by kernel_rfl
/-- slices.pdqsortCmpFunc[int] -/
def d35_0 : List AOper := [
  ⟨(some 10), none, (.val (.c (.b true)))⟩]
theorem r35_0 {fn : AFun} {K : List AItem} {t : Nat → AV} {H : AH} {T : Tbl} : runR T fn (.code (.reg d35_0) :: K) t H = regR T fn K (aops (callR T) [
  ⟨(some 10), none, (.val (.c (.b true)))⟩] t H) := runR_reg'
def d35_1 : List AOper := [
  ⟨(some 11), none, (.val (.c (.b true)))⟩]
theorem r35_1 {fn : AFun} {K : List AItem} {t : Nat → AV} {H : AH} {T : Tbl} : runR T fn (.code (.reg d35_1) :: K) t H = regR T fn K (aops (callR T) [
  ⟨(some 11), none, (.val (.c (.b true)))⟩] t H) := runR_reg'
def d35_2 : List AOper := [
  ⟨(some 21), none, (.val (.t 2))⟩,
  ⟨(some 22), none, (.val (.t 1))⟩,
  ⟨(some 23), none, (.bin .sub (.t 21) (.t 22))⟩,
  ⟨(some 12), none, (.val (.t 23))⟩]
theorem r35_2 {fn : AFun} {K : List AItem} {t : Nat → AV} {H : AH} {T : Tbl} : runR T fn (.code (.reg d35_2) :: K) t H = regR T fn K (aops (callR T) [
  ⟨(some 21), none, (.val (.t 2))⟩,
  ⟨(some 22), none, (.val (.t 1))⟩,
  ⟨(some 23), none, (.bin .sub (.t 21) (.t 22))⟩,
  ⟨(some 12), none, (.val (.t 23))⟩] t H) := runR_reg'
def d35_3 : List AOper := [
  ⟨(some 24), none, (.val (.t 12))⟩,
  ⟨(some 25), none, (.bin .leq (.t 24) (.c (.i .i64 12)))⟩]
theorem r35_3 {fn : AFun} {K : List AItem} {t : Nat → AV} {H : AH} {T : Tbl} : runR T fn (.code (.reg d35_3) :: K) t H = regR T fn K (aops (callR T) [
  ⟨(some 24), none, (.val (.t 12))⟩,
  ⟨(some 25), none, (.bin .leq (.t 24) (.c (.i .i64 12)))⟩] t H) := runR_reg'
def d35_4 : List AOper := [
  ⟨(some 26), none, (.val (.t 0))⟩,
  ⟨(some 27), none, (.val (.t 1))⟩,
  ⟨(some 28), none, (.val (.t 2))⟩,
  ⟨(some 29), none, (.val (.t 4))⟩,
  ⟨(some 30), none, (.call 39 [(.t 26), (.t 27), (.t 28), (.t 29)])⟩]
theorem r35_4 {fn : AFun} {K : List AItem} {t : Nat → AV} {H : AH} {T : Tbl} : runR T fn (.code (.reg d35_4) :: K) t H = regR T fn K (aops (callR T) [
  ⟨(some 26), none, (.val (.t 0))⟩,
  ⟨(some 27), none, (.val (.t 1))⟩,
  ⟨(some 28), none, (.val (.t 2))⟩,
  ⟨(some 29), none, (.val (.t 4))⟩,
  ⟨(some 30), none, (.call 39 [(.t 26), (.t 27), (.t 28), (.t 29)])⟩] t H) := runR_reg'
def d35_5 : List AOper := [
  ⟨(some 31), none, (.val (.t 3))⟩,
  ⟨(some 32), none, (.bin .eql (.t 31) (.c (.i .i64 0)))⟩]
theorem r35_5 {fn : AFun} {K : List AItem} {t : Nat → AV} {H : AH} {T : Tbl} : runR T fn (.code (.reg d35_5) :: K) t H = regR T fn K (aops (callR T) [
  ⟨(some 31), none, (.val (.t 3))⟩,
  ⟨(some 32), none, (.bin .eql (.t 31) (.c (.i .i64 0)))⟩] t H) := runR_reg'
def d35_6 : List AOper := [
  ⟨(some 33), none, (.val (.t 0))⟩,
  ⟨(some 34), none, (.val (.t 1))⟩,
  ⟨(some 35), none, (.val (.t 2))⟩,
  ⟨(some 36), none, (.val (.t 4))⟩,
  ⟨(some 37), none, (.call 40 [(.t 33), (.t 34), (.t 35), (.t 36)])⟩]
theorem r35_6 {fn : AFun} {K : List AItem} {t : Nat → AV} {H : AH} {T : Tbl} : runR T fn (.code (.reg d35_6) :: K) t H = regR T fn K (aops (callR T) [
  ⟨(some 33), none, (.val (.t 0))⟩,
  ⟨(some 34), none, (.val (.t 1))⟩,
  ⟨(some 35), none, (.val (.t 2))⟩,
  ⟨(some 36), none, (.val (.t 4))⟩,
  ⟨(some 37), none, (.call 40 [(.t 33), (.t 34), (.t 35), (.t 36)])⟩] t H) := runR_reg'
def d35_7 : List AOper := [
  ⟨(some 38), none, (.val (.t 10))⟩,
  ⟨(some 39), none, (.un .not (.t 38))⟩]
theorem r35_7 {fn : AFun} {K : List AItem} {t : Nat → AV} {H : AH} {T : Tbl} : runR T fn (.code (.reg d35_7) :: K) t H = regR T fn K (aops (callR T) [
  ⟨(some 38), none, (.val (.t 10))⟩,
  ⟨(some 39), none, (.un .not (.t 38))⟩] t H) := runR_reg'
def d35_8 : List AOper := [
  ⟨(some 40), none, (.val (.t 0))⟩,
  ⟨(some 41), none, (.val (.t 1))⟩,
  ⟨(some 42), none, (.val (.t 2))⟩,
  ⟨(some 43), none, (.val (.t 4))⟩,
  ⟨(some 44), none, (.call 41 [(.t 40), (.t 41), (.t 42), (.t 43)])⟩]
theorem r35_8 {fn : AFun} {K : List AItem} {t : Nat → AV} {H : AH} {T : Tbl} : runR T fn (.code (.reg d35_8) :: K) t H = regR T fn K (aops (callR T) [
  ⟨(some 40), none, (.val (.t 0))⟩,
  ⟨(some 41), none, (.val (.t 1))⟩,
  ⟨(some 42), none, (.val (.t 2))⟩,
  ⟨(some 43), none, (.val (.t 4))⟩,
  ⟨(some 44), none, (.call 41 [(.t 40), (.t 41), (.t 42), (.t 43)])⟩] t H) := runR_reg'
def d35_9 : List AOper := [
  ⟨(some 45), none, (.val (.t 3))⟩,
  ⟨(some 46), none, (.bin .sub (.t 45) (.c (.i .i64 1)))⟩,
  ⟨(some 3), none, (.val (.t 46))⟩]
theorem r35_9 {fn : AFun} {K : List AItem} {t : Nat → AV} {H : AH} {T : Tbl} : runR T fn (.code (.reg d35_9) :: K) t H = regR T fn K (aops (callR T) [
  ⟨(some 45), none, (.val (.t 3))⟩,
  ⟨(some 46), none, (.bin .sub (.t 45) (.c (.i .i64 1)))⟩,
  ⟨(some 3), none, (.val (.t 46))⟩] t H) := runR_reg'
def d35_10 : List AOper := [
  ⟨(some 48), none, (.val (.t 0))⟩,
  ⟨(some 49), none, (.val (.t 1))⟩,
  ⟨(some 50), none, (.val (.t 2))⟩,
  ⟨(some 51), none, (.val (.t 4))⟩,
  ⟨(some 52), none, (.call 42 [(.t 48), (.t 49), (.t 50), (.t 51)])⟩,
  ⟨(some 47), none, (.val (.t 52))⟩,
  ⟨(some 53), none, (.ext (.t 47) 0)⟩,
  ⟨(some 54), none, (.ext (.t 47) 1)⟩,
  ⟨(some 13), none, (.val (.t 53))⟩,
  ⟨(some 14), none, (.val (.t 54))⟩]
theorem r35_10 {fn : AFun} {K : List AItem} {t : Nat → AV} {H : AH} {T : Tbl} : runR T fn (.code (.reg d35_10) :: K) t H = regR T fn K (aops (callR T) [
  ⟨(some 48), none, (.val (.t 0))⟩,
  ⟨(some 49), none, (.val (.t 1))⟩,
  ⟨(some 50), none, (.val (.t 2))⟩,
  ⟨(some 51), none, (.val (.t 4))⟩,
  ⟨(some 52), none, (.call 42 [(.t 48), (.t 49), (.t 50), (.t 51)])⟩,
  ⟨(some 47), none, (.val (.t 52))⟩,
  ⟨(some 53), none, (.ext (.t 47) 0)⟩,
  ⟨(some 54), none, (.ext (.t 47) 1)⟩,
  ⟨(some 13), none, (.val (.t 53))⟩,
  ⟨(some 14), none, (.val (.t 54))⟩] t H) := runR_reg'
def d35_11 : List AOper := [
  ⟨(some 55), none, (.val (.t 14))⟩,
  ⟨(some 56), none, (.bin .eql (.t 55) (.c (.i .i64 2)))⟩]
theorem r35_11 {fn : AFun} {K : List AItem} {t : Nat → AV} {H : AH} {T : Tbl} : runR T fn (.code (.reg d35_11) :: K) t H = regR T fn K (aops (callR T) [
  ⟨(some 55), none, (.val (.t 14))⟩,
  ⟨(some 56), none, (.bin .eql (.t 55) (.c (.i .i64 2)))⟩] t H) := runR_reg'
def d35_12 : List AOper := [
  ⟨(some 57), none, (.val (.t 0))⟩,
  ⟨(some 58), none, (.val (.t 1))⟩,
  ⟨(some 59), none, (.val (.t 2))⟩,
  ⟨(some 60), none, (.val (.t 4))⟩,
  ⟨(some 61), none, (.call 43 [(.t 57), (.t 58), (.t 59), (.t 60)])⟩]
theorem r35_12 {fn : AFun} {K : List AItem} {t : Nat → AV} {H : AH} {T : Tbl} : runR T fn (.code (.reg d35_12) :: K) t H = regR T fn K (aops (callR T) [
  ⟨(some 57), none, (.val (.t 0))⟩,
  ⟨(some 58), none, (.val (.t 1))⟩,
  ⟨(some 59), none, (.val (.t 2))⟩,
  ⟨(some 60), none, (.val (.t 4))⟩,
  ⟨(some 61), none, (.call 43 [(.t 57), (.t 58), (.t 59), (.t 60)])⟩] t H) := runR_reg'
def d35_13 : List AOper := [
  ⟨(some 62), none, (.val (.t 2))⟩,
  ⟨(some 63), none, (.bin .sub (.t 62) (.c (.i .i64 1)))⟩,
  ⟨(some 64), none, (.val (.t 13))⟩,
  ⟨(some 65), none, (.val (.t 1))⟩,
  ⟨(some 66), none, (.bin .sub (.t 64) (.t 65))⟩,
  ⟨(some 67), none, (.bin .sub (.t 63) (.t 66))⟩,
  ⟨(some 13), none, (.val (.t 67))⟩]
theorem r35_13 {fn : AFun} {K : List AItem} {t : Nat → AV} {H : AH} {T : Tbl} : runR T fn (.code (.reg d35_13) :: K) t H = regR T fn K (aops (callR T) [
  ⟨(some 62), none, (.val (.t 2))⟩,
  ⟨(some 63), none, (.bin .sub (.t 62) (.c (.i .i64 1)))⟩,
  ⟨(some 64), none, (.val (.t 13))⟩,
  ⟨(some 65), none, (.val (.t 1))⟩,
  ⟨(some 66), none, (.bin .sub (.t 64) (.t 65))⟩,
  ⟨(some 67), none, (.bin .sub (.t 63) (.t 66))⟩,
  ⟨(some 13), none, (.val (.t 67))⟩] t H) := runR_reg'
def d35_14 : List AOper := [
  ⟨(some 14), none, (.val (.c (.i .i64 1)))⟩]
theorem r35_14 {fn : AFun} {K : List AItem} {t : Nat → AV} {H : AH} {T : Tbl} : runR T fn (.code (.reg d35_14) :: K) t H = regR T fn K (aops (callR T) [
  ⟨(some 14), none, (.val (.c (.i .i64 1)))⟩] t H) := runR_reg'
def d35_15 : List AOper := [
  ⟨(some 68), none, (.val (.t 10))⟩,
  ⟨(some 69), none, (.val (.t 68))⟩,
  ⟨(some 70), (some (69, true)), (.val (.t 11))⟩,
  ⟨(some 71), none, (.pick (.t 69) (.t 70) (.c (.b false)))⟩,
  ⟨(some 72), none, (.val (.t 71))⟩,
  ⟨(some 73), (some (72, true)), (.val (.t 14))⟩,
  ⟨(some 74), (some (72, true)), (.bin .eql (.t 73) (.c (.i .i64 1)))⟩,
  ⟨(some 75), none, (.pick (.t 72) (.t 74) (.c (.b false)))⟩]
theorem r35_15 {fn : AFun} {K : List AItem} {t : Nat → AV} {H : AH} {T : Tbl} : runR T fn (.code (.reg d35_15) :: K) t H = regR T fn K (aops (callR T) [
  ⟨(some 68), none, (.val (.t 10))⟩,
  ⟨(some 69), none, (.val (.t 68))⟩,
  ⟨(some 70), (some (69, true)), (.val (.t 11))⟩,
  ⟨(some 71), none, (.pick (.t 69) (.t 70) (.c (.b false)))⟩,
  ⟨(some 72), none, (.val (.t 71))⟩,
  ⟨(some 73), (some (72, true)), (.val (.t 14))⟩,
  ⟨(some 74), (some (72, true)), (.bin .eql (.t 73) (.c (.i .i64 1)))⟩,
  ⟨(some 75), none, (.pick (.t 72) (.t 74) (.c (.b false)))⟩] t H) := runR_reg'
def d35_16 : List AOper := [
  ⟨(some 76), none, (.val (.t 0))⟩,
  ⟨(some 77), none, (.val (.t 1))⟩,
  ⟨(some 78), none, (.val (.t 2))⟩,
  ⟨(some 79), none, (.val (.t 4))⟩,
  ⟨(some 80), none, (.call 44 [(.t 76), (.t 77), (.t 78), (.t 79)])⟩]
theorem r35_16 {fn : AFun} {K : List AItem} {t : Nat → AV} {H : AH} {T : Tbl} : runR T fn (.code (.reg d35_16) :: K) t H = regR T fn K (aops (callR T) [
  ⟨(some 76), none, (.val (.t 0))⟩,
  ⟨(some 77), none, (.val (.t 1))⟩,
  ⟨(some 78), none, (.val (.t 2))⟩,
  ⟨(some 79), none, (.val (.t 4))⟩,
  ⟨(some 80), none, (.call 44 [(.t 76), (.t 77), (.t 78), (.t 79)])⟩] t H) := runR_reg'
def d35_17 : List (AOper × List Nat) := [
  (⟨(some 81), none, (.val (.t 1))⟩, []),
  (⟨(some 82), none, (.bin .gtr (.t 81) (.c (.i .i64 0)))⟩, []),
  (⟨(some 83), none, (.val (.t 82))⟩, []),
  (⟨(some 84), (some (83, true)), (.val (.t 4))⟩, []),
  (⟨(some 85), (some (83, true)), (.val (.t 0))⟩, []),
  (⟨(some 86), (some (83, true)), (.val (.t 1))⟩, []),
  (⟨(some 87), (some (83, true)), (.bin .sub (.t 86) (.c (.i .i64 1)))⟩, []),
  (⟨(some 88), (some (83, true)), (.ia 1 (.t 85) (.t 87))⟩, []),
  (⟨(some 89), (some (83, true)), (.ld none (.t 88))⟩, [1]),
  (⟨(some 90), (some (83, true)), (.val (.t 0))⟩, []),
  (⟨(some 91), (some (83, true)), (.val (.t 13))⟩, []),
  (⟨(some 92), (some (83, true)), (.ia 1 (.t 90) (.t 91))⟩, []),
  (⟨(some 93), (some (83, true)), (.ld none (.t 92))⟩, [1]),
  (⟨(some 94), (some (83, true)), (.callv (.t 84) [(.t 89), (.t 93)])⟩, []),
  (⟨(some 95), (some (83, true)), (.bin .lss (.t 94) (.c (.i .i64 0)))⟩, []),
  (⟨(some 96), (some (83, true)), (.un .not (.t 95))⟩, []),
  (⟨(some 97), none, (.pick (.t 83) (.t 96) (.c (.b false)))⟩, [])]
theorem r35_17 {fn : AFun} {K : List AItem} {t : Nat → AV} {H : AH} {T : Tbl} : runR T fn (.code (.drw d35_17) :: K) t H = regR T fn K (aops (callR T) [
  ⟨(some 81), none, (.val (.t 1))⟩,
  ⟨(some 82), none, (.bin .gtr (.t 81) (.c (.i .i64 0)))⟩,
  ⟨(some 83), none, (.val (.t 82))⟩,
  ⟨(some 84), (some (83, true)), (.val (.t 4))⟩,
  ⟨(some 85), (some (83, true)), (.val (.t 0))⟩,
  ⟨(some 86), (some (83, true)), (.val (.t 1))⟩,
  ⟨(some 87), (some (83, true)), (.bin .sub (.t 86) (.c (.i .i64 1)))⟩,
  ⟨(some 88), (some (83, true)), (.ia 1 (.t 85) (.t 87))⟩,
  ⟨(some 89), (some (83, true)), (.ld none (.t 88))⟩,
  ⟨(some 90), (some (83, true)), (.val (.t 0))⟩,
  ⟨(some 91), (some (83, true)), (.val (.t 13))⟩,
  ⟨(some 92), (some (83, true)), (.ia 1 (.t 90) (.t 91))⟩,
  ⟨(some 93), (some (83, true)), (.ld none (.t 92))⟩,
  ⟨(some 94), (some (83, true)), (.callv (.t 84) [(.t 89), (.t 93)])⟩,
  ⟨(some 95), (some (83, true)), (.bin .lss (.t 94) (.c (.i .i64 0)))⟩,
  ⟨(some 96), (some (83, true)), (.un .not (.t 95))⟩,
  ⟨(some 97), none, (.pick (.t 83) (.t 96) (.c (.b false)))⟩] t H) := runR_plain rfl
def d35_18 : List AOper := [
  ⟨(some 98), none, (.val (.t 0))⟩,
  ⟨(some 99), none, (.val (.t 1))⟩,
  ⟨(some 100), none, (.val (.t 2))⟩,
  ⟨(some 101), none, (.val (.t 13))⟩,
  ⟨(some 102), none, (.val (.t 4))⟩,
  ⟨(some 103), none, (.call 45 [(.t 98), (.t 99), (.t 100), (.t 101), (.t 102)])⟩,
  ⟨(some 15), none, (.val (.t 103))⟩]
theorem r35_18 {fn : AFun} {K : List AItem} {t : Nat → AV} {H : AH} {T : Tbl} : runR T fn (.code (.reg d35_18) :: K) t H = regR T fn K (aops (callR T) [
  ⟨(some 98), none, (.val (.t 0))⟩,
  ⟨(some 99), none, (.val (.t 1))⟩,
  ⟨(some 100), none, (.val (.t 2))⟩,
  ⟨(some 101), none, (.val (.t 13))⟩,
  ⟨(some 102), none, (.val (.t 4))⟩,
  ⟨(some 103), none, (.call 45 [(.t 98), (.t 99), (.t 100), (.t 101), (.t 102)])⟩,
  ⟨(some 15), none, (.val (.t 103))⟩] t H) := runR_reg'
def d35_19 : List AOper := [
  ⟨(some 104), none, (.val (.t 15))⟩,
  ⟨(some 1), none, (.val (.t 104))⟩]
theorem r35_19 {fn : AFun} {K : List AItem} {t : Nat → AV} {H : AH} {T : Tbl} : runR T fn (.code (.reg d35_19) :: K) t H = regR T fn K (aops (callR T) [
  ⟨(some 104), none, (.val (.t 15))⟩,
  ⟨(some 1), none, (.val (.t 104))⟩] t H) := runR_reg'
def d35_20 : List AOper := [
  ⟨(some 106), none, (.val (.t 0))⟩,
  ⟨(some 107), none, (.val (.t 1))⟩,
  ⟨(some 108), none, (.val (.t 2))⟩,
  ⟨(some 109), none, (.val (.t 13))⟩,
  ⟨(some 110), none, (.val (.t 4))⟩,
  ⟨(some 111), none, (.call 46 [(.t 106), (.t 107), (.t 108), (.t 109), (.t 110)])⟩,
  ⟨(some 105), none, (.val (.t 111))⟩,
  ⟨(some 112), none, (.ext (.t 105) 0)⟩,
  ⟨(some 113), none, (.ext (.t 105) 1)⟩,
  ⟨(some 16), none, (.val (.t 112))⟩,
  ⟨(some 17), none, (.val (.t 113))⟩]
theorem r35_20 {fn : AFun} {K : List AItem} {t : Nat → AV} {H : AH} {T : Tbl} : runR T fn (.code (.reg d35_20) :: K) t H = regR T fn K (aops (callR T) [
  ⟨(some 106), none, (.val (.t 0))⟩,
  ⟨(some 107), none, (.val (.t 1))⟩,
  ⟨(some 108), none, (.val (.t 2))⟩,
  ⟨(some 109), none, (.val (.t 13))⟩,
  ⟨(some 110), none, (.val (.t 4))⟩,
  ⟨(some 111), none, (.call 46 [(.t 106), (.t 107), (.t 108), (.t 109), (.t 110)])⟩,
  ⟨(some 105), none, (.val (.t 111))⟩,
  ⟨(some 112), none, (.ext (.t 105) 0)⟩,
  ⟨(some 113), none, (.ext (.t 105) 1)⟩,
  ⟨(some 16), none, (.val (.t 112))⟩,
  ⟨(some 17), none, (.val (.t 113))⟩] t H) := runR_reg'
def d35_21 : List AOper := [
  ⟨(some 114), none, (.val (.t 17))⟩,
  ⟨(some 11), none, (.val (.t 114))⟩]
theorem r35_21 {fn : AFun} {K : List AItem} {t : Nat → AV} {H : AH} {T : Tbl} : runR T fn (.code (.reg d35_21) :: K) t H = regR T fn K (aops (callR T) [
  ⟨(some 114), none, (.val (.t 17))⟩,
  ⟨(some 11), none, (.val (.t 114))⟩] t H) := runR_reg'
def d35_22 : List AOper := [
  ⟨(some 115), none, (.val (.t 16))⟩,
  ⟨(some 116), none, (.val (.t 1))⟩,
  ⟨(some 117), none, (.bin .sub (.t 115) (.t 116))⟩,
  ⟨(some 118), none, (.val (.t 2))⟩,
  ⟨(some 119), none, (.val (.t 16))⟩,
  ⟨(some 120), none, (.bin .sub (.t 118) (.t 119))⟩,
  ⟨(some 18), none, (.val (.t 117))⟩,
  ⟨(some 19), none, (.val (.t 120))⟩]
theorem r35_22 {fn : AFun} {K : List AItem} {t : Nat → AV} {H : AH} {T : Tbl} : runR T fn (.code (.reg d35_22) :: K) t H = regR T fn K (aops (callR T) [
  ⟨(some 115), none, (.val (.t 16))⟩,
  ⟨(some 116), none, (.val (.t 1))⟩,
  ⟨(some 117), none, (.bin .sub (.t 115) (.t 116))⟩,
  ⟨(some 118), none, (.val (.t 2))⟩,
  ⟨(some 119), none, (.val (.t 16))⟩,
  ⟨(some 120), none, (.bin .sub (.t 118) (.t 119))⟩,
  ⟨(some 18), none, (.val (.t 117))⟩,
  ⟨(some 19), none, (.val (.t 120))⟩] t H) := runR_reg'
def d35_23 : List AOper := [
  ⟨(some 121), none, (.val (.t 12))⟩,
  ⟨(some 122), none, (.bin .quo (.t 121) (.c (.i .i64 8)))⟩,
  ⟨(some 20), none, (.val (.t 122))⟩]
theorem r35_23 {fn : AFun} {K : List AItem} {t : Nat → AV} {H : AH} {T : Tbl} : runR T fn (.code (.reg d35_23) :: K) t H = regR T fn K (aops (callR T) [
  ⟨(some 121), none, (.val (.t 12))⟩,
  ⟨(some 122), none, (.bin .quo (.t 121) (.c (.i .i64 8)))⟩,
  ⟨(some 20), none, (.val (.t 122))⟩] t H) := runR_reg'
def d35_24 : List AOper := [
  ⟨(some 123), none, (.val (.t 18))⟩,
  ⟨(some 124), none, (.val (.t 19))⟩,
  ⟨(some 125), none, (.bin .lss (.t 123) (.t 124))⟩]
theorem r35_24 {fn : AFun} {K : List AItem} {t : Nat → AV} {H : AH} {T : Tbl} : runR T fn (.code (.reg d35_24) :: K) t H = regR T fn K (aops (callR T) [
  ⟨(some 123), none, (.val (.t 18))⟩,
  ⟨(some 124), none, (.val (.t 19))⟩,
  ⟨(some 125), none, (.bin .lss (.t 123) (.t 124))⟩] t H) := runR_reg'
def d35_25 : List AOper := [
  ⟨(some 126), none, (.val (.t 18))⟩,
  ⟨(some 127), none, (.val (.t 20))⟩,
  ⟨(some 128), none, (.bin .geq (.t 126) (.t 127))⟩,
  ⟨(some 10), none, (.val (.t 128))⟩]
theorem r35_25 {fn : AFun} {K : List AItem} {t : Nat → AV} {H : AH} {T : Tbl} : runR T fn (.code (.reg d35_25) :: K) t H = regR T fn K (aops (callR T) [
  ⟨(some 126), none, (.val (.t 18))⟩,
  ⟨(some 127), none, (.val (.t 20))⟩,
  ⟨(some 128), none, (.bin .geq (.t 126) (.t 127))⟩,
  ⟨(some 10), none, (.val (.t 128))⟩] t H) := runR_reg'
def d35_26 : List AOper := [
  ⟨(some 129), none, (.val (.t 0))⟩,
  ⟨(some 130), none, (.val (.t 1))⟩,
  ⟨(some 131), none, (.val (.t 16))⟩,
  ⟨(some 132), none, (.val (.t 3))⟩,
  ⟨(some 133), none, (.val (.t 4))⟩,
  ⟨(some 134), none, (.call 35 [(.t 129), (.t 130), (.t 131), (.t 132), (.t 133)])⟩]
theorem r35_26 {fn : AFun} {K : List AItem} {t : Nat → AV} {H : AH} {T : Tbl} : runR T fn (.code (.reg d35_26) :: K) t H = regR T fn K (aops (callR T) [
  ⟨(some 129), none, (.val (.t 0))⟩,
  ⟨(some 130), none, (.val (.t 1))⟩,
  ⟨(some 131), none, (.val (.t 16))⟩,
  ⟨(some 132), none, (.val (.t 3))⟩,
  ⟨(some 133), none, (.val (.t 4))⟩,
  ⟨(some 134), none, (.call 35 [(.t 129), (.t 130), (.t 131), (.t 132), (.t 133)])⟩] t H) := runR_reg'
def d35_27 : List AOper := [
  ⟨(some 135), none, (.val (.t 16))⟩,
  ⟨(some 136), none, (.bin .add (.t 135) (.c (.i .i64 1)))⟩,
  ⟨(some 1), none, (.val (.t 136))⟩]
theorem r35_27 {fn : AFun} {K : List AItem} {t : Nat → AV} {H : AH} {T : Tbl} : runR T fn (.code (.reg d35_27) :: K) t H = regR T fn K (aops (callR T) [
  ⟨(some 135), none, (.val (.t 16))⟩,
  ⟨(some 136), none, (.bin .add (.t 135) (.c (.i .i64 1)))⟩,
  ⟨(some 1), none, (.val (.t 136))⟩] t H) := runR_reg'
def d35_28 : List AOper := [
  ⟨(some 137), none, (.val (.t 19))⟩,
  ⟨(some 138), none, (.val (.t 20))⟩,
  ⟨(some 139), none, (.bin .geq (.t 137) (.t 138))⟩,
  ⟨(some 10), none, (.val (.t 139))⟩]
theorem r35_28 {fn : AFun} {K : List AItem} {t : Nat → AV} {H : AH} {T : Tbl} : runR T fn (.code (.reg d35_28) :: K) t H = regR T fn K (aops (callR T) [
  ⟨(some 137), none, (.val (.t 19))⟩,
  ⟨(some 138), none, (.val (.t 20))⟩,
  ⟨(some 139), none, (.bin .geq (.t 137) (.t 138))⟩,
  ⟨(some 10), none, (.val (.t 139))⟩] t H) := runR_reg'
def d35_29 : List AOper := [
  ⟨(some 140), none, (.val (.t 0))⟩,
  ⟨(some 141), none, (.val (.t 16))⟩,
  ⟨(some 142), none, (.bin .add (.t 141) (.c (.i .i64 1)))⟩,
  ⟨(some 143), none, (.val (.t 2))⟩,
  ⟨(some 144), none, (.val (.t 3))⟩,
  ⟨(some 145), none, (.val (.t 4))⟩,
  ⟨(some 146), none, (.call 35 [(.t 140), (.t 142), (.t 143), (.t 144), (.t 145)])⟩]
theorem r35_29 {fn : AFun} {K : List AItem} {t : Nat → AV} {H : AH} {T : Tbl} : runR T fn (.code (.reg d35_29) :: K) t H = regR T fn K (aops (callR T) [
  ⟨(some 140), none, (.val (.t 0))⟩,
  ⟨(some 141), none, (.val (.t 16))⟩,
  ⟨(some 142), none, (.bin .add (.t 141) (.c (.i .i64 1)))⟩,
  ⟨(some 143), none, (.val (.t 2))⟩,
  ⟨(some 144), none, (.val (.t 3))⟩,
  ⟨(some 145), none, (.val (.t 4))⟩,
  ⟨(some 146), none, (.call 35 [(.t 140), (.t 142), (.t 143), (.t 144), (.t 145)])⟩] t H) := runR_reg'
def d35_30 : List AOper := [
  ⟨(some 147), none, (.val (.t 16))⟩,
  ⟨(some 2), none, (.val (.t 147))⟩]
theorem r35_30 {fn : AFun} {K : List AItem} {t : Nat → AV} {H : AH} {T : Tbl} : runR T fn (.code (.reg d35_30) :: K) t H = regR T fn K (aops (callR T) [
  ⟨(some 147), none, (.val (.t 16))⟩,
  ⟨(some 2), none, (.val (.t 147))⟩] t H) := runR_reg'
def l35_31 : ACode := (.block 1 (.seq (.reg d35_2) (.seq (.seq (.reg d35_3) (.cond (.t 25) (.seq (.reg d35_4) .ret) .skip)) (.seq (.seq (.reg d35_5) (.cond (.t 32) (.seq (.reg d35_6) .ret) .skip)) (.seq (.seq (.reg d35_7) (.cond (.t 39) (.seq (.reg d35_8) (.reg d35_9)) .skip)) (.seq (.reg d35_10) (.seq (.seq (.reg d35_11) (.cond (.t 56) (.seq (.reg d35_12) (.seq (.reg d35_13) (.reg d35_14))) .skip)) (.seq (.seq (.reg d35_15) (.cond (.t 75) (.seq (.reg d35_16) (.cond (.t 80) .ret .skip)) .skip)) (.seq (.seq (.drw d35_17) (.cond (.t 97) (.seq (.reg d35_18) (.seq (.reg d35_19) (.exit 1))) .skip)) (.seq (.reg d35_20) (.seq (.reg d35_21) (.seq (.reg d35_22) (.seq (.reg d35_23) (.seq (.reg d35_24) (.cond (.t 125) (.seq (.reg d35_25) (.seq (.reg d35_26) (.reg d35_27))) (.seq (.reg d35_28) (.seq (.reg d35_29) (.reg d35_30))))))))))))))))))
def a35 : AFun := ⟨148, [], (.seq (.reg d35_0) (.seq (.reg d35_1) (.block 0 (.loop l35_31))))⟩
theorem a35_ok : cfun Try.prog 35 = some a35 := by kernel_rfl
end Go.Proofs.Ytaolkpkaiidmeaa.Abs
