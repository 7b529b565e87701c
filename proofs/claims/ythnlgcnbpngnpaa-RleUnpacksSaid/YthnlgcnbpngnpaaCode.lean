/- The functions that the laws of this seat reach, in the plain machine's form, and that they are the loaded ones. Printed by a program of this seat's own (gencode.py). No condition of its own. -/
import Derived.Test.YthnlgcnbpngnpaaProg
import Derived.Test.YthnlgcnbpngnpaaAbs3
import Derived.Test.YthnlgcnbpngnpaaEval
import Derived.KernelRfl
namespace Go.Proofs.Ythnlgcnbpngnpaa.Abs
set_option linter.unusedVariables false
set_option maxRecDepth 100000
/-- futtock/futtocklaw34.RlePacks -/
def d3_0 : List AOper := [
  ⟨(some 2), none, (.val (.c (.b false)))⟩]
theorem r3_0 {fn : AFun} {K : List AItem} {t : Nat → AV} {H : AH} {T : Tbl} : runR T fn (.code (.reg d3_0) :: K) t H = regR T fn K (aops (callR T) [
  ⟨(some 2), none, (.val (.c (.b false)))⟩] t H) := runR_reg'
def d3_1 : List AOper := [
  ⟨(some 12), none, (.val (.t 0))⟩,
  ⟨(some 13), none, (.len (.t 12))⟩,
  ⟨(some 14), none, (.bin .gtr (.t 13) (.c (.i .i64 2000)))⟩,
  ⟨(some 15), none, (.val (.t 14))⟩,
  ⟨(some 16), (some (15, true)), (.val (.t 0))⟩,
  ⟨(some 17), (some (15, true)), (.len (.t 16))⟩,
  ⟨(some 18), (some (15, true)), (.bin .leq (.t 17) (.c (.i .i64 100000)))⟩,
  ⟨(some 19), none, (.pick (.t 15) (.t 18) (.c (.b false)))⟩]
theorem r3_1 {fn : AFun} {K : List AItem} {t : Nat → AV} {H : AH} {T : Tbl} : runR T fn (.code (.reg d3_1) :: K) t H = regR T fn K (aops (callR T) [
  ⟨(some 12), none, (.val (.t 0))⟩,
  ⟨(some 13), none, (.len (.t 12))⟩,
  ⟨(some 14), none, (.bin .gtr (.t 13) (.c (.i .i64 2000)))⟩,
  ⟨(some 15), none, (.val (.t 14))⟩,
  ⟨(some 16), (some (15, true)), (.val (.t 0))⟩,
  ⟨(some 17), (some (15, true)), (.len (.t 16))⟩,
  ⟨(some 18), (some (15, true)), (.bin .leq (.t 17) (.c (.i .i64 100000)))⟩,
  ⟨(some 19), none, (.pick (.t 15) (.t 18) (.c (.b false)))⟩] t H) := runR_reg'
def d3_2 : List AOper := [
  ⟨(some 20), none, (.call 7 [])⟩,
  ⟨(some 2), none, (.val (.t 20))⟩]
theorem r3_2 {fn : AFun} {K : List AItem} {t : Nat → AV} {H : AH} {T : Tbl} : runR T fn (.code (.reg d3_2) :: K) t H = regR T fn K (aops (callR T) [
  ⟨(some 20), none, (.call 7 [])⟩,
  ⟨(some 2), none, (.val (.t 20))⟩] t H) := runR_reg'
def d3_3 : List AOper := [
  ⟨(some 22), none, (.val (.t 0))⟩,
  ⟨(some 23), none, (.call 8 [(.t 22)])⟩,
  ⟨(some 21), none, (.val (.t 23))⟩,
  ⟨(some 24), none, (.ext (.t 21) 0)⟩,
  ⟨(some 25), none, (.ext (.t 21) 1)⟩,
  ⟨(some 3), none, (.val (.t 24))⟩,
  ⟨(some 4), none, (.val (.t 25))⟩]
theorem r3_3 {fn : AFun} {K : List AItem} {t : Nat → AV} {H : AH} {T : Tbl} : runR T fn (.code (.reg d3_3) :: K) t H = regR T fn K (aops (callR T) [
  ⟨(some 22), none, (.val (.t 0))⟩,
  ⟨(some 23), none, (.call 8 [(.t 22)])⟩,
  ⟨(some 21), none, (.val (.t 23))⟩,
  ⟨(some 24), none, (.ext (.t 21) 0)⟩,
  ⟨(some 25), none, (.ext (.t 21) 1)⟩,
  ⟨(some 3), none, (.val (.t 24))⟩,
  ⟨(some 4), none, (.val (.t 25))⟩] t H) := runR_reg'
def d3_4 : List AOper := [
  ⟨(some 27), none, (.val (.t 0))⟩,
  ⟨(some 28), none, (.call 9 [(.t 27)])⟩,
  ⟨(some 26), none, (.val (.t 28))⟩,
  ⟨(some 29), none, (.ext (.t 26) 0)⟩,
  ⟨(some 30), none, (.ext (.t 26) 1)⟩,
  ⟨(some 5), none, (.val (.t 29))⟩,
  ⟨(some 6), none, (.val (.t 30))⟩]
theorem r3_4 {fn : AFun} {K : List AItem} {t : Nat → AV} {H : AH} {T : Tbl} : runR T fn (.code (.reg d3_4) :: K) t H = regR T fn K (aops (callR T) [
  ⟨(some 27), none, (.val (.t 0))⟩,
  ⟨(some 28), none, (.call 9 [(.t 27)])⟩,
  ⟨(some 26), none, (.val (.t 28))⟩,
  ⟨(some 29), none, (.ext (.t 26) 0)⟩,
  ⟨(some 30), none, (.ext (.t 26) 1)⟩,
  ⟨(some 5), none, (.val (.t 29))⟩,
  ⟨(some 6), none, (.val (.t 30))⟩] t H) := runR_reg'
def d3_5 : List AOper := [
  ⟨(some 31), none, (.val (.t 0))⟩,
  ⟨(some 32), none, (.len (.t 31))⟩,
  ⟨(some 33), none, (.bin .gtr (.t 32) (.c (.i .i64 100000)))⟩]
theorem r3_5 {fn : AFun} {K : List AItem} {t : Nat → AV} {H : AH} {T : Tbl} : runR T fn (.code (.reg d3_5) :: K) t H = regR T fn K (aops (callR T) [
  ⟨(some 31), none, (.val (.t 0))⟩,
  ⟨(some 32), none, (.len (.t 31))⟩,
  ⟨(some 33), none, (.bin .gtr (.t 32) (.c (.i .i64 100000)))⟩] t H) := runR_reg'
def d3_6 : List AOper := [
  ⟨(some 34), none, (.val (.t 3))⟩,
  ⟨(some 35), none, (.len (.t 34))⟩,
  ⟨(some 36), none, (.bin .eql (.t 35) (.c (.i .i64 0)))⟩,
  ⟨(some 37), none, (.val (.t 36))⟩,
  ⟨(some 38), (some (37, true)), (.val (.t 4))⟩,
  ⟨(some 39), (some (37, true)), (.bin .eql (.t 38) (.c (.i .i64 5)))⟩,
  ⟨(some 40), none, (.pick (.t 37) (.t 39) (.c (.b false)))⟩,
  ⟨(some 41), none, (.val (.t 40))⟩,
  ⟨(some 42), (some (41, true)), (.call 7 [])⟩,
  ⟨(some 43), none, (.pick (.t 41) (.t 42) (.c (.b false)))⟩,
  ⟨(some 2), none, (.val (.t 43))⟩]
theorem r3_6 {fn : AFun} {K : List AItem} {t : Nat → AV} {H : AH} {T : Tbl} : runR T fn (.code (.reg d3_6) :: K) t H = regR T fn K (aops (callR T) [
  ⟨(some 34), none, (.val (.t 3))⟩,
  ⟨(some 35), none, (.len (.t 34))⟩,
  ⟨(some 36), none, (.bin .eql (.t 35) (.c (.i .i64 0)))⟩,
  ⟨(some 37), none, (.val (.t 36))⟩,
  ⟨(some 38), (some (37, true)), (.val (.t 4))⟩,
  ⟨(some 39), (some (37, true)), (.bin .eql (.t 38) (.c (.i .i64 5)))⟩,
  ⟨(some 40), none, (.pick (.t 37) (.t 39) (.c (.b false)))⟩,
  ⟨(some 41), none, (.val (.t 40))⟩,
  ⟨(some 42), (some (41, true)), (.call 7 [])⟩,
  ⟨(some 43), none, (.pick (.t 41) (.t 42) (.c (.b false)))⟩,
  ⟨(some 2), none, (.val (.t 43))⟩] t H) := runR_reg'
def d3_7 : List AOper := [
  ⟨(some 45), none, (.val (.t 0))⟩,
  ⟨(some 46), none, (.call 10 [(.t 45)])⟩,
  ⟨(some 44), none, (.val (.t 46))⟩,
  ⟨(some 47), none, (.ext (.t 44) 0)⟩,
  ⟨(some 48), none, (.ext (.t 44) 1)⟩,
  ⟨(some 7), none, (.val (.t 47))⟩,
  ⟨(some 8), none, (.val (.t 48))⟩]
theorem r3_7 {fn : AFun} {K : List AItem} {t : Nat → AV} {H : AH} {T : Tbl} : runR T fn (.code (.reg d3_7) :: K) t H = regR T fn K (aops (callR T) [
  ⟨(some 45), none, (.val (.t 0))⟩,
  ⟨(some 46), none, (.call 10 [(.t 45)])⟩,
  ⟨(some 44), none, (.val (.t 46))⟩,
  ⟨(some 47), none, (.ext (.t 44) 0)⟩,
  ⟨(some 48), none, (.ext (.t 44) 1)⟩,
  ⟨(some 7), none, (.val (.t 47))⟩,
  ⟨(some 8), none, (.val (.t 48))⟩] t H) := runR_reg'
def d3_8 : List AOper := [
  ⟨(some 50), none, (.val (.t 0))⟩,
  ⟨(some 51), none, (.call 11 [(.t 50)])⟩,
  ⟨(some 49), none, (.val (.t 51))⟩,
  ⟨(some 52), none, (.ext (.t 49) 0)⟩,
  ⟨(some 53), none, (.ext (.t 49) 1)⟩,
  ⟨(some 54), none, (.ext (.t 49) 2)⟩,
  ⟨(some 9), none, (.val (.t 52))⟩,
  ⟨(some 10), none, (.val (.t 53))⟩,
  ⟨(some 11), none, (.val (.t 54))⟩]
theorem r3_8 {fn : AFun} {K : List AItem} {t : Nat → AV} {H : AH} {T : Tbl} : runR T fn (.code (.reg d3_8) :: K) t H = regR T fn K (aops (callR T) [
  ⟨(some 50), none, (.val (.t 0))⟩,
  ⟨(some 51), none, (.call 11 [(.t 50)])⟩,
  ⟨(some 49), none, (.val (.t 51))⟩,
  ⟨(some 52), none, (.ext (.t 49) 0)⟩,
  ⟨(some 53), none, (.ext (.t 49) 1)⟩,
  ⟨(some 54), none, (.ext (.t 49) 2)⟩,
  ⟨(some 9), none, (.val (.t 52))⟩,
  ⟨(some 10), none, (.val (.t 53))⟩,
  ⟨(some 11), none, (.val (.t 54))⟩] t H) := runR_reg'
def d3_9 : List AOper := [
  ⟨(some 55), none, (.val (.t 3))⟩,
  ⟨(some 56), none, (.cvs (.t 55))⟩,
  ⟨(some 57), none, (.val (.t 5))⟩,
  ⟨(some 58), none, (.cvs (.t 57))⟩,
  ⟨(some 59), none, (.bin .eql (.t 56) (.t 58))⟩,
  ⟨(some 60), none, (.val (.t 59))⟩,
  ⟨(some 61), (some (60, true)), (.val (.t 4))⟩,
  ⟨(some 62), (some (60, true)), (.val (.t 6))⟩,
  ⟨(some 63), (some (60, true)), (.bin .eql (.t 61) (.t 62))⟩,
  ⟨(some 64), none, (.pick (.t 60) (.t 63) (.c (.b false)))⟩,
  ⟨(some 65), none, (.val (.t 64))⟩,
  ⟨(some 66), (some (65, true)), (.val (.t 7))⟩,
  ⟨(some 67), (some (65, true)), (.val (.t 9))⟩,
  ⟨(some 68), (some (65, true)), (.bin .eql (.t 66) (.t 67))⟩,
  ⟨(some 69), none, (.pick (.t 65) (.t 68) (.c (.b false)))⟩,
  ⟨(some 70), none, (.val (.t 69))⟩,
  ⟨(some 71), (some (70, true)), (.val (.t 8))⟩,
  ⟨(some 72), (some (70, true)), (.val (.t 10))⟩,
  ⟨(some 73), (some (70, true)), (.bin .eql (.t 71) (.t 72))⟩,
  ⟨(some 74), none, (.pick (.t 70) (.t 73) (.c (.b false)))⟩,
  ⟨(some 75), none, (.val (.t 74))⟩,
  ⟨(some 76), (some (75, true)), (.val (.t 0))⟩,
  ⟨(some 77), (some (75, true)), (.call 12 [(.t 76)])⟩,
  ⟨(some 78), (some (75, true)), (.val (.t 11))⟩,
  ⟨(some 79), (some (75, true)), (.bin .eql (.t 77) (.t 78))⟩,
  ⟨(some 80), none, (.pick (.t 75) (.t 79) (.c (.b false)))⟩,
  ⟨(some 81), none, (.val (.t 80))⟩,
  ⟨(some 82), (some (81, true)), (.call 7 [])⟩,
  ⟨(some 83), none, (.pick (.t 81) (.t 82) (.c (.b false)))⟩,
  ⟨(some 2), none, (.val (.t 83))⟩]
theorem r3_9 {fn : AFun} {K : List AItem} {t : Nat → AV} {H : AH} {T : Tbl} : runR T fn (.code (.reg d3_9) :: K) t H = regR T fn K (aops (callR T) [
  ⟨(some 55), none, (.val (.t 3))⟩,
  ⟨(some 56), none, (.cvs (.t 55))⟩,
  ⟨(some 57), none, (.val (.t 5))⟩,
  ⟨(some 58), none, (.cvs (.t 57))⟩,
  ⟨(some 59), none, (.bin .eql (.t 56) (.t 58))⟩,
  ⟨(some 60), none, (.val (.t 59))⟩,
  ⟨(some 61), (some (60, true)), (.val (.t 4))⟩,
  ⟨(some 62), (some (60, true)), (.val (.t 6))⟩,
  ⟨(some 63), (some (60, true)), (.bin .eql (.t 61) (.t 62))⟩,
  ⟨(some 64), none, (.pick (.t 60) (.t 63) (.c (.b false)))⟩,
  ⟨(some 65), none, (.val (.t 64))⟩,
  ⟨(some 66), (some (65, true)), (.val (.t 7))⟩,
  ⟨(some 67), (some (65, true)), (.val (.t 9))⟩,
  ⟨(some 68), (some (65, true)), (.bin .eql (.t 66) (.t 67))⟩,
  ⟨(some 69), none, (.pick (.t 65) (.t 68) (.c (.b false)))⟩,
  ⟨(some 70), none, (.val (.t 69))⟩,
  ⟨(some 71), (some (70, true)), (.val (.t 8))⟩,
  ⟨(some 72), (some (70, true)), (.val (.t 10))⟩,
  ⟨(some 73), (some (70, true)), (.bin .eql (.t 71) (.t 72))⟩,
  ⟨(some 74), none, (.pick (.t 70) (.t 73) (.c (.b false)))⟩,
  ⟨(some 75), none, (.val (.t 74))⟩,
  ⟨(some 76), (some (75, true)), (.val (.t 0))⟩,
  ⟨(some 77), (some (75, true)), (.call 12 [(.t 76)])⟩,
  ⟨(some 78), (some (75, true)), (.val (.t 11))⟩,
  ⟨(some 79), (some (75, true)), (.bin .eql (.t 77) (.t 78))⟩,
  ⟨(some 80), none, (.pick (.t 75) (.t 79) (.c (.b false)))⟩,
  ⟨(some 81), none, (.val (.t 80))⟩,
  ⟨(some 82), (some (81, true)), (.call 7 [])⟩,
  ⟨(some 83), none, (.pick (.t 81) (.t 82) (.c (.b false)))⟩,
  ⟨(some 2), none, (.val (.t 83))⟩] t H) := runR_reg'
def a3 : AFun := ⟨84, [(.tmp 2)], (.seq (.reg d3_0) (.seq (.seq (.reg d3_1) (.cond (.t 19) (.seq (.reg d3_2) .ret) .skip)) (.seq (.reg d3_3) (.seq (.reg d3_4) (.seq (.seq (.reg d3_5) (.cond (.t 33) (.seq (.reg d3_6) .ret) .skip)) (.seq (.reg d3_7) (.seq (.reg d3_8) (.seq (.reg d3_9) .ret))))))))⟩
theorem a3_ok : cfun Try.prog 3 = some a3 := by kernel_rfl
/-- futtock/futtocklaw34.RleShort -/
def d4_0 : List AOper := [
  ⟨(some 2), none, (.val (.c (.b false)))⟩]
theorem r4_0 {fn : AFun} {K : List AItem} {t : Nat → AV} {H : AH} {T : Tbl} : runR T fn (.code (.reg d4_0) :: K) t H = regR T fn K (aops (callR T) [
  ⟨(some 2), none, (.val (.c (.b false)))⟩] t H) := runR_reg'
def d4_1 : List AOper := [
  ⟨(some 5), none, (.val (.t 0))⟩,
  ⟨(some 6), none, (.len (.t 5))⟩,
  ⟨(some 7), none, (.bin .gtr (.t 6) (.c (.i .i64 2000)))⟩]
theorem r4_1 {fn : AFun} {K : List AItem} {t : Nat → AV} {H : AH} {T : Tbl} : runR T fn (.code (.reg d4_1) :: K) t H = regR T fn K (aops (callR T) [
  ⟨(some 5), none, (.val (.t 0))⟩,
  ⟨(some 6), none, (.len (.t 5))⟩,
  ⟨(some 7), none, (.bin .gtr (.t 6) (.c (.i .i64 2000)))⟩] t H) := runR_reg'
def d4_2 : List AOper := [
  ⟨(some 8), none, (.call 7 [])⟩,
  ⟨(some 2), none, (.val (.t 8))⟩]
theorem r4_2 {fn : AFun} {K : List AItem} {t : Nat → AV} {H : AH} {T : Tbl} : runR T fn (.code (.reg d4_2) :: K) t H = regR T fn K (aops (callR T) [
  ⟨(some 8), none, (.call 7 [])⟩,
  ⟨(some 2), none, (.val (.t 8))⟩] t H) := runR_reg'
def d4_3 : List AOper := [
  ⟨(some 10), none, (.val (.t 0))⟩,
  ⟨(some 11), none, (.call 8 [(.t 10)])⟩,
  ⟨(some 9), none, (.val (.t 11))⟩,
  ⟨(some 12), none, (.ext (.t 9) 0)⟩,
  ⟨(some 13), none, (.ext (.t 9) 1)⟩,
  ⟨(some 3), none, (.val (.t 12))⟩,
  ⟨(some 4), none, (.val (.t 13))⟩]
theorem r4_3 {fn : AFun} {K : List AItem} {t : Nat → AV} {H : AH} {T : Tbl} : runR T fn (.code (.reg d4_3) :: K) t H = regR T fn K (aops (callR T) [
  ⟨(some 10), none, (.val (.t 0))⟩,
  ⟨(some 11), none, (.call 8 [(.t 10)])⟩,
  ⟨(some 9), none, (.val (.t 11))⟩,
  ⟨(some 12), none, (.ext (.t 9) 0)⟩,
  ⟨(some 13), none, (.ext (.t 9) 1)⟩,
  ⟨(some 3), none, (.val (.t 12))⟩,
  ⟨(some 4), none, (.val (.t 13))⟩] t H) := runR_reg'
def d4_4 : List AOper := [
  ⟨(some 14), none, (.val (.t 4))⟩,
  ⟨(some 15), none, (.bin .neq (.t 14) (.c (.i .i64 0)))⟩]
theorem r4_4 {fn : AFun} {K : List AItem} {t : Nat → AV} {H : AH} {T : Tbl} : runR T fn (.code (.reg d4_4) :: K) t H = regR T fn K (aops (callR T) [
  ⟨(some 14), none, (.val (.t 4))⟩,
  ⟨(some 15), none, (.bin .neq (.t 14) (.c (.i .i64 0)))⟩] t H) := runR_reg'
def d4_5 : List AOper := [
  ⟨(some 16), none, (.val (.t 3))⟩,
  ⟨(some 17), none, (.len (.t 16))⟩,
  ⟨(some 18), none, (.bin .eql (.t 17) (.c (.i .i64 0)))⟩,
  ⟨(some 19), none, (.val (.t 18))⟩,
  ⟨(some 20), (some (19, true)), (.call 7 [])⟩,
  ⟨(some 21), none, (.pick (.t 19) (.t 20) (.c (.b false)))⟩,
  ⟨(some 2), none, (.val (.t 21))⟩]
theorem r4_5 {fn : AFun} {K : List AItem} {t : Nat → AV} {H : AH} {T : Tbl} : runR T fn (.code (.reg d4_5) :: K) t H = regR T fn K (aops (callR T) [
  ⟨(some 16), none, (.val (.t 3))⟩,
  ⟨(some 17), none, (.len (.t 16))⟩,
  ⟨(some 18), none, (.bin .eql (.t 17) (.c (.i .i64 0)))⟩,
  ⟨(some 19), none, (.val (.t 18))⟩,
  ⟨(some 20), (some (19, true)), (.call 7 [])⟩,
  ⟨(some 21), none, (.pick (.t 19) (.t 20) (.c (.b false)))⟩,
  ⟨(some 2), none, (.val (.t 21))⟩] t H) := runR_reg'
def d4_6 : List AOper := [
  ⟨(some 22), none, (.val (.t 3))⟩,
  ⟨(some 23), none, (.len (.t 22))⟩,
  ⟨(some 24), none, (.val (.t 0))⟩,
  ⟨(some 25), none, (.len (.t 24))⟩,
  ⟨(some 26), none, (.bin .add (.t 25) (.c (.i .i64 1)))⟩,
  ⟨(some 27), none, (.bin .leq (.t 23) (.t 26))⟩,
  ⟨(some 28), none, (.val (.t 27))⟩,
  ⟨(some 29), (some (28, true)), (.val (.t 3))⟩,
  ⟨(some 30), (some (28, true)), (.len (.t 29))⟩,
  ⟨(some 31), (some (28, true)), (.val (.t 0))⟩,
  ⟨(some 32), (some (28, true)), (.call 12 [(.t 31)])⟩,
  ⟨(some 33), (some (28, true)), (.bin .add (.t 32) (.c (.i .i64 1)))⟩,
  ⟨(some 34), (some (28, true)), (.bin .geq (.t 30) (.t 33))⟩,
  ⟨(some 35), none, (.pick (.t 28) (.t 34) (.c (.b false)))⟩,
  ⟨(some 36), none, (.val (.t 35))⟩,
  ⟨(some 37), (some (36, true)), (.call 7 [])⟩,
  ⟨(some 38), none, (.pick (.t 36) (.t 37) (.c (.b false)))⟩,
  ⟨(some 2), none, (.val (.t 38))⟩]
theorem r4_6 {fn : AFun} {K : List AItem} {t : Nat → AV} {H : AH} {T : Tbl} : runR T fn (.code (.reg d4_6) :: K) t H = regR T fn K (aops (callR T) [
  ⟨(some 22), none, (.val (.t 3))⟩,
  ⟨(some 23), none, (.len (.t 22))⟩,
  ⟨(some 24), none, (.val (.t 0))⟩,
  ⟨(some 25), none, (.len (.t 24))⟩,
  ⟨(some 26), none, (.bin .add (.t 25) (.c (.i .i64 1)))⟩,
  ⟨(some 27), none, (.bin .leq (.t 23) (.t 26))⟩,
  ⟨(some 28), none, (.val (.t 27))⟩,
  ⟨(some 29), (some (28, true)), (.val (.t 3))⟩,
  ⟨(some 30), (some (28, true)), (.len (.t 29))⟩,
  ⟨(some 31), (some (28, true)), (.val (.t 0))⟩,
  ⟨(some 32), (some (28, true)), (.call 12 [(.t 31)])⟩,
  ⟨(some 33), (some (28, true)), (.bin .add (.t 32) (.c (.i .i64 1)))⟩,
  ⟨(some 34), (some (28, true)), (.bin .geq (.t 30) (.t 33))⟩,
  ⟨(some 35), none, (.pick (.t 28) (.t 34) (.c (.b false)))⟩,
  ⟨(some 36), none, (.val (.t 35))⟩,
  ⟨(some 37), (some (36, true)), (.call 7 [])⟩,
  ⟨(some 38), none, (.pick (.t 36) (.t 37) (.c (.b false)))⟩,
  ⟨(some 2), none, (.val (.t 38))⟩] t H) := runR_reg'
def a4 : AFun := ⟨39, [(.tmp 2)], (.seq (.reg d4_0) (.seq (.seq (.reg d4_1) (.cond (.t 7) (.seq (.reg d4_2) .ret) .skip)) (.seq (.reg d4_3) (.seq (.seq (.reg d4_4) (.cond (.t 15) (.seq (.reg d4_5) .ret) .skip)) (.seq (.reg d4_6) .ret)))))⟩
theorem a4_ok : cfun Try.prog 4 = some a4 := by kernel_rfl
/-- futtock/futtocklaw34.RleBack -/
def d5_0 : List AOper := [
  ⟨(some 4), none, (.val (.c (.b false)))⟩]
theorem r5_0 {fn : AFun} {K : List AItem} {t : Nat → AV} {H : AH} {T : Tbl} : runR T fn (.code (.reg d5_0) :: K) t H = regR T fn K (aops (callR T) [
  ⟨(some 4), none, (.val (.c (.b false)))⟩] t H) := runR_reg'
def d5_1 : List AOper := [
  ⟨(some 13), none, (.val (.t 0))⟩,
  ⟨(some 14), none, (.len (.t 13))⟩,
  ⟨(some 15), none, (.bin .gtr (.t 14) (.c (.i .i64 2000)))⟩,
  ⟨(some 16), none, (.val (.t 15))⟩,
  ⟨(some 17), (some (16, false)), (.val (.t 1))⟩,
  ⟨(some 18), (some (16, false)), (.len (.t 17))⟩,
  ⟨(some 19), (some (16, false)), (.bin .gtr (.t 18) (.c (.i .i64 400)))⟩,
  ⟨(some 20), none, (.pick (.t 16) (.c (.b true)) (.t 19))⟩]
theorem r5_1 {fn : AFun} {K : List AItem} {t : Nat → AV} {H : AH} {T : Tbl} : runR T fn (.code (.reg d5_1) :: K) t H = regR T fn K (aops (callR T) [
  ⟨(some 13), none, (.val (.t 0))⟩,
  ⟨(some 14), none, (.len (.t 13))⟩,
  ⟨(some 15), none, (.bin .gtr (.t 14) (.c (.i .i64 2000)))⟩,
  ⟨(some 16), none, (.val (.t 15))⟩,
  ⟨(some 17), (some (16, false)), (.val (.t 1))⟩,
  ⟨(some 18), (some (16, false)), (.len (.t 17))⟩,
  ⟨(some 19), (some (16, false)), (.bin .gtr (.t 18) (.c (.i .i64 400)))⟩,
  ⟨(some 20), none, (.pick (.t 16) (.c (.b true)) (.t 19))⟩] t H) := runR_reg'
def d5_2 : List AOper := [
  ⟨(some 21), none, (.call 7 [])⟩,
  ⟨(some 4), none, (.val (.t 21))⟩]
theorem r5_2 {fn : AFun} {K : List AItem} {t : Nat → AV} {H : AH} {T : Tbl} : runR T fn (.code (.reg d5_2) :: K) t H = regR T fn K (aops (callR T) [
  ⟨(some 21), none, (.call 7 [])⟩,
  ⟨(some 4), none, (.val (.t 21))⟩] t H) := runR_reg'
def d5_3 : List AOper := [
  ⟨(some 23), none, (.val (.t 0))⟩,
  ⟨(some 24), none, (.call 8 [(.t 23)])⟩,
  ⟨(some 22), none, (.val (.t 24))⟩,
  ⟨(some 25), none, (.ext (.t 22) 0)⟩,
  ⟨(some 26), none, (.ext (.t 22) 1)⟩,
  ⟨(some 5), none, (.val (.t 25))⟩,
  ⟨(some 6), none, (.val (.t 26))⟩]
theorem r5_3 {fn : AFun} {K : List AItem} {t : Nat → AV} {H : AH} {T : Tbl} : runR T fn (.code (.reg d5_3) :: K) t H = regR T fn K (aops (callR T) [
  ⟨(some 23), none, (.val (.t 0))⟩,
  ⟨(some 24), none, (.call 8 [(.t 23)])⟩,
  ⟨(some 22), none, (.val (.t 24))⟩,
  ⟨(some 25), none, (.ext (.t 22) 0)⟩,
  ⟨(some 26), none, (.ext (.t 22) 1)⟩,
  ⟨(some 5), none, (.val (.t 25))⟩,
  ⟨(some 6), none, (.val (.t 26))⟩] t H) := runR_reg'
def d5_4 : List AOper := [
  ⟨(some 27), none, (.val (.t 6))⟩,
  ⟨(some 28), none, (.bin .eql (.t 27) (.c (.i .i64 0)))⟩]
theorem r5_4 {fn : AFun} {K : List AItem} {t : Nat → AV} {H : AH} {T : Tbl} : runR T fn (.code (.reg d5_4) :: K) t H = regR T fn K (aops (callR T) [
  ⟨(some 27), none, (.val (.t 6))⟩,
  ⟨(some 28), none, (.bin .eql (.t 27) (.c (.i .i64 0)))⟩] t H) := runR_reg'
def d5_5 : List AOper := [
  ⟨(some 30), none, (.val (.t 5))⟩,
  ⟨(some 31), none, (.call 13 [(.t 30)])⟩,
  ⟨(some 29), none, (.val (.t 31))⟩,
  ⟨(some 32), none, (.ext (.t 29) 0)⟩,
  ⟨(some 33), none, (.ext (.t 29) 1)⟩,
  ⟨(some 7), none, (.val (.t 32))⟩,
  ⟨(some 8), none, (.val (.t 33))⟩]
theorem r5_5 {fn : AFun} {K : List AItem} {t : Nat → AV} {H : AH} {T : Tbl} : runR T fn (.code (.reg d5_5) :: K) t H = regR T fn K (aops (callR T) [
  ⟨(some 30), none, (.val (.t 5))⟩,
  ⟨(some 31), none, (.call 13 [(.t 30)])⟩,
  ⟨(some 29), none, (.val (.t 31))⟩,
  ⟨(some 32), none, (.ext (.t 29) 0)⟩,
  ⟨(some 33), none, (.ext (.t 29) 1)⟩,
  ⟨(some 7), none, (.val (.t 32))⟩,
  ⟨(some 8), none, (.val (.t 33))⟩] t H) := runR_reg'
def d5_6 : List AOper := [
  ⟨(some 34), none, (.val (.t 8))⟩,
  ⟨(some 35), none, (.bin .neq (.t 34) (.c (.i .i64 0)))⟩,
  ⟨(some 36), none, (.val (.t 35))⟩,
  ⟨(some 37), (some (36, false)), (.val (.t 7))⟩,
  ⟨(some 38), (some (36, false)), (.val (.t 0))⟩,
  ⟨(some 39), (some (36, false)), (.call 14 [(.t 37), (.t 38)])⟩,
  ⟨(some 40), (some (36, false)), (.un .not (.t 39))⟩,
  ⟨(some 41), none, (.pick (.t 36) (.c (.b true)) (.t 40))⟩]
theorem r5_6 {fn : AFun} {K : List AItem} {t : Nat → AV} {H : AH} {T : Tbl} : runR T fn (.code (.reg d5_6) :: K) t H = regR T fn K (aops (callR T) [
  ⟨(some 34), none, (.val (.t 8))⟩,
  ⟨(some 35), none, (.bin .neq (.t 34) (.c (.i .i64 0)))⟩,
  ⟨(some 36), none, (.val (.t 35))⟩,
  ⟨(some 37), (some (36, false)), (.val (.t 7))⟩,
  ⟨(some 38), (some (36, false)), (.val (.t 0))⟩,
  ⟨(some 39), (some (36, false)), (.call 14 [(.t 37), (.t 38)])⟩,
  ⟨(some 40), (some (36, false)), (.un .not (.t 39))⟩,
  ⟨(some 41), none, (.pick (.t 36) (.c (.b true)) (.t 40))⟩] t H) := runR_reg'
def d5_7 : List AOper := [
  ⟨(some 4), none, (.val (.c (.b false)))⟩]
theorem r5_7 {fn : AFun} {K : List AItem} {t : Nat → AV} {H : AH} {T : Tbl} : runR T fn (.code (.reg d5_7) :: K) t H = regR T fn K (aops (callR T) [
  ⟨(some 4), none, (.val (.c (.b false)))⟩] t H) := runR_reg'
def d5_8 : List AOper := [
  ⟨(some 43), none, (.val (.t 1))⟩,
  ⟨(some 44), none, (.call 13 [(.t 43)])⟩,
  ⟨(some 42), none, (.val (.t 44))⟩,
  ⟨(some 45), none, (.ext (.t 42) 0)⟩,
  ⟨(some 46), none, (.ext (.t 42) 1)⟩,
  ⟨(some 9), none, (.val (.t 45))⟩,
  ⟨(some 10), none, (.val (.t 46))⟩]
theorem r5_8 {fn : AFun} {K : List AItem} {t : Nat → AV} {H : AH} {T : Tbl} : runR T fn (.code (.reg d5_8) :: K) t H = regR T fn K (aops (callR T) [
  ⟨(some 43), none, (.val (.t 1))⟩,
  ⟨(some 44), none, (.call 13 [(.t 43)])⟩,
  ⟨(some 42), none, (.val (.t 44))⟩,
  ⟨(some 45), none, (.ext (.t 42) 0)⟩,
  ⟨(some 46), none, (.ext (.t 42) 1)⟩,
  ⟨(some 9), none, (.val (.t 45))⟩,
  ⟨(some 10), none, (.val (.t 46))⟩] t H) := runR_reg'
def d5_9 : List AOper := [
  ⟨(some 47), none, (.val (.t 10))⟩,
  ⟨(some 48), none, (.bin .neq (.t 47) (.c (.i .i64 0)))⟩]
theorem r5_9 {fn : AFun} {K : List AItem} {t : Nat → AV} {H : AH} {T : Tbl} : runR T fn (.code (.reg d5_9) :: K) t H = regR T fn K (aops (callR T) [
  ⟨(some 47), none, (.val (.t 10))⟩,
  ⟨(some 48), none, (.bin .neq (.t 47) (.c (.i .i64 0)))⟩] t H) := runR_reg'
def d5_10 : List AOper := [
  ⟨(some 49), none, (.val (.t 9))⟩,
  ⟨(some 50), none, (.len (.t 49))⟩,
  ⟨(some 51), none, (.bin .eql (.t 50) (.c (.i .i64 0)))⟩,
  ⟨(some 52), none, (.val (.t 51))⟩,
  ⟨(some 53), (some (52, true)), (.call 7 [])⟩,
  ⟨(some 54), none, (.pick (.t 52) (.t 53) (.c (.b false)))⟩,
  ⟨(some 4), none, (.val (.t 54))⟩]
theorem r5_10 {fn : AFun} {K : List AItem} {t : Nat → AV} {H : AH} {T : Tbl} : runR T fn (.code (.reg d5_10) :: K) t H = regR T fn K (aops (callR T) [
  ⟨(some 49), none, (.val (.t 9))⟩,
  ⟨(some 50), none, (.len (.t 49))⟩,
  ⟨(some 51), none, (.bin .eql (.t 50) (.c (.i .i64 0)))⟩,
  ⟨(some 52), none, (.val (.t 51))⟩,
  ⟨(some 53), (some (52, true)), (.call 7 [])⟩,
  ⟨(some 54), none, (.pick (.t 52) (.t 53) (.c (.b false)))⟩,
  ⟨(some 4), none, (.val (.t 54))⟩] t H) := runR_reg'
def d5_11 : List AOper := [
  ⟨(some 56), none, (.val (.t 9))⟩,
  ⟨(some 57), none, (.call 8 [(.t 56)])⟩,
  ⟨(some 55), none, (.val (.t 57))⟩,
  ⟨(some 58), none, (.ext (.t 55) 0)⟩,
  ⟨(some 59), none, (.ext (.t 55) 1)⟩,
  ⟨(some 11), none, (.val (.t 58))⟩,
  ⟨(some 12), none, (.val (.t 59))⟩]
theorem r5_11 {fn : AFun} {K : List AItem} {t : Nat → AV} {H : AH} {T : Tbl} : runR T fn (.code (.reg d5_11) :: K) t H = regR T fn K (aops (callR T) [
  ⟨(some 56), none, (.val (.t 9))⟩,
  ⟨(some 57), none, (.call 8 [(.t 56)])⟩,
  ⟨(some 55), none, (.val (.t 57))⟩,
  ⟨(some 58), none, (.ext (.t 55) 0)⟩,
  ⟨(some 59), none, (.ext (.t 55) 1)⟩,
  ⟨(some 11), none, (.val (.t 58))⟩,
  ⟨(some 12), none, (.val (.t 59))⟩] t H) := runR_reg'
def d5_12 : List AOper := [
  ⟨(some 60), none, (.val (.t 12))⟩,
  ⟨(some 61), none, (.bin .eql (.t 60) (.c (.i .i64 0)))⟩,
  ⟨(some 62), none, (.val (.t 61))⟩,
  ⟨(some 63), (some (62, true)), (.val (.t 11))⟩,
  ⟨(some 64), (some (62, true)), (.cvs (.t 63))⟩,
  ⟨(some 65), (some (62, true)), (.val (.t 1))⟩,
  ⟨(some 66), (some (62, true)), (.cvs (.t 65))⟩,
  ⟨(some 67), (some (62, true)), (.bin .eql (.t 64) (.t 66))⟩,
  ⟨(some 68), none, (.pick (.t 62) (.t 67) (.c (.b false)))⟩,
  ⟨(some 69), none, (.val (.t 68))⟩,
  ⟨(some 70), (some (69, true)), (.call 7 [])⟩,
  ⟨(some 71), none, (.pick (.t 69) (.t 70) (.c (.b false)))⟩,
  ⟨(some 4), none, (.val (.t 71))⟩]
theorem r5_12 {fn : AFun} {K : List AItem} {t : Nat → AV} {H : AH} {T : Tbl} : runR T fn (.code (.reg d5_12) :: K) t H = regR T fn K (aops (callR T) [
  ⟨(some 60), none, (.val (.t 12))⟩,
  ⟨(some 61), none, (.bin .eql (.t 60) (.c (.i .i64 0)))⟩,
  ⟨(some 62), none, (.val (.t 61))⟩,
  ⟨(some 63), (some (62, true)), (.val (.t 11))⟩,
  ⟨(some 64), (some (62, true)), (.cvs (.t 63))⟩,
  ⟨(some 65), (some (62, true)), (.val (.t 1))⟩,
  ⟨(some 66), (some (62, true)), (.cvs (.t 65))⟩,
  ⟨(some 67), (some (62, true)), (.bin .eql (.t 64) (.t 66))⟩,
  ⟨(some 68), none, (.pick (.t 62) (.t 67) (.c (.b false)))⟩,
  ⟨(some 69), none, (.val (.t 68))⟩,
  ⟨(some 70), (some (69, true)), (.call 7 [])⟩,
  ⟨(some 71), none, (.pick (.t 69) (.t 70) (.c (.b false)))⟩,
  ⟨(some 4), none, (.val (.t 71))⟩] t H) := runR_reg'
def a5 : AFun := ⟨72, [(.tmp 4)], (.seq (.reg d5_0) (.seq (.seq (.reg d5_1) (.cond (.t 20) (.seq (.reg d5_2) .ret) .skip)) (.seq (.reg d5_3) (.seq (.seq (.reg d5_4) (.cond (.t 28) (.seq (.reg d5_5) (.seq (.reg d5_6) (.cond (.t 41) (.seq (.reg d5_7) .ret) .skip))) .skip)) (.seq (.reg d5_8) (.seq (.seq (.reg d5_9) (.cond (.t 48) (.seq (.reg d5_10) .ret) .skip)) (.seq (.reg d5_11) (.seq (.reg d5_12) .ret))))))))⟩
theorem a5_ok : cfun Try.prog 5 = some a5 := by kernel_rfl
/-- futtock/futtocklaw34.RleUnpacks -/
def d6_0 : List AOper := [
  ⟨(some 4), none, (.val (.c (.b false)))⟩]
theorem r6_0 {fn : AFun} {K : List AItem} {t : Nat → AV} {H : AH} {T : Tbl} : runR T fn (.code (.reg d6_0) :: K) t H = regR T fn K (aops (callR T) [
  ⟨(some 4), none, (.val (.c (.b false)))⟩] t H) := runR_reg'
def d6_1 : List AOper := [
  ⟨(some 13), none, (.val (.t 0))⟩,
  ⟨(some 14), none, (.len (.t 13))⟩,
  ⟨(some 15), none, (.bin .gtr (.t 14) (.c (.i .i64 400)))⟩,
  ⟨(some 16), none, (.val (.t 15))⟩,
  ⟨(some 17), (some (16, true)), (.val (.t 0))⟩,
  ⟨(some 18), (some (16, true)), (.len (.t 17))⟩,
  ⟨(some 19), (some (16, true)), (.bin .lss (.t 18) (.c (.i .i64 3300)))⟩,
  ⟨(some 20), none, (.pick (.t 16) (.t 19) (.c (.b false)))⟩,
  ⟨(some 21), none, (.val (.t 20))⟩,
  ⟨(some 22), (some (21, false)), (.val (.t 0))⟩,
  ⟨(some 23), (some (21, false)), (.len (.t 22))⟩,
  ⟨(some 24), (some (21, false)), (.bin .gtr (.t 23) (.c (.i .i64 10000)))⟩,
  ⟨(some 25), none, (.pick (.t 21) (.c (.b true)) (.t 24))⟩]
theorem r6_1 {fn : AFun} {K : List AItem} {t : Nat → AV} {H : AH} {T : Tbl} : runR T fn (.code (.reg d6_1) :: K) t H = regR T fn K (aops (callR T) [
  ⟨(some 13), none, (.val (.t 0))⟩,
  ⟨(some 14), none, (.len (.t 13))⟩,
  ⟨(some 15), none, (.bin .gtr (.t 14) (.c (.i .i64 400)))⟩,
  ⟨(some 16), none, (.val (.t 15))⟩,
  ⟨(some 17), (some (16, true)), (.val (.t 0))⟩,
  ⟨(some 18), (some (16, true)), (.len (.t 17))⟩,
  ⟨(some 19), (some (16, true)), (.bin .lss (.t 18) (.c (.i .i64 3300)))⟩,
  ⟨(some 20), none, (.pick (.t 16) (.t 19) (.c (.b false)))⟩,
  ⟨(some 21), none, (.val (.t 20))⟩,
  ⟨(some 22), (some (21, false)), (.val (.t 0))⟩,
  ⟨(some 23), (some (21, false)), (.len (.t 22))⟩,
  ⟨(some 24), (some (21, false)), (.bin .gtr (.t 23) (.c (.i .i64 10000)))⟩,
  ⟨(some 25), none, (.pick (.t 21) (.c (.b true)) (.t 24))⟩] t H) := runR_reg'
def d6_2 : List AOper := [
  ⟨(some 26), none, (.call 7 [])⟩,
  ⟨(some 4), none, (.val (.t 26))⟩]
theorem r6_2 {fn : AFun} {K : List AItem} {t : Nat → AV} {H : AH} {T : Tbl} : runR T fn (.code (.reg d6_2) :: K) t H = regR T fn K (aops (callR T) [
  ⟨(some 26), none, (.call 7 [])⟩,
  ⟨(some 4), none, (.val (.t 26))⟩] t H) := runR_reg'
def d6_3 : List AOper := [
  ⟨(some 28), none, (.val (.t 0))⟩,
  ⟨(some 29), none, (.call 13 [(.t 28)])⟩,
  ⟨(some 27), none, (.val (.t 29))⟩,
  ⟨(some 30), none, (.ext (.t 27) 0)⟩,
  ⟨(some 31), none, (.ext (.t 27) 1)⟩,
  ⟨(some 5), none, (.val (.t 30))⟩,
  ⟨(some 6), none, (.val (.t 31))⟩]
theorem r6_3 {fn : AFun} {K : List AItem} {t : Nat → AV} {H : AH} {T : Tbl} : runR T fn (.code (.reg d6_3) :: K) t H = regR T fn K (aops (callR T) [
  ⟨(some 28), none, (.val (.t 0))⟩,
  ⟨(some 29), none, (.call 13 [(.t 28)])⟩,
  ⟨(some 27), none, (.val (.t 29))⟩,
  ⟨(some 30), none, (.ext (.t 27) 0)⟩,
  ⟨(some 31), none, (.ext (.t 27) 1)⟩,
  ⟨(some 5), none, (.val (.t 30))⟩,
  ⟨(some 6), none, (.val (.t 31))⟩] t H) := runR_reg'
def d6_4 : List AOper := [
  ⟨(some 33), none, (.val (.t 0))⟩,
  ⟨(some 34), none, (.call 15 [(.t 33)])⟩,
  ⟨(some 32), none, (.val (.t 34))⟩,
  ⟨(some 35), none, (.ext (.t 32) 0)⟩,
  ⟨(some 36), none, (.ext (.t 32) 1)⟩,
  ⟨(some 7), none, (.val (.t 35))⟩,
  ⟨(some 8), none, (.val (.t 36))⟩]
theorem r6_4 {fn : AFun} {K : List AItem} {t : Nat → AV} {H : AH} {T : Tbl} : runR T fn (.code (.reg d6_4) :: K) t H = regR T fn K (aops (callR T) [
  ⟨(some 33), none, (.val (.t 0))⟩,
  ⟨(some 34), none, (.call 15 [(.t 33)])⟩,
  ⟨(some 32), none, (.val (.t 34))⟩,
  ⟨(some 35), none, (.ext (.t 32) 0)⟩,
  ⟨(some 36), none, (.ext (.t 32) 1)⟩,
  ⟨(some 7), none, (.val (.t 35))⟩,
  ⟨(some 8), none, (.val (.t 36))⟩] t H) := runR_reg'
def d6_5 : List AOper := [
  ⟨(some 38), none, (.val (.t 0))⟩,
  ⟨(some 39), none, (.val (.t 1))⟩,
  ⟨(some 40), none, (.call 16 [(.t 38), (.t 39)])⟩,
  ⟨(some 37), none, (.val (.t 40))⟩,
  ⟨(some 41), none, (.ext (.t 37) 0)⟩,
  ⟨(some 42), none, (.ext (.t 37) 1)⟩,
  ⟨(some 9), none, (.val (.t 41))⟩,
  ⟨(some 10), none, (.val (.t 42))⟩]
theorem r6_5 {fn : AFun} {K : List AItem} {t : Nat → AV} {H : AH} {T : Tbl} : runR T fn (.code (.reg d6_5) :: K) t H = regR T fn K (aops (callR T) [
  ⟨(some 38), none, (.val (.t 0))⟩,
  ⟨(some 39), none, (.val (.t 1))⟩,
  ⟨(some 40), none, (.call 16 [(.t 38), (.t 39)])⟩,
  ⟨(some 37), none, (.val (.t 40))⟩,
  ⟨(some 41), none, (.ext (.t 37) 0)⟩,
  ⟨(some 42), none, (.ext (.t 37) 1)⟩,
  ⟨(some 9), none, (.val (.t 41))⟩,
  ⟨(some 10), none, (.val (.t 42))⟩] t H) := runR_reg'
def d6_6 : List AOper := [
  ⟨(some 43), none, (.val (.t 5))⟩,
  ⟨(some 44), none, (.val (.t 7))⟩,
  ⟨(some 45), none, (.call 14 [(.t 43), (.t 44)])⟩,
  ⟨(some 46), none, (.un .not (.t 45))⟩,
  ⟨(some 47), none, (.val (.t 46))⟩,
  ⟨(some 48), (some (47, false)), (.val (.t 6))⟩,
  ⟨(some 49), (some (47, false)), (.val (.t 8))⟩,
  ⟨(some 50), (some (47, false)), (.bin .neq (.t 48) (.t 49))⟩,
  ⟨(some 51), none, (.pick (.t 47) (.c (.b true)) (.t 50))⟩]
theorem r6_6 {fn : AFun} {K : List AItem} {t : Nat → AV} {H : AH} {T : Tbl} : runR T fn (.code (.reg d6_6) :: K) t H = regR T fn K (aops (callR T) [
  ⟨(some 43), none, (.val (.t 5))⟩,
  ⟨(some 44), none, (.val (.t 7))⟩,
  ⟨(some 45), none, (.call 14 [(.t 43), (.t 44)])⟩,
  ⟨(some 46), none, (.un .not (.t 45))⟩,
  ⟨(some 47), none, (.val (.t 46))⟩,
  ⟨(some 48), (some (47, false)), (.val (.t 6))⟩,
  ⟨(some 49), (some (47, false)), (.val (.t 8))⟩,
  ⟨(some 50), (some (47, false)), (.bin .neq (.t 48) (.t 49))⟩,
  ⟨(some 51), none, (.pick (.t 47) (.c (.b true)) (.t 50))⟩] t H) := runR_reg'
def d6_7 : List AOper := [
  ⟨(some 4), none, (.val (.c (.b false)))⟩]
theorem r6_7 {fn : AFun} {K : List AItem} {t : Nat → AV} {H : AH} {T : Tbl} : runR T fn (.code (.reg d6_7) :: K) t H = regR T fn K (aops (callR T) [
  ⟨(some 4), none, (.val (.c (.b false)))⟩] t H) := runR_reg'
def d6_8 : List AOper := [
  ⟨(some 52), none, (.val (.t 8))⟩,
  ⟨(some 53), none, (.bin .neq (.t 52) (.c (.i .i64 0)))⟩,
  ⟨(some 54), none, (.val (.t 53))⟩,
  ⟨(some 55), (some (54, false)), (.val (.t 1))⟩,
  ⟨(some 56), (some (54, false)), (.bin .lss (.t 55) (.c (.i .i64 0)))⟩,
  ⟨(some 57), none, (.pick (.t 54) (.c (.b true)) (.t 56))⟩]
theorem r6_8 {fn : AFun} {K : List AItem} {t : Nat → AV} {H : AH} {T : Tbl} : runR T fn (.code (.reg d6_8) :: K) t H = regR T fn K (aops (callR T) [
  ⟨(some 52), none, (.val (.t 8))⟩,
  ⟨(some 53), none, (.bin .neq (.t 52) (.c (.i .i64 0)))⟩,
  ⟨(some 54), none, (.val (.t 53))⟩,
  ⟨(some 55), (some (54, false)), (.val (.t 1))⟩,
  ⟨(some 56), (some (54, false)), (.bin .lss (.t 55) (.c (.i .i64 0)))⟩,
  ⟨(some 57), none, (.pick (.t 54) (.c (.b true)) (.t 56))⟩] t H) := runR_reg'
def d6_9 : List AOper := [
  ⟨(some 58), none, (.val (.t 9))⟩,
  ⟨(some 59), none, (.len (.t 58))⟩,
  ⟨(some 60), none, (.bin .eql (.t 59) (.c (.i .i64 0)))⟩,
  ⟨(some 61), none, (.val (.t 60))⟩,
  ⟨(some 62), (some (61, true)), (.val (.t 8))⟩,
  ⟨(some 63), (some (61, true)), (.bin .neq (.t 62) (.c (.i .i64 0)))⟩,
  ⟨(some 64), (some (61, true)), (.val (.t 63))⟩,
  ⟨(some 65), (some (64, true)), (.val (.t 10))⟩,
  ⟨(some 66), (some (64, true)), (.val (.t 8))⟩,
  ⟨(some 67), (some (64, true)), (.bin .eql (.t 65) (.t 66))⟩,
  ⟨(some 68), (some (61, true)), (.pick (.t 64) (.t 67) (.c (.b false)))⟩,
  ⟨(some 69), (some (61, true)), (.val (.t 68))⟩,
  ⟨(some 70), (some (69, false)), (.val (.t 8))⟩,
  ⟨(some 71), (some (69, false)), (.bin .eql (.t 70) (.c (.i .i64 0)))⟩,
  ⟨(some 72), (some (69, false)), (.val (.t 71))⟩,
  ⟨(some 73), (some (72, true)), (.val (.t 10))⟩,
  ⟨(some 74), (some (72, true)), (.bin .eql (.t 73) (.c (.i .i64 1)))⟩,
  ⟨(some 75), (some (69, false)), (.pick (.t 72) (.t 74) (.c (.b false)))⟩,
  ⟨(some 76), (some (61, true)), (.pick (.t 69) (.c (.b true)) (.t 75))⟩,
  ⟨(some 77), none, (.pick (.t 61) (.t 76) (.c (.b false)))⟩,
  ⟨(some 78), none, (.val (.t 77))⟩,
  ⟨(some 79), (some (78, true)), (.call 7 [])⟩,
  ⟨(some 80), none, (.pick (.t 78) (.t 79) (.c (.b false)))⟩,
  ⟨(some 4), none, (.val (.t 80))⟩]
theorem r6_9 {fn : AFun} {K : List AItem} {t : Nat → AV} {H : AH} {T : Tbl} : runR T fn (.code (.reg d6_9) :: K) t H = regR T fn K (aops (callR T) [
  ⟨(some 58), none, (.val (.t 9))⟩,
  ⟨(some 59), none, (.len (.t 58))⟩,
  ⟨(some 60), none, (.bin .eql (.t 59) (.c (.i .i64 0)))⟩,
  ⟨(some 61), none, (.val (.t 60))⟩,
  ⟨(some 62), (some (61, true)), (.val (.t 8))⟩,
  ⟨(some 63), (some (61, true)), (.bin .neq (.t 62) (.c (.i .i64 0)))⟩,
  ⟨(some 64), (some (61, true)), (.val (.t 63))⟩,
  ⟨(some 65), (some (64, true)), (.val (.t 10))⟩,
  ⟨(some 66), (some (64, true)), (.val (.t 8))⟩,
  ⟨(some 67), (some (64, true)), (.bin .eql (.t 65) (.t 66))⟩,
  ⟨(some 68), (some (61, true)), (.pick (.t 64) (.t 67) (.c (.b false)))⟩,
  ⟨(some 69), (some (61, true)), (.val (.t 68))⟩,
  ⟨(some 70), (some (69, false)), (.val (.t 8))⟩,
  ⟨(some 71), (some (69, false)), (.bin .eql (.t 70) (.c (.i .i64 0)))⟩,
  ⟨(some 72), (some (69, false)), (.val (.t 71))⟩,
  ⟨(some 73), (some (72, true)), (.val (.t 10))⟩,
  ⟨(some 74), (some (72, true)), (.bin .eql (.t 73) (.c (.i .i64 1)))⟩,
  ⟨(some 75), (some (69, false)), (.pick (.t 72) (.t 74) (.c (.b false)))⟩,
  ⟨(some 76), (some (61, true)), (.pick (.t 69) (.c (.b true)) (.t 75))⟩,
  ⟨(some 77), none, (.pick (.t 61) (.t 76) (.c (.b false)))⟩,
  ⟨(some 78), none, (.val (.t 77))⟩,
  ⟨(some 79), (some (78, true)), (.call 7 [])⟩,
  ⟨(some 80), none, (.pick (.t 78) (.t 79) (.c (.b false)))⟩,
  ⟨(some 4), none, (.val (.t 80))⟩] t H) := runR_reg'
def d6_10 : List AOper := [
  ⟨(some 82), none, (.val (.t 7))⟩,
  ⟨(some 83), none, (.val (.t 1))⟩,
  ⟨(some 84), none, (.val (.t 7))⟩,
  ⟨(some 85), none, (.len (.t 84))⟩,
  ⟨(some 86), none, (.mm false [(.t 83), (.t 85)])⟩,
  ⟨(some 87), none, (.sls 1 (.t 82) none (some (.t 86)) none)⟩,
  ⟨(some 88), none, (.call 9 [(.t 87)])⟩,
  ⟨(some 81), none, (.val (.t 88))⟩,
  ⟨(some 89), none, (.ext (.t 81) 0)⟩,
  ⟨(some 90), none, (.ext (.t 81) 1)⟩,
  ⟨(some 11), none, (.val (.t 89))⟩,
  ⟨(some 12), none, (.val (.t 90))⟩]
theorem r6_10 {fn : AFun} {K : List AItem} {t : Nat → AV} {H : AH} {T : Tbl} : runR T fn (.code (.reg d6_10) :: K) t H = regR T fn K (aops (callR T) [
  ⟨(some 82), none, (.val (.t 7))⟩,
  ⟨(some 83), none, (.val (.t 1))⟩,
  ⟨(some 84), none, (.val (.t 7))⟩,
  ⟨(some 85), none, (.len (.t 84))⟩,
  ⟨(some 86), none, (.mm false [(.t 83), (.t 85)])⟩,
  ⟨(some 87), none, (.sls 1 (.t 82) none (some (.t 86)) none)⟩,
  ⟨(some 88), none, (.call 9 [(.t 87)])⟩,
  ⟨(some 81), none, (.val (.t 88))⟩,
  ⟨(some 89), none, (.ext (.t 81) 0)⟩,
  ⟨(some 90), none, (.ext (.t 81) 1)⟩,
  ⟨(some 11), none, (.val (.t 89))⟩,
  ⟨(some 12), none, (.val (.t 90))⟩] t H) := runR_reg'
def d6_11 : List AOper := [
  ⟨(some 91), none, (.val (.t 9))⟩,
  ⟨(some 92), none, (.cvs (.t 91))⟩,
  ⟨(some 93), none, (.val (.t 11))⟩,
  ⟨(some 94), none, (.cvs (.t 93))⟩,
  ⟨(some 95), none, (.bin .eql (.t 92) (.t 94))⟩,
  ⟨(some 96), none, (.val (.t 95))⟩,
  ⟨(some 97), (some (96, true)), (.val (.t 10))⟩,
  ⟨(some 98), (some (96, true)), (.bin .eql (.t 97) (.c (.i .i64 0)))⟩,
  ⟨(some 99), none, (.pick (.t 96) (.t 98) (.c (.b false)))⟩,
  ⟨(some 100), none, (.val (.t 99))⟩,
  ⟨(some 101), (some (100, true)), (.val (.t 12))⟩,
  ⟨(some 102), (some (100, true)), (.bin .eql (.t 101) (.c (.i .i64 0)))⟩,
  ⟨(some 103), none, (.pick (.t 100) (.t 102) (.c (.b false)))⟩,
  ⟨(some 104), none, (.val (.t 103))⟩,
  ⟨(some 105), (some (104, true)), (.call 7 [])⟩,
  ⟨(some 106), none, (.pick (.t 104) (.t 105) (.c (.b false)))⟩,
  ⟨(some 4), none, (.val (.t 106))⟩]
theorem r6_11 {fn : AFun} {K : List AItem} {t : Nat → AV} {H : AH} {T : Tbl} : runR T fn (.code (.reg d6_11) :: K) t H = regR T fn K (aops (callR T) [
  ⟨(some 91), none, (.val (.t 9))⟩,
  ⟨(some 92), none, (.cvs (.t 91))⟩,
  ⟨(some 93), none, (.val (.t 11))⟩,
  ⟨(some 94), none, (.cvs (.t 93))⟩,
  ⟨(some 95), none, (.bin .eql (.t 92) (.t 94))⟩,
  ⟨(some 96), none, (.val (.t 95))⟩,
  ⟨(some 97), (some (96, true)), (.val (.t 10))⟩,
  ⟨(some 98), (some (96, true)), (.bin .eql (.t 97) (.c (.i .i64 0)))⟩,
  ⟨(some 99), none, (.pick (.t 96) (.t 98) (.c (.b false)))⟩,
  ⟨(some 100), none, (.val (.t 99))⟩,
  ⟨(some 101), (some (100, true)), (.val (.t 12))⟩,
  ⟨(some 102), (some (100, true)), (.bin .eql (.t 101) (.c (.i .i64 0)))⟩,
  ⟨(some 103), none, (.pick (.t 100) (.t 102) (.c (.b false)))⟩,
  ⟨(some 104), none, (.val (.t 103))⟩,
  ⟨(some 105), (some (104, true)), (.call 7 [])⟩,
  ⟨(some 106), none, (.pick (.t 104) (.t 105) (.c (.b false)))⟩,
  ⟨(some 4), none, (.val (.t 106))⟩] t H) := runR_reg'
def a6 : AFun := ⟨107, [(.tmp 4)], (.seq (.reg d6_0) (.seq (.seq (.reg d6_1) (.cond (.t 25) (.seq (.reg d6_2) .ret) .skip)) (.seq (.reg d6_3) (.seq (.reg d6_4) (.seq (.reg d6_5) (.seq (.seq (.reg d6_6) (.cond (.t 51) (.seq (.reg d6_7) .ret) .skip)) (.seq (.seq (.reg d6_8) (.cond (.t 57) (.seq (.reg d6_9) .ret) .skip)) (.seq (.reg d6_10) (.seq (.reg d6_11) .ret)))))))))⟩
theorem a6_ok : cfun Try.prog 6 = some a6 := by kernel_rfl
/-- futtock/futtocklaw34.alive -/
def d7_0 : List AOper := [
  ⟨(some 0), none, (.val (.c (.b false)))⟩]
theorem r7_0 {fn : AFun} {K : List AItem} {t : Nat → AV} {H : AH} {T : Tbl} : runR T fn (.code (.reg d7_0) :: K) t H = regR T fn K (aops (callR T) [
  ⟨(some 0), none, (.val (.c (.b false)))⟩] t H) := runR_reg'
def d7_1 : List AOper := [
  ⟨(some 6), none, (.bsl [(.i .i64 0)] 3 [(0, 1, (.c (.i .i64 1))), (1, 1, (.c (.i .i64 1))), (2, 1, (.c (.i .i64 0)))])⟩,
  ⟨(some 7), none, (.call 8 [(.t 6)])⟩,
  ⟨(some 5), none, (.val (.t 7))⟩,
  ⟨(some 8), none, (.ext (.t 5) 0)⟩,
  ⟨(some 9), none, (.ext (.t 5) 1)⟩,
  ⟨(some 1), none, (.val (.t 8))⟩,
  ⟨(some 2), none, (.val (.t 9))⟩]
theorem r7_1 {fn : AFun} {K : List AItem} {t : Nat → AV} {H : AH} {T : Tbl} : runR T fn (.code (.reg d7_1) :: K) t H = regR T fn K (aops (callR T) [
  ⟨(some 6), none, (.bsl [(.i .i64 0)] 3 [(0, 1, (.c (.i .i64 1))), (1, 1, (.c (.i .i64 1))), (2, 1, (.c (.i .i64 0)))])⟩,
  ⟨(some 7), none, (.call 8 [(.t 6)])⟩,
  ⟨(some 5), none, (.val (.t 7))⟩,
  ⟨(some 8), none, (.ext (.t 5) 0)⟩,
  ⟨(some 9), none, (.ext (.t 5) 1)⟩,
  ⟨(some 1), none, (.val (.t 8))⟩,
  ⟨(some 2), none, (.val (.t 9))⟩] t H) := runR_reg'
def d7_2 : List AOper := [
  ⟨(some 11), none, (.bsl [(.i .i64 0)] 3 [(0, 1, (.c (.i .i64 1))), (1, 1, (.c (.i .i64 1))), (2, 1, (.c (.i .i64 0)))])⟩,
  ⟨(some 12), none, (.call 10 [(.t 11)])⟩,
  ⟨(some 10), none, (.val (.t 12))⟩,
  ⟨(some 13), none, (.ext (.t 10) 0)⟩,
  ⟨(some 14), none, (.ext (.t 10) 1)⟩,
  ⟨(some 3), none, (.val (.t 13))⟩,
  ⟨(some 4), none, (.val (.t 14))⟩]
theorem r7_2 {fn : AFun} {K : List AItem} {t : Nat → AV} {H : AH} {T : Tbl} : runR T fn (.code (.reg d7_2) :: K) t H = regR T fn K (aops (callR T) [
  ⟨(some 11), none, (.bsl [(.i .i64 0)] 3 [(0, 1, (.c (.i .i64 1))), (1, 1, (.c (.i .i64 1))), (2, 1, (.c (.i .i64 0)))])⟩,
  ⟨(some 12), none, (.call 10 [(.t 11)])⟩,
  ⟨(some 10), none, (.val (.t 12))⟩,
  ⟨(some 13), none, (.ext (.t 10) 0)⟩,
  ⟨(some 14), none, (.ext (.t 10) 1)⟩,
  ⟨(some 3), none, (.val (.t 13))⟩,
  ⟨(some 4), none, (.val (.t 14))⟩] t H) := runR_reg'
def d7_3 : List AOper := [
  ⟨(some 15), none, (.val (.t 1))⟩,
  ⟨(some 16), none, (.len (.t 15))⟩,
  ⟨(some 17), none, (.bin .eql (.t 16) (.c (.i .i64 3)))⟩,
  ⟨(some 18), none, (.val (.t 17))⟩,
  ⟨(some 19), (some (18, true)), (.val (.t 1))⟩,
  ⟨(some 20), (some (18, true)), (.ia 1 (.t 19) (.c (.i .i64 0)))⟩,
  ⟨(some 21), (some (18, true)), (.ld none (.t 20))⟩,
  ⟨(some 22), (some (18, true)), (.bin .eql (.t 21) (.c (.i .u8 82)))⟩,
  ⟨(some 23), none, (.pick (.t 18) (.t 22) (.c (.b false)))⟩,
  ⟨(some 24), none, (.val (.t 23))⟩,
  ⟨(some 25), (some (24, true)), (.val (.t 1))⟩,
  ⟨(some 26), (some (24, true)), (.ia 1 (.t 25) (.c (.i .i64 1)))⟩,
  ⟨(some 27), (some (24, true)), (.ld none (.t 26))⟩,
  ⟨(some 28), (some (24, true)), (.bin .eql (.t 27) (.c (.i .u8 17)))⟩,
  ⟨(some 29), none, (.pick (.t 24) (.t 28) (.c (.b false)))⟩,
  ⟨(some 30), none, (.val (.t 29))⟩,
  ⟨(some 31), (some (30, true)), (.val (.t 1))⟩,
  ⟨(some 32), (some (30, true)), (.ia 1 (.t 31) (.c (.i .i64 2)))⟩,
  ⟨(some 33), (some (30, true)), (.ld none (.t 32))⟩,
  ⟨(some 34), (some (30, true)), (.bin .eql (.t 33) (.c (.i .u8 8)))⟩,
  ⟨(some 35), none, (.pick (.t 30) (.t 34) (.c (.b false)))⟩,
  ⟨(some 36), none, (.val (.t 35))⟩,
  ⟨(some 37), (some (36, true)), (.val (.t 2))⟩,
  ⟨(some 38), (some (36, true)), (.bin .eql (.t 37) (.c (.i .i64 0)))⟩,
  ⟨(some 39), none, (.pick (.t 36) (.t 38) (.c (.b false)))⟩,
  ⟨(some 40), none, (.val (.t 39))⟩,
  ⟨(some 41), (some (40, true)), (.val (.t 3))⟩,
  ⟨(some 42), (some (40, true)), (.bin .eql (.t 41) (.c (.i .i64 1)))⟩,
  ⟨(some 43), none, (.pick (.t 40) (.t 42) (.c (.b false)))⟩,
  ⟨(some 44), none, (.val (.t 43))⟩,
  ⟨(some 45), (some (44, true)), (.val (.t 4))⟩,
  ⟨(some 46), (some (44, true)), (.bin .eql (.t 45) (.c (.i .i64 2)))⟩,
  ⟨(some 47), none, (.pick (.t 44) (.t 46) (.c (.b false)))⟩,
  ⟨(some 48), none, (.val (.t 47))⟩,
  ⟨(some 49), (some (48, true)), (.bsl [(.i .i64 0)] 3 [(0, 1, (.c (.i .i64 1))), (1, 1, (.c (.i .i64 1))), (2, 1, (.c (.i .i64 0)))])⟩,
  ⟨(some 50), (some (48, true)), (.call 12 [(.t 49)])⟩,
  ⟨(some 51), (some (48, true)), (.bin .eql (.t 50) (.c (.i .i64 2)))⟩,
  ⟨(some 52), none, (.pick (.t 48) (.t 51) (.c (.b false)))⟩,
  ⟨(some 0), none, (.val (.t 52))⟩]
theorem r7_3 {fn : AFun} {K : List AItem} {t : Nat → AV} {H : AH} {T : Tbl} : runR T fn (.code (.reg d7_3) :: K) t H = regR T fn K (aops (callR T) [
  ⟨(some 15), none, (.val (.t 1))⟩,
  ⟨(some 16), none, (.len (.t 15))⟩,
  ⟨(some 17), none, (.bin .eql (.t 16) (.c (.i .i64 3)))⟩,
  ⟨(some 18), none, (.val (.t 17))⟩,
  ⟨(some 19), (some (18, true)), (.val (.t 1))⟩,
  ⟨(some 20), (some (18, true)), (.ia 1 (.t 19) (.c (.i .i64 0)))⟩,
  ⟨(some 21), (some (18, true)), (.ld none (.t 20))⟩,
  ⟨(some 22), (some (18, true)), (.bin .eql (.t 21) (.c (.i .u8 82)))⟩,
  ⟨(some 23), none, (.pick (.t 18) (.t 22) (.c (.b false)))⟩,
  ⟨(some 24), none, (.val (.t 23))⟩,
  ⟨(some 25), (some (24, true)), (.val (.t 1))⟩,
  ⟨(some 26), (some (24, true)), (.ia 1 (.t 25) (.c (.i .i64 1)))⟩,
  ⟨(some 27), (some (24, true)), (.ld none (.t 26))⟩,
  ⟨(some 28), (some (24, true)), (.bin .eql (.t 27) (.c (.i .u8 17)))⟩,
  ⟨(some 29), none, (.pick (.t 24) (.t 28) (.c (.b false)))⟩,
  ⟨(some 30), none, (.val (.t 29))⟩,
  ⟨(some 31), (some (30, true)), (.val (.t 1))⟩,
  ⟨(some 32), (some (30, true)), (.ia 1 (.t 31) (.c (.i .i64 2)))⟩,
  ⟨(some 33), (some (30, true)), (.ld none (.t 32))⟩,
  ⟨(some 34), (some (30, true)), (.bin .eql (.t 33) (.c (.i .u8 8)))⟩,
  ⟨(some 35), none, (.pick (.t 30) (.t 34) (.c (.b false)))⟩,
  ⟨(some 36), none, (.val (.t 35))⟩,
  ⟨(some 37), (some (36, true)), (.val (.t 2))⟩,
  ⟨(some 38), (some (36, true)), (.bin .eql (.t 37) (.c (.i .i64 0)))⟩,
  ⟨(some 39), none, (.pick (.t 36) (.t 38) (.c (.b false)))⟩,
  ⟨(some 40), none, (.val (.t 39))⟩,
  ⟨(some 41), (some (40, true)), (.val (.t 3))⟩,
  ⟨(some 42), (some (40, true)), (.bin .eql (.t 41) (.c (.i .i64 1)))⟩,
  ⟨(some 43), none, (.pick (.t 40) (.t 42) (.c (.b false)))⟩,
  ⟨(some 44), none, (.val (.t 43))⟩,
  ⟨(some 45), (some (44, true)), (.val (.t 4))⟩,
  ⟨(some 46), (some (44, true)), (.bin .eql (.t 45) (.c (.i .i64 2)))⟩,
  ⟨(some 47), none, (.pick (.t 44) (.t 46) (.c (.b false)))⟩,
  ⟨(some 48), none, (.val (.t 47))⟩,
  ⟨(some 49), (some (48, true)), (.bsl [(.i .i64 0)] 3 [(0, 1, (.c (.i .i64 1))), (1, 1, (.c (.i .i64 1))), (2, 1, (.c (.i .i64 0)))])⟩,
  ⟨(some 50), (some (48, true)), (.call 12 [(.t 49)])⟩,
  ⟨(some 51), (some (48, true)), (.bin .eql (.t 50) (.c (.i .i64 2)))⟩,
  ⟨(some 52), none, (.pick (.t 48) (.t 51) (.c (.b false)))⟩,
  ⟨(some 0), none, (.val (.t 52))⟩] t H) := runR_reg'
def a7 : AFun := ⟨53, [(.tmp 0)], (.seq (.reg d7_0) (.seq (.reg d7_1) (.seq (.reg d7_2) (.seq (.reg d7_3) .ret))))⟩
theorem a7_ok : cfun Try.prog 7 = some a7 := by kernel_rfl
/-- futtock/rle.Pack -/
def d8_0 : List AOper := [
  ⟨(some 2), none, (.val (.c (.sl none 0 0 true 0)))⟩,
  ⟨(some 3), none, (.val (.c (.i .i64 0)))⟩]
theorem r8_0 {fn : AFun} {K : List AItem} {t : Nat → AV} {H : AH} {T : Tbl} : runR T fn (.code (.reg d8_0) :: K) t H = regR T fn K (aops (callR T) [
  ⟨(some 2), none, (.val (.c (.sl none 0 0 true 0)))⟩,
  ⟨(some 3), none, (.val (.c (.i .i64 0)))⟩] t H) := runR_reg'
def d8_1 : List AOper := [
  ⟨(some 6), none, (.val (.t 0))⟩,
  ⟨(some 7), none, (.len (.t 6))⟩,
  ⟨(some 8), none, (.bin .gtr (.t 7) (.c (.i .i64 100000)))⟩]
theorem r8_1 {fn : AFun} {K : List AItem} {t : Nat → AV} {H : AH} {T : Tbl} : runR T fn (.code (.reg d8_1) :: K) t H = regR T fn K (aops (callR T) [
  ⟨(some 6), none, (.val (.t 0))⟩,
  ⟨(some 7), none, (.len (.t 6))⟩,
  ⟨(some 8), none, (.bin .gtr (.t 7) (.c (.i .i64 100000)))⟩] t H) := runR_reg'
def d8_2 : List AOper := [
  ⟨(some 2), none, (.val (.c (.sl none 0 0 true 0)))⟩,
  ⟨(some 3), none, (.val (.c (.i .i64 5)))⟩]
theorem r8_2 {fn : AFun} {K : List AItem} {t : Nat → AV} {H : AH} {T : Tbl} : runR T fn (.code (.reg d8_2) :: K) t H = regR T fn K (aops (callR T) [
  ⟨(some 2), none, (.val (.c (.sl none 0 0 true 0)))⟩,
  ⟨(some 3), none, (.val (.c (.i .i64 5)))⟩] t H) := runR_reg'
def d8_3 : List AOper := [
  ⟨(some 9), none, (.bsl [(.i .u8 0)] 1 [(0, 1, (.c (.i .u8 82)))])⟩,
  ⟨(some 4), none, (.alloc [(.sl none 0 0 true 0)])⟩,
  ⟨(some 5), none, (.alloc [(.b false)])⟩,
  ⟨none, none, (.st 1 (.t 4) (.t 9))⟩,
  ⟨none, none, (.st 1 (.t 5) (.c (.b false)))⟩]
theorem r8_3 {fn : AFun} {K : List AItem} {t : Nat → AV} {H : AH} {T : Tbl} : runR T fn (.code (.reg d8_3) :: K) t H = regR T fn K (aops (callR T) [
  ⟨(some 9), none, (.bsl [(.i .u8 0)] 1 [(0, 1, (.c (.i .u8 82)))])⟩,
  ⟨(some 4), none, (.alloc [(.sl none 0 0 true 0)])⟩,
  ⟨(some 5), none, (.alloc [(.b false)])⟩,
  ⟨none, none, (.st 1 (.t 4) (.t 9))⟩,
  ⟨none, none, (.st 1 (.t 5) (.c (.b false)))⟩] t H) := runR_reg'
def d8_4 : List AOper := [
  ⟨(some 10), none, (.val (.t 0))⟩,
  ⟨(some 11), none, (.mkf (.func 18) [] [(.t 5), (.t 4)])⟩,
  ⟨(some 12), none, (.call 17 [(.t 10), (.t 11)])⟩]
theorem r8_4 {fn : AFun} {K : List AItem} {t : Nat → AV} {H : AH} {T : Tbl} : runR T fn (.code (.reg d8_4) :: K) t H = regR T fn K (aops (callR T) [
  ⟨(some 10), none, (.val (.t 0))⟩,
  ⟨(some 11), none, (.mkf (.func 18) [] [(.t 5), (.t 4)])⟩,
  ⟨(some 12), none, (.call 17 [(.t 10), (.t 11)])⟩] t H) := runR_reg'
def d8_5 : List AOper := [
  ⟨(some 13), none, (.ld none (.t 5))⟩]
theorem r8_5 {fn : AFun} {K : List AItem} {t : Nat → AV} {H : AH} {T : Tbl} : runR T fn (.code (.reg d8_5) :: K) t H = regR T fn K (aops (callR T) [
  ⟨(some 13), none, (.ld none (.t 5))⟩] t H) := runR_reg'
def d8_6 : List AOper := [
  ⟨(some 2), none, (.val (.c (.sl none 0 0 true 0)))⟩,
  ⟨(some 3), none, (.val (.c (.i .i64 1)))⟩]
theorem r8_6 {fn : AFun} {K : List AItem} {t : Nat → AV} {H : AH} {T : Tbl} : runR T fn (.code (.reg d8_6) :: K) t H = regR T fn K (aops (callR T) [
  ⟨(some 2), none, (.val (.c (.sl none 0 0 true 0)))⟩,
  ⟨(some 3), none, (.val (.c (.i .i64 1)))⟩] t H) := runR_reg'
def d8_7 : List AOper := [
  ⟨(some 14), none, (.ld none (.t 4))⟩,
  ⟨(some 2), none, (.val (.t 14))⟩,
  ⟨(some 3), none, (.val (.c (.i .i64 0)))⟩]
theorem r8_7 {fn : AFun} {K : List AItem} {t : Nat → AV} {H : AH} {T : Tbl} : runR T fn (.code (.reg d8_7) :: K) t H = regR T fn K (aops (callR T) [
  ⟨(some 14), none, (.ld none (.t 4))⟩,
  ⟨(some 2), none, (.val (.t 14))⟩,
  ⟨(some 3), none, (.val (.c (.i .i64 0)))⟩] t H) := runR_reg'
def a8 : AFun := ⟨15, [(.tmp 2), (.tmp 3)], (.seq (.reg d8_0) (.seq (.seq (.reg d8_1) (.cond (.t 8) (.seq (.reg d8_2) .ret) .skip)) (.seq (.reg d8_3) (.seq (.reg d8_4) (.seq (.seq (.reg d8_5) (.cond (.t 13) (.seq (.reg d8_6) .ret) .skip)) (.seq (.reg d8_7) .ret))))))⟩
theorem a8_ok : cfun Try.prog 8 = some a8 := by kernel_rfl
/-- futtock/futtockref34.Pack -/
def d9_0 : List AOper := [
  ⟨(some 2), none, (.val (.c (.sl none 0 0 true 0)))⟩,
  ⟨(some 3), none, (.val (.c (.i .i64 0)))⟩]
theorem r9_0 {fn : AFun} {K : List AItem} {t : Nat → AV} {H : AH} {T : Tbl} : runR T fn (.code (.reg d9_0) :: K) t H = regR T fn K (aops (callR T) [
  ⟨(some 2), none, (.val (.c (.sl none 0 0 true 0)))⟩,
  ⟨(some 3), none, (.val (.c (.i .i64 0)))⟩] t H) := runR_reg'
def d9_1 : List AOper := [
  ⟨(some 8), none, (.val (.t 0))⟩,
  ⟨(some 9), none, (.len (.t 8))⟩,
  ⟨(some 10), none, (.bin .gtr (.t 9) (.c (.i .i64 100000)))⟩]
theorem r9_1 {fn : AFun} {K : List AItem} {t : Nat → AV} {H : AH} {T : Tbl} : runR T fn (.code (.reg d9_1) :: K) t H = regR T fn K (aops (callR T) [
  ⟨(some 8), none, (.val (.t 0))⟩,
  ⟨(some 9), none, (.len (.t 8))⟩,
  ⟨(some 10), none, (.bin .gtr (.t 9) (.c (.i .i64 100000)))⟩] t H) := runR_reg'
def d9_2 : List AOper := [
  ⟨(some 2), none, (.val (.c (.sl none 0 0 true 0)))⟩,
  ⟨(some 3), none, (.val (.c (.i .i64 5)))⟩]
theorem r9_2 {fn : AFun} {K : List AItem} {t : Nat → AV} {H : AH} {T : Tbl} : runR T fn (.code (.reg d9_2) :: K) t H = regR T fn K (aops (callR T) [
  ⟨(some 2), none, (.val (.c (.sl none 0 0 true 0)))⟩,
  ⟨(some 3), none, (.val (.c (.i .i64 5)))⟩] t H) := runR_reg'
def d9_3 : List AOper := [
  ⟨(some 11), none, (.bsl [(.i .u8 0)] 1 [(0, 1, (.c (.i .u8 82)))])⟩,
  ⟨(some 4), none, (.val (.t 11))⟩]
theorem r9_3 {fn : AFun} {K : List AItem} {t : Nat → AV} {H : AH} {T : Tbl} : runR T fn (.code (.reg d9_3) :: K) t H = regR T fn K (aops (callR T) [
  ⟨(some 11), none, (.bsl [(.i .u8 0)] 1 [(0, 1, (.c (.i .u8 82)))])⟩,
  ⟨(some 4), none, (.val (.t 11))⟩] t H) := runR_reg'
def d9_4 : List AOper := [
  ⟨(some 5), none, (.val (.c (.i .i64 0)))⟩]
theorem r9_4 {fn : AFun} {K : List AItem} {t : Nat → AV} {H : AH} {T : Tbl} : runR T fn (.code (.reg d9_4) :: K) t H = regR T fn K (aops (callR T) [
  ⟨(some 5), none, (.val (.c (.i .i64 0)))⟩] t H) := runR_reg'
def d9_5 : List AOper := [
  ⟨(some 12), none, (.val (.t 5))⟩,
  ⟨(some 13), none, (.val (.t 0))⟩,
  ⟨(some 14), none, (.len (.t 13))⟩,
  ⟨(some 15), none, (.bin .lss (.t 12) (.t 14))⟩]
theorem r9_5 {fn : AFun} {K : List AItem} {t : Nat → AV} {H : AH} {T : Tbl} : runR T fn (.code (.reg d9_5) :: K) t H = regR T fn K (aops (callR T) [
  ⟨(some 12), none, (.val (.t 5))⟩,
  ⟨(some 13), none, (.val (.t 0))⟩,
  ⟨(some 14), none, (.len (.t 13))⟩,
  ⟨(some 15), none, (.bin .lss (.t 12) (.t 14))⟩] t H) := runR_reg'
def d9_6 : List AOper := [
  ⟨(some 18), none, (.val (.t 0))⟩,
  ⟨(some 19), none, (.val (.t 5))⟩,
  ⟨(some 20), none, (.ia 1 (.t 18) (.t 19))⟩,
  ⟨(some 21), none, (.ld none (.t 20))⟩,
  ⟨(some 6), none, (.val (.t 21))⟩]
theorem r9_6 {fn : AFun} {K : List AItem} {t : Nat → AV} {H : AH} {T : Tbl} : runR T fn (.code (.reg d9_6) :: K) t H = regR T fn K (aops (callR T) [
  ⟨(some 18), none, (.val (.t 0))⟩,
  ⟨(some 19), none, (.val (.t 5))⟩,
  ⟨(some 20), none, (.ia 1 (.t 18) (.t 19))⟩,
  ⟨(some 21), none, (.ld none (.t 20))⟩,
  ⟨(some 6), none, (.val (.t 21))⟩] t H) := runR_reg'
def d9_7 : List AOper := [
  ⟨(some 22), none, (.val (.t 6))⟩,
  ⟨(some 23), none, (.bin .lss (.t 22) (.c (.i .i64 0)))⟩,
  ⟨(some 24), none, (.val (.t 23))⟩,
  ⟨(some 25), (some (24, false)), (.val (.t 6))⟩,
  ⟨(some 26), (some (24, false)), (.bin .gtr (.t 25) (.c (.i .i64 7)))⟩,
  ⟨(some 27), none, (.pick (.t 24) (.c (.b true)) (.t 26))⟩]
theorem r9_7 {fn : AFun} {K : List AItem} {t : Nat → AV} {H : AH} {T : Tbl} : runR T fn (.code (.reg d9_7) :: K) t H = regR T fn K (aops (callR T) [
  ⟨(some 22), none, (.val (.t 6))⟩,
  ⟨(some 23), none, (.bin .lss (.t 22) (.c (.i .i64 0)))⟩,
  ⟨(some 24), none, (.val (.t 23))⟩,
  ⟨(some 25), (some (24, false)), (.val (.t 6))⟩,
  ⟨(some 26), (some (24, false)), (.bin .gtr (.t 25) (.c (.i .i64 7)))⟩,
  ⟨(some 27), none, (.pick (.t 24) (.c (.b true)) (.t 26))⟩] t H) := runR_reg'
def d9_8 : List AOper := [
  ⟨(some 2), none, (.val (.c (.sl none 0 0 true 0)))⟩,
  ⟨(some 3), none, (.val (.c (.i .i64 1)))⟩]
theorem r9_8 {fn : AFun} {K : List AItem} {t : Nat → AV} {H : AH} {T : Tbl} : runR T fn (.code (.reg d9_8) :: K) t H = regR T fn K (aops (callR T) [
  ⟨(some 2), none, (.val (.c (.sl none 0 0 true 0)))⟩,
  ⟨(some 3), none, (.val (.c (.i .i64 1)))⟩] t H) := runR_reg'
def d9_9 : List AOper := [
  ⟨(some 28), none, (.val (.t 4))⟩,
  ⟨(some 29), none, (.val (.t 4))⟩,
  ⟨(some 30), none, (.len (.t 29))⟩,
  ⟨(some 31), none, (.bin .sub (.t 30) (.c (.i .i64 1)))⟩,
  ⟨(some 32), none, (.ia 1 (.t 28) (.t 31))⟩,
  ⟨(some 33), none, (.ld none (.t 32))⟩,
  ⟨(some 7), none, (.val (.t 33))⟩]
theorem r9_9 {fn : AFun} {K : List AItem} {t : Nat → AV} {H : AH} {T : Tbl} : runR T fn (.code (.reg d9_9) :: K) t H = regR T fn K (aops (callR T) [
  ⟨(some 28), none, (.val (.t 4))⟩,
  ⟨(some 29), none, (.val (.t 4))⟩,
  ⟨(some 30), none, (.len (.t 29))⟩,
  ⟨(some 31), none, (.bin .sub (.t 30) (.c (.i .i64 1)))⟩,
  ⟨(some 32), none, (.ia 1 (.t 28) (.t 31))⟩,
  ⟨(some 33), none, (.ld none (.t 32))⟩,
  ⟨(some 7), none, (.val (.t 33))⟩] t H) := runR_reg'
def d9_10 : List AOper := [
  ⟨(some 34), none, (.val (.t 4))⟩,
  ⟨(some 35), none, (.len (.t 34))⟩,
  ⟨(some 36), none, (.bin .gtr (.t 35) (.c (.i .i64 1)))⟩,
  ⟨(some 37), none, (.val (.t 36))⟩,
  ⟨(some 38), (some (37, true)), (.val (.t 7))⟩,
  ⟨(some 39), (some (37, true)), (.bin .rem (.t 38) (.c (.i .u8 8)))⟩,
  ⟨(some 40), (some (37, true)), (.cvi .i64 (.t 39))⟩,
  ⟨(some 41), (some (37, true)), (.val (.t 6))⟩,
  ⟨(some 42), (some (37, true)), (.bin .eql (.t 40) (.t 41))⟩,
  ⟨(some 43), none, (.pick (.t 37) (.t 42) (.c (.b false)))⟩,
  ⟨(some 44), none, (.val (.t 43))⟩,
  ⟨(some 45), (some (44, true)), (.val (.t 7))⟩,
  ⟨(some 46), (some (44, true)), (.bin .quo (.t 45) (.c (.i .u8 8)))⟩,
  ⟨(some 47), (some (44, true)), (.bin .lss (.t 46) (.c (.i .u8 31)))⟩,
  ⟨(some 48), none, (.pick (.t 44) (.t 47) (.c (.b false)))⟩]
theorem r9_10 {fn : AFun} {K : List AItem} {t : Nat → AV} {H : AH} {T : Tbl} : runR T fn (.code (.reg d9_10) :: K) t H = regR T fn K (aops (callR T) [
  ⟨(some 34), none, (.val (.t 4))⟩,
  ⟨(some 35), none, (.len (.t 34))⟩,
  ⟨(some 36), none, (.bin .gtr (.t 35) (.c (.i .i64 1)))⟩,
  ⟨(some 37), none, (.val (.t 36))⟩,
  ⟨(some 38), (some (37, true)), (.val (.t 7))⟩,
  ⟨(some 39), (some (37, true)), (.bin .rem (.t 38) (.c (.i .u8 8)))⟩,
  ⟨(some 40), (some (37, true)), (.cvi .i64 (.t 39))⟩,
  ⟨(some 41), (some (37, true)), (.val (.t 6))⟩,
  ⟨(some 42), (some (37, true)), (.bin .eql (.t 40) (.t 41))⟩,
  ⟨(some 43), none, (.pick (.t 37) (.t 42) (.c (.b false)))⟩,
  ⟨(some 44), none, (.val (.t 43))⟩,
  ⟨(some 45), (some (44, true)), (.val (.t 7))⟩,
  ⟨(some 46), (some (44, true)), (.bin .quo (.t 45) (.c (.i .u8 8)))⟩,
  ⟨(some 47), (some (44, true)), (.bin .lss (.t 46) (.c (.i .u8 31)))⟩,
  ⟨(some 48), none, (.pick (.t 44) (.t 47) (.c (.b false)))⟩] t H) := runR_reg'
def d9_11 : List AOper := [
  ⟨(some 49), none, (.val (.t 4))⟩,
  ⟨(some 50), none, (.val (.t 4))⟩,
  ⟨(some 51), none, (.len (.t 50))⟩,
  ⟨(some 52), none, (.bin .sub (.t 51) (.c (.i .i64 1)))⟩,
  ⟨(some 53), none, (.val (.t 7))⟩,
  ⟨(some 54), none, (.bin .add (.t 53) (.c (.i .u8 8)))⟩,
  ⟨(some 55), none, (.ia 1 (.t 49) (.t 52))⟩,
  ⟨none, none, (.st 1 (.t 55) (.t 54))⟩]
theorem r9_11 {fn : AFun} {K : List AItem} {t : Nat → AV} {H : AH} {T : Tbl} : runR T fn (.code (.reg d9_11) :: K) t H = regR T fn K (aops (callR T) [
  ⟨(some 49), none, (.val (.t 4))⟩,
  ⟨(some 50), none, (.val (.t 4))⟩,
  ⟨(some 51), none, (.len (.t 50))⟩,
  ⟨(some 52), none, (.bin .sub (.t 51) (.c (.i .i64 1)))⟩,
  ⟨(some 53), none, (.val (.t 7))⟩,
  ⟨(some 54), none, (.bin .add (.t 53) (.c (.i .u8 8)))⟩,
  ⟨(some 55), none, (.ia 1 (.t 49) (.t 52))⟩,
  ⟨none, none, (.st 1 (.t 55) (.t 54))⟩] t H) := runR_reg'
def d9_12 : List AOper := [
  ⟨(some 56), none, (.val (.t 4))⟩,
  ⟨(some 57), none, (.val (.t 6))⟩,
  ⟨(some 58), none, (.bin .add (.t 57) (.c (.i .i64 8)))⟩,
  ⟨(some 59), none, (.cvi .u8 (.t 58))⟩,
  ⟨(some 60), none, (.bsl [(.i .u8 0)] 1 [(0, 1, (.t 59))])⟩,
  ⟨(some 61), none, (.app [(.i .u8 0)] 1 (.t 56) (.t 60))⟩,
  ⟨(some 4), none, (.val (.t 61))⟩]
theorem r9_12 {fn : AFun} {K : List AItem} {t : Nat → AV} {H : AH} {T : Tbl} : runR T fn (.code (.reg d9_12) :: K) t H = regR T fn K (aops (callR T) [
  ⟨(some 56), none, (.val (.t 4))⟩,
  ⟨(some 57), none, (.val (.t 6))⟩,
  ⟨(some 58), none, (.bin .add (.t 57) (.c (.i .i64 8)))⟩,
  ⟨(some 59), none, (.cvi .u8 (.t 58))⟩,
  ⟨(some 60), none, (.bsl [(.i .u8 0)] 1 [(0, 1, (.t 59))])⟩,
  ⟨(some 61), none, (.app [(.i .u8 0)] 1 (.t 56) (.t 60))⟩,
  ⟨(some 4), none, (.val (.t 61))⟩] t H) := runR_reg'
def d9_13 : List AOper := [
  ⟨(some 16), none, (.val (.t 5))⟩,
  ⟨(some 17), none, (.bin .add (.t 16) (.c (.i .i64 1)))⟩,
  ⟨(some 5), none, (.val (.t 17))⟩]
theorem r9_13 {fn : AFun} {K : List AItem} {t : Nat → AV} {H : AH} {T : Tbl} : runR T fn (.code (.reg d9_13) :: K) t H = regR T fn K (aops (callR T) [
  ⟨(some 16), none, (.val (.t 5))⟩,
  ⟨(some 17), none, (.bin .add (.t 16) (.c (.i .i64 1)))⟩,
  ⟨(some 5), none, (.val (.t 17))⟩] t H) := runR_reg'
def l9_14 : ACode := (.seq (.seq (.reg d9_5) (.cond (.t 15) .skip (.exit 0))) (.seq (.block 1 (.seq (.reg d9_6) (.seq (.seq (.reg d9_7) (.cond (.t 27) (.seq (.reg d9_8) .ret) .skip)) (.seq (.reg d9_9) (.seq (.reg d9_10) (.cond (.t 48) (.reg d9_11) (.reg d9_12))))))) (.reg d9_13)))
def d9_15 : List AOper := [
  ⟨(some 62), none, (.val (.t 4))⟩,
  ⟨(some 2), none, (.val (.t 62))⟩,
  ⟨(some 3), none, (.val (.c (.i .i64 0)))⟩]
theorem r9_15 {fn : AFun} {K : List AItem} {t : Nat → AV} {H : AH} {T : Tbl} : runR T fn (.code (.reg d9_15) :: K) t H = regR T fn K (aops (callR T) [
  ⟨(some 62), none, (.val (.t 4))⟩,
  ⟨(some 2), none, (.val (.t 62))⟩,
  ⟨(some 3), none, (.val (.c (.i .i64 0)))⟩] t H) := runR_reg'
def a9 : AFun := ⟨63, [(.tmp 2), (.tmp 3)], (.seq (.reg d9_0) (.seq (.seq (.reg d9_1) (.cond (.t 10) (.seq (.reg d9_2) .ret) .skip)) (.seq (.reg d9_3) (.seq (.seq (.reg d9_4) (.block 0 (.loop l9_14))) (.seq (.reg d9_15) .ret)))))⟩
theorem a9_ok : cfun Try.prog 9 = some a9 := by kernel_rfl
/-- futtock/rle.Longest -/
def d10_0 : List AOper := [
  ⟨(some 2), none, (.val (.c (.i .i64 0)))⟩,
  ⟨(some 3), none, (.val (.c (.i .i64 0)))⟩]
theorem r10_0 {fn : AFun} {K : List AItem} {t : Nat → AV} {H : AH} {T : Tbl} : runR T fn (.code (.reg d10_0) :: K) t H = regR T fn K (aops (callR T) [
  ⟨(some 2), none, (.val (.c (.i .i64 0)))⟩,
  ⟨(some 3), none, (.val (.c (.i .i64 0)))⟩] t H) := runR_reg'
def d10_1 : List AOper := [
  ⟨(some 4), none, (.alloc [(.i .i64 0)])⟩,
  ⟨(some 5), none, (.alloc [(.i .i64 0)])⟩,
  ⟨none, none, (.st 1 (.t 4) (.c (.i .i64 (-1))))⟩,
  ⟨none, none, (.st 1 (.t 5) (.c (.i .i64 0)))⟩]
theorem r10_1 {fn : AFun} {K : List AItem} {t : Nat → AV} {H : AH} {T : Tbl} : runR T fn (.code (.reg d10_1) :: K) t H = regR T fn K (aops (callR T) [
  ⟨(some 4), none, (.alloc [(.i .i64 0)])⟩,
  ⟨(some 5), none, (.alloc [(.i .i64 0)])⟩,
  ⟨none, none, (.st 1 (.t 4) (.c (.i .i64 (-1))))⟩,
  ⟨none, none, (.st 1 (.t 5) (.c (.i .i64 0)))⟩] t H) := runR_reg'
def d10_2 : List AOper := [
  ⟨(some 6), none, (.val (.t 0))⟩,
  ⟨(some 7), none, (.mkf (.func 19) [] [(.t 5), (.t 4)])⟩,
  ⟨(some 8), none, (.call 17 [(.t 6), (.t 7)])⟩]
theorem r10_2 {fn : AFun} {K : List AItem} {t : Nat → AV} {H : AH} {T : Tbl} : runR T fn (.code (.reg d10_2) :: K) t H = regR T fn K (aops (callR T) [
  ⟨(some 6), none, (.val (.t 0))⟩,
  ⟨(some 7), none, (.mkf (.func 19) [] [(.t 5), (.t 4)])⟩,
  ⟨(some 8), none, (.call 17 [(.t 6), (.t 7)])⟩] t H) := runR_reg'
def d10_3 : List (AOper × List Nat) := [
  (⟨(some 9), none, (.ld none (.t 4))⟩, [1]),
  (⟨(some 10), none, (.ld none (.t 5))⟩, [1]),
  (⟨(some 2), none, (.val (.t 9))⟩, []),
  (⟨(some 3), none, (.val (.t 10))⟩, [])]
theorem r10_3 {fn : AFun} {K : List AItem} {t : Nat → AV} {H : AH} {T : Tbl} : runR T fn (.code (.drw d10_3) :: K) t H = regR T fn K (aops (callR T) [
  ⟨(some 9), none, (.ld none (.t 4))⟩,
  ⟨(some 10), none, (.ld none (.t 5))⟩,
  ⟨(some 2), none, (.val (.t 9))⟩,
  ⟨(some 3), none, (.val (.t 10))⟩] t H) := runR_plain rfl
def a10 : AFun := ⟨11, [(.tmp 2), (.tmp 3)], (.seq (.reg d10_0) (.seq (.reg d10_1) (.seq (.reg d10_2) (.seq (.drw d10_3) .ret))))⟩
theorem a10_ok : cfun Try.prog 10 = some a10 := by kernel_rfl
/-- futtock/futtockref34.Longest -/
def d11_0 : List AOper := [
  ⟨(some 2), none, (.val (.c (.i .i64 0)))⟩,
  ⟨(some 3), none, (.val (.c (.i .i64 0)))⟩,
  ⟨(some 4), none, (.val (.c (.i .i64 0)))⟩]
theorem r11_0 {fn : AFun} {K : List AItem} {t : Nat → AV} {H : AH} {T : Tbl} : runR T fn (.code (.reg d11_0) :: K) t H = regR T fn K (aops (callR T) [
  ⟨(some 2), none, (.val (.c (.i .i64 0)))⟩,
  ⟨(some 3), none, (.val (.c (.i .i64 0)))⟩,
  ⟨(some 4), none, (.val (.c (.i .i64 0)))⟩] t H) := runR_reg'
def d11_1 : List AOper := [
  ⟨(some 5), none, (.val (.c (.i .i64 (-1))))⟩,
  ⟨(some 6), none, (.val (.c (.i .i64 0)))⟩,
  ⟨(some 7), none, (.val (.c (.i .i64 0)))⟩]
theorem r11_1 {fn : AFun} {K : List AItem} {t : Nat → AV} {H : AH} {T : Tbl} : runR T fn (.code (.reg d11_1) :: K) t H = regR T fn K (aops (callR T) [
  ⟨(some 5), none, (.val (.c (.i .i64 (-1))))⟩,
  ⟨(some 6), none, (.val (.c (.i .i64 0)))⟩,
  ⟨(some 7), none, (.val (.c (.i .i64 0)))⟩] t H) := runR_reg'
def d11_2 : List AOper := [
  ⟨(some 8), none, (.val (.c (.i .i64 0)))⟩]
theorem r11_2 {fn : AFun} {K : List AItem} {t : Nat → AV} {H : AH} {T : Tbl} : runR T fn (.code (.reg d11_2) :: K) t H = regR T fn K (aops (callR T) [
  ⟨(some 8), none, (.val (.c (.i .i64 0)))⟩] t H) := runR_reg'
def d11_3 : List AOper := [
  ⟨(some 11), none, (.val (.t 8))⟩,
  ⟨(some 12), none, (.val (.t 0))⟩,
  ⟨(some 13), none, (.len (.t 12))⟩,
  ⟨(some 14), none, (.bin .lss (.t 11) (.t 13))⟩]
theorem r11_3 {fn : AFun} {K : List AItem} {t : Nat → AV} {H : AH} {T : Tbl} : runR T fn (.code (.reg d11_3) :: K) t H = regR T fn K (aops (callR T) [
  ⟨(some 11), none, (.val (.t 8))⟩,
  ⟨(some 12), none, (.val (.t 0))⟩,
  ⟨(some 13), none, (.len (.t 12))⟩,
  ⟨(some 14), none, (.bin .lss (.t 11) (.t 13))⟩] t H) := runR_reg'
def d11_4 : List (AOper × List Nat) := [
  (⟨(some 17), none, (.val (.t 8))⟩, []),
  (⟨(some 18), none, (.bin .gtr (.t 17) (.c (.i .i64 0)))⟩, []),
  (⟨(some 19), none, (.val (.t 18))⟩, []),
  (⟨(some 20), (some (19, true)), (.val (.t 0))⟩, []),
  (⟨(some 21), (some (19, true)), (.val (.t 8))⟩, []),
  (⟨(some 22), (some (19, true)), (.ia 1 (.t 20) (.t 21))⟩, []),
  (⟨(some 23), (some (19, true)), (.ld none (.t 22))⟩, [1]),
  (⟨(some 24), (some (19, true)), (.val (.t 0))⟩, []),
  (⟨(some 25), (some (19, true)), (.val (.t 8))⟩, []),
  (⟨(some 26), (some (19, true)), (.bin .sub (.t 25) (.c (.i .i64 1)))⟩, []),
  (⟨(some 27), (some (19, true)), (.ia 1 (.t 24) (.t 26))⟩, []),
  (⟨(some 28), (some (19, true)), (.ld none (.t 27))⟩, [1]),
  (⟨(some 29), (some (19, true)), (.bin .eql (.t 23) (.t 28))⟩, []),
  (⟨(some 30), none, (.pick (.t 19) (.t 29) (.c (.b false)))⟩, [])]
theorem r11_4 {fn : AFun} {K : List AItem} {t : Nat → AV} {H : AH} {T : Tbl} : runR T fn (.code (.drw d11_4) :: K) t H = regR T fn K (aops (callR T) [
  ⟨(some 17), none, (.val (.t 8))⟩,
  ⟨(some 18), none, (.bin .gtr (.t 17) (.c (.i .i64 0)))⟩,
  ⟨(some 19), none, (.val (.t 18))⟩,
  ⟨(some 20), (some (19, true)), (.val (.t 0))⟩,
  ⟨(some 21), (some (19, true)), (.val (.t 8))⟩,
  ⟨(some 22), (some (19, true)), (.ia 1 (.t 20) (.t 21))⟩,
  ⟨(some 23), (some (19, true)), (.ld none (.t 22))⟩,
  ⟨(some 24), (some (19, true)), (.val (.t 0))⟩,
  ⟨(some 25), (some (19, true)), (.val (.t 8))⟩,
  ⟨(some 26), (some (19, true)), (.bin .sub (.t 25) (.c (.i .i64 1)))⟩,
  ⟨(some 27), (some (19, true)), (.ia 1 (.t 24) (.t 26))⟩,
  ⟨(some 28), (some (19, true)), (.ld none (.t 27))⟩,
  ⟨(some 29), (some (19, true)), (.bin .eql (.t 23) (.t 28))⟩,
  ⟨(some 30), none, (.pick (.t 19) (.t 29) (.c (.b false)))⟩] t H) := runR_plain rfl
def d11_5 : List AOper := [
  ⟨(some 31), none, (.val (.t 7))⟩,
  ⟨(some 32), none, (.bin .add (.t 31) (.c (.i .i64 1)))⟩,
  ⟨(some 7), none, (.val (.t 32))⟩]
theorem r11_5 {fn : AFun} {K : List AItem} {t : Nat → AV} {H : AH} {T : Tbl} : runR T fn (.code (.reg d11_5) :: K) t H = regR T fn K (aops (callR T) [
  ⟨(some 31), none, (.val (.t 7))⟩,
  ⟨(some 32), none, (.bin .add (.t 31) (.c (.i .i64 1)))⟩,
  ⟨(some 7), none, (.val (.t 32))⟩] t H) := runR_reg'
def d11_6 : List AOper := [
  ⟨(some 9), none, (.val (.c (.i .i64 1)))⟩]
theorem r11_6 {fn : AFun} {K : List AItem} {t : Nat → AV} {H : AH} {T : Tbl} : runR T fn (.code (.reg d11_6) :: K) t H = regR T fn K (aops (callR T) [
  ⟨(some 9), none, (.val (.c (.i .i64 1)))⟩] t H) := runR_reg'
def d11_7 : List AOper := [
  ⟨(some 33), none, (.val (.t 8))⟩,
  ⟨(some 34), none, (.bin .add (.t 33) (.c (.i .i64 1)))⟩,
  ⟨(some 10), none, (.val (.t 34))⟩]
theorem r11_7 {fn : AFun} {K : List AItem} {t : Nat → AV} {H : AH} {T : Tbl} : runR T fn (.code (.reg d11_7) :: K) t H = regR T fn K (aops (callR T) [
  ⟨(some 33), none, (.val (.t 8))⟩,
  ⟨(some 34), none, (.bin .add (.t 33) (.c (.i .i64 1)))⟩,
  ⟨(some 10), none, (.val (.t 34))⟩] t H) := runR_reg'
def d11_8 : List (AOper × List Nat) := [
  (⟨(some 35), none, (.val (.t 10))⟩, []),
  (⟨(some 36), none, (.val (.t 0))⟩, []),
  (⟨(some 37), none, (.len (.t 36))⟩, []),
  (⟨(some 38), none, (.bin .lss (.t 35) (.t 37))⟩, []),
  (⟨(some 39), none, (.val (.t 38))⟩, []),
  (⟨(some 40), (some (39, true)), (.val (.t 0))⟩, []),
  (⟨(some 41), (some (39, true)), (.val (.t 10))⟩, []),
  (⟨(some 42), (some (39, true)), (.ia 1 (.t 40) (.t 41))⟩, []),
  (⟨(some 43), (some (39, true)), (.ld none (.t 42))⟩, [1]),
  (⟨(some 44), (some (39, true)), (.val (.t 0))⟩, []),
  (⟨(some 45), (some (39, true)), (.val (.t 8))⟩, []),
  (⟨(some 46), (some (39, true)), (.ia 1 (.t 44) (.t 45))⟩, []),
  (⟨(some 47), (some (39, true)), (.ld none (.t 46))⟩, [1]),
  (⟨(some 48), (some (39, true)), (.bin .eql (.t 43) (.t 47))⟩, []),
  (⟨(some 49), none, (.pick (.t 39) (.t 48) (.c (.b false)))⟩, [])]
theorem r11_8 {fn : AFun} {K : List AItem} {t : Nat → AV} {H : AH} {T : Tbl} : runR T fn (.code (.drw d11_8) :: K) t H = regR T fn K (aops (callR T) [
  ⟨(some 35), none, (.val (.t 10))⟩,
  ⟨(some 36), none, (.val (.t 0))⟩,
  ⟨(some 37), none, (.len (.t 36))⟩,
  ⟨(some 38), none, (.bin .lss (.t 35) (.t 37))⟩,
  ⟨(some 39), none, (.val (.t 38))⟩,
  ⟨(some 40), (some (39, true)), (.val (.t 0))⟩,
  ⟨(some 41), (some (39, true)), (.val (.t 10))⟩,
  ⟨(some 42), (some (39, true)), (.ia 1 (.t 40) (.t 41))⟩,
  ⟨(some 43), (some (39, true)), (.ld none (.t 42))⟩,
  ⟨(some 44), (some (39, true)), (.val (.t 0))⟩,
  ⟨(some 45), (some (39, true)), (.val (.t 8))⟩,
  ⟨(some 46), (some (39, true)), (.ia 1 (.t 44) (.t 45))⟩,
  ⟨(some 47), (some (39, true)), (.ld none (.t 46))⟩,
  ⟨(some 48), (some (39, true)), (.bin .eql (.t 43) (.t 47))⟩,
  ⟨(some 49), none, (.pick (.t 39) (.t 48) (.c (.b false)))⟩] t H) := runR_plain rfl
def d11_9 : List AOper := [
  ⟨(some 52), none, (.val (.t 9))⟩,
  ⟨(some 53), none, (.bin .add (.t 52) (.c (.i .i64 1)))⟩,
  ⟨(some 9), none, (.val (.t 53))⟩]
theorem r11_9 {fn : AFun} {K : List AItem} {t : Nat → AV} {H : AH} {T : Tbl} : runR T fn (.code (.reg d11_9) :: K) t H = regR T fn K (aops (callR T) [
  ⟨(some 52), none, (.val (.t 9))⟩,
  ⟨(some 53), none, (.bin .add (.t 52) (.c (.i .i64 1)))⟩,
  ⟨(some 9), none, (.val (.t 53))⟩] t H) := runR_reg'
def d11_10 : List AOper := [
  ⟨(some 50), none, (.val (.t 10))⟩,
  ⟨(some 51), none, (.bin .add (.t 50) (.c (.i .i64 1)))⟩,
  ⟨(some 10), none, (.val (.t 51))⟩]
theorem r11_10 {fn : AFun} {K : List AItem} {t : Nat → AV} {H : AH} {T : Tbl} : runR T fn (.code (.reg d11_10) :: K) t H = regR T fn K (aops (callR T) [
  ⟨(some 50), none, (.val (.t 10))⟩,
  ⟨(some 51), none, (.bin .add (.t 50) (.c (.i .i64 1)))⟩,
  ⟨(some 10), none, (.val (.t 51))⟩] t H) := runR_reg'
def l11_11 : ACode := (.seq (.seq (.drw d11_8) (.cond (.t 49) .skip (.exit 2))) (.seq (.block 3 (.reg d11_9)) (.reg d11_10)))
def d11_12 : List AOper := [
  ⟨(some 54), none, (.val (.t 9))⟩,
  ⟨(some 55), none, (.val (.t 6))⟩,
  ⟨(some 56), none, (.bin .gtr (.t 54) (.t 55))⟩]
theorem r11_12 {fn : AFun} {K : List AItem} {t : Nat → AV} {H : AH} {T : Tbl} : runR T fn (.code (.reg d11_12) :: K) t H = regR T fn K (aops (callR T) [
  ⟨(some 54), none, (.val (.t 9))⟩,
  ⟨(some 55), none, (.val (.t 6))⟩,
  ⟨(some 56), none, (.bin .gtr (.t 54) (.t 55))⟩] t H) := runR_reg'
def d11_13 : List AOper := [
  ⟨(some 57), none, (.val (.t 0))⟩,
  ⟨(some 58), none, (.val (.t 8))⟩,
  ⟨(some 59), none, (.ia 1 (.t 57) (.t 58))⟩,
  ⟨(some 60), none, (.ld none (.t 59))⟩,
  ⟨(some 61), none, (.val (.t 9))⟩,
  ⟨(some 5), none, (.val (.t 60))⟩,
  ⟨(some 6), none, (.val (.t 61))⟩]
theorem r11_13 {fn : AFun} {K : List AItem} {t : Nat → AV} {H : AH} {T : Tbl} : runR T fn (.code (.reg d11_13) :: K) t H = regR T fn K (aops (callR T) [
  ⟨(some 57), none, (.val (.t 0))⟩,
  ⟨(some 58), none, (.val (.t 8))⟩,
  ⟨(some 59), none, (.ia 1 (.t 57) (.t 58))⟩,
  ⟨(some 60), none, (.ld none (.t 59))⟩,
  ⟨(some 61), none, (.val (.t 9))⟩,
  ⟨(some 5), none, (.val (.t 60))⟩,
  ⟨(some 6), none, (.val (.t 61))⟩] t H) := runR_reg'
def d11_14 : List AOper := [
  ⟨(some 15), none, (.val (.t 8))⟩,
  ⟨(some 16), none, (.bin .add (.t 15) (.c (.i .i64 1)))⟩,
  ⟨(some 8), none, (.val (.t 16))⟩]
theorem r11_14 {fn : AFun} {K : List AItem} {t : Nat → AV} {H : AH} {T : Tbl} : runR T fn (.code (.reg d11_14) :: K) t H = regR T fn K (aops (callR T) [
  ⟨(some 15), none, (.val (.t 8))⟩,
  ⟨(some 16), none, (.bin .add (.t 15) (.c (.i .i64 1)))⟩,
  ⟨(some 8), none, (.val (.t 16))⟩] t H) := runR_reg'
def l11_15 : ACode := (.seq (.seq (.reg d11_3) (.cond (.t 14) .skip (.exit 0))) (.seq (.block 1 (.seq (.seq (.drw d11_4) (.cond (.t 30) (.exit 1) .skip)) (.seq (.reg d11_5) (.seq (.reg d11_6) (.seq (.seq (.reg d11_7) (.block 2 (.loop l11_11))) (.seq (.reg d11_12) (.cond (.t 56) (.reg d11_13) .skip))))))) (.reg d11_14)))
def d11_16 : List AOper := [
  ⟨(some 62), none, (.val (.t 5))⟩,
  ⟨(some 63), none, (.val (.t 6))⟩,
  ⟨(some 64), none, (.val (.t 7))⟩,
  ⟨(some 2), none, (.val (.t 62))⟩,
  ⟨(some 3), none, (.val (.t 63))⟩,
  ⟨(some 4), none, (.val (.t 64))⟩]
theorem r11_16 {fn : AFun} {K : List AItem} {t : Nat → AV} {H : AH} {T : Tbl} : runR T fn (.code (.reg d11_16) :: K) t H = regR T fn K (aops (callR T) [
  ⟨(some 62), none, (.val (.t 5))⟩,
  ⟨(some 63), none, (.val (.t 6))⟩,
  ⟨(some 64), none, (.val (.t 7))⟩,
  ⟨(some 2), none, (.val (.t 62))⟩,
  ⟨(some 3), none, (.val (.t 63))⟩,
  ⟨(some 4), none, (.val (.t 64))⟩] t H) := runR_reg'
def a11 : AFun := ⟨65, [(.tmp 2), (.tmp 3), (.tmp 4)], (.seq (.reg d11_0) (.seq (.reg d11_1) (.seq (.seq (.reg d11_2) (.block 0 (.loop l11_15))) (.seq (.reg d11_16) .ret))))⟩
theorem a11_ok : cfun Try.prog 11 = some a11 := by kernel_rfl
/-- futtock/rle.Runs -/
def d12_0 : List AOper := [
  ⟨(some 2), none, (.val (.c (.i .i64 0)))⟩]
theorem r12_0 {fn : AFun} {K : List AItem} {t : Nat → AV} {H : AH} {T : Tbl} : runR T fn (.code (.reg d12_0) :: K) t H = regR T fn K (aops (callR T) [
  ⟨(some 2), none, (.val (.c (.i .i64 0)))⟩] t H) := runR_reg'
def d12_1 : List AOper := [
  ⟨(some 3), none, (.alloc [(.i .i64 0)])⟩,
  ⟨none, none, (.st 1 (.t 3) (.c (.i .i64 0)))⟩]
theorem r12_1 {fn : AFun} {K : List AItem} {t : Nat → AV} {H : AH} {T : Tbl} : runR T fn (.code (.reg d12_1) :: K) t H = regR T fn K (aops (callR T) [
  ⟨(some 3), none, (.alloc [(.i .i64 0)])⟩,
  ⟨none, none, (.st 1 (.t 3) (.c (.i .i64 0)))⟩] t H) := runR_reg'
def d12_2 : List AOper := [
  ⟨(some 4), none, (.val (.t 0))⟩,
  ⟨(some 5), none, (.mkf (.func 20) [] [(.t 3)])⟩,
  ⟨(some 6), none, (.call 17 [(.t 4), (.t 5)])⟩]
theorem r12_2 {fn : AFun} {K : List AItem} {t : Nat → AV} {H : AH} {T : Tbl} : runR T fn (.code (.reg d12_2) :: K) t H = regR T fn K (aops (callR T) [
  ⟨(some 4), none, (.val (.t 0))⟩,
  ⟨(some 5), none, (.mkf (.func 20) [] [(.t 3)])⟩,
  ⟨(some 6), none, (.call 17 [(.t 4), (.t 5)])⟩] t H) := runR_reg'
def d12_3 : List AOper := [
  ⟨(some 7), none, (.ld none (.t 3))⟩,
  ⟨(some 2), none, (.val (.t 7))⟩]
theorem r12_3 {fn : AFun} {K : List AItem} {t : Nat → AV} {H : AH} {T : Tbl} : runR T fn (.code (.reg d12_3) :: K) t H = regR T fn K (aops (callR T) [
  ⟨(some 7), none, (.ld none (.t 3))⟩,
  ⟨(some 2), none, (.val (.t 7))⟩] t H) := runR_reg'
def a12 : AFun := ⟨8, [(.tmp 2)], (.seq (.reg d12_0) (.seq (.reg d12_1) (.seq (.reg d12_2) (.seq (.reg d12_3) .ret))))⟩
theorem a12_ok : cfun Try.prog 12 = some a12 := by kernel_rfl
/-- futtock/rle.Unpack -/
def d13_0 : List AOper := [
  ⟨(some 2), none, (.val (.c (.sl none 0 0 true 0)))⟩,
  ⟨(some 3), none, (.val (.c (.i .i64 0)))⟩]
theorem r13_0 {fn : AFun} {K : List AItem} {t : Nat → AV} {H : AH} {T : Tbl} : runR T fn (.code (.reg d13_0) :: K) t H = regR T fn K (aops (callR T) [
  ⟨(some 2), none, (.val (.c (.sl none 0 0 true 0)))⟩,
  ⟨(some 3), none, (.val (.c (.i .i64 0)))⟩] t H) := runR_reg'
def d13_1 : List AOper := [
  ⟨(some 12), none, (.val (.t 0))⟩,
  ⟨(some 13), none, (.len (.t 12))⟩,
  ⟨(some 14), none, (.bin .eql (.t 13) (.c (.i .i64 0)))⟩,
  ⟨(some 11), none, (.val (.t 14))⟩]
theorem r13_1 {fn : AFun} {K : List AItem} {t : Nat → AV} {H : AH} {T : Tbl} : runR T fn (.code (.reg d13_1) :: K) t H = regR T fn K (aops (callR T) [
  ⟨(some 12), none, (.val (.t 0))⟩,
  ⟨(some 13), none, (.len (.t 12))⟩,
  ⟨(some 14), none, (.bin .eql (.t 13) (.c (.i .i64 0)))⟩,
  ⟨(some 11), none, (.val (.t 14))⟩] t H) := runR_reg'
def d13_2 : List AOper := [
  ⟨(some 2), none, (.val (.c (.sl none 0 0 true 0)))⟩,
  ⟨(some 3), none, (.val (.c (.i .i64 4)))⟩]
theorem r13_2 {fn : AFun} {K : List AItem} {t : Nat → AV} {H : AH} {T : Tbl} : runR T fn (.code (.reg d13_2) :: K) t H = regR T fn K (aops (callR T) [
  ⟨(some 2), none, (.val (.c (.sl none 0 0 true 0)))⟩,
  ⟨(some 3), none, (.val (.c (.i .i64 4)))⟩] t H) := runR_reg'
def d13_3 : List AOper := [
  ⟨(some 16), none, (.val (.t 0))⟩,
  ⟨(some 17), none, (.ia 1 (.t 16) (.c (.i .i64 0)))⟩,
  ⟨(some 18), none, (.ld none (.t 17))⟩,
  ⟨(some 19), none, (.bin .neq (.t 18) (.c (.i .u8 82)))⟩,
  ⟨(some 15), none, (.val (.t 19))⟩]
theorem r13_3 {fn : AFun} {K : List AItem} {t : Nat → AV} {H : AH} {T : Tbl} : runR T fn (.code (.reg d13_3) :: K) t H = regR T fn K (aops (callR T) [
  ⟨(some 16), none, (.val (.t 0))⟩,
  ⟨(some 17), none, (.ia 1 (.t 16) (.c (.i .i64 0)))⟩,
  ⟨(some 18), none, (.ld none (.t 17))⟩,
  ⟨(some 19), none, (.bin .neq (.t 18) (.c (.i .u8 82)))⟩,
  ⟨(some 15), none, (.val (.t 19))⟩] t H) := runR_reg'
def d13_4 : List AOper := [
  ⟨(some 2), none, (.val (.c (.sl none 0 0 true 0)))⟩,
  ⟨(some 3), none, (.val (.c (.i .i64 3)))⟩]
theorem r13_4 {fn : AFun} {K : List AItem} {t : Nat → AV} {H : AH} {T : Tbl} : runR T fn (.code (.reg d13_4) :: K) t H = regR T fn K (aops (callR T) [
  ⟨(some 2), none, (.val (.c (.sl none 0 0 true 0)))⟩,
  ⟨(some 3), none, (.val (.c (.i .i64 3)))⟩] t H) := runR_reg'
def d13_5 : List AOper := [
  ⟨(some 4), none, (.val (.c (.sl none 0 0 true 0)))⟩]
theorem r13_5 {fn : AFun} {K : List AItem} {t : Nat → AV} {H : AH} {T : Tbl} : runR T fn (.code (.reg d13_5) :: K) t H = regR T fn K (aops (callR T) [
  ⟨(some 4), none, (.val (.c (.sl none 0 0 true 0)))⟩] t H) := runR_reg'
def d13_6 : List AOper := [
  ⟨(some 5), none, (.val (.c (.i .i64 (-1))))⟩,
  ⟨(some 6), none, (.val (.c (.b true)))⟩]
theorem r13_6 {fn : AFun} {K : List AItem} {t : Nat → AV} {H : AH} {T : Tbl} : runR T fn (.code (.reg d13_6) :: K) t H = regR T fn K (aops (callR T) [
  ⟨(some 5), none, (.val (.c (.i .i64 (-1))))⟩,
  ⟨(some 6), none, (.val (.c (.b true)))⟩] t H) := runR_reg'
def d13_7 : List AOper := [
  ⟨(some 20), none, (.val (.t 0))⟩,
  ⟨(some 21), none, (.sls 1 (.t 20) (some (.c (.i .i64 1))) none none)⟩,
  ⟨(some 22), none, (.len (.t 21))⟩,
  ⟨(some 23), none, (.val (.c (.i .i64 0)))⟩]
theorem r13_7 {fn : AFun} {K : List AItem} {t : Nat → AV} {H : AH} {T : Tbl} : runR T fn (.code (.reg d13_7) :: K) t H = regR T fn K (aops (callR T) [
  ⟨(some 20), none, (.val (.t 0))⟩,
  ⟨(some 21), none, (.sls 1 (.t 20) (some (.c (.i .i64 1))) none none)⟩,
  ⟨(some 22), none, (.len (.t 21))⟩,
  ⟨(some 23), none, (.val (.c (.i .i64 0)))⟩] t H) := runR_reg'
def d13_8 : List AOper := [
  ⟨(some 24), none, (.bin .lss (.t 23) (.t 22))⟩]
theorem r13_8 {fn : AFun} {K : List AItem} {t : Nat → AV} {H : AH} {T : Tbl} : runR T fn (.code (.reg d13_8) :: K) t H = regR T fn K (aops (callR T) [
  ⟨(some 24), none, (.bin .lss (.t 23) (.t 22))⟩] t H) := runR_reg'
def d13_9 : List AOper := [
  ⟨(some 25), none, (.ia 1 (.t 21) (.t 23))⟩,
  ⟨(some 26), none, (.ld none (.t 25))⟩,
  ⟨(some 8), none, (.val (.t 26))⟩]
theorem r13_9 {fn : AFun} {K : List AItem} {t : Nat → AV} {H : AH} {T : Tbl} : runR T fn (.code (.reg d13_9) :: K) t H = regR T fn K (aops (callR T) [
  ⟨(some 25), none, (.ia 1 (.t 21) (.t 23))⟩,
  ⟨(some 26), none, (.ld none (.t 25))⟩,
  ⟨(some 8), none, (.val (.t 26))⟩] t H) := runR_reg'
def d13_10 : List AOper := [
  ⟨(some 27), none, (.val (.t 8))⟩,
  ⟨(some 28), none, (.bin .and (.t 27) (.c (.i .u8 7)))⟩,
  ⟨(some 29), none, (.cvi .i64 (.t 28))⟩,
  ⟨(some 30), none, (.val (.t 8))⟩,
  ⟨(some 31), none, (.bin .shr (.t 30) (.c (.i .u64 3)))⟩,
  ⟨(some 32), none, (.cvi .i64 (.t 31))⟩,
  ⟨(some 9), none, (.val (.t 29))⟩,
  ⟨(some 10), none, (.val (.t 32))⟩]
theorem r13_10 {fn : AFun} {K : List AItem} {t : Nat → AV} {H : AH} {T : Tbl} : runR T fn (.code (.reg d13_10) :: K) t H = regR T fn K (aops (callR T) [
  ⟨(some 27), none, (.val (.t 8))⟩,
  ⟨(some 28), none, (.bin .and (.t 27) (.c (.i .u8 7)))⟩,
  ⟨(some 29), none, (.cvi .i64 (.t 28))⟩,
  ⟨(some 30), none, (.val (.t 8))⟩,
  ⟨(some 31), none, (.bin .shr (.t 30) (.c (.i .u64 3)))⟩,
  ⟨(some 32), none, (.cvi .i64 (.t 31))⟩,
  ⟨(some 9), none, (.val (.t 29))⟩,
  ⟨(some 10), none, (.val (.t 32))⟩] t H) := runR_reg'
def d13_11 : List AOper := [
  ⟨(some 34), none, (.val (.t 10))⟩,
  ⟨(some 35), none, (.bin .eql (.t 34) (.c (.i .i64 0)))⟩,
  ⟨(some 36), none, (.val (.t 35))⟩,
  ⟨(some 37), (some (36, false)), (.val (.t 9))⟩,
  ⟨(some 38), (some (36, false)), (.val (.t 5))⟩,
  ⟨(some 39), (some (36, false)), (.bin .eql (.t 37) (.t 38))⟩,
  ⟨(some 40), (some (36, false)), (.val (.t 39))⟩,
  ⟨(some 41), (some (40, true)), (.val (.t 6))⟩,
  ⟨(some 42), (some (40, true)), (.un .not (.t 41))⟩,
  ⟨(some 43), (some (36, false)), (.pick (.t 40) (.t 42) (.c (.b false)))⟩,
  ⟨(some 44), none, (.pick (.t 36) (.c (.b true)) (.t 43))⟩,
  ⟨(some 33), none, (.val (.t 44))⟩]
theorem r13_11 {fn : AFun} {K : List AItem} {t : Nat → AV} {H : AH} {T : Tbl} : runR T fn (.code (.reg d13_11) :: K) t H = regR T fn K (aops (callR T) [
  ⟨(some 34), none, (.val (.t 10))⟩,
  ⟨(some 35), none, (.bin .eql (.t 34) (.c (.i .i64 0)))⟩,
  ⟨(some 36), none, (.val (.t 35))⟩,
  ⟨(some 37), (some (36, false)), (.val (.t 9))⟩,
  ⟨(some 38), (some (36, false)), (.val (.t 5))⟩,
  ⟨(some 39), (some (36, false)), (.bin .eql (.t 37) (.t 38))⟩,
  ⟨(some 40), (some (36, false)), (.val (.t 39))⟩,
  ⟨(some 41), (some (40, true)), (.val (.t 6))⟩,
  ⟨(some 42), (some (40, true)), (.un .not (.t 41))⟩,
  ⟨(some 43), (some (36, false)), (.pick (.t 40) (.t 42) (.c (.b false)))⟩,
  ⟨(some 44), none, (.pick (.t 36) (.c (.b true)) (.t 43))⟩,
  ⟨(some 33), none, (.val (.t 44))⟩] t H) := runR_reg'
def d13_12 : List AOper := [
  ⟨(some 2), none, (.val (.c (.sl none 0 0 true 0)))⟩,
  ⟨(some 3), none, (.val (.c (.i .i64 3)))⟩]
theorem r13_12 {fn : AFun} {K : List AItem} {t : Nat → AV} {H : AH} {T : Tbl} : runR T fn (.code (.reg d13_12) :: K) t H = regR T fn K (aops (callR T) [
  ⟨(some 2), none, (.val (.c (.sl none 0 0 true 0)))⟩,
  ⟨(some 3), none, (.val (.c (.i .i64 3)))⟩] t H) := runR_reg'
def d13_13 : List AOper := [
  ⟨(some 46), none, (.val (.t 4))⟩,
  ⟨(some 47), none, (.len (.t 46))⟩,
  ⟨(some 48), none, (.val (.t 10))⟩,
  ⟨(some 49), none, (.bin .add (.t 47) (.t 48))⟩,
  ⟨(some 50), none, (.bin .gtr (.t 49) (.c (.i .i64 100000)))⟩,
  ⟨(some 45), none, (.val (.t 50))⟩]
theorem r13_13 {fn : AFun} {K : List AItem} {t : Nat → AV} {H : AH} {T : Tbl} : runR T fn (.code (.reg d13_13) :: K) t H = regR T fn K (aops (callR T) [
  ⟨(some 46), none, (.val (.t 4))⟩,
  ⟨(some 47), none, (.len (.t 46))⟩,
  ⟨(some 48), none, (.val (.t 10))⟩,
  ⟨(some 49), none, (.bin .add (.t 47) (.t 48))⟩,
  ⟨(some 50), none, (.bin .gtr (.t 49) (.c (.i .i64 100000)))⟩,
  ⟨(some 45), none, (.val (.t 50))⟩] t H) := runR_reg'
def d13_14 : List AOper := [
  ⟨(some 2), none, (.val (.c (.sl none 0 0 true 0)))⟩,
  ⟨(some 3), none, (.val (.c (.i .i64 5)))⟩]
theorem r13_14 {fn : AFun} {K : List AItem} {t : Nat → AV} {H : AH} {T : Tbl} : runR T fn (.code (.reg d13_14) :: K) t H = regR T fn K (aops (callR T) [
  ⟨(some 2), none, (.val (.c (.sl none 0 0 true 0)))⟩,
  ⟨(some 3), none, (.val (.c (.i .i64 5)))⟩] t H) := runR_reg'
def d13_15 : List AOper := [
  ⟨(some 51), none, (.val (.t 10))⟩,
  ⟨(some 52), none, (.val (.c (.i .i64 0)))⟩]
theorem r13_15 {fn : AFun} {K : List AItem} {t : Nat → AV} {H : AH} {T : Tbl} : runR T fn (.code (.reg d13_15) :: K) t H = regR T fn K (aops (callR T) [
  ⟨(some 51), none, (.val (.t 10))⟩,
  ⟨(some 52), none, (.val (.c (.i .i64 0)))⟩] t H) := runR_reg'
def d13_16 : List AOper := [
  ⟨(some 53), none, (.bin .lss (.t 52) (.t 51))⟩]
theorem r13_16 {fn : AFun} {K : List AItem} {t : Nat → AV} {H : AH} {T : Tbl} : runR T fn (.code (.reg d13_16) :: K) t H = regR T fn K (aops (callR T) [
  ⟨(some 53), none, (.bin .lss (.t 52) (.t 51))⟩] t H) := runR_reg'
def d13_17 : List AOper := [
  ⟨(some 54), none, (.val (.t 4))⟩,
  ⟨(some 55), none, (.val (.t 9))⟩,
  ⟨(some 56), none, (.bsl [(.i .i64 0)] 1 [(0, 1, (.t 55))])⟩,
  ⟨(some 57), none, (.app [(.i .i64 0)] 8 (.t 54) (.t 56))⟩,
  ⟨(some 4), none, (.val (.t 57))⟩]
theorem r13_17 {fn : AFun} {K : List AItem} {t : Nat → AV} {H : AH} {T : Tbl} : runR T fn (.code (.reg d13_17) :: K) t H = regR T fn K (aops (callR T) [
  ⟨(some 54), none, (.val (.t 4))⟩,
  ⟨(some 55), none, (.val (.t 9))⟩,
  ⟨(some 56), none, (.bsl [(.i .i64 0)] 1 [(0, 1, (.t 55))])⟩,
  ⟨(some 57), none, (.app [(.i .i64 0)] 8 (.t 54) (.t 56))⟩,
  ⟨(some 4), none, (.val (.t 57))⟩] t H) := runR_reg'
def d13_18 : List AOper := [
  ⟨(some 58), none, (.bin .add (.t 52) (.c (.i .i64 1)))⟩,
  ⟨(some 52), none, (.val (.t 58))⟩]
theorem r13_18 {fn : AFun} {K : List AItem} {t : Nat → AV} {H : AH} {T : Tbl} : runR T fn (.code (.reg d13_18) :: K) t H = regR T fn K (aops (callR T) [
  ⟨(some 58), none, (.bin .add (.t 52) (.c (.i .i64 1)))⟩,
  ⟨(some 52), none, (.val (.t 58))⟩] t H) := runR_reg'
def l13_19 : ACode := (.seq (.reg d13_16) (.seq (.cond (.t 53) .skip (.exit 4)) (.seq (.block 5 (.reg d13_17)) (.reg d13_18))))
def d13_20 : List AOper := [
  ⟨(some 59), none, (.val (.t 9))⟩,
  ⟨(some 60), none, (.val (.t 10))⟩,
  ⟨(some 61), none, (.bin .eql (.t 60) (.c (.i .i64 31)))⟩,
  ⟨(some 5), none, (.val (.t 59))⟩,
  ⟨(some 6), none, (.val (.t 61))⟩]
theorem r13_20 {fn : AFun} {K : List AItem} {t : Nat → AV} {H : AH} {T : Tbl} : runR T fn (.code (.reg d13_20) :: K) t H = regR T fn K (aops (callR T) [
  ⟨(some 59), none, (.val (.t 9))⟩,
  ⟨(some 60), none, (.val (.t 10))⟩,
  ⟨(some 61), none, (.bin .eql (.t 60) (.c (.i .i64 31)))⟩,
  ⟨(some 5), none, (.val (.t 59))⟩,
  ⟨(some 6), none, (.val (.t 61))⟩] t H) := runR_reg'
def d13_21 : List AOper := [
  ⟨(some 62), none, (.bin .add (.t 23) (.c (.i .i64 1)))⟩,
  ⟨(some 23), none, (.val (.t 62))⟩]
theorem r13_21 {fn : AFun} {K : List AItem} {t : Nat → AV} {H : AH} {T : Tbl} : runR T fn (.code (.reg d13_21) :: K) t H = regR T fn K (aops (callR T) [
  ⟨(some 62), none, (.bin .add (.t 23) (.c (.i .i64 1)))⟩,
  ⟨(some 23), none, (.val (.t 62))⟩] t H) := runR_reg'
def l13_22 : ACode := (.seq (.reg d13_8) (.seq (.cond (.t 24) .skip (.exit 1)) (.seq (.block 2 (.seq (.reg d13_9) (.seq (.reg d13_10) (.seq (.block 3 (.seq (.reg d13_11) (.cond (.t 33) (.seq (.reg d13_12) .ret) (.seq (.reg d13_13) (.cond (.t 45) (.seq (.reg d13_14) .ret) .skip))))) (.seq (.seq (.reg d13_15) (.block 4 (.loop l13_19))) (.reg d13_20)))))) (.reg d13_21))))
def d13_23 : List AOper := [
  ⟨(some 63), none, (.val (.t 4))⟩,
  ⟨(some 2), none, (.val (.t 63))⟩,
  ⟨(some 3), none, (.val (.c (.i .i64 0)))⟩]
theorem r13_23 {fn : AFun} {K : List AItem} {t : Nat → AV} {H : AH} {T : Tbl} : runR T fn (.code (.reg d13_23) :: K) t H = regR T fn K (aops (callR T) [
  ⟨(some 63), none, (.val (.t 4))⟩,
  ⟨(some 2), none, (.val (.t 63))⟩,
  ⟨(some 3), none, (.val (.c (.i .i64 0)))⟩] t H) := runR_reg'
def a13 : AFun := ⟨64, [(.tmp 2), (.tmp 3)], (.seq (.reg d13_0) (.seq (.block 0 (.seq (.reg d13_1) (.cond (.t 11) (.seq (.reg d13_2) .ret) (.seq (.reg d13_3) (.cond (.t 15) (.seq (.reg d13_4) .ret) .skip))))) (.seq (.reg d13_5) (.seq (.reg d13_6) (.seq (.seq (.reg d13_7) (.block 1 (.loop l13_22))) (.seq (.reg d13_23) .ret))))))⟩
theorem a13_ok : cfun Try.prog 13 = some a13 := by kernel_rfl
/-- futtock/futtocklaw34.same -/
def d14_0 : List AOper := [
  ⟨(some 4), none, (.val (.c (.b false)))⟩]
theorem r14_0 {fn : AFun} {K : List AItem} {t : Nat → AV} {H : AH} {T : Tbl} : runR T fn (.code (.reg d14_0) :: K) t H = regR T fn K (aops (callR T) [
  ⟨(some 4), none, (.val (.c (.b false)))⟩] t H) := runR_reg'
def d14_1 : List AOper := [
  ⟨(some 6), none, (.val (.t 0))⟩,
  ⟨(some 7), none, (.len (.t 6))⟩,
  ⟨(some 8), none, (.val (.t 1))⟩,
  ⟨(some 9), none, (.len (.t 8))⟩,
  ⟨(some 10), none, (.bin .neq (.t 7) (.t 9))⟩]
theorem r14_1 {fn : AFun} {K : List AItem} {t : Nat → AV} {H : AH} {T : Tbl} : runR T fn (.code (.reg d14_1) :: K) t H = regR T fn K (aops (callR T) [
  ⟨(some 6), none, (.val (.t 0))⟩,
  ⟨(some 7), none, (.len (.t 6))⟩,
  ⟨(some 8), none, (.val (.t 1))⟩,
  ⟨(some 9), none, (.len (.t 8))⟩,
  ⟨(some 10), none, (.bin .neq (.t 7) (.t 9))⟩] t H) := runR_reg'
def d14_2 : List AOper := [
  ⟨(some 4), none, (.val (.c (.b false)))⟩]
theorem r14_2 {fn : AFun} {K : List AItem} {t : Nat → AV} {H : AH} {T : Tbl} : runR T fn (.code (.reg d14_2) :: K) t H = regR T fn K (aops (callR T) [
  ⟨(some 4), none, (.val (.c (.b false)))⟩] t H) := runR_reg'
def d14_3 : List AOper := [
  ⟨(some 11), none, (.val (.t 0))⟩,
  ⟨(some 12), none, (.len (.t 11))⟩,
  ⟨(some 13), none, (.val (.c (.i .i64 0)))⟩]
theorem r14_3 {fn : AFun} {K : List AItem} {t : Nat → AV} {H : AH} {T : Tbl} : runR T fn (.code (.reg d14_3) :: K) t H = regR T fn K (aops (callR T) [
  ⟨(some 11), none, (.val (.t 0))⟩,
  ⟨(some 12), none, (.len (.t 11))⟩,
  ⟨(some 13), none, (.val (.c (.i .i64 0)))⟩] t H) := runR_reg'
def d14_4 : List AOper := [
  ⟨(some 14), none, (.bin .lss (.t 13) (.t 12))⟩]
theorem r14_4 {fn : AFun} {K : List AItem} {t : Nat → AV} {H : AH} {T : Tbl} : runR T fn (.code (.reg d14_4) :: K) t H = regR T fn K (aops (callR T) [
  ⟨(some 14), none, (.bin .lss (.t 13) (.t 12))⟩] t H) := runR_reg'
def d14_5 : List AOper := [
  ⟨(some 15), none, (.val (.t 13))⟩,
  ⟨(some 5), none, (.val (.t 15))⟩]
theorem r14_5 {fn : AFun} {K : List AItem} {t : Nat → AV} {H : AH} {T : Tbl} : runR T fn (.code (.reg d14_5) :: K) t H = regR T fn K (aops (callR T) [
  ⟨(some 15), none, (.val (.t 13))⟩,
  ⟨(some 5), none, (.val (.t 15))⟩] t H) := runR_reg'
def d14_6 : List (AOper × List Nat) := [
  (⟨(some 16), none, (.val (.t 0))⟩, []),
  (⟨(some 17), none, (.val (.t 5))⟩, []),
  (⟨(some 18), none, (.ia 1 (.t 16) (.t 17))⟩, []),
  (⟨(some 19), none, (.ld none (.t 18))⟩, [1]),
  (⟨(some 20), none, (.val (.t 1))⟩, []),
  (⟨(some 21), none, (.val (.t 5))⟩, []),
  (⟨(some 22), none, (.ia 1 (.t 20) (.t 21))⟩, []),
  (⟨(some 23), none, (.ld none (.t 22))⟩, [1]),
  (⟨(some 24), none, (.bin .neq (.t 19) (.t 23))⟩, [])]
theorem r14_6 {fn : AFun} {K : List AItem} {t : Nat → AV} {H : AH} {T : Tbl} : runR T fn (.code (.drw d14_6) :: K) t H = regR T fn K (aops (callR T) [
  ⟨(some 16), none, (.val (.t 0))⟩,
  ⟨(some 17), none, (.val (.t 5))⟩,
  ⟨(some 18), none, (.ia 1 (.t 16) (.t 17))⟩,
  ⟨(some 19), none, (.ld none (.t 18))⟩,
  ⟨(some 20), none, (.val (.t 1))⟩,
  ⟨(some 21), none, (.val (.t 5))⟩,
  ⟨(some 22), none, (.ia 1 (.t 20) (.t 21))⟩,
  ⟨(some 23), none, (.ld none (.t 22))⟩,
  ⟨(some 24), none, (.bin .neq (.t 19) (.t 23))⟩] t H) := runR_plain rfl
def d14_7 : List AOper := [
  ⟨(some 4), none, (.val (.c (.b false)))⟩]
theorem r14_7 {fn : AFun} {K : List AItem} {t : Nat → AV} {H : AH} {T : Tbl} : runR T fn (.code (.reg d14_7) :: K) t H = regR T fn K (aops (callR T) [
  ⟨(some 4), none, (.val (.c (.b false)))⟩] t H) := runR_reg'
def d14_8 : List AOper := [
  ⟨(some 25), none, (.bin .add (.t 13) (.c (.i .i64 1)))⟩,
  ⟨(some 13), none, (.val (.t 25))⟩]
theorem r14_8 {fn : AFun} {K : List AItem} {t : Nat → AV} {H : AH} {T : Tbl} : runR T fn (.code (.reg d14_8) :: K) t H = regR T fn K (aops (callR T) [
  ⟨(some 25), none, (.bin .add (.t 13) (.c (.i .i64 1)))⟩,
  ⟨(some 13), none, (.val (.t 25))⟩] t H) := runR_reg'
def l14_9 : ACode := (.seq (.reg d14_4) (.seq (.cond (.t 14) .skip (.exit 0)) (.seq (.block 1 (.seq (.reg d14_5) (.seq (.drw d14_6) (.cond (.t 24) (.seq (.reg d14_7) .ret) .skip)))) (.reg d14_8))))
def d14_10 : List AOper := [
  ⟨(some 4), none, (.val (.c (.b true)))⟩]
theorem r14_10 {fn : AFun} {K : List AItem} {t : Nat → AV} {H : AH} {T : Tbl} : runR T fn (.code (.reg d14_10) :: K) t H = regR T fn K (aops (callR T) [
  ⟨(some 4), none, (.val (.c (.b true)))⟩] t H) := runR_reg'
def a14 : AFun := ⟨26, [(.tmp 4)], (.seq (.reg d14_0) (.seq (.seq (.reg d14_1) (.cond (.t 10) (.seq (.reg d14_2) .ret) .skip)) (.seq (.seq (.reg d14_3) (.block 0 (.loop l14_9))) (.seq (.reg d14_10) .ret))))⟩
theorem a14_ok : cfun Try.prog 14 = some a14 := by kernel_rfl
/-- futtock/futtockref34.Unpack -/
def d15_0 : List AOper := [
  ⟨(some 2), none, (.val (.c (.sl none 0 0 true 0)))⟩,
  ⟨(some 3), none, (.val (.c (.i .i64 0)))⟩]
theorem r15_0 {fn : AFun} {K : List AItem} {t : Nat → AV} {H : AH} {T : Tbl} : runR T fn (.code (.reg d15_0) :: K) t H = regR T fn K (aops (callR T) [
  ⟨(some 2), none, (.val (.c (.sl none 0 0 true 0)))⟩,
  ⟨(some 3), none, (.val (.c (.i .i64 0)))⟩] t H) := runR_reg'
def d15_1 : List AOper := [
  ⟨(some 7), none, (.val (.t 0))⟩,
  ⟨(some 8), none, (.len (.t 7))⟩,
  ⟨(some 9), none, (.bin .eql (.t 8) (.c (.i .i64 0)))⟩]
theorem r15_1 {fn : AFun} {K : List AItem} {t : Nat → AV} {H : AH} {T : Tbl} : runR T fn (.code (.reg d15_1) :: K) t H = regR T fn K (aops (callR T) [
  ⟨(some 7), none, (.val (.t 0))⟩,
  ⟨(some 8), none, (.len (.t 7))⟩,
  ⟨(some 9), none, (.bin .eql (.t 8) (.c (.i .i64 0)))⟩] t H) := runR_reg'
def d15_2 : List AOper := [
  ⟨(some 2), none, (.val (.c (.sl none 0 0 true 0)))⟩,
  ⟨(some 3), none, (.val (.c (.i .i64 4)))⟩]
theorem r15_2 {fn : AFun} {K : List AItem} {t : Nat → AV} {H : AH} {T : Tbl} : runR T fn (.code (.reg d15_2) :: K) t H = regR T fn K (aops (callR T) [
  ⟨(some 2), none, (.val (.c (.sl none 0 0 true 0)))⟩,
  ⟨(some 3), none, (.val (.c (.i .i64 4)))⟩] t H) := runR_reg'
def d15_3 : List AOper := [
  ⟨(some 10), none, (.val (.t 0))⟩,
  ⟨(some 11), none, (.ia 1 (.t 10) (.c (.i .i64 0)))⟩,
  ⟨(some 12), none, (.ld none (.t 11))⟩,
  ⟨(some 13), none, (.bin .neq (.t 12) (.c (.i .u8 82)))⟩]
theorem r15_3 {fn : AFun} {K : List AItem} {t : Nat → AV} {H : AH} {T : Tbl} : runR T fn (.code (.reg d15_3) :: K) t H = regR T fn K (aops (callR T) [
  ⟨(some 10), none, (.val (.t 0))⟩,
  ⟨(some 11), none, (.ia 1 (.t 10) (.c (.i .i64 0)))⟩,
  ⟨(some 12), none, (.ld none (.t 11))⟩,
  ⟨(some 13), none, (.bin .neq (.t 12) (.c (.i .u8 82)))⟩] t H) := runR_reg'
def d15_4 : List AOper := [
  ⟨(some 2), none, (.val (.c (.sl none 0 0 true 0)))⟩,
  ⟨(some 3), none, (.val (.c (.i .i64 3)))⟩]
theorem r15_4 {fn : AFun} {K : List AItem} {t : Nat → AV} {H : AH} {T : Tbl} : runR T fn (.code (.reg d15_4) :: K) t H = regR T fn K (aops (callR T) [
  ⟨(some 2), none, (.val (.c (.sl none 0 0 true 0)))⟩,
  ⟨(some 3), none, (.val (.c (.i .i64 3)))⟩] t H) := runR_reg'
def d15_5 : List AOper := [
  ⟨(some 4), none, (.val (.c (.sl none 0 0 true 0)))⟩]
theorem r15_5 {fn : AFun} {K : List AItem} {t : Nat → AV} {H : AH} {T : Tbl} : runR T fn (.code (.reg d15_5) :: K) t H = regR T fn K (aops (callR T) [
  ⟨(some 4), none, (.val (.c (.sl none 0 0 true 0)))⟩] t H) := runR_reg'
def d15_6 : List AOper := [
  ⟨(some 5), none, (.val (.c (.i .i64 1)))⟩]
theorem r15_6 {fn : AFun} {K : List AItem} {t : Nat → AV} {H : AH} {T : Tbl} : runR T fn (.code (.reg d15_6) :: K) t H = regR T fn K (aops (callR T) [
  ⟨(some 5), none, (.val (.c (.i .i64 1)))⟩] t H) := runR_reg'
def d15_7 : List AOper := [
  ⟨(some 14), none, (.val (.t 5))⟩,
  ⟨(some 15), none, (.val (.t 0))⟩,
  ⟨(some 16), none, (.len (.t 15))⟩,
  ⟨(some 17), none, (.bin .lss (.t 14) (.t 16))⟩]
theorem r15_7 {fn : AFun} {K : List AItem} {t : Nat → AV} {H : AH} {T : Tbl} : runR T fn (.code (.reg d15_7) :: K) t H = regR T fn K (aops (callR T) [
  ⟨(some 14), none, (.val (.t 5))⟩,
  ⟨(some 15), none, (.val (.t 0))⟩,
  ⟨(some 16), none, (.len (.t 15))⟩,
  ⟨(some 17), none, (.bin .lss (.t 14) (.t 16))⟩] t H) := runR_reg'
def d15_8 : List (AOper × List Nat) := [
  (⟨(some 20), none, (.val (.t 0))⟩, []),
  (⟨(some 21), none, (.val (.t 5))⟩, []),
  (⟨(some 22), none, (.ia 1 (.t 20) (.t 21))⟩, []),
  (⟨(some 23), none, (.ld none (.t 22))⟩, [1]),
  (⟨(some 24), none, (.bin .quo (.t 23) (.c (.i .u8 8)))⟩, []),
  (⟨(some 25), none, (.bin .eql (.t 24) (.c (.i .u8 0)))⟩, []),
  (⟨(some 26), none, (.val (.t 25))⟩, []),
  (⟨(some 27), (some (26, false)), (.val (.t 5))⟩, []),
  (⟨(some 28), (some (26, false)), (.bin .gtr (.t 27) (.c (.i .i64 1)))⟩, []),
  (⟨(some 29), (some (26, false)), (.val (.t 28))⟩, []),
  (⟨(some 30), (some (29, true)), (.val (.t 0))⟩, []),
  (⟨(some 31), (some (29, true)), (.val (.t 5))⟩, []),
  (⟨(some 32), (some (29, true)), (.ia 1 (.t 30) (.t 31))⟩, []),
  (⟨(some 33), (some (29, true)), (.ld none (.t 32))⟩, [1]),
  (⟨(some 34), (some (29, true)), (.bin .rem (.t 33) (.c (.i .u8 8)))⟩, []),
  (⟨(some 35), (some (29, true)), (.val (.t 0))⟩, []),
  (⟨(some 36), (some (29, true)), (.val (.t 5))⟩, []),
  (⟨(some 37), (some (29, true)), (.bin .sub (.t 36) (.c (.i .i64 1)))⟩, []),
  (⟨(some 38), (some (29, true)), (.ia 1 (.t 35) (.t 37))⟩, []),
  (⟨(some 39), (some (29, true)), (.ld none (.t 38))⟩, [1]),
  (⟨(some 40), (some (29, true)), (.bin .rem (.t 39) (.c (.i .u8 8)))⟩, []),
  (⟨(some 41), (some (29, true)), (.bin .eql (.t 34) (.t 40))⟩, []),
  (⟨(some 42), (some (26, false)), (.pick (.t 29) (.t 41) (.c (.b false)))⟩, []),
  (⟨(some 43), (some (26, false)), (.val (.t 42))⟩, []),
  (⟨(some 44), (some (43, true)), (.val (.t 0))⟩, []),
  (⟨(some 45), (some (43, true)), (.val (.t 5))⟩, []),
  (⟨(some 46), (some (43, true)), (.bin .sub (.t 45) (.c (.i .i64 1)))⟩, []),
  (⟨(some 47), (some (43, true)), (.ia 1 (.t 44) (.t 46))⟩, []),
  (⟨(some 48), (some (43, true)), (.ld none (.t 47))⟩, [1]),
  (⟨(some 49), (some (43, true)), (.bin .quo (.t 48) (.c (.i .u8 8)))⟩, []),
  (⟨(some 50), (some (43, true)), (.bin .lss (.t 49) (.c (.i .u8 31)))⟩, []),
  (⟨(some 51), (some (26, false)), (.pick (.t 43) (.t 50) (.c (.b false)))⟩, []),
  (⟨(some 52), none, (.pick (.t 26) (.c (.b true)) (.t 51))⟩, [])]
theorem r15_8 {fn : AFun} {K : List AItem} {t : Nat → AV} {H : AH} {T : Tbl} : runR T fn (.code (.drw d15_8) :: K) t H = regR T fn K (aops (callR T) [
  ⟨(some 20), none, (.val (.t 0))⟩,
  ⟨(some 21), none, (.val (.t 5))⟩,
  ⟨(some 22), none, (.ia 1 (.t 20) (.t 21))⟩,
  ⟨(some 23), none, (.ld none (.t 22))⟩,
  ⟨(some 24), none, (.bin .quo (.t 23) (.c (.i .u8 8)))⟩,
  ⟨(some 25), none, (.bin .eql (.t 24) (.c (.i .u8 0)))⟩,
  ⟨(some 26), none, (.val (.t 25))⟩,
  ⟨(some 27), (some (26, false)), (.val (.t 5))⟩,
  ⟨(some 28), (some (26, false)), (.bin .gtr (.t 27) (.c (.i .i64 1)))⟩,
  ⟨(some 29), (some (26, false)), (.val (.t 28))⟩,
  ⟨(some 30), (some (29, true)), (.val (.t 0))⟩,
  ⟨(some 31), (some (29, true)), (.val (.t 5))⟩,
  ⟨(some 32), (some (29, true)), (.ia 1 (.t 30) (.t 31))⟩,
  ⟨(some 33), (some (29, true)), (.ld none (.t 32))⟩,
  ⟨(some 34), (some (29, true)), (.bin .rem (.t 33) (.c (.i .u8 8)))⟩,
  ⟨(some 35), (some (29, true)), (.val (.t 0))⟩,
  ⟨(some 36), (some (29, true)), (.val (.t 5))⟩,
  ⟨(some 37), (some (29, true)), (.bin .sub (.t 36) (.c (.i .i64 1)))⟩,
  ⟨(some 38), (some (29, true)), (.ia 1 (.t 35) (.t 37))⟩,
  ⟨(some 39), (some (29, true)), (.ld none (.t 38))⟩,
  ⟨(some 40), (some (29, true)), (.bin .rem (.t 39) (.c (.i .u8 8)))⟩,
  ⟨(some 41), (some (29, true)), (.bin .eql (.t 34) (.t 40))⟩,
  ⟨(some 42), (some (26, false)), (.pick (.t 29) (.t 41) (.c (.b false)))⟩,
  ⟨(some 43), (some (26, false)), (.val (.t 42))⟩,
  ⟨(some 44), (some (43, true)), (.val (.t 0))⟩,
  ⟨(some 45), (some (43, true)), (.val (.t 5))⟩,
  ⟨(some 46), (some (43, true)), (.bin .sub (.t 45) (.c (.i .i64 1)))⟩,
  ⟨(some 47), (some (43, true)), (.ia 1 (.t 44) (.t 46))⟩,
  ⟨(some 48), (some (43, true)), (.ld none (.t 47))⟩,
  ⟨(some 49), (some (43, true)), (.bin .quo (.t 48) (.c (.i .u8 8)))⟩,
  ⟨(some 50), (some (43, true)), (.bin .lss (.t 49) (.c (.i .u8 31)))⟩,
  ⟨(some 51), (some (26, false)), (.pick (.t 43) (.t 50) (.c (.b false)))⟩,
  ⟨(some 52), none, (.pick (.t 26) (.c (.b true)) (.t 51))⟩] t H) := runR_plain rfl
def d15_9 : List AOper := [
  ⟨(some 2), none, (.val (.c (.sl none 0 0 true 0)))⟩,
  ⟨(some 3), none, (.val (.c (.i .i64 3)))⟩]
theorem r15_9 {fn : AFun} {K : List AItem} {t : Nat → AV} {H : AH} {T : Tbl} : runR T fn (.code (.reg d15_9) :: K) t H = regR T fn K (aops (callR T) [
  ⟨(some 2), none, (.val (.c (.sl none 0 0 true 0)))⟩,
  ⟨(some 3), none, (.val (.c (.i .i64 3)))⟩] t H) := runR_reg'
def d15_10 : List AOper := [
  ⟨(some 53), none, (.val (.t 4))⟩,
  ⟨(some 54), none, (.len (.t 53))⟩,
  ⟨(some 55), none, (.val (.t 0))⟩,
  ⟨(some 56), none, (.val (.t 5))⟩,
  ⟨(some 57), none, (.ia 1 (.t 55) (.t 56))⟩,
  ⟨(some 58), none, (.ld none (.t 57))⟩,
  ⟨(some 59), none, (.bin .quo (.t 58) (.c (.i .u8 8)))⟩,
  ⟨(some 60), none, (.cvi .i64 (.t 59))⟩,
  ⟨(some 61), none, (.bin .add (.t 54) (.t 60))⟩,
  ⟨(some 62), none, (.bin .gtr (.t 61) (.c (.i .i64 100000)))⟩]
theorem r15_10 {fn : AFun} {K : List AItem} {t : Nat → AV} {H : AH} {T : Tbl} : runR T fn (.code (.reg d15_10) :: K) t H = regR T fn K (aops (callR T) [
  ⟨(some 53), none, (.val (.t 4))⟩,
  ⟨(some 54), none, (.len (.t 53))⟩,
  ⟨(some 55), none, (.val (.t 0))⟩,
  ⟨(some 56), none, (.val (.t 5))⟩,
  ⟨(some 57), none, (.ia 1 (.t 55) (.t 56))⟩,
  ⟨(some 58), none, (.ld none (.t 57))⟩,
  ⟨(some 59), none, (.bin .quo (.t 58) (.c (.i .u8 8)))⟩,
  ⟨(some 60), none, (.cvi .i64 (.t 59))⟩,
  ⟨(some 61), none, (.bin .add (.t 54) (.t 60))⟩,
  ⟨(some 62), none, (.bin .gtr (.t 61) (.c (.i .i64 100000)))⟩] t H) := runR_reg'
def d15_11 : List AOper := [
  ⟨(some 2), none, (.val (.c (.sl none 0 0 true 0)))⟩,
  ⟨(some 3), none, (.val (.c (.i .i64 5)))⟩]
theorem r15_11 {fn : AFun} {K : List AItem} {t : Nat → AV} {H : AH} {T : Tbl} : runR T fn (.code (.reg d15_11) :: K) t H = regR T fn K (aops (callR T) [
  ⟨(some 2), none, (.val (.c (.sl none 0 0 true 0)))⟩,
  ⟨(some 3), none, (.val (.c (.i .i64 5)))⟩] t H) := runR_reg'
def d15_12 : List AOper := [
  ⟨(some 6), none, (.val (.c (.i .i64 0)))⟩]
theorem r15_12 {fn : AFun} {K : List AItem} {t : Nat → AV} {H : AH} {T : Tbl} : runR T fn (.code (.reg d15_12) :: K) t H = regR T fn K (aops (callR T) [
  ⟨(some 6), none, (.val (.c (.i .i64 0)))⟩] t H) := runR_reg'
def d15_13 : List AOper := [
  ⟨(some 63), none, (.val (.t 6))⟩,
  ⟨(some 64), none, (.val (.t 0))⟩,
  ⟨(some 65), none, (.val (.t 5))⟩,
  ⟨(some 66), none, (.ia 1 (.t 64) (.t 65))⟩,
  ⟨(some 67), none, (.ld none (.t 66))⟩,
  ⟨(some 68), none, (.bin .quo (.t 67) (.c (.i .u8 8)))⟩,
  ⟨(some 69), none, (.cvi .i64 (.t 68))⟩,
  ⟨(some 70), none, (.bin .lss (.t 63) (.t 69))⟩]
theorem r15_13 {fn : AFun} {K : List AItem} {t : Nat → AV} {H : AH} {T : Tbl} : runR T fn (.code (.reg d15_13) :: K) t H = regR T fn K (aops (callR T) [
  ⟨(some 63), none, (.val (.t 6))⟩,
  ⟨(some 64), none, (.val (.t 0))⟩,
  ⟨(some 65), none, (.val (.t 5))⟩,
  ⟨(some 66), none, (.ia 1 (.t 64) (.t 65))⟩,
  ⟨(some 67), none, (.ld none (.t 66))⟩,
  ⟨(some 68), none, (.bin .quo (.t 67) (.c (.i .u8 8)))⟩,
  ⟨(some 69), none, (.cvi .i64 (.t 68))⟩,
  ⟨(some 70), none, (.bin .lss (.t 63) (.t 69))⟩] t H) := runR_reg'
def d15_14 : List AOper := [
  ⟨(some 73), none, (.val (.t 4))⟩,
  ⟨(some 74), none, (.val (.t 0))⟩,
  ⟨(some 75), none, (.val (.t 5))⟩,
  ⟨(some 76), none, (.ia 1 (.t 74) (.t 75))⟩,
  ⟨(some 77), none, (.ld none (.t 76))⟩,
  ⟨(some 78), none, (.bin .rem (.t 77) (.c (.i .u8 8)))⟩,
  ⟨(some 79), none, (.cvi .i64 (.t 78))⟩,
  ⟨(some 80), none, (.bsl [(.i .i64 0)] 1 [(0, 1, (.t 79))])⟩,
  ⟨(some 81), none, (.app [(.i .i64 0)] 8 (.t 73) (.t 80))⟩,
  ⟨(some 4), none, (.val (.t 81))⟩]
theorem r15_14 {fn : AFun} {K : List AItem} {t : Nat → AV} {H : AH} {T : Tbl} : runR T fn (.code (.reg d15_14) :: K) t H = regR T fn K (aops (callR T) [
  ⟨(some 73), none, (.val (.t 4))⟩,
  ⟨(some 74), none, (.val (.t 0))⟩,
  ⟨(some 75), none, (.val (.t 5))⟩,
  ⟨(some 76), none, (.ia 1 (.t 74) (.t 75))⟩,
  ⟨(some 77), none, (.ld none (.t 76))⟩,
  ⟨(some 78), none, (.bin .rem (.t 77) (.c (.i .u8 8)))⟩,
  ⟨(some 79), none, (.cvi .i64 (.t 78))⟩,
  ⟨(some 80), none, (.bsl [(.i .i64 0)] 1 [(0, 1, (.t 79))])⟩,
  ⟨(some 81), none, (.app [(.i .i64 0)] 8 (.t 73) (.t 80))⟩,
  ⟨(some 4), none, (.val (.t 81))⟩] t H) := runR_reg'
def d15_15 : List AOper := [
  ⟨(some 71), none, (.val (.t 6))⟩,
  ⟨(some 72), none, (.bin .add (.t 71) (.c (.i .i64 1)))⟩,
  ⟨(some 6), none, (.val (.t 72))⟩]
theorem r15_15 {fn : AFun} {K : List AItem} {t : Nat → AV} {H : AH} {T : Tbl} : runR T fn (.code (.reg d15_15) :: K) t H = regR T fn K (aops (callR T) [
  ⟨(some 71), none, (.val (.t 6))⟩,
  ⟨(some 72), none, (.bin .add (.t 71) (.c (.i .i64 1)))⟩,
  ⟨(some 6), none, (.val (.t 72))⟩] t H) := runR_reg'
def l15_16 : ACode := (.seq (.seq (.reg d15_13) (.cond (.t 70) .skip (.exit 2))) (.seq (.block 3 (.reg d15_14)) (.reg d15_15)))
def d15_17 : List AOper := [
  ⟨(some 18), none, (.val (.t 5))⟩,
  ⟨(some 19), none, (.bin .add (.t 18) (.c (.i .i64 1)))⟩,
  ⟨(some 5), none, (.val (.t 19))⟩]
theorem r15_17 {fn : AFun} {K : List AItem} {t : Nat → AV} {H : AH} {T : Tbl} : runR T fn (.code (.reg d15_17) :: K) t H = regR T fn K (aops (callR T) [
  ⟨(some 18), none, (.val (.t 5))⟩,
  ⟨(some 19), none, (.bin .add (.t 18) (.c (.i .i64 1)))⟩,
  ⟨(some 5), none, (.val (.t 19))⟩] t H) := runR_reg'
def l15_18 : ACode := (.seq (.seq (.reg d15_7) (.cond (.t 17) .skip (.exit 0))) (.seq (.block 1 (.seq (.seq (.drw d15_8) (.cond (.t 52) (.seq (.reg d15_9) .ret) .skip)) (.seq (.seq (.reg d15_10) (.cond (.t 62) (.seq (.reg d15_11) .ret) .skip)) (.seq (.reg d15_12) (.block 2 (.loop l15_16)))))) (.reg d15_17)))
def d15_19 : List AOper := [
  ⟨(some 82), none, (.val (.t 4))⟩,
  ⟨(some 2), none, (.val (.t 82))⟩,
  ⟨(some 3), none, (.val (.c (.i .i64 0)))⟩]
theorem r15_19 {fn : AFun} {K : List AItem} {t : Nat → AV} {H : AH} {T : Tbl} : runR T fn (.code (.reg d15_19) :: K) t H = regR T fn K (aops (callR T) [
  ⟨(some 82), none, (.val (.t 4))⟩,
  ⟨(some 2), none, (.val (.t 82))⟩,
  ⟨(some 3), none, (.val (.c (.i .i64 0)))⟩] t H) := runR_reg'
def a15 : AFun := ⟨83, [(.tmp 2), (.tmp 3)], (.seq (.reg d15_0) (.seq (.seq (.reg d15_1) (.cond (.t 9) (.seq (.reg d15_2) .ret) .skip)) (.seq (.seq (.reg d15_3) (.cond (.t 13) (.seq (.reg d15_4) .ret) .skip)) (.seq (.reg d15_5) (.seq (.seq (.reg d15_6) (.block 0 (.loop l15_18))) (.seq (.reg d15_19) .ret))))))⟩
theorem a15_ok : cfun Try.prog 15 = some a15 := by kernel_rfl
/-- futtock/rle.Cut -/
def d16_0 : List AOper := [
  ⟨(some 4), none, (.val (.c (.sl none 0 0 true 0)))⟩,
  ⟨(some 5), none, (.val (.c (.i .i64 0)))⟩]
theorem r16_0 {fn : AFun} {K : List AItem} {t : Nat → AV} {H : AH} {T : Tbl} : runR T fn (.code (.reg d16_0) :: K) t H = regR T fn K (aops (callR T) [
  ⟨(some 4), none, (.val (.c (.sl none 0 0 true 0)))⟩,
  ⟨(some 5), none, (.val (.c (.i .i64 0)))⟩] t H) := runR_reg'
def d16_1 : List AOper := [
  ⟨(some 9), none, (.val (.t 0))⟩,
  ⟨(some 10), none, (.call 13 [(.t 9)])⟩,
  ⟨(some 8), none, (.val (.t 10))⟩,
  ⟨(some 11), none, (.ext (.t 8) 0)⟩,
  ⟨(some 12), none, (.ext (.t 8) 1)⟩,
  ⟨(some 6), none, (.val (.t 11))⟩,
  ⟨(some 7), none, (.val (.t 12))⟩]
theorem r16_1 {fn : AFun} {K : List AItem} {t : Nat → AV} {H : AH} {T : Tbl} : runR T fn (.code (.reg d16_1) :: K) t H = regR T fn K (aops (callR T) [
  ⟨(some 9), none, (.val (.t 0))⟩,
  ⟨(some 10), none, (.call 13 [(.t 9)])⟩,
  ⟨(some 8), none, (.val (.t 10))⟩,
  ⟨(some 11), none, (.ext (.t 8) 0)⟩,
  ⟨(some 12), none, (.ext (.t 8) 1)⟩,
  ⟨(some 6), none, (.val (.t 11))⟩,
  ⟨(some 7), none, (.val (.t 12))⟩] t H) := runR_reg'
def d16_2 : List AOper := [
  ⟨(some 14), none, (.val (.t 7))⟩,
  ⟨(some 15), none, (.bin .neq (.t 14) (.c (.i .i64 0)))⟩,
  ⟨(some 13), none, (.val (.t 15))⟩]
theorem r16_2 {fn : AFun} {K : List AItem} {t : Nat → AV} {H : AH} {T : Tbl} : runR T fn (.code (.reg d16_2) :: K) t H = regR T fn K (aops (callR T) [
  ⟨(some 14), none, (.val (.t 7))⟩,
  ⟨(some 15), none, (.bin .neq (.t 14) (.c (.i .i64 0)))⟩,
  ⟨(some 13), none, (.val (.t 15))⟩] t H) := runR_reg'
def d16_3 : List AOper := [
  ⟨(some 16), none, (.val (.t 7))⟩,
  ⟨(some 4), none, (.val (.c (.sl none 0 0 true 0)))⟩,
  ⟨(some 5), none, (.val (.t 16))⟩]
theorem r16_3 {fn : AFun} {K : List AItem} {t : Nat → AV} {H : AH} {T : Tbl} : runR T fn (.code (.reg d16_3) :: K) t H = regR T fn K (aops (callR T) [
  ⟨(some 16), none, (.val (.t 7))⟩,
  ⟨(some 4), none, (.val (.c (.sl none 0 0 true 0)))⟩,
  ⟨(some 5), none, (.val (.t 16))⟩] t H) := runR_reg'
def d16_4 : List AOper := [
  ⟨(some 18), none, (.val (.t 1))⟩,
  ⟨(some 19), none, (.bin .lss (.t 18) (.c (.i .i64 0)))⟩,
  ⟨(some 17), none, (.val (.t 19))⟩]
theorem r16_4 {fn : AFun} {K : List AItem} {t : Nat → AV} {H : AH} {T : Tbl} : runR T fn (.code (.reg d16_4) :: K) t H = regR T fn K (aops (callR T) [
  ⟨(some 18), none, (.val (.t 1))⟩,
  ⟨(some 19), none, (.bin .lss (.t 18) (.c (.i .i64 0)))⟩,
  ⟨(some 17), none, (.val (.t 19))⟩] t H) := runR_reg'
def d16_5 : List AOper := [
  ⟨(some 4), none, (.val (.c (.sl none 0 0 true 0)))⟩,
  ⟨(some 5), none, (.val (.c (.i .i64 1)))⟩]
theorem r16_5 {fn : AFun} {K : List AItem} {t : Nat → AV} {H : AH} {T : Tbl} : runR T fn (.code (.reg d16_5) :: K) t H = regR T fn K (aops (callR T) [
  ⟨(some 4), none, (.val (.c (.sl none 0 0 true 0)))⟩,
  ⟨(some 5), none, (.val (.c (.i .i64 1)))⟩] t H) := runR_reg'
def d16_6 : List AOper := [
  ⟨(some 20), none, (.val (.t 6))⟩,
  ⟨(some 21), none, (.val (.t 1))⟩,
  ⟨(some 22), none, (.val (.t 6))⟩,
  ⟨(some 23), none, (.len (.t 22))⟩,
  ⟨(some 24), none, (.mm false [(.t 21), (.t 23)])⟩,
  ⟨(some 25), none, (.sls 1 (.t 20) none (some (.t 24)) none)⟩,
  ⟨(some 26), none, (.call 8 [(.t 25)])⟩,
  ⟨(some 27), none, (.ext (.t 26) 0)⟩,
  ⟨(some 28), none, (.ext (.t 26) 1)⟩,
  ⟨(some 4), none, (.val (.t 27))⟩,
  ⟨(some 5), none, (.val (.t 28))⟩]
theorem r16_6 {fn : AFun} {K : List AItem} {t : Nat → AV} {H : AH} {T : Tbl} : runR T fn (.code (.reg d16_6) :: K) t H = regR T fn K (aops (callR T) [
  ⟨(some 20), none, (.val (.t 6))⟩,
  ⟨(some 21), none, (.val (.t 1))⟩,
  ⟨(some 22), none, (.val (.t 6))⟩,
  ⟨(some 23), none, (.len (.t 22))⟩,
  ⟨(some 24), none, (.mm false [(.t 21), (.t 23)])⟩,
  ⟨(some 25), none, (.sls 1 (.t 20) none (some (.t 24)) none)⟩,
  ⟨(some 26), none, (.call 8 [(.t 25)])⟩,
  ⟨(some 27), none, (.ext (.t 26) 0)⟩,
  ⟨(some 28), none, (.ext (.t 26) 1)⟩,
  ⟨(some 4), none, (.val (.t 27))⟩,
  ⟨(some 5), none, (.val (.t 28))⟩] t H) := runR_reg'
def a16 : AFun := ⟨29, [(.tmp 4), (.tmp 5)], (.seq (.reg d16_0) (.seq (.reg d16_1) (.seq (.block 0 (.seq (.reg d16_2) (.cond (.t 13) (.seq (.reg d16_3) .ret) (.seq (.reg d16_4) (.cond (.t 17) (.seq (.reg d16_5) .ret) .skip))))) (.seq (.reg d16_6) .ret))))⟩
theorem a16_ok : cfun Try.prog 16 = some a16 := by kernel_rfl
/-- futtock/rle.each -/
def d17_0 : List AOper := [
  ⟨(some 4), none, (.val (.c (.i .i64 0)))⟩]
theorem r17_0 {fn : AFun} {K : List AItem} {t : Nat → AV} {H : AH} {T : Tbl} : runR T fn (.code (.reg d17_0) :: K) t H = regR T fn K (aops (callR T) [
  ⟨(some 4), none, (.val (.c (.i .i64 0)))⟩] t H) := runR_reg'
def d17_1 : List AOper := [
  ⟨(some 6), none, (.val (.t 0))⟩,
  ⟨(some 7), none, (.len (.t 6))⟩,
  ⟨(some 8), none, (.val (.c (.i .i64 0)))⟩]
theorem r17_1 {fn : AFun} {K : List AItem} {t : Nat → AV} {H : AH} {T : Tbl} : runR T fn (.code (.reg d17_1) :: K) t H = regR T fn K (aops (callR T) [
  ⟨(some 6), none, (.val (.t 0))⟩,
  ⟨(some 7), none, (.len (.t 6))⟩,
  ⟨(some 8), none, (.val (.c (.i .i64 0)))⟩] t H) := runR_reg'
def d17_2 : List AOper := [
  ⟨(some 9), none, (.bin .lss (.t 8) (.t 7))⟩]
theorem r17_2 {fn : AFun} {K : List AItem} {t : Nat → AV} {H : AH} {T : Tbl} : runR T fn (.code (.reg d17_2) :: K) t H = regR T fn K (aops (callR T) [
  ⟨(some 9), none, (.bin .lss (.t 8) (.t 7))⟩] t H) := runR_reg'
def d17_3 : List AOper := [
  ⟨(some 10), none, (.val (.t 8))⟩,
  ⟨(some 5), none, (.val (.t 10))⟩]
theorem r17_3 {fn : AFun} {K : List AItem} {t : Nat → AV} {H : AH} {T : Tbl} : runR T fn (.code (.reg d17_3) :: K) t H = regR T fn K (aops (callR T) [
  ⟨(some 10), none, (.val (.t 8))⟩,
  ⟨(some 5), none, (.val (.t 10))⟩] t H) := runR_reg'
def d17_4 : List (AOper × List Nat) := [
  (⟨(some 11), none, (.val (.t 5))⟩, []),
  (⟨(some 12), none, (.val (.t 0))⟩, []),
  (⟨(some 13), none, (.len (.t 12))⟩, []),
  (⟨(some 14), none, (.bin .sub (.t 13) (.c (.i .i64 1)))⟩, []),
  (⟨(some 15), none, (.bin .eql (.t 11) (.t 14))⟩, []),
  (⟨(some 16), none, (.val (.t 15))⟩, []),
  (⟨(some 17), (some (16, false)), (.val (.t 0))⟩, []),
  (⟨(some 18), (some (16, false)), (.val (.t 5))⟩, []),
  (⟨(some 19), (some (16, false)), (.bin .add (.t 18) (.c (.i .i64 1)))⟩, []),
  (⟨(some 20), (some (16, false)), (.ia 1 (.t 17) (.t 19))⟩, []),
  (⟨(some 21), (some (16, false)), (.ld none (.t 20))⟩, [1]),
  (⟨(some 22), (some (16, false)), (.val (.t 0))⟩, []),
  (⟨(some 23), (some (16, false)), (.val (.t 5))⟩, []),
  (⟨(some 24), (some (16, false)), (.ia 1 (.t 22) (.t 23))⟩, []),
  (⟨(some 25), (some (16, false)), (.ld none (.t 24))⟩, [1]),
  (⟨(some 26), (some (16, false)), (.bin .neq (.t 21) (.t 25))⟩, []),
  (⟨(some 27), none, (.pick (.t 16) (.c (.b true)) (.t 26))⟩, [])]
theorem r17_4 {fn : AFun} {K : List AItem} {t : Nat → AV} {H : AH} {T : Tbl} : runR T fn (.code (.drw d17_4) :: K) t H = regR T fn K (aops (callR T) [
  ⟨(some 11), none, (.val (.t 5))⟩,
  ⟨(some 12), none, (.val (.t 0))⟩,
  ⟨(some 13), none, (.len (.t 12))⟩,
  ⟨(some 14), none, (.bin .sub (.t 13) (.c (.i .i64 1)))⟩,
  ⟨(some 15), none, (.bin .eql (.t 11) (.t 14))⟩,
  ⟨(some 16), none, (.val (.t 15))⟩,
  ⟨(some 17), (some (16, false)), (.val (.t 0))⟩,
  ⟨(some 18), (some (16, false)), (.val (.t 5))⟩,
  ⟨(some 19), (some (16, false)), (.bin .add (.t 18) (.c (.i .i64 1)))⟩,
  ⟨(some 20), (some (16, false)), (.ia 1 (.t 17) (.t 19))⟩,
  ⟨(some 21), (some (16, false)), (.ld none (.t 20))⟩,
  ⟨(some 22), (some (16, false)), (.val (.t 0))⟩,
  ⟨(some 23), (some (16, false)), (.val (.t 5))⟩,
  ⟨(some 24), (some (16, false)), (.ia 1 (.t 22) (.t 23))⟩,
  ⟨(some 25), (some (16, false)), (.ld none (.t 24))⟩,
  ⟨(some 26), (some (16, false)), (.bin .neq (.t 21) (.t 25))⟩,
  ⟨(some 27), none, (.pick (.t 16) (.c (.b true)) (.t 26))⟩] t H) := runR_plain rfl
def d17_5 : List AOper := [
  ⟨(some 28), none, (.val (.t 1))⟩,
  ⟨(some 29), none, (.val (.t 0))⟩,
  ⟨(some 30), none, (.val (.t 5))⟩,
  ⟨(some 31), none, (.ia 1 (.t 29) (.t 30))⟩,
  ⟨(some 32), none, (.ld none (.t 31))⟩,
  ⟨(some 33), none, (.val (.t 5))⟩,
  ⟨(some 34), none, (.bin .add (.t 33) (.c (.i .i64 1)))⟩,
  ⟨(some 35), none, (.val (.t 4))⟩,
  ⟨(some 36), none, (.bin .sub (.t 34) (.t 35))⟩,
  ⟨(some 37), none, (.callv (.t 28) [(.t 32), (.t 36)])⟩]
theorem r17_5 {fn : AFun} {K : List AItem} {t : Nat → AV} {H : AH} {T : Tbl} : runR T fn (.code (.reg d17_5) :: K) t H = regR T fn K (aops (callR T) [
  ⟨(some 28), none, (.val (.t 1))⟩,
  ⟨(some 29), none, (.val (.t 0))⟩,
  ⟨(some 30), none, (.val (.t 5))⟩,
  ⟨(some 31), none, (.ia 1 (.t 29) (.t 30))⟩,
  ⟨(some 32), none, (.ld none (.t 31))⟩,
  ⟨(some 33), none, (.val (.t 5))⟩,
  ⟨(some 34), none, (.bin .add (.t 33) (.c (.i .i64 1)))⟩,
  ⟨(some 35), none, (.val (.t 4))⟩,
  ⟨(some 36), none, (.bin .sub (.t 34) (.t 35))⟩,
  ⟨(some 37), none, (.callv (.t 28) [(.t 32), (.t 36)])⟩] t H) := runR_reg'
def d17_6 : List AOper := [
  ⟨(some 38), none, (.val (.t 5))⟩,
  ⟨(some 39), none, (.bin .add (.t 38) (.c (.i .i64 1)))⟩,
  ⟨(some 4), none, (.val (.t 39))⟩]
theorem r17_6 {fn : AFun} {K : List AItem} {t : Nat → AV} {H : AH} {T : Tbl} : runR T fn (.code (.reg d17_6) :: K) t H = regR T fn K (aops (callR T) [
  ⟨(some 38), none, (.val (.t 5))⟩,
  ⟨(some 39), none, (.bin .add (.t 38) (.c (.i .i64 1)))⟩,
  ⟨(some 4), none, (.val (.t 39))⟩] t H) := runR_reg'
def d17_7 : List AOper := [
  ⟨(some 40), none, (.bin .add (.t 8) (.c (.i .i64 1)))⟩,
  ⟨(some 8), none, (.val (.t 40))⟩]
theorem r17_7 {fn : AFun} {K : List AItem} {t : Nat → AV} {H : AH} {T : Tbl} : runR T fn (.code (.reg d17_7) :: K) t H = regR T fn K (aops (callR T) [
  ⟨(some 40), none, (.bin .add (.t 8) (.c (.i .i64 1)))⟩,
  ⟨(some 8), none, (.val (.t 40))⟩] t H) := runR_reg'
def l17_8 : ACode := (.seq (.reg d17_2) (.seq (.cond (.t 9) .skip (.exit 0)) (.seq (.block 1 (.seq (.reg d17_3) (.seq (.drw d17_4) (.cond (.t 27) (.seq (.reg d17_5) (.reg d17_6)) .skip)))) (.reg d17_7))))
def a17 : AFun := ⟨41, [], (.seq (.reg d17_0) (.seq (.reg d17_1) (.block 0 (.loop l17_8))))⟩
theorem a17_ok : cfun Try.prog 17 = some a17 := by kernel_rfl
/-- futtock/rle.Pack$1 -/
def d18_0 : List AOper := [
  ⟨(some 6), none, (.ld none (.t 2))⟩,
  ⟨(some 7), none, (.val (.t 6))⟩,
  ⟨(some 8), (some (7, false)), (.val (.t 0))⟩,
  ⟨(some 9), (some (7, false)), (.bin .lss (.t 8) (.c (.i .i64 0)))⟩,
  ⟨(some 10), none, (.pick (.t 7) (.c (.b true)) (.t 9))⟩,
  ⟨(some 11), none, (.val (.t 10))⟩,
  ⟨(some 12), (some (11, false)), (.val (.t 0))⟩,
  ⟨(some 13), (some (11, false)), (.bin .gtr (.t 12) (.c (.i .i64 7)))⟩,
  ⟨(some 14), none, (.pick (.t 11) (.c (.b true)) (.t 13))⟩,
  ⟨none, none, (.st 1 (.t 2) (.t 14))⟩]
theorem r18_0 {fn : AFun} {K : List AItem} {t : Nat → AV} {H : AH} {T : Tbl} : runR T fn (.code (.reg d18_0) :: K) t H = regR T fn K (aops (callR T) [
  ⟨(some 6), none, (.ld none (.t 2))⟩,
  ⟨(some 7), none, (.val (.t 6))⟩,
  ⟨(some 8), (some (7, false)), (.val (.t 0))⟩,
  ⟨(some 9), (some (7, false)), (.bin .lss (.t 8) (.c (.i .i64 0)))⟩,
  ⟨(some 10), none, (.pick (.t 7) (.c (.b true)) (.t 9))⟩,
  ⟨(some 11), none, (.val (.t 10))⟩,
  ⟨(some 12), (some (11, false)), (.val (.t 0))⟩,
  ⟨(some 13), (some (11, false)), (.bin .gtr (.t 12) (.c (.i .i64 7)))⟩,
  ⟨(some 14), none, (.pick (.t 11) (.c (.b true)) (.t 13))⟩,
  ⟨none, none, (.st 1 (.t 2) (.t 14))⟩] t H) := runR_reg'
def d18_1 : List AOper := [
  ⟨(some 15), none, (.val (.t 1))⟩,
  ⟨(some 16), none, (.bin .gtr (.t 15) (.c (.i .i64 0)))⟩]
theorem r18_1 {fn : AFun} {K : List AItem} {t : Nat → AV} {H : AH} {T : Tbl} : runR T fn (.code (.reg d18_1) :: K) t H = regR T fn K (aops (callR T) [
  ⟨(some 15), none, (.val (.t 1))⟩,
  ⟨(some 16), none, (.bin .gtr (.t 15) (.c (.i .i64 0)))⟩] t H) := runR_reg'
def d18_2 : List AOper := [
  ⟨(some 19), none, (.ld none (.t 3))⟩,
  ⟨(some 20), none, (.val (.t 0))⟩,
  ⟨(some 21), none, (.bin .and (.t 20) (.c (.i .i64 7)))⟩,
  ⟨(some 22), none, (.val (.t 1))⟩,
  ⟨(some 23), none, (.mm false [(.t 22), (.c (.i .i64 31))])⟩,
  ⟨(some 24), none, (.bin .shl (.t 23) (.c (.i .u64 3)))⟩,
  ⟨(some 25), none, (.bin .or (.t 21) (.t 24))⟩,
  ⟨(some 26), none, (.cvi .u8 (.t 25))⟩,
  ⟨(some 27), none, (.bsl [(.i .u8 0)] 1 [(0, 1, (.t 26))])⟩,
  ⟨(some 28), none, (.app [(.i .u8 0)] 1 (.t 19) (.t 27))⟩,
  ⟨none, none, (.st 1 (.t 3) (.t 28))⟩]
theorem r18_2 {fn : AFun} {K : List AItem} {t : Nat → AV} {H : AH} {T : Tbl} : runR T fn (.code (.reg d18_2) :: K) t H = regR T fn K (aops (callR T) [
  ⟨(some 19), none, (.ld none (.t 3))⟩,
  ⟨(some 20), none, (.val (.t 0))⟩,
  ⟨(some 21), none, (.bin .and (.t 20) (.c (.i .i64 7)))⟩,
  ⟨(some 22), none, (.val (.t 1))⟩,
  ⟨(some 23), none, (.mm false [(.t 22), (.c (.i .i64 31))])⟩,
  ⟨(some 24), none, (.bin .shl (.t 23) (.c (.i .u64 3)))⟩,
  ⟨(some 25), none, (.bin .or (.t 21) (.t 24))⟩,
  ⟨(some 26), none, (.cvi .u8 (.t 25))⟩,
  ⟨(some 27), none, (.bsl [(.i .u8 0)] 1 [(0, 1, (.t 26))])⟩,
  ⟨(some 28), none, (.app [(.i .u8 0)] 1 (.t 19) (.t 27))⟩,
  ⟨none, none, (.st 1 (.t 3) (.t 28))⟩] t H) := runR_reg'
def d18_3 : List AOper := [
  ⟨(some 17), none, (.val (.t 1))⟩,
  ⟨(some 18), none, (.bin .sub (.t 17) (.c (.i .i64 31)))⟩,
  ⟨(some 1), none, (.val (.t 18))⟩]
theorem r18_3 {fn : AFun} {K : List AItem} {t : Nat → AV} {H : AH} {T : Tbl} : runR T fn (.code (.reg d18_3) :: K) t H = regR T fn K (aops (callR T) [
  ⟨(some 17), none, (.val (.t 1))⟩,
  ⟨(some 18), none, (.bin .sub (.t 17) (.c (.i .i64 31)))⟩,
  ⟨(some 1), none, (.val (.t 18))⟩] t H) := runR_reg'
def l18_4 : ACode := (.seq (.seq (.reg d18_1) (.cond (.t 16) .skip (.exit 0))) (.seq (.block 1 (.reg d18_2)) (.reg d18_3)))
def a18 : AFun := ⟨29, [], (.seq (.reg d18_0) (.block 0 (.loop l18_4)))⟩
theorem a18_ok : cfun Try.prog 18 = some a18 := by kernel_rfl
/-- futtock/rle.Longest$1 -/
def d19_0 : List AOper := [
  ⟨(some 6), none, (.val (.t 1))⟩,
  ⟨(some 7), none, (.ld none (.t 2))⟩,
  ⟨(some 8), none, (.bin .gtr (.t 6) (.t 7))⟩]
theorem r19_0 {fn : AFun} {K : List AItem} {t : Nat → AV} {H : AH} {T : Tbl} : runR T fn (.code (.reg d19_0) :: K) t H = regR T fn K (aops (callR T) [
  ⟨(some 6), none, (.val (.t 1))⟩,
  ⟨(some 7), none, (.ld none (.t 2))⟩,
  ⟨(some 8), none, (.bin .gtr (.t 6) (.t 7))⟩] t H) := runR_reg'
def d19_1 : List AOper := [
  ⟨(some 9), none, (.val (.t 0))⟩,
  ⟨(some 10), none, (.val (.t 1))⟩,
  ⟨none, none, (.st 1 (.t 3) (.t 9))⟩,
  ⟨none, none, (.st 1 (.t 2) (.t 10))⟩]
theorem r19_1 {fn : AFun} {K : List AItem} {t : Nat → AV} {H : AH} {T : Tbl} : runR T fn (.code (.reg d19_1) :: K) t H = regR T fn K (aops (callR T) [
  ⟨(some 9), none, (.val (.t 0))⟩,
  ⟨(some 10), none, (.val (.t 1))⟩,
  ⟨none, none, (.st 1 (.t 3) (.t 9))⟩,
  ⟨none, none, (.st 1 (.t 2) (.t 10))⟩] t H) := runR_reg'
def a19 : AFun := ⟨11, [], (.seq (.reg d19_0) (.cond (.t 8) (.reg d19_1) .skip))⟩
theorem a19_ok : cfun Try.prog 19 = some a19 := by kernel_rfl
/-- futtock/rle.Runs$1 -/
def d20_0 : List AOper := [
  ⟨(some 5), none, (.ld none (.t 2))⟩,
  ⟨(some 6), none, (.bin .add (.t 5) (.c (.i .i64 1)))⟩,
  ⟨none, none, (.st 1 (.t 2) (.t 6))⟩]
theorem r20_0 {fn : AFun} {K : List AItem} {t : Nat → AV} {H : AH} {T : Tbl} : runR T fn (.code (.reg d20_0) :: K) t H = regR T fn K (aops (callR T) [
  ⟨(some 5), none, (.ld none (.t 2))⟩,
  ⟨(some 6), none, (.bin .add (.t 5) (.c (.i .i64 1)))⟩,
  ⟨none, none, (.st 1 (.t 2) (.t 6))⟩] t H) := runR_reg'
def a20 : AFun := ⟨7, [], (.reg d20_0)⟩
theorem a20_ok : cfun Try.prog 20 = some a20 := by kernel_rfl
/-- All of them. -/
def tbl : Tbl
  | 3 => some a3
  | 4 => some a4
  | 5 => some a5
  | 6 => some a6
  | 7 => some a7
  | 8 => some a8
  | 9 => some a9
  | 10 => some a10
  | 11 => some a11
  | 12 => some a12
  | 13 => some a13
  | 14 => some a14
  | 15 => some a15
  | 16 => some a16
  | 17 => some a17
  | 18 => some a18
  | 19 => some a19
  | 20 => some a20
  | _ => none
/-- The heap behind a call of which the value alone is told. -/
noncomputable def hC (n : FuncId) (args : List AV) (H : AH) : AH := hAft (callR tbl n args H)
theorem hC_of {n : FuncId} {args : List AV} {H : AH} {v : AV} (h : ∃ H', callR tbl n args H = some (v, H')) : callR tbl n args H = some (v, hC n args H) := aft_of h
theorem tbl3 : tbl 3 = some a3 := rfl
theorem c3 {x0 : AV} {H : AH} : callR tbl 3 [x0] H = runR tbl a3 [.code a3.body] (ainit [x0]) H := callR_of tbl3 (Nat.le_of_ble_eq_true rfl)
theorem b3 : a3.body = (.seq (.reg d3_0) (.seq (.seq (.reg d3_1) (.cond (.t 19) (.seq (.reg d3_2) .ret) .skip)) (.seq (.reg d3_3) (.seq (.reg d3_4) (.seq (.seq (.reg d3_5) (.cond (.t 33) (.seq (.reg d3_6) .ret) .skip)) (.seq (.reg d3_7) (.seq (.reg d3_8) (.seq (.reg d3_9) .ret)))))))) := rfl
theorem s3 : a3.res = [(.tmp 2)] := rfl
theorem tbl4 : tbl 4 = some a4 := rfl
theorem c4 {x0 : AV} {H : AH} : callR tbl 4 [x0] H = runR tbl a4 [.code a4.body] (ainit [x0]) H := callR_of tbl4 (Nat.le_of_ble_eq_true rfl)
theorem b4 : a4.body = (.seq (.reg d4_0) (.seq (.seq (.reg d4_1) (.cond (.t 7) (.seq (.reg d4_2) .ret) .skip)) (.seq (.reg d4_3) (.seq (.seq (.reg d4_4) (.cond (.t 15) (.seq (.reg d4_5) .ret) .skip)) (.seq (.reg d4_6) .ret))))) := rfl
theorem s4 : a4.res = [(.tmp 2)] := rfl
theorem tbl5 : tbl 5 = some a5 := rfl
theorem c5 {x0 x1 : AV} {H : AH} : callR tbl 5 [x0, x1] H = runR tbl a5 [.code a5.body] (ainit [x0, x1]) H := callR_of tbl5 (Nat.le_of_ble_eq_true rfl)
theorem b5 : a5.body = (.seq (.reg d5_0) (.seq (.seq (.reg d5_1) (.cond (.t 20) (.seq (.reg d5_2) .ret) .skip)) (.seq (.reg d5_3) (.seq (.seq (.reg d5_4) (.cond (.t 28) (.seq (.reg d5_5) (.seq (.reg d5_6) (.cond (.t 41) (.seq (.reg d5_7) .ret) .skip))) .skip)) (.seq (.reg d5_8) (.seq (.seq (.reg d5_9) (.cond (.t 48) (.seq (.reg d5_10) .ret) .skip)) (.seq (.reg d5_11) (.seq (.reg d5_12) .ret)))))))) := rfl
theorem s5 : a5.res = [(.tmp 4)] := rfl
theorem tbl6 : tbl 6 = some a6 := rfl
theorem c6 {x0 x1 : AV} {H : AH} : callR tbl 6 [x0, x1] H = runR tbl a6 [.code a6.body] (ainit [x0, x1]) H := callR_of tbl6 (Nat.le_of_ble_eq_true rfl)
theorem b6 : a6.body = (.seq (.reg d6_0) (.seq (.seq (.reg d6_1) (.cond (.t 25) (.seq (.reg d6_2) .ret) .skip)) (.seq (.reg d6_3) (.seq (.reg d6_4) (.seq (.reg d6_5) (.seq (.seq (.reg d6_6) (.cond (.t 51) (.seq (.reg d6_7) .ret) .skip)) (.seq (.seq (.reg d6_8) (.cond (.t 57) (.seq (.reg d6_9) .ret) .skip)) (.seq (.reg d6_10) (.seq (.reg d6_11) .ret))))))))) := rfl
theorem s6 : a6.res = [(.tmp 4)] := rfl
theorem tbl7 : tbl 7 = some a7 := rfl
theorem c7 {H : AH} : callR tbl 7 [] H = runR tbl a7 [.code a7.body] (ainit []) H := callR_of tbl7 (Nat.le_of_ble_eq_true rfl)
theorem b7 : a7.body = (.seq (.reg d7_0) (.seq (.reg d7_1) (.seq (.reg d7_2) (.seq (.reg d7_3) .ret)))) := rfl
theorem s7 : a7.res = [(.tmp 0)] := rfl
theorem tbl8 : tbl 8 = some a8 := rfl
theorem c8 {x0 : AV} {H : AH} : callR tbl 8 [x0] H = runR tbl a8 [.code a8.body] (ainit [x0]) H := callR_of tbl8 (Nat.le_of_ble_eq_true rfl)
theorem b8 : a8.body = (.seq (.reg d8_0) (.seq (.seq (.reg d8_1) (.cond (.t 8) (.seq (.reg d8_2) .ret) .skip)) (.seq (.reg d8_3) (.seq (.reg d8_4) (.seq (.seq (.reg d8_5) (.cond (.t 13) (.seq (.reg d8_6) .ret) .skip)) (.seq (.reg d8_7) .ret)))))) := rfl
theorem s8 : a8.res = [(.tmp 2), (.tmp 3)] := rfl
theorem tbl9 : tbl 9 = some a9 := rfl
theorem c9 {x0 : AV} {H : AH} : callR tbl 9 [x0] H = runR tbl a9 [.code a9.body] (ainit [x0]) H := callR_of tbl9 (Nat.le_of_ble_eq_true rfl)
theorem b9 : a9.body = (.seq (.reg d9_0) (.seq (.seq (.reg d9_1) (.cond (.t 10) (.seq (.reg d9_2) .ret) .skip)) (.seq (.reg d9_3) (.seq (.seq (.reg d9_4) (.block 0 (.loop l9_14))) (.seq (.reg d9_15) .ret))))) := rfl
theorem s9 : a9.res = [(.tmp 2), (.tmp 3)] := rfl
theorem tbl10 : tbl 10 = some a10 := rfl
theorem c10 {x0 : AV} {H : AH} : callR tbl 10 [x0] H = runR tbl a10 [.code a10.body] (ainit [x0]) H := callR_of tbl10 (Nat.le_of_ble_eq_true rfl)
theorem b10 : a10.body = (.seq (.reg d10_0) (.seq (.reg d10_1) (.seq (.reg d10_2) (.seq (.drw d10_3) .ret)))) := rfl
theorem s10 : a10.res = [(.tmp 2), (.tmp 3)] := rfl
theorem tbl11 : tbl 11 = some a11 := rfl
theorem c11 {x0 : AV} {H : AH} : callR tbl 11 [x0] H = runR tbl a11 [.code a11.body] (ainit [x0]) H := callR_of tbl11 (Nat.le_of_ble_eq_true rfl)
theorem b11 : a11.body = (.seq (.reg d11_0) (.seq (.reg d11_1) (.seq (.seq (.reg d11_2) (.block 0 (.loop l11_15))) (.seq (.reg d11_16) .ret)))) := rfl
theorem s11 : a11.res = [(.tmp 2), (.tmp 3), (.tmp 4)] := rfl
theorem tbl12 : tbl 12 = some a12 := rfl
theorem c12 {x0 : AV} {H : AH} : callR tbl 12 [x0] H = runR tbl a12 [.code a12.body] (ainit [x0]) H := callR_of tbl12 (Nat.le_of_ble_eq_true rfl)
theorem b12 : a12.body = (.seq (.reg d12_0) (.seq (.reg d12_1) (.seq (.reg d12_2) (.seq (.reg d12_3) .ret)))) := rfl
theorem s12 : a12.res = [(.tmp 2)] := rfl
theorem tbl13 : tbl 13 = some a13 := rfl
theorem c13 {x0 : AV} {H : AH} : callR tbl 13 [x0] H = runR tbl a13 [.code a13.body] (ainit [x0]) H := callR_of tbl13 (Nat.le_of_ble_eq_true rfl)
theorem b13 : a13.body = (.seq (.reg d13_0) (.seq (.block 0 (.seq (.reg d13_1) (.cond (.t 11) (.seq (.reg d13_2) .ret) (.seq (.reg d13_3) (.cond (.t 15) (.seq (.reg d13_4) .ret) .skip))))) (.seq (.reg d13_5) (.seq (.reg d13_6) (.seq (.seq (.reg d13_7) (.block 1 (.loop l13_22))) (.seq (.reg d13_23) .ret)))))) := rfl
theorem s13 : a13.res = [(.tmp 2), (.tmp 3)] := rfl
theorem tbl14 : tbl 14 = some a14 := rfl
theorem c14 {x0 x1 : AV} {H : AH} : callR tbl 14 [x0, x1] H = runR tbl a14 [.code a14.body] (ainit [x0, x1]) H := callR_of tbl14 (Nat.le_of_ble_eq_true rfl)
theorem b14 : a14.body = (.seq (.reg d14_0) (.seq (.seq (.reg d14_1) (.cond (.t 10) (.seq (.reg d14_2) .ret) .skip)) (.seq (.seq (.reg d14_3) (.block 0 (.loop l14_9))) (.seq (.reg d14_10) .ret)))) := rfl
theorem s14 : a14.res = [(.tmp 4)] := rfl
theorem tbl15 : tbl 15 = some a15 := rfl
theorem c15 {x0 : AV} {H : AH} : callR tbl 15 [x0] H = runR tbl a15 [.code a15.body] (ainit [x0]) H := callR_of tbl15 (Nat.le_of_ble_eq_true rfl)
theorem b15 : a15.body = (.seq (.reg d15_0) (.seq (.seq (.reg d15_1) (.cond (.t 9) (.seq (.reg d15_2) .ret) .skip)) (.seq (.seq (.reg d15_3) (.cond (.t 13) (.seq (.reg d15_4) .ret) .skip)) (.seq (.reg d15_5) (.seq (.seq (.reg d15_6) (.block 0 (.loop l15_18))) (.seq (.reg d15_19) .ret)))))) := rfl
theorem s15 : a15.res = [(.tmp 2), (.tmp 3)] := rfl
theorem tbl16 : tbl 16 = some a16 := rfl
theorem c16 {x0 x1 : AV} {H : AH} : callR tbl 16 [x0, x1] H = runR tbl a16 [.code a16.body] (ainit [x0, x1]) H := callR_of tbl16 (Nat.le_of_ble_eq_true rfl)
theorem b16 : a16.body = (.seq (.reg d16_0) (.seq (.reg d16_1) (.seq (.block 0 (.seq (.reg d16_2) (.cond (.t 13) (.seq (.reg d16_3) .ret) (.seq (.reg d16_4) (.cond (.t 17) (.seq (.reg d16_5) .ret) .skip))))) (.seq (.reg d16_6) .ret)))) := rfl
theorem s16 : a16.res = [(.tmp 4), (.tmp 5)] := rfl
theorem tbl17 : tbl 17 = some a17 := rfl
theorem c17 {x0 x1 : AV} {H : AH} : callR tbl 17 [x0, x1] H = runR tbl a17 [.code a17.body] (ainit [x0, x1]) H := callR_of tbl17 (Nat.le_of_ble_eq_true rfl)
theorem b17 : a17.body = (.seq (.reg d17_0) (.seq (.reg d17_1) (.block 0 (.loop l17_8)))) := rfl
theorem s17 : a17.res = [] := rfl
theorem tbl18 : tbl 18 = some a18 := rfl
theorem c18 {x0 x1 x2 x3 : AV} {H : AH} : callR tbl 18 [x0, x1, x2, x3] H = runR tbl a18 [.code a18.body] (ainit [x0, x1, x2, x3]) H := callR_of tbl18 (Nat.le_of_ble_eq_true rfl)
theorem b18 : a18.body = (.seq (.reg d18_0) (.block 0 (.loop l18_4))) := rfl
theorem s18 : a18.res = [] := rfl
theorem tbl19 : tbl 19 = some a19 := rfl
theorem c19 {x0 x1 x2 x3 : AV} {H : AH} : callR tbl 19 [x0, x1, x2, x3] H = runR tbl a19 [.code a19.body] (ainit [x0, x1, x2, x3]) H := callR_of tbl19 (Nat.le_of_ble_eq_true rfl)
theorem b19 : a19.body = (.seq (.reg d19_0) (.cond (.t 8) (.reg d19_1) .skip)) := rfl
theorem s19 : a19.res = [] := rfl
theorem tbl20 : tbl 20 = some a20 := rfl
theorem c20 {x0 x1 x2 : AV} {H : AH} : callR tbl 20 [x0, x1, x2] H = runR tbl a20 [.code a20.body] (ainit [x0, x1, x2]) H := callR_of tbl20 (Nat.le_of_ble_eq_true rfl)
theorem b20 : a20.body = (.reg d20_0) := rfl
theorem s20 : a20.res = [] := rfl
theorem tbl_ok : ∀ f a, tbl f = some a → cfun Try.prog f = some a := by
  intro f a h
  unfold tbl at h
  split at h
  · cases h; exact a3_ok
  · cases h; exact a4_ok
  · cases h; exact a5_ok
  · cases h; exact a6_ok
  · cases h; exact a7_ok
  · cases h; exact a8_ok
  · cases h; exact a9_ok
  · cases h; exact a10_ok
  · cases h; exact a11_ok
  · cases h; exact a12_ok
  · cases h; exact a13_ok
  · cases h; exact a14_ok
  · cases h; exact a15_ok
  · cases h; exact a16_ok
  · cases h; exact a17_ok
  · cases h; exact a18_ok
  · cases h; exact a19_ok
  · cases h; exact a20_ok
  · cases h
end Go.Proofs.Ythnlgcnbpngnpaa.Abs
