/- The functions that the laws of this seat reach, in the plain machine's form, and that they are the loaded ones. Printed by a program of this seat's own (gencode.py). No condition of its own. -/
import Derived.Test.YtfbfpiibmgofeaaProg
import Derived.Test.YtfbfpiibmgofeaaAbs3
import Derived.Test.YtfbfpiibmgofeaaEval
import Derived.KernelRfl
namespace Go.Proofs.Ytfbfpiibmgofeaa.Abs
set_option linter.unusedVariables false
set_option maxRecDepth 100000
/-- futtock/futtocklaw20.LayoutCells -/
def d3_0 : List AOper := [
  ⟨(some 6), none, (.val (.c (.b false)))⟩]
theorem r3_0 {fn : AFun} {K : List AItem} {t : Nat → AV} {H : AH} {T : Tbl} : runR T fn (.code (.reg d3_0) :: K) t H = regR T fn K (aops (callR T) [
  ⟨(some 6), none, (.val (.c (.b false)))⟩] t H) := runR_reg'
def d3_1 : List AOper := [
  ⟨(some 14), none, (.val (.t 1))⟩,
  ⟨(some 15), none, (.call 7 [(.t 14)])⟩,
  ⟨(some 13), none, (.val (.t 15))⟩,
  ⟨(some 16), none, (.ext (.t 13) 0)⟩,
  ⟨(some 17), none, (.ext (.t 13) 1)⟩,
  ⟨(some 18), none, (.ext (.t 13) 2)⟩,
  ⟨(some 7), none, (.val (.t 16))⟩,
  ⟨(some 8), none, (.val (.t 17))⟩,
  ⟨(some 9), none, (.val (.t 18))⟩]
theorem r3_1 {fn : AFun} {K : List AItem} {t : Nat → AV} {H : AH} {T : Tbl} : runR T fn (.code (.reg d3_1) :: K) t H = regR T fn K (aops (callR T) [
  ⟨(some 14), none, (.val (.t 1))⟩,
  ⟨(some 15), none, (.call 7 [(.t 14)])⟩,
  ⟨(some 13), none, (.val (.t 15))⟩,
  ⟨(some 16), none, (.ext (.t 13) 0)⟩,
  ⟨(some 17), none, (.ext (.t 13) 1)⟩,
  ⟨(some 18), none, (.ext (.t 13) 2)⟩,
  ⟨(some 7), none, (.val (.t 16))⟩,
  ⟨(some 8), none, (.val (.t 17))⟩,
  ⟨(some 9), none, (.val (.t 18))⟩] t H) := runR_reg'
def d3_2 : List AOper := [
  ⟨(some 20), none, (.val (.t 1))⟩,
  ⟨(some 21), none, (.call 8 [(.t 20)])⟩,
  ⟨(some 19), none, (.val (.t 21))⟩,
  ⟨(some 22), none, (.ext (.t 19) 0)⟩,
  ⟨(some 23), none, (.ext (.t 19) 1)⟩,
  ⟨(some 24), none, (.ext (.t 19) 2)⟩,
  ⟨(some 10), none, (.val (.t 22))⟩,
  ⟨(some 11), none, (.val (.t 23))⟩,
  ⟨(some 12), none, (.val (.t 24))⟩]
theorem r3_2 {fn : AFun} {K : List AItem} {t : Nat → AV} {H : AH} {T : Tbl} : runR T fn (.code (.reg d3_2) :: K) t H = regR T fn K (aops (callR T) [
  ⟨(some 20), none, (.val (.t 1))⟩,
  ⟨(some 21), none, (.call 8 [(.t 20)])⟩,
  ⟨(some 19), none, (.val (.t 21))⟩,
  ⟨(some 22), none, (.ext (.t 19) 0)⟩,
  ⟨(some 23), none, (.ext (.t 19) 1)⟩,
  ⟨(some 24), none, (.ext (.t 19) 2)⟩,
  ⟨(some 10), none, (.val (.t 22))⟩,
  ⟨(some 11), none, (.val (.t 23))⟩,
  ⟨(some 12), none, (.val (.t 24))⟩] t H) := runR_reg'
def d3_3 : List AOper := [
  ⟨(some 25), none, (.val (.t 0))⟩,
  ⟨(some 26), none, (.val (.t 1))⟩,
  ⟨(some 27), none, (.val (.t 2))⟩,
  ⟨(some 28), none, (.call 9 [(.t 25), (.t 26), (.t 27)])⟩,
  ⟨(some 29), none, (.val (.t 0))⟩,
  ⟨(some 30), none, (.val (.t 1))⟩,
  ⟨(some 31), none, (.val (.t 2))⟩,
  ⟨(some 32), none, (.call 10 [(.t 29), (.t 30), (.t 31)])⟩,
  ⟨(some 33), none, (.bin .eql (.t 28) (.t 32))⟩,
  ⟨(some 34), none, (.val (.t 33))⟩,
  ⟨(some 35), (some (34, true)), (.val (.t 7))⟩,
  ⟨(some 36), (some (34, true)), (.val (.t 10))⟩,
  ⟨(some 37), (some (34, true)), (.bin .eql (.t 35) (.t 36))⟩,
  ⟨(some 38), none, (.pick (.t 34) (.t 37) (.c (.b false)))⟩,
  ⟨(some 39), none, (.val (.t 38))⟩,
  ⟨(some 40), (some (39, true)), (.val (.t 8))⟩,
  ⟨(some 41), (some (39, true)), (.val (.t 11))⟩,
  ⟨(some 42), (some (39, true)), (.bin .eql (.t 40) (.t 41))⟩,
  ⟨(some 43), none, (.pick (.t 39) (.t 42) (.c (.b false)))⟩,
  ⟨(some 44), none, (.val (.t 43))⟩,
  ⟨(some 45), (some (44, true)), (.val (.t 9))⟩,
  ⟨(some 46), (some (44, true)), (.val (.t 12))⟩,
  ⟨(some 47), (some (44, true)), (.bin .eql (.t 45) (.t 46))⟩,
  ⟨(some 48), none, (.pick (.t 44) (.t 47) (.c (.b false)))⟩,
  ⟨(some 49), none, (.val (.t 48))⟩,
  ⟨(some 50), (some (49, true)), (.call 11 [])⟩,
  ⟨(some 51), none, (.pick (.t 49) (.t 50) (.c (.b false)))⟩,
  ⟨(some 6), none, (.val (.t 51))⟩]
theorem r3_3 {fn : AFun} {K : List AItem} {t : Nat → AV} {H : AH} {T : Tbl} : runR T fn (.code (.reg d3_3) :: K) t H = regR T fn K (aops (callR T) [
  ⟨(some 25), none, (.val (.t 0))⟩,
  ⟨(some 26), none, (.val (.t 1))⟩,
  ⟨(some 27), none, (.val (.t 2))⟩,
  ⟨(some 28), none, (.call 9 [(.t 25), (.t 26), (.t 27)])⟩,
  ⟨(some 29), none, (.val (.t 0))⟩,
  ⟨(some 30), none, (.val (.t 1))⟩,
  ⟨(some 31), none, (.val (.t 2))⟩,
  ⟨(some 32), none, (.call 10 [(.t 29), (.t 30), (.t 31)])⟩,
  ⟨(some 33), none, (.bin .eql (.t 28) (.t 32))⟩,
  ⟨(some 34), none, (.val (.t 33))⟩,
  ⟨(some 35), (some (34, true)), (.val (.t 7))⟩,
  ⟨(some 36), (some (34, true)), (.val (.t 10))⟩,
  ⟨(some 37), (some (34, true)), (.bin .eql (.t 35) (.t 36))⟩,
  ⟨(some 38), none, (.pick (.t 34) (.t 37) (.c (.b false)))⟩,
  ⟨(some 39), none, (.val (.t 38))⟩,
  ⟨(some 40), (some (39, true)), (.val (.t 8))⟩,
  ⟨(some 41), (some (39, true)), (.val (.t 11))⟩,
  ⟨(some 42), (some (39, true)), (.bin .eql (.t 40) (.t 41))⟩,
  ⟨(some 43), none, (.pick (.t 39) (.t 42) (.c (.b false)))⟩,
  ⟨(some 44), none, (.val (.t 43))⟩,
  ⟨(some 45), (some (44, true)), (.val (.t 9))⟩,
  ⟨(some 46), (some (44, true)), (.val (.t 12))⟩,
  ⟨(some 47), (some (44, true)), (.bin .eql (.t 45) (.t 46))⟩,
  ⟨(some 48), none, (.pick (.t 44) (.t 47) (.c (.b false)))⟩,
  ⟨(some 49), none, (.val (.t 48))⟩,
  ⟨(some 50), (some (49, true)), (.call 11 [])⟩,
  ⟨(some 51), none, (.pick (.t 49) (.t 50) (.c (.b false)))⟩,
  ⟨(some 6), none, (.val (.t 51))⟩] t H) := runR_reg'
def a3 : AFun := ⟨52, [(.tmp 6)], (.seq (.reg d3_0) (.seq (.reg d3_1) (.seq (.reg d3_2) (.seq (.reg d3_3) .ret))))⟩
theorem a3_ok : cfun Try.prog 3 = some a3 := by kernel_rfl
/-- futtock/futtocklaw20.LayoutApart -/
def d4_0 : List AOper := [
  ⟨(some 3), none, (.box (.t 1))⟩,
  ⟨(some 4), none, (.val (.c (.b false)))⟩]
theorem r4_0 {fn : AFun} {K : List AItem} {t : Nat → AV} {H : AH} {T : Tbl} : runR T fn (.code (.reg d4_0) :: K) t H = regR T fn K (aops (callR T) [
  ⟨(some 3), none, (.box (.t 1))⟩,
  ⟨(some 4), none, (.val (.c (.b false)))⟩] t H) := runR_reg'
def d4_1 : List (AOper × List Nat) := [
  (⟨(some 15), none, (.iaa 3 1 (.t 3) (.c (.i .i64 0)))⟩, []),
  (⟨(some 16), none, (.ld none (.t 15))⟩, [1]),
  (⟨(some 17), none, (.cvi .i64 (.t 16))⟩, []),
  (⟨(some 18), none, (.iaa 3 1 (.t 3) (.c (.i .i64 1)))⟩, []),
  (⟨(some 19), none, (.ld none (.t 18))⟩, [1]),
  (⟨(some 20), none, (.cvi .i64 (.t 19))⟩, []),
  (⟨(some 21), none, (.iaa 3 1 (.t 3) (.c (.i .i64 2)))⟩, []),
  (⟨(some 22), none, (.ld none (.t 21))⟩, [1]),
  (⟨(some 23), none, (.cvi .i64 (.t 22))⟩, []),
  (⟨(some 5), none, (.val (.t 17))⟩, []),
  (⟨(some 6), none, (.val (.t 20))⟩, []),
  (⟨(some 7), none, (.val (.t 23))⟩, [])]
theorem r4_1 {fn : AFun} {K : List AItem} {t : Nat → AV} {H : AH} {T : Tbl} : runR T fn (.code (.drw d4_1) :: K) t H = regR T fn K (aops (callR T) [
  ⟨(some 15), none, (.iaa 3 1 (.t 3) (.c (.i .i64 0)))⟩,
  ⟨(some 16), none, (.ld none (.t 15))⟩,
  ⟨(some 17), none, (.cvi .i64 (.t 16))⟩,
  ⟨(some 18), none, (.iaa 3 1 (.t 3) (.c (.i .i64 1)))⟩,
  ⟨(some 19), none, (.ld none (.t 18))⟩,
  ⟨(some 20), none, (.cvi .i64 (.t 19))⟩,
  ⟨(some 21), none, (.iaa 3 1 (.t 3) (.c (.i .i64 2)))⟩,
  ⟨(some 22), none, (.ld none (.t 21))⟩,
  ⟨(some 23), none, (.cvi .i64 (.t 22))⟩,
  ⟨(some 5), none, (.val (.t 17))⟩,
  ⟨(some 6), none, (.val (.t 20))⟩,
  ⟨(some 7), none, (.val (.t 23))⟩] t H) := runR_plain rfl
def d4_2 : List AOper := [
  ⟨(some 24), none, (.val (.t 5))⟩,
  ⟨(some 25), none, (.val (.t 6))⟩,
  ⟨(some 26), none, (.val (.t 7))⟩,
  ⟨(some 27), none, (.call 9 [(.t 24), (.t 25), (.t 26)])⟩,
  ⟨(some 8), none, (.val (.t 27))⟩]
theorem r4_2 {fn : AFun} {K : List AItem} {t : Nat → AV} {H : AH} {T : Tbl} : runR T fn (.code (.reg d4_2) :: K) t H = regR T fn K (aops (callR T) [
  ⟨(some 24), none, (.val (.t 5))⟩,
  ⟨(some 25), none, (.val (.t 6))⟩,
  ⟨(some 26), none, (.val (.t 7))⟩,
  ⟨(some 27), none, (.call 9 [(.t 24), (.t 25), (.t 26)])⟩,
  ⟨(some 8), none, (.val (.t 27))⟩] t H) := runR_reg'
def d4_3 : List AOper := [
  ⟨(some 28), none, (.val (.t 8))⟩,
  ⟨(some 29), none, (.bin .geq (.t 28) (.c (.i .i64 0)))⟩]
theorem r4_3 {fn : AFun} {K : List AItem} {t : Nat → AV} {H : AH} {T : Tbl} : runR T fn (.code (.reg d4_3) :: K) t H = regR T fn K (aops (callR T) [
  ⟨(some 28), none, (.val (.t 8))⟩,
  ⟨(some 29), none, (.bin .geq (.t 28) (.c (.i .i64 0)))⟩] t H) := runR_reg'
def d4_4 : List AOper := [
  ⟨(some 31), none, (.val (.t 8))⟩,
  ⟨(some 32), none, (.call 7 [(.t 31)])⟩,
  ⟨(some 30), none, (.val (.t 32))⟩,
  ⟨(some 33), none, (.ext (.t 30) 0)⟩,
  ⟨(some 34), none, (.ext (.t 30) 1)⟩,
  ⟨(some 35), none, (.ext (.t 30) 2)⟩,
  ⟨(some 9), none, (.val (.t 33))⟩,
  ⟨(some 10), none, (.val (.t 34))⟩,
  ⟨(some 11), none, (.val (.t 35))⟩]
theorem r4_4 {fn : AFun} {K : List AItem} {t : Nat → AV} {H : AH} {T : Tbl} : runR T fn (.code (.reg d4_4) :: K) t H = regR T fn K (aops (callR T) [
  ⟨(some 31), none, (.val (.t 8))⟩,
  ⟨(some 32), none, (.call 7 [(.t 31)])⟩,
  ⟨(some 30), none, (.val (.t 32))⟩,
  ⟨(some 33), none, (.ext (.t 30) 0)⟩,
  ⟨(some 34), none, (.ext (.t 30) 1)⟩,
  ⟨(some 35), none, (.ext (.t 30) 2)⟩,
  ⟨(some 9), none, (.val (.t 33))⟩,
  ⟨(some 10), none, (.val (.t 34))⟩,
  ⟨(some 11), none, (.val (.t 35))⟩] t H) := runR_reg'
def d4_5 : List AOper := [
  ⟨(some 36), none, (.val (.t 9))⟩,
  ⟨(some 37), none, (.val (.t 5))⟩,
  ⟨(some 38), none, (.bin .neq (.t 36) (.t 37))⟩,
  ⟨(some 39), none, (.val (.t 38))⟩,
  ⟨(some 40), (some (39, false)), (.val (.t 10))⟩,
  ⟨(some 41), (some (39, false)), (.val (.t 6))⟩,
  ⟨(some 42), (some (39, false)), (.bin .neq (.t 40) (.t 41))⟩,
  ⟨(some 43), none, (.pick (.t 39) (.c (.b true)) (.t 42))⟩,
  ⟨(some 44), none, (.val (.t 43))⟩,
  ⟨(some 45), (some (44, false)), (.val (.t 9))⟩,
  ⟨(some 46), (some (44, false)), (.bin .eql (.t 45) (.c (.i .i64 7)))⟩,
  ⟨(some 47), (some (44, false)), (.val (.t 46))⟩,
  ⟨(some 48), (some (47, true)), (.val (.t 11))⟩,
  ⟨(some 49), (some (47, true)), (.val (.t 7))⟩,
  ⟨(some 50), (some (47, true)), (.bin .neq (.t 48) (.t 49))⟩,
  ⟨(some 51), (some (44, false)), (.pick (.t 47) (.t 50) (.c (.b false)))⟩,
  ⟨(some 52), none, (.pick (.t 44) (.c (.b true)) (.t 51))⟩,
  ⟨(some 53), none, (.val (.t 52))⟩,
  ⟨(some 54), (some (53, false)), (.val (.t 8))⟩,
  ⟨(some 55), (some (53, false)), (.bin .geq (.t 54) (.c (.i .i64 128)))⟩,
  ⟨(some 56), none, (.pick (.t 53) (.c (.b true)) (.t 55))⟩]
theorem r4_5 {fn : AFun} {K : List AItem} {t : Nat → AV} {H : AH} {T : Tbl} : runR T fn (.code (.reg d4_5) :: K) t H = regR T fn K (aops (callR T) [
  ⟨(some 36), none, (.val (.t 9))⟩,
  ⟨(some 37), none, (.val (.t 5))⟩,
  ⟨(some 38), none, (.bin .neq (.t 36) (.t 37))⟩,
  ⟨(some 39), none, (.val (.t 38))⟩,
  ⟨(some 40), (some (39, false)), (.val (.t 10))⟩,
  ⟨(some 41), (some (39, false)), (.val (.t 6))⟩,
  ⟨(some 42), (some (39, false)), (.bin .neq (.t 40) (.t 41))⟩,
  ⟨(some 43), none, (.pick (.t 39) (.c (.b true)) (.t 42))⟩,
  ⟨(some 44), none, (.val (.t 43))⟩,
  ⟨(some 45), (some (44, false)), (.val (.t 9))⟩,
  ⟨(some 46), (some (44, false)), (.bin .eql (.t 45) (.c (.i .i64 7)))⟩,
  ⟨(some 47), (some (44, false)), (.val (.t 46))⟩,
  ⟨(some 48), (some (47, true)), (.val (.t 11))⟩,
  ⟨(some 49), (some (47, true)), (.val (.t 7))⟩,
  ⟨(some 50), (some (47, true)), (.bin .neq (.t 48) (.t 49))⟩,
  ⟨(some 51), (some (44, false)), (.pick (.t 47) (.t 50) (.c (.b false)))⟩,
  ⟨(some 52), none, (.pick (.t 44) (.c (.b true)) (.t 51))⟩,
  ⟨(some 53), none, (.val (.t 52))⟩,
  ⟨(some 54), (some (53, false)), (.val (.t 8))⟩,
  ⟨(some 55), (some (53, false)), (.bin .geq (.t 54) (.c (.i .i64 128)))⟩,
  ⟨(some 56), none, (.pick (.t 53) (.c (.b true)) (.t 55))⟩] t H) := runR_reg'
def d4_6 : List AOper := [
  ⟨(some 4), none, (.val (.c (.b false)))⟩]
theorem r4_6 {fn : AFun} {K : List AItem} {t : Nat → AV} {H : AH} {T : Tbl} : runR T fn (.code (.reg d4_6) :: K) t H = regR T fn K (aops (callR T) [
  ⟨(some 4), none, (.val (.c (.b false)))⟩] t H) := runR_reg'
def d4_7 : List AOper := [
  ⟨(some 58), none, (.val (.t 0))⟩,
  ⟨(some 59), none, (.call 7 [(.t 58)])⟩,
  ⟨(some 57), none, (.val (.t 59))⟩,
  ⟨(some 60), none, (.ext (.t 57) 0)⟩,
  ⟨(some 61), none, (.ext (.t 57) 1)⟩,
  ⟨(some 62), none, (.ext (.t 57) 2)⟩,
  ⟨(some 12), none, (.val (.t 60))⟩,
  ⟨(some 13), none, (.val (.t 61))⟩,
  ⟨(some 14), none, (.val (.t 62))⟩]
theorem r4_7 {fn : AFun} {K : List AItem} {t : Nat → AV} {H : AH} {T : Tbl} : runR T fn (.code (.reg d4_7) :: K) t H = regR T fn K (aops (callR T) [
  ⟨(some 58), none, (.val (.t 0))⟩,
  ⟨(some 59), none, (.call 7 [(.t 58)])⟩,
  ⟨(some 57), none, (.val (.t 59))⟩,
  ⟨(some 60), none, (.ext (.t 57) 0)⟩,
  ⟨(some 61), none, (.ext (.t 57) 1)⟩,
  ⟨(some 62), none, (.ext (.t 57) 2)⟩,
  ⟨(some 12), none, (.val (.t 60))⟩,
  ⟨(some 13), none, (.val (.t 61))⟩,
  ⟨(some 14), none, (.val (.t 62))⟩] t H) := runR_reg'
def d4_8 : List AOper := [
  ⟨(some 63), none, (.val (.t 12))⟩,
  ⟨(some 64), none, (.bin .eql (.t 63) (.c (.i .i64 0)))⟩,
  ⟨(some 65), none, (.val (.t 64))⟩,
  ⟨(some 66), (some (65, false)), (.val (.t 12))⟩,
  ⟨(some 67), (some (65, false)), (.val (.t 13))⟩,
  ⟨(some 68), (some (65, false)), (.val (.t 14))⟩,
  ⟨(some 69), (some (65, false)), (.call 9 [(.t 66), (.t 67), (.t 68)])⟩,
  ⟨(some 70), (some (65, false)), (.val (.t 0))⟩,
  ⟨(some 71), (some (65, false)), (.bin .eql (.t 69) (.t 70))⟩,
  ⟨(some 72), none, (.pick (.t 65) (.c (.b true)) (.t 71))⟩,
  ⟨(some 73), none, (.val (.t 72))⟩,
  ⟨(some 74), (some (73, true)), (.call 11 [])⟩,
  ⟨(some 75), none, (.pick (.t 73) (.t 74) (.c (.b false)))⟩,
  ⟨(some 4), none, (.val (.t 75))⟩]
theorem r4_8 {fn : AFun} {K : List AItem} {t : Nat → AV} {H : AH} {T : Tbl} : runR T fn (.code (.reg d4_8) :: K) t H = regR T fn K (aops (callR T) [
  ⟨(some 63), none, (.val (.t 12))⟩,
  ⟨(some 64), none, (.bin .eql (.t 63) (.c (.i .i64 0)))⟩,
  ⟨(some 65), none, (.val (.t 64))⟩,
  ⟨(some 66), (some (65, false)), (.val (.t 12))⟩,
  ⟨(some 67), (some (65, false)), (.val (.t 13))⟩,
  ⟨(some 68), (some (65, false)), (.val (.t 14))⟩,
  ⟨(some 69), (some (65, false)), (.call 9 [(.t 66), (.t 67), (.t 68)])⟩,
  ⟨(some 70), (some (65, false)), (.val (.t 0))⟩,
  ⟨(some 71), (some (65, false)), (.bin .eql (.t 69) (.t 70))⟩,
  ⟨(some 72), none, (.pick (.t 65) (.c (.b true)) (.t 71))⟩,
  ⟨(some 73), none, (.val (.t 72))⟩,
  ⟨(some 74), (some (73, true)), (.call 11 [])⟩,
  ⟨(some 75), none, (.pick (.t 73) (.t 74) (.c (.b false)))⟩,
  ⟨(some 4), none, (.val (.t 75))⟩] t H) := runR_reg'
def a4 : AFun := ⟨76, [(.tmp 4)], (.seq (.reg d4_0) (.seq (.drw d4_1) (.seq (.reg d4_2) (.seq (.seq (.reg d4_3) (.cond (.t 29) (.seq (.reg d4_4) (.seq (.reg d4_5) (.cond (.t 56) (.seq (.reg d4_6) .ret) .skip))) .skip)) (.seq (.reg d4_7) (.seq (.reg d4_8) .ret))))))⟩
theorem a4_ok : cfun Try.prog 4 = some a4 := by kernel_rfl
/-- futtock/futtocklaw20.LayoutAll -/
def d5_0 : List AOper := [
  ⟨(some 1), none, (.box (.t 0))⟩,
  ⟨(some 2), none, (.val (.c (.b false)))⟩]
theorem r5_0 {fn : AFun} {K : List AItem} {t : Nat → AV} {H : AH} {T : Tbl} : runR T fn (.code (.reg d5_0) :: K) t H = regR T fn K (aops (callR T) [
  ⟨(some 1), none, (.box (.t 0))⟩,
  ⟨(some 2), none, (.val (.c (.b false)))⟩] t H) := runR_reg'
def d5_1 : List (AOper × List Nat) := [
  (⟨(some 6), none, (.iaa 4 1 (.t 1) (.c (.i .i64 0)))⟩, []),
  (⟨(some 7), none, (.ld none (.t 6))⟩, [1]),
  (⟨(some 8), none, (.iaa 4 1 (.t 1) (.c (.i .i64 1)))⟩, []),
  (⟨(some 9), none, (.ld none (.t 8))⟩, [1]),
  (⟨(some 10), none, (.iaa 4 1 (.t 1) (.c (.i .i64 2)))⟩, []),
  (⟨(some 11), none, (.ld none (.t 10))⟩, [1]),
  (⟨(some 12), none, (.iaa 4 1 (.t 1) (.c (.i .i64 3)))⟩, []),
  (⟨(some 13), none, (.ld none (.t 12))⟩, [1]),
  (⟨(some 14), none, (.call 12 [(.t 7), (.t 9), (.t 11), (.t 13)])⟩, []),
  (⟨(some 15), none, (.iaa 4 1 (.t 1) (.c (.i .i64 0)))⟩, []),
  (⟨(some 16), none, (.ld none (.t 15))⟩, [2]),
  (⟨(some 17), none, (.iaa 4 1 (.t 1) (.c (.i .i64 1)))⟩, []),
  (⟨(some 18), none, (.ld none (.t 17))⟩, [2]),
  (⟨(some 19), none, (.iaa 4 1 (.t 1) (.c (.i .i64 2)))⟩, []),
  (⟨(some 20), none, (.ld none (.t 19))⟩, [2]),
  (⟨(some 21), none, (.iaa 4 1 (.t 1) (.c (.i .i64 3)))⟩, []),
  (⟨(some 22), none, (.ld none (.t 21))⟩, [2]),
  (⟨(some 23), none, (.call 13 [(.t 16), (.t 18), (.t 20), (.t 22)])⟩, []),
  (⟨(some 3), none, (.val (.t 14))⟩, []),
  (⟨(some 4), none, (.val (.t 23))⟩, [])]
theorem r5_1 {fn : AFun} {K : List AItem} {t : Nat → AV} {H : AH} {T : Tbl} : runR T fn (.code (.drw d5_1) :: K) t H = regR T fn K (adrn (callR T) [
  (⟨(some 6), none, (.iaa 4 1 (.t 1) (.c (.i .i64 0)))⟩, []),
  (⟨(some 7), none, (.ld none (.t 6))⟩, [1]),
  (⟨(some 8), none, (.iaa 4 1 (.t 1) (.c (.i .i64 1)))⟩, []),
  (⟨(some 9), none, (.ld none (.t 8))⟩, [1]),
  (⟨(some 10), none, (.iaa 4 1 (.t 1) (.c (.i .i64 2)))⟩, []),
  (⟨(some 11), none, (.ld none (.t 10))⟩, [1]),
  (⟨(some 12), none, (.iaa 4 1 (.t 1) (.c (.i .i64 3)))⟩, []),
  (⟨(some 13), none, (.ld none (.t 12))⟩, [1]),
  (⟨(some 14), none, (.call 12 [(.t 7), (.t 9), (.t 11), (.t 13)])⟩, []),
  (⟨(some 15), none, (.iaa 4 1 (.t 1) (.c (.i .i64 0)))⟩, []),
  (⟨(some 16), none, (.ld none (.t 15))⟩, [2]),
  (⟨(some 17), none, (.iaa 4 1 (.t 1) (.c (.i .i64 1)))⟩, []),
  (⟨(some 18), none, (.ld none (.t 17))⟩, [2]),
  (⟨(some 19), none, (.iaa 4 1 (.t 1) (.c (.i .i64 2)))⟩, []),
  (⟨(some 20), none, (.ld none (.t 19))⟩, [2]),
  (⟨(some 21), none, (.iaa 4 1 (.t 1) (.c (.i .i64 3)))⟩, []),
  (⟨(some 22), none, (.ld none (.t 21))⟩, [2]),
  (⟨(some 23), none, (.call 13 [(.t 16), (.t 18), (.t 20), (.t 22)])⟩, []),
  (⟨(some 3), none, (.val (.t 14))⟩, []),
  (⟨(some 4), none, (.val (.t 23))⟩, [])] t H [H]) := runR_free rfl
def d5_2 : List AOper := [
  ⟨(some 24), none, (.val (.t 3))⟩,
  ⟨(some 25), none, (.len (.t 24))⟩,
  ⟨(some 26), none, (.val (.t 4))⟩,
  ⟨(some 27), none, (.len (.t 26))⟩,
  ⟨(some 28), none, (.bin .neq (.t 25) (.t 27))⟩]
theorem r5_2 {fn : AFun} {K : List AItem} {t : Nat → AV} {H : AH} {T : Tbl} : runR T fn (.code (.reg d5_2) :: K) t H = regR T fn K (aops (callR T) [
  ⟨(some 24), none, (.val (.t 3))⟩,
  ⟨(some 25), none, (.len (.t 24))⟩,
  ⟨(some 26), none, (.val (.t 4))⟩,
  ⟨(some 27), none, (.len (.t 26))⟩,
  ⟨(some 28), none, (.bin .neq (.t 25) (.t 27))⟩] t H) := runR_reg'
def d5_3 : List AOper := [
  ⟨(some 2), none, (.val (.c (.b false)))⟩]
theorem r5_3 {fn : AFun} {K : List AItem} {t : Nat → AV} {H : AH} {T : Tbl} : runR T fn (.code (.reg d5_3) :: K) t H = regR T fn K (aops (callR T) [
  ⟨(some 2), none, (.val (.c (.b false)))⟩] t H) := runR_reg'
def d5_4 : List AOper := [
  ⟨(some 29), none, (.val (.t 3))⟩,
  ⟨(some 30), none, (.len (.t 29))⟩,
  ⟨(some 31), none, (.val (.c (.i .i64 0)))⟩]
theorem r5_4 {fn : AFun} {K : List AItem} {t : Nat → AV} {H : AH} {T : Tbl} : runR T fn (.code (.reg d5_4) :: K) t H = regR T fn K (aops (callR T) [
  ⟨(some 29), none, (.val (.t 3))⟩,
  ⟨(some 30), none, (.len (.t 29))⟩,
  ⟨(some 31), none, (.val (.c (.i .i64 0)))⟩] t H) := runR_reg'
def d5_5 : List AOper := [
  ⟨(some 32), none, (.bin .lss (.t 31) (.t 30))⟩]
theorem r5_5 {fn : AFun} {K : List AItem} {t : Nat → AV} {H : AH} {T : Tbl} : runR T fn (.code (.reg d5_5) :: K) t H = regR T fn K (aops (callR T) [
  ⟨(some 32), none, (.bin .lss (.t 31) (.t 30))⟩] t H) := runR_reg'
def d5_6 : List AOper := [
  ⟨(some 33), none, (.val (.t 31))⟩,
  ⟨(some 5), none, (.val (.t 33))⟩]
theorem r5_6 {fn : AFun} {K : List AItem} {t : Nat → AV} {H : AH} {T : Tbl} : runR T fn (.code (.reg d5_6) :: K) t H = regR T fn K (aops (callR T) [
  ⟨(some 33), none, (.val (.t 31))⟩,
  ⟨(some 5), none, (.val (.t 33))⟩] t H) := runR_reg'
def d5_7 : List (AOper × List Nat) := [
  (⟨(some 34), none, (.val (.t 3))⟩, []),
  (⟨(some 35), none, (.val (.t 5))⟩, []),
  (⟨(some 36), none, (.ia 1 (.t 34) (.t 35))⟩, []),
  (⟨(some 37), none, (.ld none (.t 36))⟩, [1]),
  (⟨(some 38), none, (.val (.t 4))⟩, []),
  (⟨(some 39), none, (.val (.t 5))⟩, []),
  (⟨(some 40), none, (.ia 1 (.t 38) (.t 39))⟩, []),
  (⟨(some 41), none, (.ld none (.t 40))⟩, [1]),
  (⟨(some 42), none, (.bin .neq (.t 37) (.t 41))⟩, [])]
theorem r5_7 {fn : AFun} {K : List AItem} {t : Nat → AV} {H : AH} {T : Tbl} : runR T fn (.code (.drw d5_7) :: K) t H = regR T fn K (aops (callR T) [
  ⟨(some 34), none, (.val (.t 3))⟩,
  ⟨(some 35), none, (.val (.t 5))⟩,
  ⟨(some 36), none, (.ia 1 (.t 34) (.t 35))⟩,
  ⟨(some 37), none, (.ld none (.t 36))⟩,
  ⟨(some 38), none, (.val (.t 4))⟩,
  ⟨(some 39), none, (.val (.t 5))⟩,
  ⟨(some 40), none, (.ia 1 (.t 38) (.t 39))⟩,
  ⟨(some 41), none, (.ld none (.t 40))⟩,
  ⟨(some 42), none, (.bin .neq (.t 37) (.t 41))⟩] t H) := runR_plain rfl
def d5_8 : List AOper := [
  ⟨(some 2), none, (.val (.c (.b false)))⟩]
theorem r5_8 {fn : AFun} {K : List AItem} {t : Nat → AV} {H : AH} {T : Tbl} : runR T fn (.code (.reg d5_8) :: K) t H = regR T fn K (aops (callR T) [
  ⟨(some 2), none, (.val (.c (.b false)))⟩] t H) := runR_reg'
def d5_9 : List AOper := [
  ⟨(some 43), none, (.bin .add (.t 31) (.c (.i .i64 1)))⟩,
  ⟨(some 31), none, (.val (.t 43))⟩]
theorem r5_9 {fn : AFun} {K : List AItem} {t : Nat → AV} {H : AH} {T : Tbl} : runR T fn (.code (.reg d5_9) :: K) t H = regR T fn K (aops (callR T) [
  ⟨(some 43), none, (.bin .add (.t 31) (.c (.i .i64 1)))⟩,
  ⟨(some 31), none, (.val (.t 43))⟩] t H) := runR_reg'
def l5_10 : ACode := (.seq (.reg d5_5) (.seq (.cond (.t 32) .skip (.exit 0)) (.seq (.block 1 (.seq (.reg d5_6) (.seq (.drw d5_7) (.cond (.t 42) (.seq (.reg d5_8) .ret) .skip)))) (.reg d5_9))))
def d5_11 : List AOper := [
  ⟨(some 44), none, (.call 11 [])⟩,
  ⟨(some 2), none, (.val (.t 44))⟩]
theorem r5_11 {fn : AFun} {K : List AItem} {t : Nat → AV} {H : AH} {T : Tbl} : runR T fn (.code (.reg d5_11) :: K) t H = regR T fn K (aops (callR T) [
  ⟨(some 44), none, (.call 11 [])⟩,
  ⟨(some 2), none, (.val (.t 44))⟩] t H) := runR_reg'
def a5 : AFun := ⟨45, [(.tmp 2)], (.seq (.reg d5_0) (.seq (.drw d5_1) (.seq (.seq (.reg d5_2) (.cond (.t 28) (.seq (.reg d5_3) .ret) .skip)) (.seq (.seq (.reg d5_4) (.block 0 (.loop l5_10))) (.seq (.reg d5_11) .ret)))))⟩
theorem a5_ok : cfun Try.prog 5 = some a5 := by kernel_rfl
/-- futtock/futtocklaw20.LayoutGrows -/
def d6_0 : List AOper := [
  ⟨(some 2), none, (.box (.t 0))⟩,
  ⟨(some 3), none, (.box (.t 1))⟩,
  ⟨(some 4), none, (.val (.c (.b false)))⟩]
theorem r6_0 {fn : AFun} {K : List AItem} {t : Nat → AV} {H : AH} {T : Tbl} : runR T fn (.code (.reg d6_0) :: K) t H = regR T fn K (aops (callR T) [
  ⟨(some 2), none, (.box (.t 0))⟩,
  ⟨(some 3), none, (.box (.t 1))⟩,
  ⟨(some 4), none, (.val (.c (.b false)))⟩] t H) := runR_reg'
def d6_1 : List AOper := [
  ⟨(some 15), none, (.iaa 4 1 (.t 2) (.c (.i .i64 0)))⟩,
  ⟨(some 16), none, (.ld none (.t 15))⟩,
  ⟨(some 17), none, (.cvi .i64 (.t 16))⟩,
  ⟨(some 18), none, (.iaa 4 1 (.t 2) (.c (.i .i64 1)))⟩,
  ⟨(some 19), none, (.ld none (.t 18))⟩,
  ⟨(some 20), none, (.cvi .i64 (.t 19))⟩,
  ⟨(some 21), none, (.iaa 4 1 (.t 2) (.c (.i .i64 2)))⟩,
  ⟨(some 22), none, (.ld none (.t 21))⟩,
  ⟨(some 23), none, (.cvi .i64 (.t 22))⟩,
  ⟨(some 24), none, (.iaa 4 1 (.t 2) (.c (.i .i64 3)))⟩,
  ⟨(some 25), none, (.ld none (.t 24))⟩,
  ⟨(some 26), none, (.cvi .i64 (.t 25))⟩,
  ⟨(some 27), none, (.call 12 [(.t 17), (.t 20), (.t 23), (.t 26)])⟩,
  ⟨(some 5), none, (.val (.t 27))⟩]
theorem r6_1 {fn : AFun} {K : List AItem} {t : Nat → AV} {H : AH} {T : Tbl} : runR T fn (.code (.reg d6_1) :: K) t H = regR T fn K (aops (callR T) [
  ⟨(some 15), none, (.iaa 4 1 (.t 2) (.c (.i .i64 0)))⟩,
  ⟨(some 16), none, (.ld none (.t 15))⟩,
  ⟨(some 17), none, (.cvi .i64 (.t 16))⟩,
  ⟨(some 18), none, (.iaa 4 1 (.t 2) (.c (.i .i64 1)))⟩,
  ⟨(some 19), none, (.ld none (.t 18))⟩,
  ⟨(some 20), none, (.cvi .i64 (.t 19))⟩,
  ⟨(some 21), none, (.iaa 4 1 (.t 2) (.c (.i .i64 2)))⟩,
  ⟨(some 22), none, (.ld none (.t 21))⟩,
  ⟨(some 23), none, (.cvi .i64 (.t 22))⟩,
  ⟨(some 24), none, (.iaa 4 1 (.t 2) (.c (.i .i64 3)))⟩,
  ⟨(some 25), none, (.ld none (.t 24))⟩,
  ⟨(some 26), none, (.cvi .i64 (.t 25))⟩,
  ⟨(some 27), none, (.call 12 [(.t 17), (.t 20), (.t 23), (.t 26)])⟩,
  ⟨(some 5), none, (.val (.t 27))⟩] t H) := runR_reg'
def d6_2 : List AOper := [
  ⟨(some 28), none, (.iaa 4 1 (.t 2) (.c (.i .i64 0)))⟩,
  ⟨(some 29), none, (.ld none (.t 28))⟩,
  ⟨(some 30), none, (.cvi .i64 (.t 29))⟩,
  ⟨(some 31), none, (.iaa 4 1 (.t 3) (.c (.i .i64 0)))⟩,
  ⟨(some 32), none, (.ld none (.t 31))⟩,
  ⟨(some 33), none, (.cvi .i64 (.t 32))⟩,
  ⟨(some 34), none, (.bin .add (.t 30) (.t 33))⟩,
  ⟨(some 35), none, (.iaa 4 1 (.t 2) (.c (.i .i64 1)))⟩,
  ⟨(some 36), none, (.ld none (.t 35))⟩,
  ⟨(some 37), none, (.cvi .i64 (.t 36))⟩,
  ⟨(some 38), none, (.iaa 4 1 (.t 3) (.c (.i .i64 1)))⟩,
  ⟨(some 39), none, (.ld none (.t 38))⟩,
  ⟨(some 40), none, (.cvi .i64 (.t 39))⟩,
  ⟨(some 41), none, (.bin .add (.t 37) (.t 40))⟩,
  ⟨(some 42), none, (.iaa 4 1 (.t 2) (.c (.i .i64 2)))⟩,
  ⟨(some 43), none, (.ld none (.t 42))⟩,
  ⟨(some 44), none, (.cvi .i64 (.t 43))⟩,
  ⟨(some 45), none, (.iaa 4 1 (.t 3) (.c (.i .i64 2)))⟩,
  ⟨(some 46), none, (.ld none (.t 45))⟩,
  ⟨(some 47), none, (.cvi .i64 (.t 46))⟩,
  ⟨(some 48), none, (.bin .add (.t 44) (.t 47))⟩,
  ⟨(some 49), none, (.iaa 4 1 (.t 2) (.c (.i .i64 3)))⟩,
  ⟨(some 50), none, (.ld none (.t 49))⟩,
  ⟨(some 51), none, (.cvi .i64 (.t 50))⟩,
  ⟨(some 52), none, (.iaa 4 1 (.t 3) (.c (.i .i64 3)))⟩,
  ⟨(some 53), none, (.ld none (.t 52))⟩,
  ⟨(some 54), none, (.cvi .i64 (.t 53))⟩,
  ⟨(some 55), none, (.bin .add (.t 51) (.t 54))⟩,
  ⟨(some 56), none, (.call 12 [(.t 34), (.t 41), (.t 48), (.t 55)])⟩,
  ⟨(some 6), none, (.val (.t 56))⟩]
theorem r6_2 {fn : AFun} {K : List AItem} {t : Nat → AV} {H : AH} {T : Tbl} : runR T fn (.code (.reg d6_2) :: K) t H = regR T fn K (aops (callR T) [
  ⟨(some 28), none, (.iaa 4 1 (.t 2) (.c (.i .i64 0)))⟩,
  ⟨(some 29), none, (.ld none (.t 28))⟩,
  ⟨(some 30), none, (.cvi .i64 (.t 29))⟩,
  ⟨(some 31), none, (.iaa 4 1 (.t 3) (.c (.i .i64 0)))⟩,
  ⟨(some 32), none, (.ld none (.t 31))⟩,
  ⟨(some 33), none, (.cvi .i64 (.t 32))⟩,
  ⟨(some 34), none, (.bin .add (.t 30) (.t 33))⟩,
  ⟨(some 35), none, (.iaa 4 1 (.t 2) (.c (.i .i64 1)))⟩,
  ⟨(some 36), none, (.ld none (.t 35))⟩,
  ⟨(some 37), none, (.cvi .i64 (.t 36))⟩,
  ⟨(some 38), none, (.iaa 4 1 (.t 3) (.c (.i .i64 1)))⟩,
  ⟨(some 39), none, (.ld none (.t 38))⟩,
  ⟨(some 40), none, (.cvi .i64 (.t 39))⟩,
  ⟨(some 41), none, (.bin .add (.t 37) (.t 40))⟩,
  ⟨(some 42), none, (.iaa 4 1 (.t 2) (.c (.i .i64 2)))⟩,
  ⟨(some 43), none, (.ld none (.t 42))⟩,
  ⟨(some 44), none, (.cvi .i64 (.t 43))⟩,
  ⟨(some 45), none, (.iaa 4 1 (.t 3) (.c (.i .i64 2)))⟩,
  ⟨(some 46), none, (.ld none (.t 45))⟩,
  ⟨(some 47), none, (.cvi .i64 (.t 46))⟩,
  ⟨(some 48), none, (.bin .add (.t 44) (.t 47))⟩,
  ⟨(some 49), none, (.iaa 4 1 (.t 2) (.c (.i .i64 3)))⟩,
  ⟨(some 50), none, (.ld none (.t 49))⟩,
  ⟨(some 51), none, (.cvi .i64 (.t 50))⟩,
  ⟨(some 52), none, (.iaa 4 1 (.t 3) (.c (.i .i64 3)))⟩,
  ⟨(some 53), none, (.ld none (.t 52))⟩,
  ⟨(some 54), none, (.cvi .i64 (.t 53))⟩,
  ⟨(some 55), none, (.bin .add (.t 51) (.t 54))⟩,
  ⟨(some 56), none, (.call 12 [(.t 34), (.t 41), (.t 48), (.t 55)])⟩,
  ⟨(some 6), none, (.val (.t 56))⟩] t H) := runR_reg'
def d6_3 : List AOper := [
  ⟨(some 57), none, .mkm⟩,
  ⟨(some 7), none, (.val (.t 57))⟩]
theorem r6_3 {fn : AFun} {K : List AItem} {t : Nat → AV} {H : AH} {T : Tbl} : runR T fn (.code (.reg d6_3) :: K) t H = regR T fn K (aops (callR T) [
  ⟨(some 57), none, .mkm⟩,
  ⟨(some 7), none, (.val (.t 57))⟩] t H) := runR_reg'
def d6_4 : List AOper := [
  ⟨(some 58), none, (.val (.t 6))⟩,
  ⟨(some 59), none, (.len (.t 58))⟩,
  ⟨(some 60), none, (.val (.c (.i .i64 0)))⟩]
theorem r6_4 {fn : AFun} {K : List AItem} {t : Nat → AV} {H : AH} {T : Tbl} : runR T fn (.code (.reg d6_4) :: K) t H = regR T fn K (aops (callR T) [
  ⟨(some 58), none, (.val (.t 6))⟩,
  ⟨(some 59), none, (.len (.t 58))⟩,
  ⟨(some 60), none, (.val (.c (.i .i64 0)))⟩] t H) := runR_reg'
def d6_5 : List AOper := [
  ⟨(some 61), none, (.bin .lss (.t 60) (.t 59))⟩]
theorem r6_5 {fn : AFun} {K : List AItem} {t : Nat → AV} {H : AH} {T : Tbl} : runR T fn (.code (.reg d6_5) :: K) t H = regR T fn K (aops (callR T) [
  ⟨(some 61), none, (.bin .lss (.t 60) (.t 59))⟩] t H) := runR_reg'
def d6_6 : List AOper := [
  ⟨(some 62), none, (.val (.t 60))⟩,
  ⟨(some 63), none, (.ia 1 (.t 58) (.t 60))⟩,
  ⟨(some 64), none, (.ld none (.t 63))⟩,
  ⟨(some 8), none, (.val (.t 62))⟩,
  ⟨(some 9), none, (.val (.t 64))⟩]
theorem r6_6 {fn : AFun} {K : List AItem} {t : Nat → AV} {H : AH} {T : Tbl} : runR T fn (.code (.reg d6_6) :: K) t H = regR T fn K (aops (callR T) [
  ⟨(some 62), none, (.val (.t 60))⟩,
  ⟨(some 63), none, (.ia 1 (.t 58) (.t 60))⟩,
  ⟨(some 64), none, (.ld none (.t 63))⟩,
  ⟨(some 8), none, (.val (.t 62))⟩,
  ⟨(some 9), none, (.val (.t 64))⟩] t H) := runR_reg'
def d6_7 : List AOper := [
  ⟨(some 66), none, (.val (.t 9))⟩,
  ⟨(some 67), none, (.call 7 [(.t 66)])⟩,
  ⟨(some 65), none, (.val (.t 67))⟩,
  ⟨(some 68), none, (.ext (.t 65) 0)⟩,
  ⟨(some 69), none, (.ext (.t 65) 1)⟩,
  ⟨(some 70), none, (.ext (.t 65) 2)⟩,
  ⟨(some 10), none, (.val (.t 68))⟩,
  ⟨(some 11), none, (.val (.t 69))⟩,
  ⟨(some 12), none, (.val (.t 70))⟩]
theorem r6_7 {fn : AFun} {K : List AItem} {t : Nat → AV} {H : AH} {T : Tbl} : runR T fn (.code (.reg d6_7) :: K) t H = regR T fn K (aops (callR T) [
  ⟨(some 66), none, (.val (.t 9))⟩,
  ⟨(some 67), none, (.call 7 [(.t 66)])⟩,
  ⟨(some 65), none, (.val (.t 67))⟩,
  ⟨(some 68), none, (.ext (.t 65) 0)⟩,
  ⟨(some 69), none, (.ext (.t 65) 1)⟩,
  ⟨(some 70), none, (.ext (.t 65) 2)⟩,
  ⟨(some 10), none, (.val (.t 68))⟩,
  ⟨(some 11), none, (.val (.t 69))⟩,
  ⟨(some 12), none, (.val (.t 70))⟩] t H) := runR_reg'
def d6_8 : List AOper := [
  ⟨(some 71), none, (.val (.t 9))⟩,
  ⟨(some 72), none, (.bin .lss (.t 71) (.c (.i .i64 0)))⟩,
  ⟨(some 73), none, (.val (.t 72))⟩,
  ⟨(some 74), (some (73, false)), (.val (.t 9))⟩,
  ⟨(some 75), (some (73, false)), (.bin .geq (.t 74) (.c (.i .i64 128)))⟩,
  ⟨(some 76), none, (.pick (.t 73) (.c (.b true)) (.t 75))⟩,
  ⟨(some 77), none, (.val (.t 76))⟩,
  ⟨(some 78), (some (77, false)), (.val (.t 10))⟩,
  ⟨(some 79), (some (77, false)), (.bin .eql (.t 78) (.c (.i .i64 0)))⟩,
  ⟨(some 80), none, (.pick (.t 77) (.c (.b true)) (.t 79))⟩,
  ⟨(some 81), none, (.val (.t 80))⟩,
  ⟨(some 82), (some (81, false)), (.val (.t 8))⟩,
  ⟨(some 83), (some (81, false)), (.bin .gtr (.t 82) (.c (.i .i64 0)))⟩,
  ⟨(some 84), (some (81, false)), (.val (.t 83))⟩,
  ⟨(some 85), (some (84, true)), (.val (.t 6))⟩,
  ⟨(some 86), (some (84, true)), (.val (.t 8))⟩,
  ⟨(some 87), (some (84, true)), (.bin .sub (.t 86) (.c (.i .i64 1)))⟩,
  ⟨(some 88), (some (84, true)), (.ia 1 (.t 85) (.t 87))⟩,
  ⟨(some 89), (some (84, true)), (.ld none (.t 88))⟩,
  ⟨(some 90), (some (84, true)), (.val (.t 9))⟩,
  ⟨(some 91), (some (84, true)), (.bin .geq (.t 89) (.t 90))⟩,
  ⟨(some 92), (some (81, false)), (.pick (.t 84) (.t 91) (.c (.b false)))⟩,
  ⟨(some 93), none, (.pick (.t 81) (.c (.b true)) (.t 92))⟩]
theorem r6_8 {fn : AFun} {K : List AItem} {t : Nat → AV} {H : AH} {T : Tbl} : runR T fn (.code (.reg d6_8) :: K) t H = regR T fn K (aops (callR T) [
  ⟨(some 71), none, (.val (.t 9))⟩,
  ⟨(some 72), none, (.bin .lss (.t 71) (.c (.i .i64 0)))⟩,
  ⟨(some 73), none, (.val (.t 72))⟩,
  ⟨(some 74), (some (73, false)), (.val (.t 9))⟩,
  ⟨(some 75), (some (73, false)), (.bin .geq (.t 74) (.c (.i .i64 128)))⟩,
  ⟨(some 76), none, (.pick (.t 73) (.c (.b true)) (.t 75))⟩,
  ⟨(some 77), none, (.val (.t 76))⟩,
  ⟨(some 78), (some (77, false)), (.val (.t 10))⟩,
  ⟨(some 79), (some (77, false)), (.bin .eql (.t 78) (.c (.i .i64 0)))⟩,
  ⟨(some 80), none, (.pick (.t 77) (.c (.b true)) (.t 79))⟩,
  ⟨(some 81), none, (.val (.t 80))⟩,
  ⟨(some 82), (some (81, false)), (.val (.t 8))⟩,
  ⟨(some 83), (some (81, false)), (.bin .gtr (.t 82) (.c (.i .i64 0)))⟩,
  ⟨(some 84), (some (81, false)), (.val (.t 83))⟩,
  ⟨(some 85), (some (84, true)), (.val (.t 6))⟩,
  ⟨(some 86), (some (84, true)), (.val (.t 8))⟩,
  ⟨(some 87), (some (84, true)), (.bin .sub (.t 86) (.c (.i .i64 1)))⟩,
  ⟨(some 88), (some (84, true)), (.ia 1 (.t 85) (.t 87))⟩,
  ⟨(some 89), (some (84, true)), (.ld none (.t 88))⟩,
  ⟨(some 90), (some (84, true)), (.val (.t 9))⟩,
  ⟨(some 91), (some (84, true)), (.bin .geq (.t 89) (.t 90))⟩,
  ⟨(some 92), (some (81, false)), (.pick (.t 84) (.t 91) (.c (.b false)))⟩,
  ⟨(some 93), none, (.pick (.t 81) (.c (.b true)) (.t 92))⟩] t H) := runR_reg'
def d6_9 : List AOper := [
  ⟨(some 4), none, (.val (.c (.b false)))⟩]
theorem r6_9 {fn : AFun} {K : List AItem} {t : Nat → AV} {H : AH} {T : Tbl} : runR T fn (.code (.reg d6_9) :: K) t H = regR T fn K (aops (callR T) [
  ⟨(some 4), none, (.val (.c (.b false)))⟩] t H) := runR_reg'
def d6_10 : List AOper := [
  ⟨(some 94), none, (.val (.t 7))⟩,
  ⟨(some 95), none, (.val (.t 9))⟩,
  ⟨none, none, (.mu [0] (.t 94) (.t 95) (.c (.b true)))⟩]
theorem r6_10 {fn : AFun} {K : List AItem} {t : Nat → AV} {H : AH} {T : Tbl} : runR T fn (.code (.reg d6_10) :: K) t H = regR T fn K (aops (callR T) [
  ⟨(some 94), none, (.val (.t 7))⟩,
  ⟨(some 95), none, (.val (.t 9))⟩,
  ⟨none, none, (.mu [0] (.t 94) (.t 95) (.c (.b true)))⟩] t H) := runR_reg'
def d6_11 : List AOper := [
  ⟨(some 96), none, (.bin .add (.t 60) (.c (.i .i64 1)))⟩,
  ⟨(some 60), none, (.val (.t 96))⟩]
theorem r6_11 {fn : AFun} {K : List AItem} {t : Nat → AV} {H : AH} {T : Tbl} : runR T fn (.code (.reg d6_11) :: K) t H = regR T fn K (aops (callR T) [
  ⟨(some 96), none, (.bin .add (.t 60) (.c (.i .i64 1)))⟩,
  ⟨(some 60), none, (.val (.t 96))⟩] t H) := runR_reg'
def l6_12 : ACode := (.seq (.reg d6_5) (.seq (.cond (.t 61) .skip (.exit 0)) (.seq (.block 1 (.seq (.reg d6_6) (.seq (.reg d6_7) (.seq (.seq (.reg d6_8) (.cond (.t 93) (.seq (.reg d6_9) .ret) .skip)) (.reg d6_10))))) (.reg d6_11))))
def d6_13 : List AOper := [
  ⟨(some 97), none, (.val (.t 5))⟩,
  ⟨(some 98), none, (.len (.t 97))⟩,
  ⟨(some 99), none, (.val (.c (.i .i64 0)))⟩]
theorem r6_13 {fn : AFun} {K : List AItem} {t : Nat → AV} {H : AH} {T : Tbl} : runR T fn (.code (.reg d6_13) :: K) t H = regR T fn K (aops (callR T) [
  ⟨(some 97), none, (.val (.t 5))⟩,
  ⟨(some 98), none, (.len (.t 97))⟩,
  ⟨(some 99), none, (.val (.c (.i .i64 0)))⟩] t H) := runR_reg'
def d6_14 : List AOper := [
  ⟨(some 100), none, (.bin .lss (.t 99) (.t 98))⟩]
theorem r6_14 {fn : AFun} {K : List AItem} {t : Nat → AV} {H : AH} {T : Tbl} : runR T fn (.code (.reg d6_14) :: K) t H = regR T fn K (aops (callR T) [
  ⟨(some 100), none, (.bin .lss (.t 99) (.t 98))⟩] t H) := runR_reg'
def d6_15 : List AOper := [
  ⟨(some 101), none, (.ia 1 (.t 97) (.t 99))⟩,
  ⟨(some 102), none, (.ld none (.t 101))⟩,
  ⟨(some 14), none, (.val (.t 102))⟩]
theorem r6_15 {fn : AFun} {K : List AItem} {t : Nat → AV} {H : AH} {T : Tbl} : runR T fn (.code (.reg d6_15) :: K) t H = regR T fn K (aops (callR T) [
  ⟨(some 101), none, (.ia 1 (.t 97) (.t 99))⟩,
  ⟨(some 102), none, (.ld none (.t 101))⟩,
  ⟨(some 14), none, (.val (.t 102))⟩] t H) := runR_reg'
def d6_16 : List AOper := [
  ⟨(some 103), none, (.val (.t 7))⟩,
  ⟨(some 104), none, (.val (.t 14))⟩,
  ⟨(some 105), none, (.lk [0] (.b false) (.t 103) (.t 104) false)⟩,
  ⟨(some 106), none, (.un .not (.t 105))⟩]
theorem r6_16 {fn : AFun} {K : List AItem} {t : Nat → AV} {H : AH} {T : Tbl} : runR T fn (.code (.reg d6_16) :: K) t H = regR T fn K (aops (callR T) [
  ⟨(some 103), none, (.val (.t 7))⟩,
  ⟨(some 104), none, (.val (.t 14))⟩,
  ⟨(some 105), none, (.lk [0] (.b false) (.t 103) (.t 104) false)⟩,
  ⟨(some 106), none, (.un .not (.t 105))⟩] t H) := runR_reg'
def d6_17 : List AOper := [
  ⟨(some 4), none, (.val (.c (.b false)))⟩]
theorem r6_17 {fn : AFun} {K : List AItem} {t : Nat → AV} {H : AH} {T : Tbl} : runR T fn (.code (.reg d6_17) :: K) t H = regR T fn K (aops (callR T) [
  ⟨(some 4), none, (.val (.c (.b false)))⟩] t H) := runR_reg'
def d6_18 : List AOper := [
  ⟨(some 107), none, (.bin .add (.t 99) (.c (.i .i64 1)))⟩,
  ⟨(some 99), none, (.val (.t 107))⟩]
theorem r6_18 {fn : AFun} {K : List AItem} {t : Nat → AV} {H : AH} {T : Tbl} : runR T fn (.code (.reg d6_18) :: K) t H = regR T fn K (aops (callR T) [
  ⟨(some 107), none, (.bin .add (.t 99) (.c (.i .i64 1)))⟩,
  ⟨(some 99), none, (.val (.t 107))⟩] t H) := runR_reg'
def l6_19 : ACode := (.seq (.reg d6_14) (.seq (.cond (.t 100) .skip (.exit 2)) (.seq (.block 3 (.seq (.reg d6_15) (.seq (.reg d6_16) (.cond (.t 106) (.seq (.reg d6_17) .ret) .skip)))) (.reg d6_18))))
def d6_20 : List AOper := [
  ⟨(some 108), none, (.call 11 [])⟩,
  ⟨(some 4), none, (.val (.t 108))⟩]
theorem r6_20 {fn : AFun} {K : List AItem} {t : Nat → AV} {H : AH} {T : Tbl} : runR T fn (.code (.reg d6_20) :: K) t H = regR T fn K (aops (callR T) [
  ⟨(some 108), none, (.call 11 [])⟩,
  ⟨(some 4), none, (.val (.t 108))⟩] t H) := runR_reg'
def a6 : AFun := ⟨109, [(.tmp 4)], (.seq (.reg d6_0) (.seq (.reg d6_1) (.seq (.reg d6_2) (.seq (.reg d6_3) (.seq (.seq (.reg d6_4) (.block 0 (.loop l6_12))) (.seq (.seq (.reg d6_13) (.block 2 (.loop l6_19))) (.seq (.reg d6_20) .ret)))))))⟩
theorem a6_ok : cfun Try.prog 6 = some a6 := by kernel_rfl
/-- futtock/layout.What -/
def d7_0 : List AOper := [
  ⟨(some 2), none, (.val (.c (.i .i64 0)))⟩,
  ⟨(some 3), none, (.val (.c (.i .i64 0)))⟩,
  ⟨(some 4), none, (.val (.c (.i .i64 0)))⟩]
theorem r7_0 {fn : AFun} {K : List AItem} {t : Nat → AV} {H : AH} {T : Tbl} : runR T fn (.code (.reg d7_0) :: K) t H = regR T fn K (aops (callR T) [
  ⟨(some 2), none, (.val (.c (.i .i64 0)))⟩,
  ⟨(some 3), none, (.val (.c (.i .i64 0)))⟩,
  ⟨(some 4), none, (.val (.c (.i .i64 0)))⟩] t H) := runR_reg'
def d7_1 : List AOper := [
  ⟨(some 8), none, (.call 14 [])⟩,
  ⟨(some 9), none, (.val (.c (.i .i64 0)))⟩]
theorem r7_1 {fn : AFun} {K : List AItem} {t : Nat → AV} {H : AH} {T : Tbl} : runR T fn (.code (.reg d7_1) :: K) t H = regR T fn K (aops (callR T) [
  ⟨(some 8), none, (.call 14 [])⟩,
  ⟨(some 9), none, (.val (.c (.i .i64 0)))⟩] t H) := runR_reg'
def d7_2 : List AOper := [
  ⟨(some 10), none, (.bin .lss (.t 9) (.c (.i .i64 8)))⟩]
theorem r7_2 {fn : AFun} {K : List AItem} {t : Nat → AV} {H : AH} {T : Tbl} : runR T fn (.code (.reg d7_2) :: K) t H = regR T fn K (aops (callR T) [
  ⟨(some 10), none, (.bin .lss (.t 9) (.c (.i .i64 8)))⟩] t H) := runR_reg'
def d7_3 : List AOper := [
  ⟨(some 11), none, (.val (.t 9))⟩,
  ⟨(some 12), none, (.ix (some 3) 8 3 (.t 8) (.t 9))⟩,
  ⟨(some 6), none, (.alloc [(.i .i64 0), (.i .i64 0), (.i .i64 0)])⟩,
  ⟨(some 5), none, (.val (.t 11))⟩,
  ⟨none, none, (.st 3 (.t 6) (.t 12))⟩]
theorem r7_3 {fn : AFun} {K : List AItem} {t : Nat → AV} {H : AH} {T : Tbl} : runR T fn (.code (.reg d7_3) :: K) t H = regR T fn K (aops (callR T) [
  ⟨(some 11), none, (.val (.t 9))⟩,
  ⟨(some 12), none, (.ix (some 3) 8 3 (.t 8) (.t 9))⟩,
  ⟨(some 6), none, (.alloc [(.i .i64 0), (.i .i64 0), (.i .i64 0)])⟩,
  ⟨(some 5), none, (.val (.t 11))⟩,
  ⟨none, none, (.st 3 (.t 6) (.t 12))⟩] t H) := runR_reg'
def d7_4 : List AOper := [
  ⟨(some 13), none, (.val (.t 0))⟩,
  ⟨(some 14), none, (.fa 0 (.t 6))⟩,
  ⟨(some 15), none, (.ld none (.t 14))⟩,
  ⟨(some 16), none, (.bin .sub (.t 13) (.t 15))⟩,
  ⟨(some 7), none, (.val (.t 16))⟩]
theorem r7_4 {fn : AFun} {K : List AItem} {t : Nat → AV} {H : AH} {T : Tbl} : runR T fn (.code (.reg d7_4) :: K) t H = regR T fn K (aops (callR T) [
  ⟨(some 13), none, (.val (.t 0))⟩,
  ⟨(some 14), none, (.fa 0 (.t 6))⟩,
  ⟨(some 15), none, (.ld none (.t 14))⟩,
  ⟨(some 16), none, (.bin .sub (.t 13) (.t 15))⟩,
  ⟨(some 7), none, (.val (.t 16))⟩] t H) := runR_reg'
def d7_5 : List AOper := [
  ⟨(some 17), none, (.val (.t 0))⟩,
  ⟨(some 18), none, (.fa 0 (.t 6))⟩,
  ⟨(some 19), none, (.ld none (.t 18))⟩,
  ⟨(some 20), none, (.bin .geq (.t 17) (.t 19))⟩,
  ⟨(some 21), none, (.val (.t 20))⟩,
  ⟨(some 22), (some (21, true)), (.val (.t 7))⟩,
  ⟨(some 23), (some (21, true)), (.fa 1 (.t 6))⟩,
  ⟨(some 24), (some (21, true)), (.ld none (.t 23))⟩,
  ⟨(some 25), (some (21, true)), (.fa 2 (.t 6))⟩,
  ⟨(some 26), (some (21, true)), (.ld none (.t 25))⟩,
  ⟨(some 27), (some (21, true)), (.bin .mul (.t 24) (.t 26))⟩,
  ⟨(some 28), (some (21, true)), (.bin .lss (.t 22) (.t 27))⟩,
  ⟨(some 29), none, (.pick (.t 21) (.t 28) (.c (.b false)))⟩]
theorem r7_5 {fn : AFun} {K : List AItem} {t : Nat → AV} {H : AH} {T : Tbl} : runR T fn (.code (.reg d7_5) :: K) t H = regR T fn K (aops (callR T) [
  ⟨(some 17), none, (.val (.t 0))⟩,
  ⟨(some 18), none, (.fa 0 (.t 6))⟩,
  ⟨(some 19), none, (.ld none (.t 18))⟩,
  ⟨(some 20), none, (.bin .geq (.t 17) (.t 19))⟩,
  ⟨(some 21), none, (.val (.t 20))⟩,
  ⟨(some 22), (some (21, true)), (.val (.t 7))⟩,
  ⟨(some 23), (some (21, true)), (.fa 1 (.t 6))⟩,
  ⟨(some 24), (some (21, true)), (.ld none (.t 23))⟩,
  ⟨(some 25), (some (21, true)), (.fa 2 (.t 6))⟩,
  ⟨(some 26), (some (21, true)), (.ld none (.t 25))⟩,
  ⟨(some 27), (some (21, true)), (.bin .mul (.t 24) (.t 26))⟩,
  ⟨(some 28), (some (21, true)), (.bin .lss (.t 22) (.t 27))⟩,
  ⟨(some 29), none, (.pick (.t 21) (.t 28) (.c (.b false)))⟩] t H) := runR_reg'
def d7_6 : List (AOper × List Nat) := [
  (⟨(some 30), none, (.val (.t 5))⟩, []),
  (⟨(some 31), none, (.val (.t 7))⟩, []),
  (⟨(some 32), none, (.fa 2 (.t 6))⟩, []),
  (⟨(some 33), none, (.ld none (.t 32))⟩, [1]),
  (⟨(some 34), none, (.bin .quo (.t 31) (.t 33))⟩, []),
  (⟨(some 35), none, (.val (.t 7))⟩, []),
  (⟨(some 36), none, (.fa 2 (.t 6))⟩, []),
  (⟨(some 37), none, (.ld none (.t 36))⟩, [1]),
  (⟨(some 38), none, (.bin .rem (.t 35) (.t 37))⟩, []),
  (⟨(some 2), none, (.val (.t 30))⟩, []),
  (⟨(some 3), none, (.val (.t 34))⟩, []),
  (⟨(some 4), none, (.val (.t 38))⟩, [])]
theorem r7_6 {fn : AFun} {K : List AItem} {t : Nat → AV} {H : AH} {T : Tbl} : runR T fn (.code (.drw d7_6) :: K) t H = regR T fn K (aops (callR T) [
  ⟨(some 30), none, (.val (.t 5))⟩,
  ⟨(some 31), none, (.val (.t 7))⟩,
  ⟨(some 32), none, (.fa 2 (.t 6))⟩,
  ⟨(some 33), none, (.ld none (.t 32))⟩,
  ⟨(some 34), none, (.bin .quo (.t 31) (.t 33))⟩,
  ⟨(some 35), none, (.val (.t 7))⟩,
  ⟨(some 36), none, (.fa 2 (.t 6))⟩,
  ⟨(some 37), none, (.ld none (.t 36))⟩,
  ⟨(some 38), none, (.bin .rem (.t 35) (.t 37))⟩,
  ⟨(some 2), none, (.val (.t 30))⟩,
  ⟨(some 3), none, (.val (.t 34))⟩,
  ⟨(some 4), none, (.val (.t 38))⟩] t H) := runR_plain rfl
def d7_7 : List AOper := [
  ⟨(some 39), none, (.bin .add (.t 9) (.c (.i .i64 1)))⟩,
  ⟨(some 9), none, (.val (.t 39))⟩]
theorem r7_7 {fn : AFun} {K : List AItem} {t : Nat → AV} {H : AH} {T : Tbl} : runR T fn (.code (.reg d7_7) :: K) t H = regR T fn K (aops (callR T) [
  ⟨(some 39), none, (.bin .add (.t 9) (.c (.i .i64 1)))⟩,
  ⟨(some 9), none, (.val (.t 39))⟩] t H) := runR_reg'
def l7_8 : ACode := (.seq (.reg d7_2) (.seq (.cond (.t 10) .skip (.exit 0)) (.seq (.block 1 (.seq (.reg d7_3) (.seq (.reg d7_4) (.seq (.reg d7_5) (.cond (.t 29) (.seq (.drw d7_6) .ret) .skip))))) (.reg d7_7))))
def d7_9 : List AOper := [
  ⟨(some 2), none, (.val (.c (.i .i64 0)))⟩,
  ⟨(some 3), none, (.val (.c (.i .i64 0)))⟩,
  ⟨(some 4), none, (.val (.c (.i .i64 0)))⟩]
theorem r7_9 {fn : AFun} {K : List AItem} {t : Nat → AV} {H : AH} {T : Tbl} : runR T fn (.code (.reg d7_9) :: K) t H = regR T fn K (aops (callR T) [
  ⟨(some 2), none, (.val (.c (.i .i64 0)))⟩,
  ⟨(some 3), none, (.val (.c (.i .i64 0)))⟩,
  ⟨(some 4), none, (.val (.c (.i .i64 0)))⟩] t H) := runR_reg'
def a7 : AFun := ⟨40, [(.tmp 2), (.tmp 3), (.tmp 4)], (.seq (.reg d7_0) (.seq (.seq (.reg d7_1) (.block 0 (.loop l7_8))) (.seq (.reg d7_9) .ret)))⟩
theorem a7_ok : cfun Try.prog 7 = some a7 := by kernel_rfl
/-- futtock/futtockref20.What -/
def d8_0 : List AOper := [
  ⟨(some 2), none, (.val (.c (.i .i64 0)))⟩,
  ⟨(some 3), none, (.val (.c (.i .i64 0)))⟩,
  ⟨(some 4), none, (.val (.c (.i .i64 0)))⟩]
theorem r8_0 {fn : AFun} {K : List AItem} {t : Nat → AV} {H : AH} {T : Tbl} : runR T fn (.code (.reg d8_0) :: K) t H = regR T fn K (aops (callR T) [
  ⟨(some 2), none, (.val (.c (.i .i64 0)))⟩,
  ⟨(some 3), none, (.val (.c (.i .i64 0)))⟩,
  ⟨(some 4), none, (.val (.c (.i .i64 0)))⟩] t H) := runR_reg'
def d8_1 : List AOper := [
  ⟨(some 5), none, (.val (.c (.i .i64 1)))⟩]
theorem r8_1 {fn : AFun} {K : List AItem} {t : Nat → AV} {H : AH} {T : Tbl} : runR T fn (.code (.reg d8_1) :: K) t H = regR T fn K (aops (callR T) [
  ⟨(some 5), none, (.val (.c (.i .i64 1)))⟩] t H) := runR_reg'
def d8_2 : List AOper := [
  ⟨(some 8), none, (.val (.t 5))⟩,
  ⟨(some 9), none, (.bin .leq (.t 8) (.c (.i .i64 7)))⟩]
theorem r8_2 {fn : AFun} {K : List AItem} {t : Nat → AV} {H : AH} {T : Tbl} : runR T fn (.code (.reg d8_2) :: K) t H = regR T fn K (aops (callR T) [
  ⟨(some 8), none, (.val (.t 5))⟩,
  ⟨(some 9), none, (.bin .leq (.t 8) (.c (.i .i64 7)))⟩] t H) := runR_reg'
def d8_3 : List AOper := [
  ⟨(some 6), none, (.val (.c (.i .i64 0)))⟩]
theorem r8_3 {fn : AFun} {K : List AItem} {t : Nat → AV} {H : AH} {T : Tbl} : runR T fn (.code (.reg d8_3) :: K) t H = regR T fn K (aops (callR T) [
  ⟨(some 6), none, (.val (.c (.i .i64 0)))⟩] t H) := runR_reg'
def d8_4 : List AOper := [
  ⟨(some 12), none, (.val (.t 6))⟩,
  ⟨(some 13), none, (.val (.t 5))⟩,
  ⟨(some 14), none, (.call 15 [(.t 13)])⟩,
  ⟨(some 15), none, (.bin .lss (.t 12) (.t 14))⟩]
theorem r8_4 {fn : AFun} {K : List AItem} {t : Nat → AV} {H : AH} {T : Tbl} : runR T fn (.code (.reg d8_4) :: K) t H = regR T fn K (aops (callR T) [
  ⟨(some 12), none, (.val (.t 6))⟩,
  ⟨(some 13), none, (.val (.t 5))⟩,
  ⟨(some 14), none, (.call 15 [(.t 13)])⟩,
  ⟨(some 15), none, (.bin .lss (.t 12) (.t 14))⟩] t H) := runR_reg'
def d8_5 : List AOper := [
  ⟨(some 7), none, (.val (.c (.i .i64 0)))⟩]
theorem r8_5 {fn : AFun} {K : List AItem} {t : Nat → AV} {H : AH} {T : Tbl} : runR T fn (.code (.reg d8_5) :: K) t H = regR T fn K (aops (callR T) [
  ⟨(some 7), none, (.val (.c (.i .i64 0)))⟩] t H) := runR_reg'
def d8_6 : List AOper := [
  ⟨(some 18), none, (.val (.t 7))⟩,
  ⟨(some 19), none, (.bin .lss (.t 18) (.c (.i .i64 8)))⟩]
theorem r8_6 {fn : AFun} {K : List AItem} {t : Nat → AV} {H : AH} {T : Tbl} : runR T fn (.code (.reg d8_6) :: K) t H = regR T fn K (aops (callR T) [
  ⟨(some 18), none, (.val (.t 7))⟩,
  ⟨(some 19), none, (.bin .lss (.t 18) (.c (.i .i64 8)))⟩] t H) := runR_reg'
def d8_7 : List AOper := [
  ⟨(some 22), none, (.val (.t 0))⟩,
  ⟨(some 23), none, (.val (.t 5))⟩,
  ⟨(some 24), none, (.val (.t 6))⟩,
  ⟨(some 25), none, (.val (.t 7))⟩,
  ⟨(some 26), none, (.call 10 [(.t 23), (.t 24), (.t 25)])⟩,
  ⟨(some 27), none, (.bin .eql (.t 22) (.t 26))⟩]
theorem r8_7 {fn : AFun} {K : List AItem} {t : Nat → AV} {H : AH} {T : Tbl} : runR T fn (.code (.reg d8_7) :: K) t H = regR T fn K (aops (callR T) [
  ⟨(some 22), none, (.val (.t 0))⟩,
  ⟨(some 23), none, (.val (.t 5))⟩,
  ⟨(some 24), none, (.val (.t 6))⟩,
  ⟨(some 25), none, (.val (.t 7))⟩,
  ⟨(some 26), none, (.call 10 [(.t 23), (.t 24), (.t 25)])⟩,
  ⟨(some 27), none, (.bin .eql (.t 22) (.t 26))⟩] t H) := runR_reg'
def d8_8 : List AOper := [
  ⟨(some 28), none, (.val (.t 5))⟩,
  ⟨(some 29), none, (.val (.t 6))⟩,
  ⟨(some 30), none, (.val (.t 7))⟩,
  ⟨(some 2), none, (.val (.t 28))⟩,
  ⟨(some 3), none, (.val (.t 29))⟩,
  ⟨(some 4), none, (.val (.t 30))⟩]
theorem r8_8 {fn : AFun} {K : List AItem} {t : Nat → AV} {H : AH} {T : Tbl} : runR T fn (.code (.reg d8_8) :: K) t H = regR T fn K (aops (callR T) [
  ⟨(some 28), none, (.val (.t 5))⟩,
  ⟨(some 29), none, (.val (.t 6))⟩,
  ⟨(some 30), none, (.val (.t 7))⟩,
  ⟨(some 2), none, (.val (.t 28))⟩,
  ⟨(some 3), none, (.val (.t 29))⟩,
  ⟨(some 4), none, (.val (.t 30))⟩] t H) := runR_reg'
def d8_9 : List AOper := [
  ⟨(some 20), none, (.val (.t 7))⟩,
  ⟨(some 21), none, (.bin .add (.t 20) (.c (.i .i64 1)))⟩,
  ⟨(some 7), none, (.val (.t 21))⟩]
theorem r8_9 {fn : AFun} {K : List AItem} {t : Nat → AV} {H : AH} {T : Tbl} : runR T fn (.code (.reg d8_9) :: K) t H = regR T fn K (aops (callR T) [
  ⟨(some 20), none, (.val (.t 7))⟩,
  ⟨(some 21), none, (.bin .add (.t 20) (.c (.i .i64 1)))⟩,
  ⟨(some 7), none, (.val (.t 21))⟩] t H) := runR_reg'
def l8_10 : ACode := (.seq (.seq (.reg d8_6) (.cond (.t 19) .skip (.exit 4))) (.seq (.block 5 (.seq (.reg d8_7) (.cond (.t 27) (.seq (.reg d8_8) .ret) .skip))) (.reg d8_9)))
def d8_11 : List AOper := [
  ⟨(some 16), none, (.val (.t 6))⟩,
  ⟨(some 17), none, (.bin .add (.t 16) (.c (.i .i64 1)))⟩,
  ⟨(some 6), none, (.val (.t 17))⟩]
theorem r8_11 {fn : AFun} {K : List AItem} {t : Nat → AV} {H : AH} {T : Tbl} : runR T fn (.code (.reg d8_11) :: K) t H = regR T fn K (aops (callR T) [
  ⟨(some 16), none, (.val (.t 6))⟩,
  ⟨(some 17), none, (.bin .add (.t 16) (.c (.i .i64 1)))⟩,
  ⟨(some 6), none, (.val (.t 17))⟩] t H) := runR_reg'
def l8_12 : ACode := (.seq (.seq (.reg d8_4) (.cond (.t 15) .skip (.exit 2))) (.seq (.block 3 (.seq (.reg d8_5) (.block 4 (.loop l8_10)))) (.reg d8_11)))
def d8_13 : List AOper := [
  ⟨(some 10), none, (.val (.t 5))⟩,
  ⟨(some 11), none, (.bin .add (.t 10) (.c (.i .i64 1)))⟩,
  ⟨(some 5), none, (.val (.t 11))⟩]
theorem r8_13 {fn : AFun} {K : List AItem} {t : Nat → AV} {H : AH} {T : Tbl} : runR T fn (.code (.reg d8_13) :: K) t H = regR T fn K (aops (callR T) [
  ⟨(some 10), none, (.val (.t 5))⟩,
  ⟨(some 11), none, (.bin .add (.t 10) (.c (.i .i64 1)))⟩,
  ⟨(some 5), none, (.val (.t 11))⟩] t H) := runR_reg'
def l8_14 : ACode := (.seq (.seq (.reg d8_2) (.cond (.t 9) .skip (.exit 0))) (.seq (.block 1 (.seq (.reg d8_3) (.block 2 (.loop l8_12)))) (.reg d8_13)))
def d8_15 : List AOper := [
  ⟨(some 2), none, (.val (.c (.i .i64 0)))⟩,
  ⟨(some 3), none, (.val (.c (.i .i64 0)))⟩,
  ⟨(some 4), none, (.val (.c (.i .i64 0)))⟩]
theorem r8_15 {fn : AFun} {K : List AItem} {t : Nat → AV} {H : AH} {T : Tbl} : runR T fn (.code (.reg d8_15) :: K) t H = regR T fn K (aops (callR T) [
  ⟨(some 2), none, (.val (.c (.i .i64 0)))⟩,
  ⟨(some 3), none, (.val (.c (.i .i64 0)))⟩,
  ⟨(some 4), none, (.val (.c (.i .i64 0)))⟩] t H) := runR_reg'
def a8 : AFun := ⟨31, [(.tmp 2), (.tmp 3), (.tmp 4)], (.seq (.reg d8_0) (.seq (.seq (.reg d8_1) (.block 0 (.loop l8_14))) (.seq (.reg d8_15) .ret)))⟩
theorem a8_ok : cfun Try.prog 8 = some a8 := by kernel_rfl
/-- futtock/layout.At -/
def d9_0 : List AOper := [
  ⟨(some 6), none, (.val (.c (.i .i64 0)))⟩]
theorem r9_0 {fn : AFun} {K : List AItem} {t : Nat → AV} {H : AH} {T : Tbl} : runR T fn (.code (.reg d9_0) :: K) t H = regR T fn K (aops (callR T) [
  ⟨(some 6), none, (.val (.c (.i .i64 0)))⟩] t H) := runR_reg'
def d9_1 : List AOper := [
  ⟨(some 9), none, (.val (.t 0))⟩,
  ⟨(some 10), none, (.bin .lss (.t 9) (.c (.i .i64 1)))⟩,
  ⟨(some 11), none, (.val (.t 10))⟩,
  ⟨(some 12), (some (11, false)), (.val (.t 0))⟩,
  ⟨(some 13), (some (11, false)), (.bin .gtr (.t 12) (.c (.i .i64 7)))⟩,
  ⟨(some 14), none, (.pick (.t 11) (.c (.b true)) (.t 13))⟩]
theorem r9_1 {fn : AFun} {K : List AItem} {t : Nat → AV} {H : AH} {T : Tbl} : runR T fn (.code (.reg d9_1) :: K) t H = regR T fn K (aops (callR T) [
  ⟨(some 9), none, (.val (.t 0))⟩,
  ⟨(some 10), none, (.bin .lss (.t 9) (.c (.i .i64 1)))⟩,
  ⟨(some 11), none, (.val (.t 10))⟩,
  ⟨(some 12), (some (11, false)), (.val (.t 0))⟩,
  ⟨(some 13), (some (11, false)), (.bin .gtr (.t 12) (.c (.i .i64 7)))⟩,
  ⟨(some 14), none, (.pick (.t 11) (.c (.b true)) (.t 13))⟩] t H) := runR_reg'
def d9_2 : List AOper := [
  ⟨(some 6), none, (.val (.c (.i .i64 (-1))))⟩]
theorem r9_2 {fn : AFun} {K : List AItem} {t : Nat → AV} {H : AH} {T : Tbl} : runR T fn (.code (.reg d9_2) :: K) t H = regR T fn K (aops (callR T) [
  ⟨(some 6), none, (.val (.c (.i .i64 (-1))))⟩] t H) := runR_reg'
def d9_3 : List AOper := [
  ⟨(some 15), none, (.call 14 [])⟩,
  ⟨(some 7), none, (.alloc [(.i .i64 0), (.i .i64 0), (.i .i64 0), (.i .i64 0), (.i .i64 0), (.i .i64 0), (.i .i64 0), (.i .i64 0), (.i .i64 0), (.i .i64 0), (.i .i64 0), (.i .i64 0), (.i .i64 0), (.i .i64 0), (.i .i64 0), (.i .i64 0), (.i .i64 0), (.i .i64 0), (.i .i64 0), (.i .i64 0), (.i .i64 0), (.i .i64 0), (.i .i64 0), (.i .i64 0)])⟩,
  ⟨none, none, (.st 24 (.t 7) (.t 15))⟩]
theorem r9_3 {fn : AFun} {K : List AItem} {t : Nat → AV} {H : AH} {T : Tbl} : runR T fn (.code (.reg d9_3) :: K) t H = regR T fn K (aops (callR T) [
  ⟨(some 15), none, (.call 14 [])⟩,
  ⟨(some 7), none, (.alloc [(.i .i64 0), (.i .i64 0), (.i .i64 0), (.i .i64 0), (.i .i64 0), (.i .i64 0), (.i .i64 0), (.i .i64 0), (.i .i64 0), (.i .i64 0), (.i .i64 0), (.i .i64 0), (.i .i64 0), (.i .i64 0), (.i .i64 0), (.i .i64 0), (.i .i64 0), (.i .i64 0), (.i .i64 0), (.i .i64 0), (.i .i64 0), (.i .i64 0), (.i .i64 0), (.i .i64 0)])⟩,
  ⟨none, none, (.st 24 (.t 7) (.t 15))⟩] t H) := runR_reg'
def d9_4 : List AOper := [
  ⟨(some 16), none, (.val (.t 0))⟩,
  ⟨(some 17), none, (.iaa 8 3 (.t 7) (.t 16))⟩,
  ⟨(some 18), none, (.ld (some 3) (.t 17))⟩,
  ⟨(some 8), none, (.alloc [(.i .i64 0), (.i .i64 0), (.i .i64 0)])⟩,
  ⟨none, none, (.st 3 (.t 8) (.t 18))⟩]
theorem r9_4 {fn : AFun} {K : List AItem} {t : Nat → AV} {H : AH} {T : Tbl} : runR T fn (.code (.reg d9_4) :: K) t H = regR T fn K (aops (callR T) [
  ⟨(some 16), none, (.val (.t 0))⟩,
  ⟨(some 17), none, (.iaa 8 3 (.t 7) (.t 16))⟩,
  ⟨(some 18), none, (.ld (some 3) (.t 17))⟩,
  ⟨(some 8), none, (.alloc [(.i .i64 0), (.i .i64 0), (.i .i64 0)])⟩,
  ⟨none, none, (.st 3 (.t 8) (.t 18))⟩] t H) := runR_reg'
def d9_5 : List AOper := [
  ⟨(some 19), none, (.fa 2 (.t 8))⟩,
  ⟨(some 20), none, (.ld none (.t 19))⟩,
  ⟨(some 21), none, (.bin .eql (.t 20) (.c (.i .i64 1)))⟩]
theorem r9_5 {fn : AFun} {K : List AItem} {t : Nat → AV} {H : AH} {T : Tbl} : runR T fn (.code (.reg d9_5) :: K) t H = regR T fn K (aops (callR T) [
  ⟨(some 19), none, (.fa 2 (.t 8))⟩,
  ⟨(some 20), none, (.ld none (.t 19))⟩,
  ⟨(some 21), none, (.bin .eql (.t 20) (.c (.i .i64 1)))⟩] t H) := runR_reg'
def d9_6 : List AOper := [
  ⟨(some 2), none, (.val (.c (.i .i64 0)))⟩]
theorem r9_6 {fn : AFun} {K : List AItem} {t : Nat → AV} {H : AH} {T : Tbl} : runR T fn (.code (.reg d9_6) :: K) t H = regR T fn K (aops (callR T) [
  ⟨(some 2), none, (.val (.c (.i .i64 0)))⟩] t H) := runR_reg'
def d9_7 : List AOper := [
  ⟨(some 22), none, (.val (.t 1))⟩,
  ⟨(some 23), none, (.bin .lss (.t 22) (.c (.i .i64 0)))⟩,
  ⟨(some 24), none, (.val (.t 23))⟩,
  ⟨(some 25), (some (24, false)), (.val (.t 1))⟩,
  ⟨(some 26), (some (24, false)), (.fa 1 (.t 8))⟩,
  ⟨(some 27), (some (24, false)), (.ld none (.t 26))⟩,
  ⟨(some 28), (some (24, false)), (.bin .geq (.t 25) (.t 27))⟩,
  ⟨(some 29), none, (.pick (.t 24) (.c (.b true)) (.t 28))⟩,
  ⟨(some 30), none, (.val (.t 29))⟩,
  ⟨(some 31), (some (30, false)), (.val (.t 2))⟩,
  ⟨(some 32), (some (30, false)), (.bin .lss (.t 31) (.c (.i .i64 0)))⟩,
  ⟨(some 33), none, (.pick (.t 30) (.c (.b true)) (.t 32))⟩,
  ⟨(some 34), none, (.val (.t 33))⟩,
  ⟨(some 35), (some (34, false)), (.val (.t 2))⟩,
  ⟨(some 36), (some (34, false)), (.fa 2 (.t 8))⟩,
  ⟨(some 37), (some (34, false)), (.ld none (.t 36))⟩,
  ⟨(some 38), (some (34, false)), (.bin .geq (.t 35) (.t 37))⟩,
  ⟨(some 39), none, (.pick (.t 34) (.c (.b true)) (.t 38))⟩]
theorem r9_7 {fn : AFun} {K : List AItem} {t : Nat → AV} {H : AH} {T : Tbl} : runR T fn (.code (.reg d9_7) :: K) t H = regR T fn K (aops (callR T) [
  ⟨(some 22), none, (.val (.t 1))⟩,
  ⟨(some 23), none, (.bin .lss (.t 22) (.c (.i .i64 0)))⟩,
  ⟨(some 24), none, (.val (.t 23))⟩,
  ⟨(some 25), (some (24, false)), (.val (.t 1))⟩,
  ⟨(some 26), (some (24, false)), (.fa 1 (.t 8))⟩,
  ⟨(some 27), (some (24, false)), (.ld none (.t 26))⟩,
  ⟨(some 28), (some (24, false)), (.bin .geq (.t 25) (.t 27))⟩,
  ⟨(some 29), none, (.pick (.t 24) (.c (.b true)) (.t 28))⟩,
  ⟨(some 30), none, (.val (.t 29))⟩,
  ⟨(some 31), (some (30, false)), (.val (.t 2))⟩,
  ⟨(some 32), (some (30, false)), (.bin .lss (.t 31) (.c (.i .i64 0)))⟩,
  ⟨(some 33), none, (.pick (.t 30) (.c (.b true)) (.t 32))⟩,
  ⟨(some 34), none, (.val (.t 33))⟩,
  ⟨(some 35), (some (34, false)), (.val (.t 2))⟩,
  ⟨(some 36), (some (34, false)), (.fa 2 (.t 8))⟩,
  ⟨(some 37), (some (34, false)), (.ld none (.t 36))⟩,
  ⟨(some 38), (some (34, false)), (.bin .geq (.t 35) (.t 37))⟩,
  ⟨(some 39), none, (.pick (.t 34) (.c (.b true)) (.t 38))⟩] t H) := runR_reg'
def d9_8 : List AOper := [
  ⟨(some 6), none, (.val (.c (.i .i64 (-1))))⟩]
theorem r9_8 {fn : AFun} {K : List AItem} {t : Nat → AV} {H : AH} {T : Tbl} : runR T fn (.code (.reg d9_8) :: K) t H = regR T fn K (aops (callR T) [
  ⟨(some 6), none, (.val (.c (.i .i64 (-1))))⟩] t H) := runR_reg'
def d9_9 : List AOper := [
  ⟨(some 40), none, (.fa 0 (.t 8))⟩,
  ⟨(some 41), none, (.ld none (.t 40))⟩,
  ⟨(some 42), none, (.val (.t 1))⟩,
  ⟨(some 43), none, (.fa 2 (.t 8))⟩,
  ⟨(some 44), none, (.ld none (.t 43))⟩,
  ⟨(some 45), none, (.bin .mul (.t 42) (.t 44))⟩,
  ⟨(some 46), none, (.bin .add (.t 41) (.t 45))⟩,
  ⟨(some 47), none, (.val (.t 2))⟩,
  ⟨(some 48), none, (.bin .add (.t 46) (.t 47))⟩,
  ⟨(some 6), none, (.val (.t 48))⟩]
theorem r9_9 {fn : AFun} {K : List AItem} {t : Nat → AV} {H : AH} {T : Tbl} : runR T fn (.code (.reg d9_9) :: K) t H = regR T fn K (aops (callR T) [
  ⟨(some 40), none, (.fa 0 (.t 8))⟩,
  ⟨(some 41), none, (.ld none (.t 40))⟩,
  ⟨(some 42), none, (.val (.t 1))⟩,
  ⟨(some 43), none, (.fa 2 (.t 8))⟩,
  ⟨(some 44), none, (.ld none (.t 43))⟩,
  ⟨(some 45), none, (.bin .mul (.t 42) (.t 44))⟩,
  ⟨(some 46), none, (.bin .add (.t 41) (.t 45))⟩,
  ⟨(some 47), none, (.val (.t 2))⟩,
  ⟨(some 48), none, (.bin .add (.t 46) (.t 47))⟩,
  ⟨(some 6), none, (.val (.t 48))⟩] t H) := runR_reg'
def a9 : AFun := ⟨49, [(.tmp 6)], (.seq (.reg d9_0) (.seq (.seq (.reg d9_1) (.cond (.t 14) (.seq (.reg d9_2) .ret) .skip)) (.seq (.reg d9_3) (.seq (.reg d9_4) (.seq (.seq (.reg d9_5) (.cond (.t 21) (.reg d9_6) .skip)) (.seq (.seq (.reg d9_7) (.cond (.t 39) (.seq (.reg d9_8) .ret) .skip)) (.seq (.reg d9_9) .ret)))))))⟩
theorem a9_ok : cfun Try.prog 9 = some a9 := by kernel_rfl
/-- futtock/futtockref20.At -/
def d10_0 : List AOper := [
  ⟨(some 6), none, (.val (.c (.i .i64 0)))⟩]
theorem r10_0 {fn : AFun} {K : List AItem} {t : Nat → AV} {H : AH} {T : Tbl} : runR T fn (.code (.reg d10_0) :: K) t H = regR T fn K (aops (callR T) [
  ⟨(some 6), none, (.val (.c (.i .i64 0)))⟩] t H) := runR_reg'
def d10_1 : List AOper := [
  ⟨(some 7), none, (.val (.t 0))⟩,
  ⟨(some 8), none, (.bin .lss (.t 7) (.c (.i .i64 1)))⟩,
  ⟨(some 9), none, (.val (.t 8))⟩,
  ⟨(some 10), (some (9, false)), (.val (.t 0))⟩,
  ⟨(some 11), (some (9, false)), (.bin .gtr (.t 10) (.c (.i .i64 7)))⟩,
  ⟨(some 12), none, (.pick (.t 9) (.c (.b true)) (.t 11))⟩,
  ⟨(some 13), none, (.val (.t 12))⟩,
  ⟨(some 14), (some (13, false)), (.val (.t 1))⟩,
  ⟨(some 15), (some (13, false)), (.bin .lss (.t 14) (.c (.i .i64 0)))⟩,
  ⟨(some 16), none, (.pick (.t 13) (.c (.b true)) (.t 15))⟩,
  ⟨(some 17), none, (.val (.t 16))⟩,
  ⟨(some 18), (some (17, false)), (.val (.t 1))⟩,
  ⟨(some 19), (some (17, false)), (.val (.t 0))⟩,
  ⟨(some 20), (some (17, false)), (.call 15 [(.t 19)])⟩,
  ⟨(some 21), (some (17, false)), (.bin .geq (.t 18) (.t 20))⟩,
  ⟨(some 22), none, (.pick (.t 17) (.c (.b true)) (.t 21))⟩]
theorem r10_1 {fn : AFun} {K : List AItem} {t : Nat → AV} {H : AH} {T : Tbl} : runR T fn (.code (.reg d10_1) :: K) t H = regR T fn K (aops (callR T) [
  ⟨(some 7), none, (.val (.t 0))⟩,
  ⟨(some 8), none, (.bin .lss (.t 7) (.c (.i .i64 1)))⟩,
  ⟨(some 9), none, (.val (.t 8))⟩,
  ⟨(some 10), (some (9, false)), (.val (.t 0))⟩,
  ⟨(some 11), (some (9, false)), (.bin .gtr (.t 10) (.c (.i .i64 7)))⟩,
  ⟨(some 12), none, (.pick (.t 9) (.c (.b true)) (.t 11))⟩,
  ⟨(some 13), none, (.val (.t 12))⟩,
  ⟨(some 14), (some (13, false)), (.val (.t 1))⟩,
  ⟨(some 15), (some (13, false)), (.bin .lss (.t 14) (.c (.i .i64 0)))⟩,
  ⟨(some 16), none, (.pick (.t 13) (.c (.b true)) (.t 15))⟩,
  ⟨(some 17), none, (.val (.t 16))⟩,
  ⟨(some 18), (some (17, false)), (.val (.t 1))⟩,
  ⟨(some 19), (some (17, false)), (.val (.t 0))⟩,
  ⟨(some 20), (some (17, false)), (.call 15 [(.t 19)])⟩,
  ⟨(some 21), (some (17, false)), (.bin .geq (.t 18) (.t 20))⟩,
  ⟨(some 22), none, (.pick (.t 17) (.c (.b true)) (.t 21))⟩] t H) := runR_reg'
def d10_2 : List AOper := [
  ⟨(some 6), none, (.val (.c (.i .i64 (-1))))⟩]
theorem r10_2 {fn : AFun} {K : List AItem} {t : Nat → AV} {H : AH} {T : Tbl} : runR T fn (.code (.reg d10_2) :: K) t H = regR T fn K (aops (callR T) [
  ⟨(some 6), none, (.val (.c (.i .i64 (-1))))⟩] t H) := runR_reg'
def d10_3 : List AOper := [
  ⟨(some 23), none, (.val (.t 0))⟩,
  ⟨(some 24), none, (.bin .lss (.t 23) (.c (.i .i64 7)))⟩]
theorem r10_3 {fn : AFun} {K : List AItem} {t : Nat → AV} {H : AH} {T : Tbl} : runR T fn (.code (.reg d10_3) :: K) t H = regR T fn K (aops (callR T) [
  ⟨(some 23), none, (.val (.t 0))⟩,
  ⟨(some 24), none, (.bin .lss (.t 23) (.c (.i .i64 7)))⟩] t H) := runR_reg'
def d10_4 : List AOper := [
  ⟨(some 25), none, (.val (.t 0))⟩,
  ⟨(some 26), none, (.call 16 [(.t 25)])⟩,
  ⟨(some 27), none, (.val (.t 1))⟩,
  ⟨(some 28), none, (.bin .add (.t 26) (.t 27))⟩,
  ⟨(some 6), none, (.val (.t 28))⟩]
theorem r10_4 {fn : AFun} {K : List AItem} {t : Nat → AV} {H : AH} {T : Tbl} : runR T fn (.code (.reg d10_4) :: K) t H = regR T fn K (aops (callR T) [
  ⟨(some 25), none, (.val (.t 0))⟩,
  ⟨(some 26), none, (.call 16 [(.t 25)])⟩,
  ⟨(some 27), none, (.val (.t 1))⟩,
  ⟨(some 28), none, (.bin .add (.t 26) (.t 27))⟩,
  ⟨(some 6), none, (.val (.t 28))⟩] t H) := runR_reg'
def d10_5 : List AOper := [
  ⟨(some 29), none, (.val (.t 2))⟩,
  ⟨(some 30), none, (.bin .lss (.t 29) (.c (.i .i64 0)))⟩,
  ⟨(some 31), none, (.val (.t 30))⟩,
  ⟨(some 32), (some (31, false)), (.val (.t 2))⟩,
  ⟨(some 33), (some (31, false)), (.bin .gtr (.t 32) (.c (.i .i64 7)))⟩,
  ⟨(some 34), none, (.pick (.t 31) (.c (.b true)) (.t 33))⟩]
theorem r10_5 {fn : AFun} {K : List AItem} {t : Nat → AV} {H : AH} {T : Tbl} : runR T fn (.code (.reg d10_5) :: K) t H = regR T fn K (aops (callR T) [
  ⟨(some 29), none, (.val (.t 2))⟩,
  ⟨(some 30), none, (.bin .lss (.t 29) (.c (.i .i64 0)))⟩,
  ⟨(some 31), none, (.val (.t 30))⟩,
  ⟨(some 32), (some (31, false)), (.val (.t 2))⟩,
  ⟨(some 33), (some (31, false)), (.bin .gtr (.t 32) (.c (.i .i64 7)))⟩,
  ⟨(some 34), none, (.pick (.t 31) (.c (.b true)) (.t 33))⟩] t H) := runR_reg'
def d10_6 : List AOper := [
  ⟨(some 6), none, (.val (.c (.i .i64 (-1))))⟩]
theorem r10_6 {fn : AFun} {K : List AItem} {t : Nat → AV} {H : AH} {T : Tbl} : runR T fn (.code (.reg d10_6) :: K) t H = regR T fn K (aops (callR T) [
  ⟨(some 6), none, (.val (.c (.i .i64 (-1))))⟩] t H) := runR_reg'
def d10_7 : List AOper := [
  ⟨(some 35), none, (.val (.t 0))⟩,
  ⟨(some 36), none, (.call 16 [(.t 35)])⟩,
  ⟨(some 37), none, (.val (.t 1))⟩,
  ⟨(some 38), none, (.bin .mul (.c (.i .i64 8)) (.t 37))⟩,
  ⟨(some 39), none, (.bin .add (.t 36) (.t 38))⟩,
  ⟨(some 40), none, (.val (.t 2))⟩,
  ⟨(some 41), none, (.bin .add (.t 39) (.t 40))⟩,
  ⟨(some 6), none, (.val (.t 41))⟩]
theorem r10_7 {fn : AFun} {K : List AItem} {t : Nat → AV} {H : AH} {T : Tbl} : runR T fn (.code (.reg d10_7) :: K) t H = regR T fn K (aops (callR T) [
  ⟨(some 35), none, (.val (.t 0))⟩,
  ⟨(some 36), none, (.call 16 [(.t 35)])⟩,
  ⟨(some 37), none, (.val (.t 1))⟩,
  ⟨(some 38), none, (.bin .mul (.c (.i .i64 8)) (.t 37))⟩,
  ⟨(some 39), none, (.bin .add (.t 36) (.t 38))⟩,
  ⟨(some 40), none, (.val (.t 2))⟩,
  ⟨(some 41), none, (.bin .add (.t 39) (.t 40))⟩,
  ⟨(some 6), none, (.val (.t 41))⟩] t H) := runR_reg'
def a10 : AFun := ⟨42, [(.tmp 6)], (.seq (.reg d10_0) (.seq (.seq (.reg d10_1) (.cond (.t 22) (.seq (.reg d10_2) .ret) .skip)) (.seq (.seq (.reg d10_3) (.cond (.t 24) (.seq (.reg d10_4) .ret) .skip)) (.seq (.seq (.reg d10_5) (.cond (.t 34) (.seq (.reg d10_6) .ret) .skip)) (.seq (.reg d10_7) .ret)))))⟩
theorem a10_ok : cfun Try.prog 10 = some a10 := by kernel_rfl
/-- futtock/futtocklaw20.alive -/
def d11_0 : List AOper := [
  ⟨(some 0), none, (.val (.c (.b false)))⟩]
theorem r11_0 {fn : AFun} {K : List AItem} {t : Nat → AV} {H : AH} {T : Tbl} : runR T fn (.code (.reg d11_0) :: K) t H = regR T fn K (aops (callR T) [
  ⟨(some 0), none, (.val (.c (.b false)))⟩] t H) := runR_reg'
def d11_1 : List AOper := [
  ⟨(some 5), none, (.call 7 [(.c (.i .i64 74))])⟩,
  ⟨(some 4), none, (.val (.t 5))⟩,
  ⟨(some 6), none, (.ext (.t 4) 0)⟩,
  ⟨(some 7), none, (.ext (.t 4) 1)⟩,
  ⟨(some 8), none, (.ext (.t 4) 2)⟩,
  ⟨(some 1), none, (.val (.t 6))⟩,
  ⟨(some 2), none, (.val (.t 7))⟩,
  ⟨(some 3), none, (.val (.t 8))⟩]
theorem r11_1 {fn : AFun} {K : List AItem} {t : Nat → AV} {H : AH} {T : Tbl} : runR T fn (.code (.reg d11_1) :: K) t H = regR T fn K (aops (callR T) [
  ⟨(some 5), none, (.call 7 [(.c (.i .i64 74))])⟩,
  ⟨(some 4), none, (.val (.t 5))⟩,
  ⟨(some 6), none, (.ext (.t 4) 0)⟩,
  ⟨(some 7), none, (.ext (.t 4) 1)⟩,
  ⟨(some 8), none, (.ext (.t 4) 2)⟩,
  ⟨(some 1), none, (.val (.t 6))⟩,
  ⟨(some 2), none, (.val (.t 7))⟩,
  ⟨(some 3), none, (.val (.t 8))⟩] t H) := runR_reg'
def d11_2 : List AOper := [
  ⟨(some 9), none, (.call 9 [(.c (.i .i64 7)), (.c (.i .i64 1)), (.c (.i .i64 2))])⟩,
  ⟨(some 10), none, (.bin .eql (.t 9) (.c (.i .i64 74)))⟩,
  ⟨(some 11), none, (.val (.t 10))⟩,
  ⟨(some 12), (some (11, true)), (.val (.t 1))⟩,
  ⟨(some 13), (some (11, true)), (.bin .eql (.t 12) (.c (.i .i64 7)))⟩,
  ⟨(some 14), none, (.pick (.t 11) (.t 13) (.c (.b false)))⟩,
  ⟨(some 15), none, (.val (.t 14))⟩,
  ⟨(some 16), (some (15, true)), (.val (.t 2))⟩,
  ⟨(some 17), (some (15, true)), (.bin .eql (.t 16) (.c (.i .i64 1)))⟩,
  ⟨(some 18), none, (.pick (.t 15) (.t 17) (.c (.b false)))⟩,
  ⟨(some 19), none, (.val (.t 18))⟩,
  ⟨(some 20), (some (19, true)), (.val (.t 3))⟩,
  ⟨(some 21), (some (19, true)), (.bin .eql (.t 20) (.c (.i .i64 2)))⟩,
  ⟨(some 22), none, (.pick (.t 19) (.t 21) (.c (.b false)))⟩,
  ⟨(some 23), none, (.val (.t 22))⟩,
  ⟨(some 24), (some (23, true)), (.call 9 [(.c (.i .i64 2)), (.c (.i .i64 4)), (.c (.i .i64 0))])⟩,
  ⟨(some 25), (some (23, true)), (.bin .eql (.t 24) (.c (.i .i64 (-1))))⟩,
  ⟨(some 26), none, (.pick (.t 23) (.t 25) (.c (.b false)))⟩,
  ⟨(some 0), none, (.val (.t 26))⟩]
theorem r11_2 {fn : AFun} {K : List AItem} {t : Nat → AV} {H : AH} {T : Tbl} : runR T fn (.code (.reg d11_2) :: K) t H = regR T fn K (aops (callR T) [
  ⟨(some 9), none, (.call 9 [(.c (.i .i64 7)), (.c (.i .i64 1)), (.c (.i .i64 2))])⟩,
  ⟨(some 10), none, (.bin .eql (.t 9) (.c (.i .i64 74)))⟩,
  ⟨(some 11), none, (.val (.t 10))⟩,
  ⟨(some 12), (some (11, true)), (.val (.t 1))⟩,
  ⟨(some 13), (some (11, true)), (.bin .eql (.t 12) (.c (.i .i64 7)))⟩,
  ⟨(some 14), none, (.pick (.t 11) (.t 13) (.c (.b false)))⟩,
  ⟨(some 15), none, (.val (.t 14))⟩,
  ⟨(some 16), (some (15, true)), (.val (.t 2))⟩,
  ⟨(some 17), (some (15, true)), (.bin .eql (.t 16) (.c (.i .i64 1)))⟩,
  ⟨(some 18), none, (.pick (.t 15) (.t 17) (.c (.b false)))⟩,
  ⟨(some 19), none, (.val (.t 18))⟩,
  ⟨(some 20), (some (19, true)), (.val (.t 3))⟩,
  ⟨(some 21), (some (19, true)), (.bin .eql (.t 20) (.c (.i .i64 2)))⟩,
  ⟨(some 22), none, (.pick (.t 19) (.t 21) (.c (.b false)))⟩,
  ⟨(some 23), none, (.val (.t 22))⟩,
  ⟨(some 24), (some (23, true)), (.call 9 [(.c (.i .i64 2)), (.c (.i .i64 4)), (.c (.i .i64 0))])⟩,
  ⟨(some 25), (some (23, true)), (.bin .eql (.t 24) (.c (.i .i64 (-1))))⟩,
  ⟨(some 26), none, (.pick (.t 23) (.t 25) (.c (.b false)))⟩,
  ⟨(some 0), none, (.val (.t 26))⟩] t H) := runR_reg'
def a11 : AFun := ⟨27, [(.tmp 0)], (.seq (.reg d11_0) (.seq (.reg d11_1) (.seq (.reg d11_2) .ret)))⟩
theorem a11_ok : cfun Try.prog 11 = some a11 := by kernel_rfl
/-- futtock/layout.All -/
def d12_0 : List AOper := [
  ⟨(some 8), none, (.val (.c (.sl none 0 0 true 0)))⟩]
theorem r12_0 {fn : AFun} {K : List AItem} {t : Nat → AV} {H : AH} {T : Tbl} : runR T fn (.code (.reg d12_0) :: K) t H = regR T fn K (aops (callR T) [
  ⟨(some 8), none, (.val (.c (.sl none 0 0 true 0)))⟩] t H) := runR_reg'
def d12_1 : List AOper := [
  ⟨(some 15), none, (.val (.t 1))⟩,
  ⟨(some 16), none, (.val (.t 2))⟩,
  ⟨(some 17), none, (.val (.t 3))⟩,
  ⟨(some 18), none, (.val (.t 3))⟩,
  ⟨(some 19), none, (.val (.t 0))⟩,
  ⟨(some 20), none, (.val (.t 0))⟩,
  ⟨(some 21), none, (.val (.t 0))⟩,
  ⟨(some 22), none, (.build [(.i .i64 0), (.i .i64 0), (.i .i64 0), (.i .i64 0), (.i .i64 0), (.i .i64 0), (.i .i64 0), (.i .i64 0)] [(0, 1, (.c (.i .i64 0))), (1, 1, (.t 15)), (2, 1, (.t 16)), (3, 1, (.t 17)), (4, 1, (.t 18)), (5, 1, (.t 19)), (6, 1, (.t 20)), (7, 1, (.t 21))])⟩,
  ⟨(some 9), none, (.alloc [(.i .i64 0), (.i .i64 0), (.i .i64 0), (.i .i64 0), (.i .i64 0), (.i .i64 0), (.i .i64 0), (.i .i64 0)])⟩,
  ⟨none, none, (.st 8 (.t 9) (.t 22))⟩]
theorem r12_1 {fn : AFun} {K : List AItem} {t : Nat → AV} {H : AH} {T : Tbl} : runR T fn (.code (.reg d12_1) :: K) t H = regR T fn K (aops (callR T) [
  ⟨(some 15), none, (.val (.t 1))⟩,
  ⟨(some 16), none, (.val (.t 2))⟩,
  ⟨(some 17), none, (.val (.t 3))⟩,
  ⟨(some 18), none, (.val (.t 3))⟩,
  ⟨(some 19), none, (.val (.t 0))⟩,
  ⟨(some 20), none, (.val (.t 0))⟩,
  ⟨(some 21), none, (.val (.t 0))⟩,
  ⟨(some 22), none, (.build [(.i .i64 0), (.i .i64 0), (.i .i64 0), (.i .i64 0), (.i .i64 0), (.i .i64 0), (.i .i64 0), (.i .i64 0)] [(0, 1, (.c (.i .i64 0))), (1, 1, (.t 15)), (2, 1, (.t 16)), (3, 1, (.t 17)), (4, 1, (.t 18)), (5, 1, (.t 19)), (6, 1, (.t 20)), (7, 1, (.t 21))])⟩,
  ⟨(some 9), none, (.alloc [(.i .i64 0), (.i .i64 0), (.i .i64 0), (.i .i64 0), (.i .i64 0), (.i .i64 0), (.i .i64 0), (.i .i64 0)])⟩,
  ⟨none, none, (.st 8 (.t 9) (.t 22))⟩] t H) := runR_reg'
def d12_2 : List AOper := [
  ⟨(some 10), none, (.val (.c (.sl none 0 0 true 0)))⟩]
theorem r12_2 {fn : AFun} {K : List AItem} {t : Nat → AV} {H : AH} {T : Tbl} : runR T fn (.code (.reg d12_2) :: K) t H = regR T fn K (aops (callR T) [
  ⟨(some 10), none, (.val (.c (.sl none 0 0 true 0)))⟩] t H) := runR_reg'
def d12_3 : List AOper := [
  ⟨(some 23), none, (.val (.c (.i .i64 0)))⟩]
theorem r12_3 {fn : AFun} {K : List AItem} {t : Nat → AV} {H : AH} {T : Tbl} : runR T fn (.code (.reg d12_3) :: K) t H = regR T fn K (aops (callR T) [
  ⟨(some 23), none, (.val (.c (.i .i64 0)))⟩] t H) := runR_reg'
def d12_4 : List AOper := [
  ⟨(some 24), none, (.bin .lss (.t 23) (.c (.i .i64 128)))⟩]
theorem r12_4 {fn : AFun} {K : List AItem} {t : Nat → AV} {H : AH} {T : Tbl} : runR T fn (.code (.reg d12_4) :: K) t H = regR T fn K (aops (callR T) [
  ⟨(some 24), none, (.bin .lss (.t 23) (.c (.i .i64 128)))⟩] t H) := runR_reg'
def d12_5 : List AOper := [
  ⟨(some 25), none, (.val (.t 23))⟩,
  ⟨(some 11), none, (.val (.t 25))⟩]
theorem r12_5 {fn : AFun} {K : List AItem} {t : Nat → AV} {H : AH} {T : Tbl} : runR T fn (.code (.reg d12_5) :: K) t H = regR T fn K (aops (callR T) [
  ⟨(some 25), none, (.val (.t 23))⟩,
  ⟨(some 11), none, (.val (.t 25))⟩] t H) := runR_reg'
def d12_6 : List AOper := [
  ⟨(some 27), none, (.val (.t 11))⟩,
  ⟨(some 28), none, (.call 7 [(.t 27)])⟩,
  ⟨(some 26), none, (.val (.t 28))⟩,
  ⟨(some 29), none, (.ext (.t 26) 0)⟩,
  ⟨(some 30), none, (.ext (.t 26) 1)⟩,
  ⟨(some 31), none, (.ext (.t 26) 2)⟩,
  ⟨(some 12), none, (.val (.t 29))⟩,
  ⟨(some 13), none, (.val (.t 30))⟩,
  ⟨(some 14), none, (.val (.t 31))⟩]
theorem r12_6 {fn : AFun} {K : List AItem} {t : Nat → AV} {H : AH} {T : Tbl} : runR T fn (.code (.reg d12_6) :: K) t H = regR T fn K (aops (callR T) [
  ⟨(some 27), none, (.val (.t 11))⟩,
  ⟨(some 28), none, (.call 7 [(.t 27)])⟩,
  ⟨(some 26), none, (.val (.t 28))⟩,
  ⟨(some 29), none, (.ext (.t 26) 0)⟩,
  ⟨(some 30), none, (.ext (.t 26) 1)⟩,
  ⟨(some 31), none, (.ext (.t 26) 2)⟩,
  ⟨(some 12), none, (.val (.t 29))⟩,
  ⟨(some 13), none, (.val (.t 30))⟩,
  ⟨(some 14), none, (.val (.t 31))⟩] t H) := runR_reg'
def d12_7 : List AOper := [
  ⟨(some 32), none, (.val (.t 12))⟩,
  ⟨(some 33), none, (.bin .gtr (.t 32) (.c (.i .i64 0)))⟩,
  ⟨(some 34), none, (.val (.t 33))⟩,
  ⟨(some 35), (some (34, true)), (.val (.t 13))⟩,
  ⟨(some 36), (some (34, true)), (.val (.t 12))⟩,
  ⟨(some 37), (some (34, true)), (.iaa 8 1 (.t 9) (.t 36))⟩,
  ⟨(some 38), (some (34, true)), (.ld none (.t 37))⟩,
  ⟨(some 39), (some (34, true)), (.bin .lss (.t 35) (.t 38))⟩,
  ⟨(some 40), none, (.pick (.t 34) (.t 39) (.c (.b false)))⟩,
  ⟨(some 41), none, (.val (.t 40))⟩,
  ⟨(some 42), (some (41, true)), (.val (.t 12))⟩,
  ⟨(some 43), (some (41, true)), (.bin .neq (.t 42) (.c (.i .i64 7)))⟩,
  ⟨(some 44), (some (41, true)), (.val (.t 43))⟩,
  ⟨(some 45), (some (44, false)), (.val (.t 14))⟩,
  ⟨(some 46), (some (44, false)), (.val (.t 1))⟩,
  ⟨(some 47), (some (44, false)), (.bin .lss (.t 45) (.t 46))⟩,
  ⟨(some 48), (some (41, true)), (.pick (.t 44) (.c (.b true)) (.t 47))⟩,
  ⟨(some 49), none, (.pick (.t 41) (.t 48) (.c (.b false)))⟩]
theorem r12_7 {fn : AFun} {K : List AItem} {t : Nat → AV} {H : AH} {T : Tbl} : runR T fn (.code (.reg d12_7) :: K) t H = regR T fn K (aops (callR T) [
  ⟨(some 32), none, (.val (.t 12))⟩,
  ⟨(some 33), none, (.bin .gtr (.t 32) (.c (.i .i64 0)))⟩,
  ⟨(some 34), none, (.val (.t 33))⟩,
  ⟨(some 35), (some (34, true)), (.val (.t 13))⟩,
  ⟨(some 36), (some (34, true)), (.val (.t 12))⟩,
  ⟨(some 37), (some (34, true)), (.iaa 8 1 (.t 9) (.t 36))⟩,
  ⟨(some 38), (some (34, true)), (.ld none (.t 37))⟩,
  ⟨(some 39), (some (34, true)), (.bin .lss (.t 35) (.t 38))⟩,
  ⟨(some 40), none, (.pick (.t 34) (.t 39) (.c (.b false)))⟩,
  ⟨(some 41), none, (.val (.t 40))⟩,
  ⟨(some 42), (some (41, true)), (.val (.t 12))⟩,
  ⟨(some 43), (some (41, true)), (.bin .neq (.t 42) (.c (.i .i64 7)))⟩,
  ⟨(some 44), (some (41, true)), (.val (.t 43))⟩,
  ⟨(some 45), (some (44, false)), (.val (.t 14))⟩,
  ⟨(some 46), (some (44, false)), (.val (.t 1))⟩,
  ⟨(some 47), (some (44, false)), (.bin .lss (.t 45) (.t 46))⟩,
  ⟨(some 48), (some (41, true)), (.pick (.t 44) (.c (.b true)) (.t 47))⟩,
  ⟨(some 49), none, (.pick (.t 41) (.t 48) (.c (.b false)))⟩] t H) := runR_reg'
def d12_8 : List AOper := [
  ⟨(some 50), none, (.val (.t 10))⟩,
  ⟨(some 51), none, (.val (.t 11))⟩,
  ⟨(some 52), none, (.bsl [(.i .i64 0)] 1 [(0, 1, (.t 51))])⟩,
  ⟨(some 53), none, (.app [(.i .i64 0)] 8 (.t 50) (.t 52))⟩,
  ⟨(some 10), none, (.val (.t 53))⟩]
theorem r12_8 {fn : AFun} {K : List AItem} {t : Nat → AV} {H : AH} {T : Tbl} : runR T fn (.code (.reg d12_8) :: K) t H = regR T fn K (aops (callR T) [
  ⟨(some 50), none, (.val (.t 10))⟩,
  ⟨(some 51), none, (.val (.t 11))⟩,
  ⟨(some 52), none, (.bsl [(.i .i64 0)] 1 [(0, 1, (.t 51))])⟩,
  ⟨(some 53), none, (.app [(.i .i64 0)] 8 (.t 50) (.t 52))⟩,
  ⟨(some 10), none, (.val (.t 53))⟩] t H) := runR_reg'
def d12_9 : List AOper := [
  ⟨(some 54), none, (.bin .add (.t 23) (.c (.i .i64 1)))⟩,
  ⟨(some 23), none, (.val (.t 54))⟩]
theorem r12_9 {fn : AFun} {K : List AItem} {t : Nat → AV} {H : AH} {T : Tbl} : runR T fn (.code (.reg d12_9) :: K) t H = regR T fn K (aops (callR T) [
  ⟨(some 54), none, (.bin .add (.t 23) (.c (.i .i64 1)))⟩,
  ⟨(some 23), none, (.val (.t 54))⟩] t H) := runR_reg'
def l12_10 : ACode := (.seq (.reg d12_4) (.seq (.cond (.t 24) .skip (.exit 0)) (.seq (.block 1 (.seq (.reg d12_5) (.seq (.reg d12_6) (.seq (.reg d12_7) (.cond (.t 49) (.reg d12_8) .skip))))) (.reg d12_9))))
def d12_11 : List AOper := [
  ⟨(some 55), none, (.val (.t 10))⟩,
  ⟨(some 8), none, (.val (.t 55))⟩]
theorem r12_11 {fn : AFun} {K : List AItem} {t : Nat → AV} {H : AH} {T : Tbl} : runR T fn (.code (.reg d12_11) :: K) t H = regR T fn K (aops (callR T) [
  ⟨(some 55), none, (.val (.t 10))⟩,
  ⟨(some 8), none, (.val (.t 55))⟩] t H) := runR_reg'
def a12 : AFun := ⟨56, [(.tmp 8)], (.seq (.reg d12_0) (.seq (.reg d12_1) (.seq (.reg d12_2) (.seq (.seq (.reg d12_3) (.block 0 (.loop l12_10))) (.seq (.reg d12_11) .ret)))))⟩
theorem a12_ok : cfun Try.prog 12 = some a12 := by kernel_rfl
/-- futtock/futtockref20.All -/
def d13_0 : List AOper := [
  ⟨(some 8), none, (.val (.c (.sl none 0 0 true 0)))⟩]
theorem r13_0 {fn : AFun} {K : List AItem} {t : Nat → AV} {H : AH} {T : Tbl} : runR T fn (.code (.reg d13_0) :: K) t H = regR T fn K (aops (callR T) [
  ⟨(some 8), none, (.val (.c (.sl none 0 0 true 0)))⟩] t H) := runR_reg'
def d13_1 : List AOper := [
  ⟨(some 15), none, (.val (.t 0))⟩,
  ⟨(some 16), none, (.call 17 [(.t 15), (.c (.i .i64 8))])⟩,
  ⟨(some 17), none, (.val (.t 1))⟩,
  ⟨(some 18), none, (.call 17 [(.t 17), (.c (.i .i64 8))])⟩,
  ⟨(some 19), none, (.val (.t 2))⟩,
  ⟨(some 20), none, (.call 17 [(.t 19), (.c (.i .i64 4))])⟩,
  ⟨(some 21), none, (.val (.t 3))⟩,
  ⟨(some 22), none, (.call 17 [(.t 21), (.c (.i .i64 16))])⟩,
  ⟨(some 0), none, (.val (.t 16))⟩,
  ⟨(some 1), none, (.val (.t 18))⟩,
  ⟨(some 2), none, (.val (.t 20))⟩,
  ⟨(some 3), none, (.val (.t 22))⟩]
theorem r13_1 {fn : AFun} {K : List AItem} {t : Nat → AV} {H : AH} {T : Tbl} : runR T fn (.code (.reg d13_1) :: K) t H = regR T fn K (aops (callR T) [
  ⟨(some 15), none, (.val (.t 0))⟩,
  ⟨(some 16), none, (.call 17 [(.t 15), (.c (.i .i64 8))])⟩,
  ⟨(some 17), none, (.val (.t 1))⟩,
  ⟨(some 18), none, (.call 17 [(.t 17), (.c (.i .i64 8))])⟩,
  ⟨(some 19), none, (.val (.t 2))⟩,
  ⟨(some 20), none, (.call 17 [(.t 19), (.c (.i .i64 4))])⟩,
  ⟨(some 21), none, (.val (.t 3))⟩,
  ⟨(some 22), none, (.call 17 [(.t 21), (.c (.i .i64 16))])⟩,
  ⟨(some 0), none, (.val (.t 16))⟩,
  ⟨(some 1), none, (.val (.t 18))⟩,
  ⟨(some 2), none, (.val (.t 20))⟩,
  ⟨(some 3), none, (.val (.t 22))⟩] t H) := runR_reg'
def d13_2 : List AOper := [
  ⟨(some 9), none, (.val (.c (.sl none 0 0 true 0)))⟩]
theorem r13_2 {fn : AFun} {K : List AItem} {t : Nat → AV} {H : AH} {T : Tbl} : runR T fn (.code (.reg d13_2) :: K) t H = regR T fn K (aops (callR T) [
  ⟨(some 9), none, (.val (.c (.sl none 0 0 true 0)))⟩] t H) := runR_reg'
def d13_3 : List AOper := [
  ⟨(some 10), none, (.val (.c (.i .i64 0)))⟩]
theorem r13_3 {fn : AFun} {K : List AItem} {t : Nat → AV} {H : AH} {T : Tbl} : runR T fn (.code (.reg d13_3) :: K) t H = regR T fn K (aops (callR T) [
  ⟨(some 10), none, (.val (.c (.i .i64 0)))⟩] t H) := runR_reg'
def d13_4 : List AOper := [
  ⟨(some 23), none, (.val (.t 10))⟩,
  ⟨(some 24), none, (.bin .lss (.t 23) (.c (.i .i64 128)))⟩]
theorem r13_4 {fn : AFun} {K : List AItem} {t : Nat → AV} {H : AH} {T : Tbl} : runR T fn (.code (.reg d13_4) :: K) t H = regR T fn K (aops (callR T) [
  ⟨(some 23), none, (.val (.t 10))⟩,
  ⟨(some 24), none, (.bin .lss (.t 23) (.c (.i .i64 128)))⟩] t H) := runR_reg'
def d13_5 : List AOper := [
  ⟨(some 28), none, (.val (.t 10))⟩,
  ⟨(some 29), none, (.call 8 [(.t 28)])⟩,
  ⟨(some 27), none, (.val (.t 29))⟩,
  ⟨(some 30), none, (.ext (.t 27) 0)⟩,
  ⟨(some 31), none, (.ext (.t 27) 1)⟩,
  ⟨(some 32), none, (.ext (.t 27) 2)⟩,
  ⟨(some 11), none, (.val (.t 30))⟩,
  ⟨(some 12), none, (.val (.t 31))⟩,
  ⟨(some 13), none, (.val (.t 32))⟩]
theorem r13_5 {fn : AFun} {K : List AItem} {t : Nat → AV} {H : AH} {T : Tbl} : runR T fn (.code (.reg d13_5) :: K) t H = regR T fn K (aops (callR T) [
  ⟨(some 28), none, (.val (.t 10))⟩,
  ⟨(some 29), none, (.call 8 [(.t 28)])⟩,
  ⟨(some 27), none, (.val (.t 29))⟩,
  ⟨(some 30), none, (.ext (.t 27) 0)⟩,
  ⟨(some 31), none, (.ext (.t 27) 1)⟩,
  ⟨(some 32), none, (.ext (.t 27) 2)⟩,
  ⟨(some 11), none, (.val (.t 30))⟩,
  ⟨(some 12), none, (.val (.t 31))⟩,
  ⟨(some 13), none, (.val (.t 32))⟩] t H) := runR_reg'
def d13_6 : List AOper := [
  ⟨(some 33), none, (.val (.t 1))⟩,
  ⟨(some 34), none, (.val (.t 2))⟩,
  ⟨(some 35), none, (.val (.t 3))⟩,
  ⟨(some 36), none, (.val (.t 3))⟩,
  ⟨(some 37), none, (.val (.t 0))⟩,
  ⟨(some 38), none, (.val (.t 0))⟩,
  ⟨(some 39), none, (.val (.t 0))⟩,
  ⟨(some 40), none, (.bsl [(.i .i64 0)] 8 [(0, 1, (.c (.i .i64 0))), (1, 1, (.t 33)), (2, 1, (.t 34)), (3, 1, (.t 35)), (4, 1, (.t 36)), (5, 1, (.t 37)), (6, 1, (.t 38)), (7, 1, (.t 39))])⟩,
  ⟨(some 41), none, (.val (.t 11))⟩,
  ⟨(some 42), none, (.ia 1 (.t 40) (.t 41))⟩,
  ⟨(some 43), none, (.ld none (.t 42))⟩,
  ⟨(some 14), none, (.val (.t 43))⟩]
theorem r13_6 {fn : AFun} {K : List AItem} {t : Nat → AV} {H : AH} {T : Tbl} : runR T fn (.code (.reg d13_6) :: K) t H = regR T fn K (aops (callR T) [
  ⟨(some 33), none, (.val (.t 1))⟩,
  ⟨(some 34), none, (.val (.t 2))⟩,
  ⟨(some 35), none, (.val (.t 3))⟩,
  ⟨(some 36), none, (.val (.t 3))⟩,
  ⟨(some 37), none, (.val (.t 0))⟩,
  ⟨(some 38), none, (.val (.t 0))⟩,
  ⟨(some 39), none, (.val (.t 0))⟩,
  ⟨(some 40), none, (.bsl [(.i .i64 0)] 8 [(0, 1, (.c (.i .i64 0))), (1, 1, (.t 33)), (2, 1, (.t 34)), (3, 1, (.t 35)), (4, 1, (.t 36)), (5, 1, (.t 37)), (6, 1, (.t 38)), (7, 1, (.t 39))])⟩,
  ⟨(some 41), none, (.val (.t 11))⟩,
  ⟨(some 42), none, (.ia 1 (.t 40) (.t 41))⟩,
  ⟨(some 43), none, (.ld none (.t 42))⟩,
  ⟨(some 14), none, (.val (.t 43))⟩] t H) := runR_reg'
def d13_7 : List AOper := [
  ⟨(some 44), none, (.val (.t 12))⟩,
  ⟨(some 45), none, (.val (.t 14))⟩,
  ⟨(some 46), none, (.bin .lss (.t 44) (.t 45))⟩,
  ⟨(some 47), none, (.val (.t 46))⟩,
  ⟨(some 48), (some (47, true)), (.val (.t 11))⟩,
  ⟨(some 49), (some (47, true)), (.bin .lss (.t 48) (.c (.i .i64 7)))⟩,
  ⟨(some 50), (some (47, true)), (.val (.t 49))⟩,
  ⟨(some 51), (some (50, false)), (.val (.t 13))⟩,
  ⟨(some 52), (some (50, false)), (.val (.t 1))⟩,
  ⟨(some 53), (some (50, false)), (.bin .lss (.t 51) (.t 52))⟩,
  ⟨(some 54), (some (47, true)), (.pick (.t 50) (.c (.b true)) (.t 53))⟩,
  ⟨(some 55), none, (.pick (.t 47) (.t 54) (.c (.b false)))⟩]
theorem r13_7 {fn : AFun} {K : List AItem} {t : Nat → AV} {H : AH} {T : Tbl} : runR T fn (.code (.reg d13_7) :: K) t H = regR T fn K (aops (callR T) [
  ⟨(some 44), none, (.val (.t 12))⟩,
  ⟨(some 45), none, (.val (.t 14))⟩,
  ⟨(some 46), none, (.bin .lss (.t 44) (.t 45))⟩,
  ⟨(some 47), none, (.val (.t 46))⟩,
  ⟨(some 48), (some (47, true)), (.val (.t 11))⟩,
  ⟨(some 49), (some (47, true)), (.bin .lss (.t 48) (.c (.i .i64 7)))⟩,
  ⟨(some 50), (some (47, true)), (.val (.t 49))⟩,
  ⟨(some 51), (some (50, false)), (.val (.t 13))⟩,
  ⟨(some 52), (some (50, false)), (.val (.t 1))⟩,
  ⟨(some 53), (some (50, false)), (.bin .lss (.t 51) (.t 52))⟩,
  ⟨(some 54), (some (47, true)), (.pick (.t 50) (.c (.b true)) (.t 53))⟩,
  ⟨(some 55), none, (.pick (.t 47) (.t 54) (.c (.b false)))⟩] t H) := runR_reg'
def d13_8 : List AOper := [
  ⟨(some 56), none, (.val (.t 9))⟩,
  ⟨(some 57), none, (.val (.t 10))⟩,
  ⟨(some 58), none, (.bsl [(.i .i64 0)] 1 [(0, 1, (.t 57))])⟩,
  ⟨(some 59), none, (.app [(.i .i64 0)] 8 (.t 56) (.t 58))⟩,
  ⟨(some 9), none, (.val (.t 59))⟩]
theorem r13_8 {fn : AFun} {K : List AItem} {t : Nat → AV} {H : AH} {T : Tbl} : runR T fn (.code (.reg d13_8) :: K) t H = regR T fn K (aops (callR T) [
  ⟨(some 56), none, (.val (.t 9))⟩,
  ⟨(some 57), none, (.val (.t 10))⟩,
  ⟨(some 58), none, (.bsl [(.i .i64 0)] 1 [(0, 1, (.t 57))])⟩,
  ⟨(some 59), none, (.app [(.i .i64 0)] 8 (.t 56) (.t 58))⟩,
  ⟨(some 9), none, (.val (.t 59))⟩] t H) := runR_reg'
def d13_9 : List AOper := [
  ⟨(some 25), none, (.val (.t 10))⟩,
  ⟨(some 26), none, (.bin .add (.t 25) (.c (.i .i64 1)))⟩,
  ⟨(some 10), none, (.val (.t 26))⟩]
theorem r13_9 {fn : AFun} {K : List AItem} {t : Nat → AV} {H : AH} {T : Tbl} : runR T fn (.code (.reg d13_9) :: K) t H = regR T fn K (aops (callR T) [
  ⟨(some 25), none, (.val (.t 10))⟩,
  ⟨(some 26), none, (.bin .add (.t 25) (.c (.i .i64 1)))⟩,
  ⟨(some 10), none, (.val (.t 26))⟩] t H) := runR_reg'
def l13_10 : ACode := (.seq (.seq (.reg d13_4) (.cond (.t 24) .skip (.exit 0))) (.seq (.block 1 (.seq (.reg d13_5) (.seq (.reg d13_6) (.seq (.reg d13_7) (.cond (.t 55) (.reg d13_8) .skip))))) (.reg d13_9)))
def d13_11 : List AOper := [
  ⟨(some 60), none, (.val (.t 9))⟩,
  ⟨(some 8), none, (.val (.t 60))⟩]
theorem r13_11 {fn : AFun} {K : List AItem} {t : Nat → AV} {H : AH} {T : Tbl} : runR T fn (.code (.reg d13_11) :: K) t H = regR T fn K (aops (callR T) [
  ⟨(some 60), none, (.val (.t 9))⟩,
  ⟨(some 8), none, (.val (.t 60))⟩] t H) := runR_reg'
def a13 : AFun := ⟨61, [(.tmp 8)], (.seq (.reg d13_0) (.seq (.reg d13_1) (.seq (.reg d13_2) (.seq (.seq (.reg d13_3) (.block 0 (.loop l13_10))) (.seq (.reg d13_11) .ret)))))⟩
theorem a13_ok : cfun Try.prog 13 = some a13 := by kernel_rfl
/-- futtock/layout.parts -/
def d14_0 : List AOper := [
  ⟨(some 0), none, (.alloc [(.i .i64 0), (.i .i64 0), (.i .i64 0), (.i .i64 0), (.i .i64 0), (.i .i64 0), (.i .i64 0), (.i .i64 0), (.i .i64 0), (.i .i64 0), (.i .i64 0), (.i .i64 0), (.i .i64 0), (.i .i64 0), (.i .i64 0), (.i .i64 0), (.i .i64 0), (.i .i64 0), (.i .i64 0), (.i .i64 0), (.i .i64 0), (.i .i64 0), (.i .i64 0), (.i .i64 0)])⟩]
theorem r14_0 {fn : AFun} {K : List AItem} {t : Nat → AV} {H : AH} {T : Tbl} : runR T fn (.code (.reg d14_0) :: K) t H = regR T fn K (aops (callR T) [
  ⟨(some 0), none, (.alloc [(.i .i64 0), (.i .i64 0), (.i .i64 0), (.i .i64 0), (.i .i64 0), (.i .i64 0), (.i .i64 0), (.i .i64 0), (.i .i64 0), (.i .i64 0), (.i .i64 0), (.i .i64 0), (.i .i64 0), (.i .i64 0), (.i .i64 0), (.i .i64 0), (.i .i64 0), (.i .i64 0), (.i .i64 0), (.i .i64 0), (.i .i64 0), (.i .i64 0), (.i .i64 0), (.i .i64 0)])⟩] t H) := runR_reg'
def d14_1 : List AOper := [
  ⟨(some 1), none, (.build [(.i .i64 0), (.i .i64 0), (.i .i64 0)] [])⟩,
  ⟨(some 2), none, (.build [(.i .i64 0), (.i .i64 0), (.i .i64 0)] [(0, 1, (.c (.i .i64 0))), (1, 1, (.c (.i .i64 8))), (2, 1, (.c (.i .i64 1)))])⟩,
  ⟨(some 3), none, (.build [(.i .i64 0), (.i .i64 0), (.i .i64 0)] [(0, 1, (.c (.i .i64 8))), (1, 1, (.c (.i .i64 4))), (2, 1, (.c (.i .i64 1)))])⟩,
  ⟨(some 4), none, (.build [(.i .i64 0), (.i .i64 0), (.i .i64 0)] [(0, 1, (.c (.i .i64 16))), (1, 1, (.c (.i .i64 16))), (2, 1, (.c (.i .i64 1)))])⟩,
  ⟨(some 5), none, (.build [(.i .i64 0), (.i .i64 0), (.i .i64 0)] [(0, 1, (.c (.i .i64 32))), (1, 1, (.c (.i .i64 16))), (2, 1, (.c (.i .i64 1)))])⟩,
  ⟨(some 6), none, (.build [(.i .i64 0), (.i .i64 0), (.i .i64 0)] [(0, 1, (.c (.i .i64 48))), (1, 1, (.c (.i .i64 8))), (2, 1, (.c (.i .i64 1)))])⟩,
  ⟨(some 7), none, (.build [(.i .i64 0), (.i .i64 0), (.i .i64 0)] [(0, 1, (.c (.i .i64 56))), (1, 1, (.c (.i .i64 8))), (2, 1, (.c (.i .i64 1)))])⟩,
  ⟨(some 8), none, (.build [(.i .i64 0), (.i .i64 0), (.i .i64 0)] [(0, 1, (.c (.i .i64 64))), (1, 1, (.c (.i .i64 8))), (2, 1, (.c (.i .i64 8)))])⟩,
  ⟨(some 9), none, (.build [(.i .i64 0), (.i .i64 0), (.i .i64 0), (.i .i64 0), (.i .i64 0), (.i .i64 0), (.i .i64 0), (.i .i64 0), (.i .i64 0), (.i .i64 0), (.i .i64 0), (.i .i64 0), (.i .i64 0), (.i .i64 0), (.i .i64 0), (.i .i64 0), (.i .i64 0), (.i .i64 0), (.i .i64 0), (.i .i64 0), (.i .i64 0), (.i .i64 0), (.i .i64 0), (.i .i64 0)] [(0, 3, (.t 1)), (3, 3, (.t 2)), (6, 3, (.t 3)), (9, 3, (.t 4)), (12, 3, (.t 5)), (15, 3, (.t 6)), (18, 3, (.t 7)), (21, 3, (.t 8))])⟩,
  ⟨none, none, (.st 24 (.t 0) (.t 9))⟩]
theorem r14_1 {fn : AFun} {K : List AItem} {t : Nat → AV} {H : AH} {T : Tbl} : runR T fn (.code (.reg d14_1) :: K) t H = regR T fn K (aops (callR T) [
  ⟨(some 1), none, (.build [(.i .i64 0), (.i .i64 0), (.i .i64 0)] [])⟩,
  ⟨(some 2), none, (.build [(.i .i64 0), (.i .i64 0), (.i .i64 0)] [(0, 1, (.c (.i .i64 0))), (1, 1, (.c (.i .i64 8))), (2, 1, (.c (.i .i64 1)))])⟩,
  ⟨(some 3), none, (.build [(.i .i64 0), (.i .i64 0), (.i .i64 0)] [(0, 1, (.c (.i .i64 8))), (1, 1, (.c (.i .i64 4))), (2, 1, (.c (.i .i64 1)))])⟩,
  ⟨(some 4), none, (.build [(.i .i64 0), (.i .i64 0), (.i .i64 0)] [(0, 1, (.c (.i .i64 16))), (1, 1, (.c (.i .i64 16))), (2, 1, (.c (.i .i64 1)))])⟩,
  ⟨(some 5), none, (.build [(.i .i64 0), (.i .i64 0), (.i .i64 0)] [(0, 1, (.c (.i .i64 32))), (1, 1, (.c (.i .i64 16))), (2, 1, (.c (.i .i64 1)))])⟩,
  ⟨(some 6), none, (.build [(.i .i64 0), (.i .i64 0), (.i .i64 0)] [(0, 1, (.c (.i .i64 48))), (1, 1, (.c (.i .i64 8))), (2, 1, (.c (.i .i64 1)))])⟩,
  ⟨(some 7), none, (.build [(.i .i64 0), (.i .i64 0), (.i .i64 0)] [(0, 1, (.c (.i .i64 56))), (1, 1, (.c (.i .i64 8))), (2, 1, (.c (.i .i64 1)))])⟩,
  ⟨(some 8), none, (.build [(.i .i64 0), (.i .i64 0), (.i .i64 0)] [(0, 1, (.c (.i .i64 64))), (1, 1, (.c (.i .i64 8))), (2, 1, (.c (.i .i64 8)))])⟩,
  ⟨(some 9), none, (.build [(.i .i64 0), (.i .i64 0), (.i .i64 0), (.i .i64 0), (.i .i64 0), (.i .i64 0), (.i .i64 0), (.i .i64 0), (.i .i64 0), (.i .i64 0), (.i .i64 0), (.i .i64 0), (.i .i64 0), (.i .i64 0), (.i .i64 0), (.i .i64 0), (.i .i64 0), (.i .i64 0), (.i .i64 0), (.i .i64 0), (.i .i64 0), (.i .i64 0), (.i .i64 0), (.i .i64 0)] [(0, 3, (.t 1)), (3, 3, (.t 2)), (6, 3, (.t 3)), (9, 3, (.t 4)), (12, 3, (.t 5)), (15, 3, (.t 6)), (18, 3, (.t 7)), (21, 3, (.t 8))])⟩,
  ⟨none, none, (.st 24 (.t 0) (.t 9))⟩] t H) := runR_reg'
def a14 : AFun := ⟨10, [(.cell 0 (some 24))], (.seq (.reg d14_0) (.seq (.reg d14_1) .ret))⟩
theorem a14_ok : cfun Try.prog 14 = some a14 := by kernel_rfl
/-- futtock/futtockref20.most -/
def d15_0 : List AOper := [
  ⟨(some 2), none, (.val (.c (.i .i64 0)))⟩]
theorem r15_0 {fn : AFun} {K : List AItem} {t : Nat → AV} {H : AH} {T : Tbl} : runR T fn (.code (.reg d15_0) :: K) t H = regR T fn K (aops (callR T) [
  ⟨(some 2), none, (.val (.c (.i .i64 0)))⟩] t H) := runR_reg'
def d15_1 : List AOper := [
  ⟨(some 3), none, (.bsl [(.i .i64 0)] 8 [(0, 1, (.c (.i .i64 0))), (1, 1, (.c (.i .i64 8))), (2, 1, (.c (.i .i64 4))), (3, 1, (.c (.i .i64 16))), (4, 1, (.c (.i .i64 16))), (5, 1, (.c (.i .i64 8))), (6, 1, (.c (.i .i64 8))), (7, 1, (.c (.i .i64 8)))])⟩,
  ⟨(some 4), none, (.val (.t 0))⟩,
  ⟨(some 5), none, (.ia 1 (.t 3) (.t 4))⟩,
  ⟨(some 6), none, (.ld none (.t 5))⟩,
  ⟨(some 2), none, (.val (.t 6))⟩]
theorem r15_1 {fn : AFun} {K : List AItem} {t : Nat → AV} {H : AH} {T : Tbl} : runR T fn (.code (.reg d15_1) :: K) t H = regR T fn K (aops (callR T) [
  ⟨(some 3), none, (.bsl [(.i .i64 0)] 8 [(0, 1, (.c (.i .i64 0))), (1, 1, (.c (.i .i64 8))), (2, 1, (.c (.i .i64 4))), (3, 1, (.c (.i .i64 16))), (4, 1, (.c (.i .i64 16))), (5, 1, (.c (.i .i64 8))), (6, 1, (.c (.i .i64 8))), (7, 1, (.c (.i .i64 8)))])⟩,
  ⟨(some 4), none, (.val (.t 0))⟩,
  ⟨(some 5), none, (.ia 1 (.t 3) (.t 4))⟩,
  ⟨(some 6), none, (.ld none (.t 5))⟩,
  ⟨(some 2), none, (.val (.t 6))⟩] t H) := runR_reg'
def a15 : AFun := ⟨7, [(.tmp 2)], (.seq (.reg d15_0) (.seq (.reg d15_1) .ret))⟩
theorem a15_ok : cfun Try.prog 15 = some a15 := by kernel_rfl
/-- futtock/futtockref20.begin -/
def d16_0 : List AOper := [
  ⟨(some 2), none, (.val (.c (.i .i64 0)))⟩]
theorem r16_0 {fn : AFun} {K : List AItem} {t : Nat → AV} {H : AH} {T : Tbl} : runR T fn (.code (.reg d16_0) :: K) t H = regR T fn K (aops (callR T) [
  ⟨(some 2), none, (.val (.c (.i .i64 0)))⟩] t H) := runR_reg'
def d16_1 : List AOper := [
  ⟨(some 3), none, (.bsl [(.i .i64 0)] 8 [(0, 1, (.c (.i .i64 0))), (1, 1, (.c (.i .i64 0))), (2, 1, (.c (.i .i64 8))), (3, 1, (.c (.i .i64 16))), (4, 1, (.c (.i .i64 32))), (5, 1, (.c (.i .i64 48))), (6, 1, (.c (.i .i64 56))), (7, 1, (.c (.i .i64 64)))])⟩,
  ⟨(some 4), none, (.val (.t 0))⟩,
  ⟨(some 5), none, (.ia 1 (.t 3) (.t 4))⟩,
  ⟨(some 6), none, (.ld none (.t 5))⟩,
  ⟨(some 2), none, (.val (.t 6))⟩]
theorem r16_1 {fn : AFun} {K : List AItem} {t : Nat → AV} {H : AH} {T : Tbl} : runR T fn (.code (.reg d16_1) :: K) t H = regR T fn K (aops (callR T) [
  ⟨(some 3), none, (.bsl [(.i .i64 0)] 8 [(0, 1, (.c (.i .i64 0))), (1, 1, (.c (.i .i64 0))), (2, 1, (.c (.i .i64 8))), (3, 1, (.c (.i .i64 16))), (4, 1, (.c (.i .i64 32))), (5, 1, (.c (.i .i64 48))), (6, 1, (.c (.i .i64 56))), (7, 1, (.c (.i .i64 64)))])⟩,
  ⟨(some 4), none, (.val (.t 0))⟩,
  ⟨(some 5), none, (.ia 1 (.t 3) (.t 4))⟩,
  ⟨(some 6), none, (.ld none (.t 5))⟩,
  ⟨(some 2), none, (.val (.t 6))⟩] t H) := runR_reg'
def a16 : AFun := ⟨7, [(.tmp 2)], (.seq (.reg d16_0) (.seq (.reg d16_1) .ret))⟩
theorem a16_ok : cfun Try.prog 16 = some a16 := by kernel_rfl
/-- futtock/futtockref20.cut -/
def d17_0 : List AOper := [
  ⟨(some 4), none, (.val (.c (.i .i64 0)))⟩]
theorem r17_0 {fn : AFun} {K : List AItem} {t : Nat → AV} {H : AH} {T : Tbl} : runR T fn (.code (.reg d17_0) :: K) t H = regR T fn K (aops (callR T) [
  ⟨(some 4), none, (.val (.c (.i .i64 0)))⟩] t H) := runR_reg'
def d17_1 : List AOper := [
  ⟨(some 5), none, (.val (.t 0))⟩,
  ⟨(some 6), none, (.mm true [(.t 5), (.c (.i .i64 0))])⟩,
  ⟨(some 7), none, (.val (.t 1))⟩,
  ⟨(some 8), none, (.mm false [(.t 6), (.t 7)])⟩,
  ⟨(some 4), none, (.val (.t 8))⟩]
theorem r17_1 {fn : AFun} {K : List AItem} {t : Nat → AV} {H : AH} {T : Tbl} : runR T fn (.code (.reg d17_1) :: K) t H = regR T fn K (aops (callR T) [
  ⟨(some 5), none, (.val (.t 0))⟩,
  ⟨(some 6), none, (.mm true [(.t 5), (.c (.i .i64 0))])⟩,
  ⟨(some 7), none, (.val (.t 1))⟩,
  ⟨(some 8), none, (.mm false [(.t 6), (.t 7)])⟩,
  ⟨(some 4), none, (.val (.t 8))⟩] t H) := runR_reg'
def a17 : AFun := ⟨9, [(.tmp 4)], (.seq (.reg d17_0) (.seq (.reg d17_1) .ret))⟩
theorem a17_ok : cfun Try.prog 17 = some a17 := by kernel_rfl
/-- All of them. -/
def tbl : Tbl
  | 3 => some a3
  | 4 => some a4
  | 5 => some a5
  | 6 => some a6
  | 7 => some a7
  | 8 => some a8
  | 9 => some a9
  | 10 => some a10
  | 11 => some a11
  | 12 => some a12
  | 13 => some a13
  | 14 => some a14
  | 15 => some a15
  | 16 => some a16
  | 17 => some a17
  | _ => none
/-- The heap behind a call of which the value alone is told. -/
noncomputable def hC (n : FuncId) (args : List AV) (H : AH) : AH := hAft (callR tbl n args H)
theorem hC_of {n : FuncId} {args : List AV} {H : AH} {v : AV} (h : ∃ H', callR tbl n args H = some (v, H')) : callR tbl n args H = some (v, hC n args H) := aft_of h
theorem tbl3 : tbl 3 = some a3 := rfl
theorem c3 {x0 x1 x2 : AV} {H : AH} : callR tbl 3 [x0, x1, x2] H = runR tbl a3 [.code a3.body] (ainit [x0, x1, x2]) H := callR_of tbl3 (Nat.le_of_ble_eq_true rfl)
theorem b3 : a3.body = (.seq (.reg d3_0) (.seq (.reg d3_1) (.seq (.reg d3_2) (.seq (.reg d3_3) .ret)))) := rfl
theorem s3 : a3.res = [(.tmp 6)] := rfl
theorem tbl4 : tbl 4 = some a4 := rfl
theorem c4 {x0 x1 : AV} {H : AH} : callR tbl 4 [x0, x1] H = runR tbl a4 [.code a4.body] (ainit [x0, x1]) H := callR_of tbl4 (Nat.le_of_ble_eq_true rfl)
theorem b4 : a4.body = (.seq (.reg d4_0) (.seq (.drw d4_1) (.seq (.reg d4_2) (.seq (.seq (.reg d4_3) (.cond (.t 29) (.seq (.reg d4_4) (.seq (.reg d4_5) (.cond (.t 56) (.seq (.reg d4_6) .ret) .skip))) .skip)) (.seq (.reg d4_7) (.seq (.reg d4_8) .ret)))))) := rfl
theorem s4 : a4.res = [(.tmp 4)] := rfl
theorem tbl5 : tbl 5 = some a5 := rfl
theorem c5 {x0 : AV} {H : AH} : callR tbl 5 [x0] H = runR tbl a5 [.code a5.body] (ainit [x0]) H := callR_of tbl5 (Nat.le_of_ble_eq_true rfl)
theorem b5 : a5.body = (.seq (.reg d5_0) (.seq (.drw d5_1) (.seq (.seq (.reg d5_2) (.cond (.t 28) (.seq (.reg d5_3) .ret) .skip)) (.seq (.seq (.reg d5_4) (.block 0 (.loop l5_10))) (.seq (.reg d5_11) .ret))))) := rfl
theorem s5 : a5.res = [(.tmp 2)] := rfl
theorem tbl6 : tbl 6 = some a6 := rfl
theorem c6 {x0 x1 : AV} {H : AH} : callR tbl 6 [x0, x1] H = runR tbl a6 [.code a6.body] (ainit [x0, x1]) H := callR_of tbl6 (Nat.le_of_ble_eq_true rfl)
theorem b6 : a6.body = (.seq (.reg d6_0) (.seq (.reg d6_1) (.seq (.reg d6_2) (.seq (.reg d6_3) (.seq (.seq (.reg d6_4) (.block 0 (.loop l6_12))) (.seq (.seq (.reg d6_13) (.block 2 (.loop l6_19))) (.seq (.reg d6_20) .ret))))))) := rfl
theorem s6 : a6.res = [(.tmp 4)] := rfl
theorem tbl7 : tbl 7 = some a7 := rfl
theorem c7 {x0 : AV} {H : AH} : callR tbl 7 [x0] H = runR tbl a7 [.code a7.body] (ainit [x0]) H := callR_of tbl7 (Nat.le_of_ble_eq_true rfl)
theorem b7 : a7.body = (.seq (.reg d7_0) (.seq (.seq (.reg d7_1) (.block 0 (.loop l7_8))) (.seq (.reg d7_9) .ret))) := rfl
theorem s7 : a7.res = [(.tmp 2), (.tmp 3), (.tmp 4)] := rfl
theorem tbl8 : tbl 8 = some a8 := rfl
theorem c8 {x0 : AV} {H : AH} : callR tbl 8 [x0] H = runR tbl a8 [.code a8.body] (ainit [x0]) H := callR_of tbl8 (Nat.le_of_ble_eq_true rfl)
theorem b8 : a8.body = (.seq (.reg d8_0) (.seq (.seq (.reg d8_1) (.block 0 (.loop l8_14))) (.seq (.reg d8_15) .ret))) := rfl
theorem s8 : a8.res = [(.tmp 2), (.tmp 3), (.tmp 4)] := rfl
theorem tbl9 : tbl 9 = some a9 := rfl
theorem c9 {x0 x1 x2 : AV} {H : AH} : callR tbl 9 [x0, x1, x2] H = runR tbl a9 [.code a9.body] (ainit [x0, x1, x2]) H := callR_of tbl9 (Nat.le_of_ble_eq_true rfl)
theorem b9 : a9.body = (.seq (.reg d9_0) (.seq (.seq (.reg d9_1) (.cond (.t 14) (.seq (.reg d9_2) .ret) .skip)) (.seq (.reg d9_3) (.seq (.reg d9_4) (.seq (.seq (.reg d9_5) (.cond (.t 21) (.reg d9_6) .skip)) (.seq (.seq (.reg d9_7) (.cond (.t 39) (.seq (.reg d9_8) .ret) .skip)) (.seq (.reg d9_9) .ret))))))) := rfl
theorem s9 : a9.res = [(.tmp 6)] := rfl
theorem tbl10 : tbl 10 = some a10 := rfl
theorem c10 {x0 x1 x2 : AV} {H : AH} : callR tbl 10 [x0, x1, x2] H = runR tbl a10 [.code a10.body] (ainit [x0, x1, x2]) H := callR_of tbl10 (Nat.le_of_ble_eq_true rfl)
theorem b10 : a10.body = (.seq (.reg d10_0) (.seq (.seq (.reg d10_1) (.cond (.t 22) (.seq (.reg d10_2) .ret) .skip)) (.seq (.seq (.reg d10_3) (.cond (.t 24) (.seq (.reg d10_4) .ret) .skip)) (.seq (.seq (.reg d10_5) (.cond (.t 34) (.seq (.reg d10_6) .ret) .skip)) (.seq (.reg d10_7) .ret))))) := rfl
theorem s10 : a10.res = [(.tmp 6)] := rfl
theorem tbl11 : tbl 11 = some a11 := rfl
theorem c11 {H : AH} : callR tbl 11 [] H = runR tbl a11 [.code a11.body] (ainit []) H := callR_of tbl11 (Nat.le_of_ble_eq_true rfl)
theorem b11 : a11.body = (.seq (.reg d11_0) (.seq (.reg d11_1) (.seq (.reg d11_2) .ret))) := rfl
theorem s11 : a11.res = [(.tmp 0)] := rfl
theorem tbl12 : tbl 12 = some a12 := rfl
theorem c12 {x0 x1 x2 x3 : AV} {H : AH} : callR tbl 12 [x0, x1, x2, x3] H = runR tbl a12 [.code a12.body] (ainit [x0, x1, x2, x3]) H := callR_of tbl12 (Nat.le_of_ble_eq_true rfl)
theorem b12 : a12.body = (.seq (.reg d12_0) (.seq (.reg d12_1) (.seq (.reg d12_2) (.seq (.seq (.reg d12_3) (.block 0 (.loop l12_10))) (.seq (.reg d12_11) .ret))))) := rfl
theorem s12 : a12.res = [(.tmp 8)] := rfl
theorem tbl13 : tbl 13 = some a13 := rfl
theorem c13 {x0 x1 x2 x3 : AV} {H : AH} : callR tbl 13 [x0, x1, x2, x3] H = runR tbl a13 [.code a13.body] (ainit [x0, x1, x2, x3]) H := callR_of tbl13 (Nat.le_of_ble_eq_true rfl)
theorem b13 : a13.body = (.seq (.reg d13_0) (.seq (.reg d13_1) (.seq (.reg d13_2) (.seq (.seq (.reg d13_3) (.block 0 (.loop l13_10))) (.seq (.reg d13_11) .ret))))) := rfl
theorem s13 : a13.res = [(.tmp 8)] := rfl
theorem tbl14 : tbl 14 = some a14 := rfl
theorem c14 {H : AH} : callR tbl 14 [] H = runR tbl a14 [.code a14.body] (ainit []) H := callR_of tbl14 (Nat.le_of_ble_eq_true rfl)
theorem b14 : a14.body = (.seq (.reg d14_0) (.seq (.reg d14_1) .ret)) := rfl
theorem s14 : a14.res = [(.cell 0 (some 24))] := rfl
theorem tbl15 : tbl 15 = some a15 := rfl
theorem c15 {x0 : AV} {H : AH} : callR tbl 15 [x0] H = runR tbl a15 [.code a15.body] (ainit [x0]) H := callR_of tbl15 (Nat.le_of_ble_eq_true rfl)
theorem b15 : a15.body = (.seq (.reg d15_0) (.seq (.reg d15_1) .ret)) := rfl
theorem s15 : a15.res = [(.tmp 2)] := rfl
theorem tbl16 : tbl 16 = some a16 := rfl
theorem c16 {x0 : AV} {H : AH} : callR tbl 16 [x0] H = runR tbl a16 [.code a16.body] (ainit [x0]) H := callR_of tbl16 (Nat.le_of_ble_eq_true rfl)
theorem b16 : a16.body = (.seq (.reg d16_0) (.seq (.reg d16_1) .ret)) := rfl
theorem s16 : a16.res = [(.tmp 2)] := rfl
theorem tbl17 : tbl 17 = some a17 := rfl
theorem c17 {x0 x1 : AV} {H : AH} : callR tbl 17 [x0, x1] H = runR tbl a17 [.code a17.body] (ainit [x0, x1]) H := callR_of tbl17 (Nat.le_of_ble_eq_true rfl)
theorem b17 : a17.body = (.seq (.reg d17_0) (.seq (.reg d17_1) .ret)) := rfl
theorem s17 : a17.res = [(.tmp 4)] := rfl
theorem tbl_ok : ∀ f a, tbl f = some a → cfun Try.prog f = some a := by
  intro f a h
  unfold tbl at h
  split at h
  · cases h; exact a3_ok
  · cases h; exact a4_ok
  · cases h; exact a5_ok
  · cases h; exact a6_ok
  · cases h; exact a7_ok
  · cases h; exact a8_ok
  · cases h; exact a9_ok
  · cases h; exact a10_ok
  · cases h; exact a11_ok
  · cases h; exact a12_ok
  · cases h; exact a13_ok
  · cases h; exact a14_ok
  · cases h; exact a15_ok
  · cases h; exact a16_ok
  · cases h; exact a17_ok
  · cases h
end Go.Proofs.Ytfbfpiibmgofeaa.Abs
