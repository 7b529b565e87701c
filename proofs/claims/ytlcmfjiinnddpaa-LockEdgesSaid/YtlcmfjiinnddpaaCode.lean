/- The functions that the laws of this seat reach, in the plain machine's form, and that they are the loaded ones. Printed by a program of this seat's own (gencode.py). No condition of its own. -/
import Derived.Test.YtlcmfjiinnddpaaProg
import Derived.Test.YtlcmfjiinnddpaaAbs3
import Derived.Test.YtlcmfjiinnddpaaEval
import Derived.KernelRfl
namespace Go.Proofs.Ytlcmfjiinnddpaa.Abs
set_option linter.unusedVariables false
set_option maxRecDepth 100000
/-- futtock/futtocklaw04.LockMakes -/
def r3_0 : List AOper := [
  ⟨(some 6), none, (.val (.c (.b false)))⟩]
def r3_1 : List AOper := [
  ⟨(some 13), none, (.val (.t 0))⟩,
  ⟨(some 14), none, (.val (.t 1))⟩,
  ⟨(some 15), none, (.call 7 [(.t 13), (.t 14)])⟩,
  ⟨(some 12), none, (.val (.t 15))⟩,
  ⟨(some 16), none, (.ext (.t 12) 0)⟩,
  ⟨(some 17), none, (.ext (.t 12) 1)⟩,
  ⟨(some 7), none, (.val (.t 16))⟩,
  ⟨(some 8), none, (.val (.t 17))⟩]
def r3_2 : List AOper := [
  ⟨(some 19), none, (.val (.t 0))⟩,
  ⟨(some 20), none, (.val (.t 1))⟩,
  ⟨(some 21), none, (.call 8 [(.t 19), (.t 20)])⟩,
  ⟨(some 18), none, (.val (.t 21))⟩,
  ⟨(some 22), none, (.ext (.t 18) 0)⟩,
  ⟨(some 23), none, (.ext (.t 18) 1)⟩,
  ⟨(some 9), none, (.val (.t 22))⟩,
  ⟨(some 10), none, (.val (.t 23))⟩]
def r3_3 : List AOper := [
  ⟨(some 24), none, (.val (.t 2))⟩,
  ⟨(some 25), none, (.call 9 [(.t 24)])⟩,
  ⟨(some 11), none, (.alloc [(.i .i64 0), (.i .i64 0), (.b false)])⟩,
  ⟨none, none, (.st 3 (.t 11) (.t 25))⟩]
def r3_4 : List (AOper × List Nat) := [
  (⟨(some 26), none, (.val (.t 7))⟩, []),
  (⟨(some 27), none, (.val (.t 9))⟩, []),
  (⟨(some 28), none, (.bin .eql (.t 26) (.t 27))⟩, []),
  (⟨(some 29), none, (.val (.t 28))⟩, []),
  (⟨(some 30), (some (29, true)), (.val (.t 8))⟩, []),
  (⟨(some 31), (some (29, true)), (.val (.t 10))⟩, []),
  (⟨(some 32), (some (29, true)), (.eqb false (.t 30) (.t 31))⟩, []),
  (⟨(some 33), none, (.pick (.t 29) (.t 32) (.c (.b false)))⟩, []),
  (⟨(some 34), none, (.val (.t 33))⟩, []),
  (⟨(some 35), (some (34, true)), (.val (.t 2))⟩, []),
  (⟨(some 36), (some (34, true)), (.call 10 [(.t 35)])⟩, []),
  (⟨(some 37), (some (34, true)), (.fa 0 (.t 11))⟩, []),
  (⟨(some 38), (some (34, true)), (.ld none (.t 37))⟩, [2]),
  (⟨(some 39), (some (34, true)), (.bin .eql (.t 36) (.t 38))⟩, []),
  (⟨(some 40), none, (.pick (.t 34) (.t 39) (.c (.b false)))⟩, []),
  (⟨(some 41), none, (.val (.t 40))⟩, []),
  (⟨(some 42), (some (41, true)), (.val (.t 2))⟩, []),
  (⟨(some 43), (some (41, true)), (.call 11 [(.t 42)])⟩, []),
  (⟨(some 44), (some (41, true)), (.fa 1 (.t 11))⟩, []),
  (⟨(some 45), (some (41, true)), (.ld none (.t 44))⟩, [2]),
  (⟨(some 46), (some (41, true)), (.bin .eql (.t 43) (.t 45))⟩, []),
  (⟨(some 47), none, (.pick (.t 41) (.t 46) (.c (.b false)))⟩, []),
  (⟨(some 48), none, (.val (.t 47))⟩, []),
  (⟨(some 49), (some (48, true)), (.val (.t 2))⟩, []),
  (⟨(some 50), (some (48, true)), (.call 12 [(.t 49)])⟩, []),
  (⟨(some 51), (some (48, true)), (.fa 2 (.t 11))⟩, []),
  (⟨(some 52), (some (48, true)), (.ld none (.t 51))⟩, [2]),
  (⟨(some 53), (some (48, true)), (.un .not (.t 52))⟩, []),
  (⟨(some 54), (some (48, true)), (.val (.t 53))⟩, []),
  (⟨(some 55), (some (54, true)), (.fa 0 (.t 11))⟩, []),
  (⟨(some 56), (some (54, true)), (.ld none (.t 55))⟩, [1]),
  (⟨(some 57), (some (54, true)), (.bin .eql (.t 56) (.c (.i .i64 (-1))))⟩, []),
  (⟨(some 58), (some (48, true)), (.pick (.t 54) (.t 57) (.c (.b false)))⟩, []),
  (⟨(some 59), (some (48, true)), (.eqb false (.t 50) (.t 58))⟩, []),
  (⟨(some 60), none, (.pick (.t 48) (.t 59) (.c (.b false)))⟩, []),
  (⟨(some 61), none, (.val (.t 60))⟩, []),
  (⟨(some 62), (some (61, true)), (.call 13 [])⟩, []),
  (⟨(some 63), none, (.pick (.t 61) (.t 62) (.c (.b false)))⟩, []),
  (⟨(some 6), none, (.val (.t 63))⟩, [])]
def a3 : AFun := ⟨64, [(.tmp 6)], (.seq (.reg r3_0) (.seq (.reg r3_1) (.seq (.reg r3_2) (.seq (.reg r3_3) (.seq (.drw r3_4) .ret)))))⟩
theorem a3_ok : cfun Try.prog 3 = some a3 := by kernel_rfl
/-- futtock/futtocklaw04.LockParts -/
def r4_0 : List AOper := [
  ⟨(some 2), none, (.val (.c (.b false)))⟩]
def r4_1 : List AOper := [
  ⟨(some 6), none, (.val (.t 0))⟩,
  ⟨(some 7), none, (.call 10 [(.t 6)])⟩,
  ⟨(some 8), none, (.val (.t 0))⟩,
  ⟨(some 9), none, (.call 11 [(.t 8)])⟩,
  ⟨(some 10), none, (.call 7 [(.t 7), (.t 9)])⟩,
  ⟨(some 5), none, (.val (.t 10))⟩,
  ⟨(some 11), none, (.ext (.t 5) 0)⟩,
  ⟨(some 12), none, (.ext (.t 5) 1)⟩,
  ⟨(some 3), none, (.val (.t 11))⟩,
  ⟨(some 4), none, (.val (.t 12))⟩]
def r4_2 : List AOper := [
  ⟨(some 13), none, (.val (.t 0))⟩,
  ⟨(some 14), none, (.bin .geq (.t 13) (.c (.i .u64 4294967296)))⟩]
def r4_3 : List AOper := [
  ⟨(some 15), none, (.val (.t 4))⟩,
  ⟨(some 16), none, (.val (.t 15))⟩,
  ⟨(some 17), (some (16, true)), (.val (.t 3))⟩,
  ⟨(some 18), (some (16, true)), (.bin .eql (.t 17) (.c (.i .u64 0)))⟩,
  ⟨(some 19), none, (.pick (.t 16) (.t 18) (.c (.b false)))⟩,
  ⟨(some 20), none, (.val (.t 19))⟩,
  ⟨(some 21), (some (20, true)), (.val (.t 0))⟩,
  ⟨(some 22), (some (20, true)), (.call 12 [(.t 21)])⟩,
  ⟨(some 23), (some (20, true)), (.un .not (.t 22))⟩,
  ⟨(some 24), none, (.pick (.t 20) (.t 23) (.c (.b false)))⟩,
  ⟨(some 25), none, (.val (.t 24))⟩,
  ⟨(some 26), (some (25, true)), (.call 13 [])⟩,
  ⟨(some 27), none, (.pick (.t 25) (.t 26) (.c (.b false)))⟩,
  ⟨(some 2), none, (.val (.t 27))⟩]
def r4_4 : List AOper := [
  ⟨(some 28), none, (.val (.t 4))⟩,
  ⟨(some 29), none, (.val (.t 28))⟩,
  ⟨(some 30), (some (29, true)), (.val (.t 3))⟩,
  ⟨(some 31), (some (29, true)), (.val (.t 0))⟩,
  ⟨(some 32), (some (29, true)), (.bin .eql (.t 30) (.t 31))⟩,
  ⟨(some 33), none, (.pick (.t 29) (.t 32) (.c (.b false)))⟩,
  ⟨(some 34), none, (.val (.t 33))⟩,
  ⟨(some 35), (some (34, true)), (.call 13 [])⟩,
  ⟨(some 36), none, (.pick (.t 34) (.t 35) (.c (.b false)))⟩,
  ⟨(some 2), none, (.val (.t 36))⟩]
def a4 : AFun := ⟨37, [(.tmp 2)], (.seq (.reg r4_0) (.seq (.reg r4_1) (.seq (.seq (.reg r4_2) (.cond (.t 14) (.seq (.reg r4_3) .ret) .skip)) (.seq (.reg r4_4) .ret))))⟩
theorem a4_ok : cfun Try.prog 4 = some a4 := by kernel_rfl
/-- futtock/futtocklaw04.LockTurns -/
def r5_0 : List AOper := [
  ⟨(some 6), none, (.val (.c (.b false)))⟩]
def r5_1 : List AOper := [
  ⟨(some 16), none, (.val (.t 0))⟩,
  ⟨(some 17), none, (.val (.t 1))⟩,
  ⟨(some 18), none, (.call 14 [(.t 16), (.t 17)])⟩,
  ⟨(some 15), none, (.val (.t 18))⟩,
  ⟨(some 19), none, (.ext (.t 15) 0)⟩,
  ⟨(some 20), none, (.ext (.t 15) 1)⟩,
  ⟨(some 7), none, (.val (.t 19))⟩,
  ⟨(some 8), none, (.val (.t 20))⟩]
def r5_2 : List AOper := [
  ⟨(some 22), none, (.val (.t 0))⟩,
  ⟨(some 23), none, (.val (.t 1))⟩,
  ⟨(some 24), none, (.call 15 [(.t 22), (.t 23)])⟩,
  ⟨(some 21), none, (.val (.t 24))⟩,
  ⟨(some 25), none, (.ext (.t 21) 0)⟩,
  ⟨(some 26), none, (.ext (.t 21) 1)⟩,
  ⟨(some 9), none, (.val (.t 25))⟩,
  ⟨(some 10), none, (.val (.t 26))⟩]
def r5_3 : List AOper := [
  ⟨(some 28), none, (.val (.t 0))⟩,
  ⟨(some 29), none, (.val (.t 1))⟩,
  ⟨(some 30), none, (.call 16 [(.t 28), (.t 29)])⟩,
  ⟨(some 27), none, (.val (.t 30))⟩,
  ⟨(some 31), none, (.ext (.t 27) 0)⟩,
  ⟨(some 32), none, (.ext (.t 27) 1)⟩,
  ⟨(some 11), none, (.val (.t 31))⟩,
  ⟨(some 12), none, (.val (.t 32))⟩]
def r5_4 : List AOper := [
  ⟨(some 34), none, (.val (.t 0))⟩,
  ⟨(some 35), none, (.val (.t 1))⟩,
  ⟨(some 36), none, (.call 17 [(.t 34), (.t 35)])⟩,
  ⟨(some 33), none, (.val (.t 36))⟩,
  ⟨(some 37), none, (.ext (.t 33) 0)⟩,
  ⟨(some 38), none, (.ext (.t 33) 1)⟩,
  ⟨(some 13), none, (.val (.t 37))⟩,
  ⟨(some 14), none, (.val (.t 38))⟩]
def r5_5 : List AOper := [
  ⟨(some 39), none, (.val (.t 7))⟩,
  ⟨(some 40), none, (.val (.t 9))⟩,
  ⟨(some 41), none, (.bin .neq (.t 39) (.t 40))⟩,
  ⟨(some 42), none, (.val (.t 41))⟩,
  ⟨(some 43), (some (42, false)), (.val (.t 8))⟩,
  ⟨(some 44), (some (42, false)), (.val (.t 10))⟩,
  ⟨(some 45), (some (42, false)), (.eqb true (.t 43) (.t 44))⟩,
  ⟨(some 46), none, (.pick (.t 42) (.c (.b true)) (.t 45))⟩,
  ⟨(some 47), none, (.val (.t 46))⟩,
  ⟨(some 48), (some (47, false)), (.val (.t 11))⟩,
  ⟨(some 49), (some (47, false)), (.val (.t 13))⟩,
  ⟨(some 50), (some (47, false)), (.bin .neq (.t 48) (.t 49))⟩,
  ⟨(some 51), none, (.pick (.t 47) (.c (.b true)) (.t 50))⟩,
  ⟨(some 52), none, (.val (.t 51))⟩,
  ⟨(some 53), (some (52, false)), (.val (.t 12))⟩,
  ⟨(some 54), (some (52, false)), (.val (.t 14))⟩,
  ⟨(some 55), (some (52, false)), (.eqb true (.t 53) (.t 54))⟩,
  ⟨(some 56), none, (.pick (.t 52) (.c (.b true)) (.t 55))⟩]
def r5_6 : List AOper := [
  ⟨(some 6), none, (.val (.c (.b false)))⟩]
def r5_7 : List AOper := [
  ⟨(some 58), none, (.val (.t 0))⟩,
  ⟨(some 59), none, (.val (.t 1))⟩,
  ⟨(some 60), none, (.call 18 [(.t 58), (.t 59)])⟩,
  ⟨(some 57), none, (.val (.t 60))⟩,
  ⟨(some 61), none, (.ext (.t 57) 0)⟩,
  ⟨(some 62), none, (.ext (.t 57) 1)⟩,
  ⟨(some 7), none, (.val (.t 61))⟩,
  ⟨(some 8), none, (.val (.t 62))⟩]
def r5_8 : List AOper := [
  ⟨(some 64), none, (.val (.t 0))⟩,
  ⟨(some 65), none, (.val (.t 1))⟩,
  ⟨(some 66), none, (.call 19 [(.t 64), (.t 65)])⟩,
  ⟨(some 63), none, (.val (.t 66))⟩,
  ⟨(some 67), none, (.ext (.t 63) 0)⟩,
  ⟨(some 68), none, (.ext (.t 63) 1)⟩,
  ⟨(some 9), none, (.val (.t 67))⟩,
  ⟨(some 10), none, (.val (.t 68))⟩]
def r5_9 : List AOper := [
  ⟨(some 70), none, (.val (.t 0))⟩,
  ⟨(some 71), none, (.val (.t 1))⟩,
  ⟨(some 72), none, (.val (.t 2))⟩,
  ⟨(some 73), none, (.call 20 [(.t 70), (.t 71), (.t 72)])⟩,
  ⟨(some 69), none, (.val (.t 73))⟩,
  ⟨(some 74), none, (.ext (.t 69) 0)⟩,
  ⟨(some 75), none, (.ext (.t 69) 1)⟩,
  ⟨(some 11), none, (.val (.t 74))⟩,
  ⟨(some 12), none, (.val (.t 75))⟩]
def r5_10 : List AOper := [
  ⟨(some 77), none, (.val (.t 0))⟩,
  ⟨(some 78), none, (.val (.t 1))⟩,
  ⟨(some 79), none, (.val (.t 2))⟩,
  ⟨(some 80), none, (.call 21 [(.t 77), (.t 78), (.t 79)])⟩,
  ⟨(some 76), none, (.val (.t 80))⟩,
  ⟨(some 81), none, (.ext (.t 76) 0)⟩,
  ⟨(some 82), none, (.ext (.t 76) 1)⟩,
  ⟨(some 13), none, (.val (.t 81))⟩,
  ⟨(some 14), none, (.val (.t 82))⟩]
def r5_11 : List AOper := [
  ⟨(some 83), none, (.val (.t 7))⟩,
  ⟨(some 84), none, (.val (.t 9))⟩,
  ⟨(some 85), none, (.bin .neq (.t 83) (.t 84))⟩,
  ⟨(some 86), none, (.val (.t 85))⟩,
  ⟨(some 87), (some (86, false)), (.val (.t 8))⟩,
  ⟨(some 88), (some (86, false)), (.val (.t 10))⟩,
  ⟨(some 89), (some (86, false)), (.eqb true (.t 87) (.t 88))⟩,
  ⟨(some 90), none, (.pick (.t 86) (.c (.b true)) (.t 89))⟩,
  ⟨(some 91), none, (.val (.t 90))⟩,
  ⟨(some 92), (some (91, false)), (.val (.t 11))⟩,
  ⟨(some 93), (some (91, false)), (.val (.t 13))⟩,
  ⟨(some 94), (some (91, false)), (.bin .neq (.t 92) (.t 93))⟩,
  ⟨(some 95), none, (.pick (.t 91) (.c (.b true)) (.t 94))⟩,
  ⟨(some 96), none, (.val (.t 95))⟩,
  ⟨(some 97), (some (96, false)), (.val (.t 12))⟩,
  ⟨(some 98), (some (96, false)), (.val (.t 14))⟩,
  ⟨(some 99), (some (96, false)), (.eqb true (.t 97) (.t 98))⟩,
  ⟨(some 100), none, (.pick (.t 96) (.c (.b true)) (.t 99))⟩]
def r5_12 : List AOper := [
  ⟨(some 6), none, (.val (.c (.b false)))⟩]
def r5_13 : List AOper := [
  ⟨(some 102), none, (.val (.t 0))⟩,
  ⟨(some 103), none, (.val (.t 1))⟩,
  ⟨(some 104), none, (.call 22 [(.t 102), (.t 103)])⟩,
  ⟨(some 101), none, (.val (.t 104))⟩,
  ⟨(some 105), none, (.ext (.t 101) 0)⟩,
  ⟨(some 106), none, (.ext (.t 101) 1)⟩,
  ⟨(some 7), none, (.val (.t 105))⟩,
  ⟨(some 8), none, (.val (.t 106))⟩]
def r5_14 : List AOper := [
  ⟨(some 108), none, (.val (.t 0))⟩,
  ⟨(some 109), none, (.val (.t 1))⟩,
  ⟨(some 110), none, (.call 23 [(.t 108), (.t 109)])⟩,
  ⟨(some 107), none, (.val (.t 110))⟩,
  ⟨(some 111), none, (.ext (.t 107) 0)⟩,
  ⟨(some 112), none, (.ext (.t 107) 1)⟩,
  ⟨(some 9), none, (.val (.t 111))⟩,
  ⟨(some 10), none, (.val (.t 112))⟩]
def r5_15 : List AOper := [
  ⟨(some 113), none, (.val (.t 7))⟩,
  ⟨(some 114), none, (.val (.t 9))⟩,
  ⟨(some 115), none, (.bin .eql (.t 113) (.t 114))⟩,
  ⟨(some 116), none, (.val (.t 115))⟩,
  ⟨(some 117), (some (116, true)), (.val (.t 8))⟩,
  ⟨(some 118), (some (116, true)), (.val (.t 10))⟩,
  ⟨(some 119), (some (116, true)), (.eqb false (.t 117) (.t 118))⟩,
  ⟨(some 120), none, (.pick (.t 116) (.t 119) (.c (.b false)))⟩,
  ⟨(some 121), none, (.val (.t 120))⟩,
  ⟨(some 122), (some (121, true)), (.call 13 [])⟩,
  ⟨(some 123), none, (.pick (.t 121) (.t 122) (.c (.b false)))⟩,
  ⟨(some 6), none, (.val (.t 123))⟩]
def a5 : AFun := ⟨124, [(.tmp 6)], (.seq (.reg r5_0) (.seq (.reg r5_1) (.seq (.reg r5_2) (.seq (.reg r5_3) (.seq (.reg r5_4) (.seq (.seq (.reg r5_5) (.cond (.t 56) (.seq (.reg r5_6) .ret) .skip)) (.seq (.reg r5_7) (.seq (.reg r5_8) (.seq (.reg r5_9) (.seq (.reg r5_10) (.seq (.seq (.reg r5_11) (.cond (.t 100) (.seq (.reg r5_12) .ret) .skip)) (.seq (.reg r5_13) (.seq (.reg r5_14) (.seq (.reg r5_15) .ret))))))))))))))⟩
theorem a5_ok : cfun Try.prog 5 = some a5 := by kernel_rfl
/-- futtock/futtocklaw04.LockEdges -/
def r6_0 : List AOper := [
  ⟨(some 6), none, (.val (.c (.b false)))⟩]
def r6_1 : List AOper := [
  ⟨(some 18), none, (.val (.t 0))⟩,
  ⟨(some 19), none, (.val (.t 1))⟩,
  ⟨(some 20), none, (.call 14 [(.t 18), (.t 19)])⟩,
  ⟨(some 17), none, (.val (.t 20))⟩,
  ⟨(some 21), none, (.ext (.t 17) 0)⟩,
  ⟨(some 22), none, (.ext (.t 17) 1)⟩,
  ⟨(some 7), none, (.val (.t 21))⟩,
  ⟨(some 8), none, (.val (.t 22))⟩]
def r6_2 : List AOper := [
  ⟨(some 23), none, (.val (.t 8))⟩,
  ⟨(some 24), none, (.val (.t 23))⟩,
  ⟨(some 25), (some (24, true)), (.val (.t 7))⟩,
  ⟨(some 26), (some (24, true)), (.call 10 [(.t 25)])⟩,
  ⟨(some 27), (some (24, true)), (.val (.t 1))⟩,
  ⟨(some 28), (some (24, true)), (.bin .neq (.t 26) (.t 27))⟩,
  ⟨(some 29), (some (24, true)), (.val (.t 28))⟩,
  ⟨(some 30), (some (29, false)), (.val (.t 7))⟩,
  ⟨(some 31), (some (29, false)), (.call 11 [(.t 30)])⟩,
  ⟨(some 32), (some (29, false)), (.val (.t 0))⟩,
  ⟨(some 33), (some (29, false)), (.call 11 [(.t 32)])⟩,
  ⟨(some 34), (some (29, false)), (.bin .neq (.t 31) (.t 33))⟩,
  ⟨(some 35), (some (24, true)), (.pick (.t 29) (.c (.b true)) (.t 34))⟩,
  ⟨(some 36), (some (24, true)), (.val (.t 35))⟩,
  ⟨(some 37), (some (36, false)), (.val (.t 0))⟩,
  ⟨(some 38), (some (36, false)), (.call 12 [(.t 37)])⟩,
  ⟨(some 39), (some (36, false)), (.un .not (.t 38))⟩,
  ⟨(some 40), (some (24, true)), (.pick (.t 36) (.c (.b true)) (.t 39))⟩,
  ⟨(some 41), none, (.pick (.t 24) (.t 40) (.c (.b false)))⟩]
def r6_3 : List AOper := [
  ⟨(some 6), none, (.val (.c (.b false)))⟩]
def r6_4 : List AOper := [
  ⟨(some 43), none, (.val (.t 0))⟩,
  ⟨(some 44), none, (.val (.t 1))⟩,
  ⟨(some 45), none, (.call 16 [(.t 43), (.t 44)])⟩,
  ⟨(some 42), none, (.val (.t 45))⟩,
  ⟨(some 46), none, (.ext (.t 42) 0)⟩,
  ⟨(some 47), none, (.ext (.t 42) 1)⟩,
  ⟨(some 9), none, (.val (.t 46))⟩,
  ⟨(some 10), none, (.val (.t 47))⟩]
def r6_5 : List AOper := [
  ⟨(some 48), none, (.val (.t 10))⟩,
  ⟨(some 49), none, (.val (.t 48))⟩,
  ⟨(some 50), (some (49, true)), (.val (.t 9))⟩,
  ⟨(some 51), (some (49, true)), (.call 10 [(.t 50)])⟩,
  ⟨(some 52), (some (49, true)), (.val (.t 0))⟩,
  ⟨(some 53), (some (49, true)), (.call 10 [(.t 52)])⟩,
  ⟨(some 54), (some (49, true)), (.bin .neq (.t 51) (.t 53))⟩,
  ⟨(some 55), (some (49, true)), (.val (.t 54))⟩,
  ⟨(some 56), (some (55, false)), (.val (.t 9))⟩,
  ⟨(some 57), (some (55, false)), (.call 11 [(.t 56)])⟩,
  ⟨(some 58), (some (55, false)), (.val (.t 1))⟩,
  ⟨(some 59), (some (55, false)), (.bin .neq (.t 57) (.t 58))⟩,
  ⟨(some 60), (some (49, true)), (.pick (.t 55) (.c (.b true)) (.t 59))⟩,
  ⟨(some 61), (some (49, true)), (.val (.t 60))⟩,
  ⟨(some 62), (some (61, false)), (.val (.t 0))⟩,
  ⟨(some 63), (some (61, false)), (.call 12 [(.t 62)])⟩,
  ⟨(some 64), (some (49, true)), (.pick (.t 61) (.c (.b true)) (.t 63))⟩,
  ⟨(some 65), none, (.pick (.t 49) (.t 64) (.c (.b false)))⟩]
def r6_6 : List AOper := [
  ⟨(some 6), none, (.val (.c (.b false)))⟩]
def r6_7 : List AOper := [
  ⟨(some 67), none, (.val (.t 0))⟩,
  ⟨(some 68), none, (.val (.t 1))⟩,
  ⟨(some 69), none, (.call 18 [(.t 67), (.t 68)])⟩,
  ⟨(some 66), none, (.val (.t 69))⟩,
  ⟨(some 70), none, (.ext (.t 66) 0)⟩,
  ⟨(some 71), none, (.ext (.t 66) 1)⟩,
  ⟨(some 11), none, (.val (.t 70))⟩,
  ⟨(some 12), none, (.val (.t 71))⟩]
def r6_8 : List AOper := [
  ⟨(some 72), none, (.val (.t 12))⟩,
  ⟨(some 73), none, (.val (.t 72))⟩,
  ⟨(some 74), (some (73, true)), (.val (.t 11))⟩,
  ⟨(some 75), (some (73, true)), (.call 10 [(.t 74)])⟩,
  ⟨(some 76), (some (73, true)), (.val (.t 1))⟩,
  ⟨(some 77), (some (73, true)), (.bin .neq (.t 75) (.t 76))⟩,
  ⟨(some 78), (some (73, true)), (.val (.t 77))⟩,
  ⟨(some 79), (some (78, false)), (.val (.t 0))⟩,
  ⟨(some 80), (some (78, false)), (.call 10 [(.t 79)])⟩,
  ⟨(some 81), (some (78, false)), (.val (.t 1))⟩,
  ⟨(some 82), (some (78, false)), (.bin .neq (.t 80) (.t 81))⟩,
  ⟨(some 83), (some (73, true)), (.pick (.t 78) (.c (.b true)) (.t 82))⟩,
  ⟨(some 84), (some (73, true)), (.val (.t 83))⟩,
  ⟨(some 85), (some (84, false)), (.val (.t 11))⟩,
  ⟨(some 86), (some (84, false)), (.call 11 [(.t 85)])⟩,
  ⟨(some 87), (some (84, false)), (.bin .neq (.t 86) (.c (.i .i64 (-1))))⟩,
  ⟨(some 88), (some (73, true)), (.pick (.t 84) (.c (.b true)) (.t 87))⟩,
  ⟨(some 89), none, (.pick (.t 73) (.t 88) (.c (.b false)))⟩]
def r6_9 : List AOper := [
  ⟨(some 6), none, (.val (.c (.b false)))⟩]
def r6_10 : List AOper := [
  ⟨(some 91), none, (.val (.t 0))⟩,
  ⟨(some 92), none, (.val (.t 1))⟩,
  ⟨(some 93), none, (.val (.t 2))⟩,
  ⟨(some 94), none, (.call 20 [(.t 91), (.t 92), (.t 93)])⟩,
  ⟨(some 90), none, (.val (.t 94))⟩,
  ⟨(some 95), none, (.ext (.t 90) 0)⟩,
  ⟨(some 96), none, (.ext (.t 90) 1)⟩,
  ⟨(some 13), none, (.val (.t 95))⟩,
  ⟨(some 14), none, (.val (.t 96))⟩]
def r6_11 : List AOper := [
  ⟨(some 97), none, (.val (.t 14))⟩,
  ⟨(some 98), none, (.val (.t 97))⟩,
  ⟨(some 99), (some (98, true)), (.val (.t 13))⟩,
  ⟨(some 100), (some (98, true)), (.call 10 [(.t 99)])⟩,
  ⟨(some 101), (some (98, true)), (.val (.t 2))⟩,
  ⟨(some 102), (some (98, true)), (.bin .neq (.t 100) (.t 101))⟩,
  ⟨(some 103), (some (98, true)), (.val (.t 102))⟩,
  ⟨(some 104), (some (103, false)), (.val (.t 0))⟩,
  ⟨(some 105), (some (103, false)), (.call 10 [(.t 104)])⟩,
  ⟨(some 106), (some (103, false)), (.val (.t 1))⟩,
  ⟨(some 107), (some (103, false)), (.bin .neq (.t 105) (.t 106))⟩,
  ⟨(some 108), (some (98, true)), (.pick (.t 103) (.c (.b true)) (.t 107))⟩,
  ⟨(some 109), (some (98, true)), (.val (.t 108))⟩,
  ⟨(some 110), (some (109, false)), (.val (.t 13))⟩,
  ⟨(some 111), (some (109, false)), (.call 11 [(.t 110)])⟩,
  ⟨(some 112), (some (109, false)), (.val (.t 0))⟩,
  ⟨(some 113), (some (109, false)), (.call 11 [(.t 112)])⟩,
  ⟨(some 114), (some (109, false)), (.bin .neq (.t 111) (.t 113))⟩,
  ⟨(some 115), (some (98, true)), (.pick (.t 109) (.c (.b true)) (.t 114))⟩,
  ⟨(some 116), none, (.pick (.t 98) (.t 115) (.c (.b false)))⟩]
def r6_12 : List AOper := [
  ⟨(some 6), none, (.val (.c (.b false)))⟩]
def r6_13 : List AOper := [
  ⟨(some 118), none, (.val (.t 0))⟩,
  ⟨(some 119), none, (.val (.t 1))⟩,
  ⟨(some 120), none, (.call 22 [(.t 118), (.t 119)])⟩,
  ⟨(some 117), none, (.val (.t 120))⟩,
  ⟨(some 121), none, (.ext (.t 117) 0)⟩,
  ⟨(some 122), none, (.ext (.t 117) 1)⟩,
  ⟨(some 15), none, (.val (.t 121))⟩,
  ⟨(some 16), none, (.val (.t 122))⟩]
def r6_14 : List AOper := [
  ⟨(some 123), none, (.val (.t 15))⟩,
  ⟨(some 124), none, (.bin .eql (.t 123) (.c (.i .u64 0)))⟩,
  ⟨(some 125), none, (.val (.t 124))⟩,
  ⟨(some 126), (some (125, true)), (.val (.t 16))⟩,
  ⟨(some 127), (some (125, true)), (.un .not (.t 126))⟩,
  ⟨(some 128), (some (125, true)), (.val (.t 127))⟩,
  ⟨(some 129), (some (128, false)), (.val (.t 0))⟩,
  ⟨(some 130), (some (128, false)), (.call 10 [(.t 129)])⟩,
  ⟨(some 131), (some (128, false)), (.val (.t 1))⟩,
  ⟨(some 132), (some (128, false)), (.bin .eql (.t 130) (.t 131))⟩,
  ⟨(some 133), (some (128, false)), (.val (.t 132))⟩,
  ⟨(some 134), (some (133, true)), (.val (.t 0))⟩,
  ⟨(some 135), (some (133, true)), (.call 11 [(.t 134)])⟩,
  ⟨(some 136), (some (133, true)), (.bin .eql (.t 135) (.c (.i .i64 (-1))))⟩,
  ⟨(some 137), (some (128, false)), (.pick (.t 133) (.t 136) (.c (.b false)))⟩,
  ⟨(some 138), (some (125, true)), (.pick (.t 128) (.c (.b true)) (.t 137))⟩,
  ⟨(some 139), none, (.pick (.t 125) (.t 138) (.c (.b false)))⟩,
  ⟨(some 140), none, (.val (.t 139))⟩,
  ⟨(some 141), (some (140, true)), (.call 13 [])⟩,
  ⟨(some 142), none, (.pick (.t 140) (.t 141) (.c (.b false)))⟩,
  ⟨(some 6), none, (.val (.t 142))⟩]
def a6 : AFun := ⟨143, [(.tmp 6)], (.seq (.reg r6_0) (.seq (.seq (.reg r6_1) (.seq (.reg r6_2) (.cond (.t 41) (.seq (.reg r6_3) .ret) .skip))) (.seq (.seq (.reg r6_4) (.seq (.reg r6_5) (.cond (.t 65) (.seq (.reg r6_6) .ret) .skip))) (.seq (.seq (.reg r6_7) (.seq (.reg r6_8) (.cond (.t 89) (.seq (.reg r6_9) .ret) .skip))) (.seq (.seq (.reg r6_10) (.seq (.reg r6_11) (.cond (.t 116) (.seq (.reg r6_12) .ret) .skip))) (.seq (.reg r6_13) (.seq (.reg r6_14) .ret)))))))⟩
theorem a6_ok : cfun Try.prog 6 = some a6 := by kernel_rfl
/-- futtock/lock.Make -/
def r7_0 : List AOper := [
  ⟨(some 4), none, (.val (.c (.i .u64 0)))⟩,
  ⟨(some 5), none, (.val (.c (.b false)))⟩]
def r7_1 : List AOper := [
  ⟨(some 6), none, (.val (.t 0))⟩,
  ⟨(some 7), none, (.bin .neq (.t 6) (.c (.i .i64 (-1))))⟩,
  ⟨(some 8), none, (.val (.t 7))⟩,
  ⟨(some 9), (some (8, true)), (.val (.t 0))⟩,
  ⟨(some 10), (some (8, true)), (.call 24 [(.t 9)])⟩,
  ⟨(some 11), (some (8, true)), (.un .not (.t 10))⟩,
  ⟨(some 12), none, (.pick (.t 8) (.t 11) (.c (.b false)))⟩,
  ⟨(some 13), none, (.val (.t 12))⟩,
  ⟨(some 14), (some (13, false)), (.val (.t 1))⟩,
  ⟨(some 15), (some (13, false)), (.bin .neq (.t 14) (.c (.i .i64 (-1))))⟩,
  ⟨(some 16), (some (13, false)), (.val (.t 15))⟩,
  ⟨(some 17), (some (16, true)), (.val (.t 1))⟩,
  ⟨(some 18), (some (16, true)), (.call 24 [(.t 17)])⟩,
  ⟨(some 19), (some (16, true)), (.un .not (.t 18))⟩,
  ⟨(some 20), (some (13, false)), (.pick (.t 16) (.t 19) (.c (.b false)))⟩,
  ⟨(some 21), none, (.pick (.t 13) (.c (.b true)) (.t 20))⟩]
def r7_2 : List AOper := [
  ⟨(some 4), none, (.val (.c (.i .u64 0)))⟩,
  ⟨(some 5), none, (.val (.c (.b false)))⟩]
def r7_3 : List AOper := [
  ⟨(some 22), none, (.call 26 [])⟩,
  ⟨(some 23), none, (.call 27 [])⟩,
  ⟨(some 24), none, (.bsl [(.i .u8 0), (.i .u8 0)] 2 [(0, 2, (.t 22)), (2, 2, (.t 23))])⟩,
  ⟨(some 25), none, (.val (.t 0))⟩,
  ⟨(some 26), none, (.bin .sub (.t 25) (.c (.i .i64 (-1))))⟩,
  ⟨(some 27), none, (.cvi .u64 (.t 26))⟩,
  ⟨(some 28), none, (.val (.t 1))⟩,
  ⟨(some 29), none, (.bin .sub (.t 28) (.c (.i .i64 (-1))))⟩,
  ⟨(some 30), none, (.cvi .u64 (.t 29))⟩,
  ⟨(some 31), none, (.bsl [(.i .u64 0)] 2 [(0, 1, (.t 27)), (1, 1, (.t 30))])⟩,
  ⟨(some 32), none, (.call 25 [(.t 24), (.t 31)])⟩,
  ⟨(some 33), none, (.ext (.t 32) 0)⟩,
  ⟨(some 34), none, (.ext (.t 32) 1)⟩,
  ⟨(some 4), none, (.val (.t 33))⟩,
  ⟨(some 5), none, (.val (.t 34))⟩]
def a7 : AFun := ⟨35, [(.tmp 4), (.tmp 5)], (.seq (.reg r7_0) (.seq (.seq (.reg r7_1) (.cond (.t 21) (.seq (.reg r7_2) .ret) .skip)) (.seq (.reg r7_3) .ret)))⟩
theorem a7_ok : cfun Try.prog 7 = some a7 := by kernel_rfl
/-- futtock/futtockref04.Make -/
def r8_0 : List AOper := [
  ⟨(some 4), none, (.val (.c (.i .u64 0)))⟩,
  ⟨(some 5), none, (.val (.c (.b false)))⟩]
def r8_1 : List AOper := [
  ⟨(some 6), none, (.val (.t 0))⟩,
  ⟨(some 7), none, (.bin .neq (.t 6) (.c (.i .i64 (-1))))⟩,
  ⟨(some 8), none, (.val (.t 7))⟩,
  ⟨(some 9), (some (8, true)), (.val (.t 0))⟩,
  ⟨(some 10), (some (8, true)), (.call 28 [(.t 9)])⟩,
  ⟨(some 11), (some (8, true)), (.un .not (.t 10))⟩,
  ⟨(some 12), none, (.pick (.t 8) (.t 11) (.c (.b false)))⟩,
  ⟨(some 13), none, (.val (.t 12))⟩,
  ⟨(some 14), (some (13, false)), (.val (.t 1))⟩,
  ⟨(some 15), (some (13, false)), (.bin .neq (.t 14) (.c (.i .i64 (-1))))⟩,
  ⟨(some 16), (some (13, false)), (.val (.t 15))⟩,
  ⟨(some 17), (some (16, true)), (.val (.t 1))⟩,
  ⟨(some 18), (some (16, true)), (.call 28 [(.t 17)])⟩,
  ⟨(some 19), (some (16, true)), (.un .not (.t 18))⟩,
  ⟨(some 20), (some (13, false)), (.pick (.t 16) (.t 19) (.c (.b false)))⟩,
  ⟨(some 21), none, (.pick (.t 13) (.c (.b true)) (.t 20))⟩]
def r8_2 : List AOper := [
  ⟨(some 4), none, (.val (.c (.i .u64 0)))⟩,
  ⟨(some 5), none, (.val (.c (.b false)))⟩]
def r8_3 : List AOper := [
  ⟨(some 22), none, (.val (.t 0))⟩,
  ⟨(some 23), none, (.bin .add (.t 22) (.c (.i .i64 1)))⟩,
  ⟨(some 24), none, (.cvi .u64 (.t 23))⟩,
  ⟨(some 25), none, (.val (.t 1))⟩,
  ⟨(some 26), none, (.bin .add (.t 25) (.c (.i .i64 1)))⟩,
  ⟨(some 27), none, (.cvi .u64 (.t 26))⟩,
  ⟨(some 28), none, (.bin .mul (.c (.i .u64 65536)) (.t 27))⟩,
  ⟨(some 29), none, (.bin .add (.t 24) (.t 28))⟩,
  ⟨(some 4), none, (.val (.t 29))⟩,
  ⟨(some 5), none, (.val (.c (.b true)))⟩]
def a8 : AFun := ⟨30, [(.tmp 4), (.tmp 5)], (.seq (.reg r8_0) (.seq (.seq (.reg r8_1) (.cond (.t 21) (.seq (.reg r8_2) .ret) .skip)) (.seq (.reg r8_3) .ret)))⟩
theorem a8_ok : cfun Try.prog 8 = some a8 := by kernel_rfl
/-- futtock/futtockref04.Parts -/
def r9_0 : List AOper := [
  ⟨(some 2), none, (.alloc [(.i .i64 0), (.i .i64 0), (.b false)])⟩]
def r9_1 : List AOper := [
  ⟨(some 3), none, (.val (.t 0))⟩,
  ⟨(some 4), none, (.bin .geq (.t 3) (.c (.i .u64 4294967296)))⟩]
def r9_2 : List AOper := [
  ⟨(some 5), none, (.build [(.i .i64 0), (.i .i64 0), (.b false)] [(0, 1, (.c (.i .i64 (-1)))), (1, 1, (.c (.i .i64 (-1)))), (2, 1, (.c (.b true)))])⟩,
  ⟨none, none, (.st 3 (.t 2) (.t 5))⟩]
def r9_3 : List AOper := [
  ⟨(some 6), none, (.val (.t 0))⟩,
  ⟨(some 7), none, (.bin .rem (.t 6) (.c (.i .u64 65536)))⟩,
  ⟨(some 8), none, (.cvi .i64 (.t 7))⟩,
  ⟨(some 9), none, (.bin .sub (.t 8) (.c (.i .i64 1)))⟩,
  ⟨(some 10), none, (.val (.t 0))⟩,
  ⟨(some 11), none, (.bin .quo (.t 10) (.c (.i .u64 65536)))⟩,
  ⟨(some 12), none, (.cvi .i64 (.t 11))⟩,
  ⟨(some 13), none, (.bin .sub (.t 12) (.c (.i .i64 1)))⟩,
  ⟨(some 14), none, (.build [(.i .i64 0), (.i .i64 0), (.b false)] [(0, 1, (.t 9)), (1, 1, (.t 13)), (2, 1, (.c (.b false)))])⟩,
  ⟨none, none, (.st 3 (.t 2) (.t 14))⟩]
def a9 : AFun := ⟨15, [(.cell 2 (some 3))], (.seq (.reg r9_0) (.seq (.seq (.reg r9_1) (.cond (.t 4) (.seq (.reg r9_2) .ret) .skip)) (.seq (.reg r9_3) .ret)))⟩
theorem a9_ok : cfun Try.prog 9 = some a9 := by kernel_rfl
/-- futtock/lock.Owner -/
def r10_0 : List AOper := [
  ⟨(some 2), none, (.val (.c (.i .i64 0)))⟩]
def r10_1 : List AOper := [
  ⟨(some 3), none, (.call 26 [])⟩,
  ⟨(some 4), none, (.val (.t 0))⟩,
  ⟨(some 5), none, (.call 29 [(.t 3), (.t 4)])⟩,
  ⟨(some 2), none, (.val (.t 5))⟩]
def a10 : AFun := ⟨6, [(.tmp 2)], (.seq (.reg r10_0) (.seq (.reg r10_1) .ret))⟩
theorem a10_ok : cfun Try.prog 10 = some a10 := by kernel_rfl
/-- futtock/lock.Head -/
def r11_0 : List AOper := [
  ⟨(some 2), none, (.val (.c (.i .i64 0)))⟩]
def r11_1 : List AOper := [
  ⟨(some 3), none, (.call 27 [])⟩,
  ⟨(some 4), none, (.val (.t 0))⟩,
  ⟨(some 5), none, (.call 29 [(.t 3), (.t 4)])⟩,
  ⟨(some 2), none, (.val (.t 5))⟩]
def a11 : AFun := ⟨6, [(.tmp 2)], (.seq (.reg r11_0) (.seq (.reg r11_1) .ret))⟩
theorem a11_ok : cfun Try.prog 11 = some a11 := by kernel_rfl
/-- futtock/lock.Free -/
def r12_0 : List AOper := [
  ⟨(some 2), none, (.val (.c (.b false)))⟩]
def r12_1 : List AOper := [
  ⟨(some 3), none, (.val (.t 0))⟩,
  ⟨(some 4), none, (.call 30 [(.t 3)])⟩,
  ⟨(some 5), none, (.val (.t 4))⟩,
  ⟨(some 6), (some (5, true)), (.val (.t 0))⟩,
  ⟨(some 7), (some (5, true)), (.call 10 [(.t 6)])⟩,
  ⟨(some 8), (some (5, true)), (.bin .eql (.t 7) (.c (.i .i64 (-1))))⟩,
  ⟨(some 9), none, (.pick (.t 5) (.t 8) (.c (.b false)))⟩,
  ⟨(some 2), none, (.val (.t 9))⟩]
def a12 : AFun := ⟨10, [(.tmp 2)], (.seq (.reg r12_0) (.seq (.reg r12_1) .ret))⟩
theorem a12_ok : cfun Try.prog 12 = some a12 := by kernel_rfl
/-- futtock/futtocklaw04.alive -/
def r13_0 : List AOper := [
  ⟨(some 0), none, (.val (.c (.b false)))⟩]
def r13_1 : List AOper := [
  ⟨(some 6), none, (.call 14 [(.c (.i .u64 0)), (.c (.i .i64 3))])⟩,
  ⟨(some 5), none, (.val (.t 6))⟩,
  ⟨(some 7), none, (.ext (.t 5) 0)⟩,
  ⟨(some 8), none, (.ext (.t 5) 1)⟩,
  ⟨(some 1), none, (.val (.t 7))⟩,
  ⟨(some 2), none, (.val (.t 8))⟩]
def r13_2 : List AOper := [
  ⟨(some 10), none, (.val (.t 1))⟩,
  ⟨(some 11), none, (.call 16 [(.t 10), (.c (.i .i64 0))])⟩,
  ⟨(some 9), none, (.val (.t 11))⟩,
  ⟨(some 12), none, (.ext (.t 9) 0)⟩,
  ⟨(some 13), none, (.ext (.t 9) 1)⟩,
  ⟨(some 3), none, (.val (.t 12))⟩,
  ⟨(some 4), none, (.val (.t 13))⟩]
def r13_3 : List AOper := [
  ⟨(some 14), none, (.val (.t 1))⟩,
  ⟨(some 15), none, (.bin .eql (.t 14) (.c (.i .u64 4)))⟩,
  ⟨(some 16), none, (.val (.t 15))⟩,
  ⟨(some 17), (some (16, true)), (.val (.t 2))⟩,
  ⟨(some 18), none, (.pick (.t 16) (.t 17) (.c (.b false)))⟩,
  ⟨(some 19), none, (.val (.t 18))⟩,
  ⟨(some 20), (some (19, true)), (.val (.t 3))⟩,
  ⟨(some 21), (some (19, true)), (.bin .eql (.t 20) (.c (.i .u64 65540)))⟩,
  ⟨(some 22), none, (.pick (.t 19) (.t 21) (.c (.b false)))⟩,
  ⟨(some 23), none, (.val (.t 22))⟩,
  ⟨(some 24), (some (23, true)), (.val (.t 4))⟩,
  ⟨(some 25), none, (.pick (.t 23) (.t 24) (.c (.b false)))⟩,
  ⟨(some 26), none, (.val (.t 25))⟩,
  ⟨(some 27), (some (26, true)), (.val (.t 3))⟩,
  ⟨(some 28), (some (26, true)), (.call 10 [(.t 27)])⟩,
  ⟨(some 29), (some (26, true)), (.bin .eql (.t 28) (.c (.i .i64 3)))⟩,
  ⟨(some 30), none, (.pick (.t 26) (.t 29) (.c (.b false)))⟩,
  ⟨(some 31), none, (.val (.t 30))⟩,
  ⟨(some 32), (some (31, true)), (.val (.t 3))⟩,
  ⟨(some 33), (some (31, true)), (.call 11 [(.t 32)])⟩,
  ⟨(some 34), (some (31, true)), (.bin .eql (.t 33) (.c (.i .i64 0)))⟩,
  ⟨(some 35), none, (.pick (.t 31) (.t 34) (.c (.b false)))⟩,
  ⟨(some 0), none, (.val (.t 35))⟩]
def a13 : AFun := ⟨36, [(.tmp 0)], (.seq (.reg r13_0) (.seq (.reg r13_1) (.seq (.reg r13_2) (.seq (.reg r13_3) .ret))))⟩
theorem a13_ok : cfun Try.prog 13 = some a13 := by kernel_rfl
/-- futtock/lock.Take -/
def r14_0 : List AOper := [
  ⟨(some 3), none, (.box (.t 1))⟩,
  ⟨(some 4), none, (.val (.c (.i .u64 0)))⟩,
  ⟨(some 5), none, (.val (.c (.b false)))⟩]
def r14_1 : List AOper := [
  ⟨(some 6), none, (.val (.t 0))⟩,
  ⟨(some 7), none, (.ld none (.t 3))⟩,
  ⟨(some 8), none, (.mkf (.func 32) [] [(.t 3)])⟩,
  ⟨(some 9), none, (.call 31 [(.t 6), (.t 7), (.t 8)])⟩,
  ⟨(some 10), none, (.ext (.t 9) 0)⟩,
  ⟨(some 11), none, (.ext (.t 9) 1)⟩,
  ⟨(some 4), none, (.val (.t 10))⟩,
  ⟨(some 5), none, (.val (.t 11))⟩]
def a14 : AFun := ⟨12, [(.tmp 4), (.tmp 5)], (.seq (.reg r14_0) (.seq (.reg r14_1) .ret))⟩
theorem a14_ok : cfun Try.prog 14 = some a14 := by kernel_rfl
/-- futtock/futtockref04.Take -/
def r15_0 : List AOper := [
  ⟨(some 4), none, (.val (.c (.i .u64 0)))⟩,
  ⟨(some 5), none, (.val (.c (.b false)))⟩]
def r15_1 : List AOper := [
  ⟨(some 7), none, (.val (.t 0))⟩,
  ⟨(some 8), none, (.call 9 [(.t 7)])⟩,
  ⟨(some 6), none, (.alloc [(.i .i64 0), (.i .i64 0), (.b false)])⟩,
  ⟨none, none, (.st 3 (.t 6) (.t 8))⟩]
def r15_2 : List AOper := [
  ⟨(some 9), none, (.fa 2 (.t 6))⟩,
  ⟨(some 10), none, (.ld none (.t 9))⟩,
  ⟨(some 11), none, (.val (.t 10))⟩,
  ⟨(some 12), (some (11, false)), (.val (.t 1))⟩,
  ⟨(some 13), (some (11, false)), (.call 28 [(.t 12)])⟩,
  ⟨(some 14), (some (11, false)), (.un .not (.t 13))⟩,
  ⟨(some 15), none, (.pick (.t 11) (.c (.b true)) (.t 14))⟩,
  ⟨(some 16), none, (.val (.t 15))⟩,
  ⟨(some 17), (some (16, false)), (.fa 0 (.t 6))⟩,
  ⟨(some 18), (some (16, false)), (.ld none (.t 17))⟩,
  ⟨(some 19), (some (16, false)), (.bin .neq (.t 18) (.c (.i .i64 (-1))))⟩,
  ⟨(some 20), none, (.pick (.t 16) (.c (.b true)) (.t 19))⟩]
def r15_3 : List AOper := [
  ⟨(some 4), none, (.val (.c (.i .u64 0)))⟩,
  ⟨(some 5), none, (.val (.c (.b false)))⟩]
def r15_4 : List AOper := [
  ⟨(some 21), none, (.val (.t 1))⟩,
  ⟨(some 22), none, (.fa 1 (.t 6))⟩,
  ⟨(some 23), none, (.ld none (.t 22))⟩,
  ⟨(some 24), none, (.call 8 [(.t 21), (.t 23)])⟩,
  ⟨(some 25), none, (.ext (.t 24) 0)⟩,
  ⟨(some 26), none, (.ext (.t 24) 1)⟩,
  ⟨(some 4), none, (.val (.t 25))⟩,
  ⟨(some 5), none, (.val (.t 26))⟩]
def a15 : AFun := ⟨27, [(.tmp 4), (.tmp 5)], (.seq (.reg r15_0) (.seq (.reg r15_1) (.seq (.seq (.reg r15_2) (.cond (.t 20) (.seq (.reg r15_3) .ret) .skip)) (.seq (.reg r15_4) .ret))))⟩
theorem a15_ok : cfun Try.prog 15 = some a15 := by kernel_rfl
/-- futtock/lock.Push -/
def r16_0 : List AOper := [
  ⟨(some 3), none, (.box (.t 1))⟩,
  ⟨(some 4), none, (.val (.c (.i .u64 0)))⟩,
  ⟨(some 5), none, (.val (.c (.b false)))⟩]
def r16_1 : List AOper := [
  ⟨(some 6), none, (.val (.t 0))⟩,
  ⟨(some 7), none, (.ld none (.t 3))⟩,
  ⟨(some 8), none, (.mkf (.func 33) [] [(.t 3)])⟩,
  ⟨(some 9), none, (.call 31 [(.t 6), (.t 7), (.t 8)])⟩,
  ⟨(some 10), none, (.ext (.t 9) 0)⟩,
  ⟨(some 11), none, (.ext (.t 9) 1)⟩,
  ⟨(some 4), none, (.val (.t 10))⟩,
  ⟨(some 5), none, (.val (.t 11))⟩]
def a16 : AFun := ⟨12, [(.tmp 4), (.tmp 5)], (.seq (.reg r16_0) (.seq (.reg r16_1) .ret))⟩
theorem a16_ok : cfun Try.prog 16 = some a16 := by kernel_rfl
/-- futtock/futtockref04.Push -/
def r17_0 : List AOper := [
  ⟨(some 4), none, (.val (.c (.i .u64 0)))⟩,
  ⟨(some 5), none, (.val (.c (.b false)))⟩]
def r17_1 : List AOper := [
  ⟨(some 7), none, (.val (.t 0))⟩,
  ⟨(some 8), none, (.call 9 [(.t 7)])⟩,
  ⟨(some 6), none, (.alloc [(.i .i64 0), (.i .i64 0), (.b false)])⟩,
  ⟨none, none, (.st 3 (.t 6) (.t 8))⟩]
def r17_2 : List AOper := [
  ⟨(some 9), none, (.fa 2 (.t 6))⟩,
  ⟨(some 10), none, (.ld none (.t 9))⟩,
  ⟨(some 11), none, (.val (.t 10))⟩,
  ⟨(some 12), (some (11, false)), (.val (.t 1))⟩,
  ⟨(some 13), (some (11, false)), (.call 28 [(.t 12)])⟩,
  ⟨(some 14), (some (11, false)), (.un .not (.t 13))⟩,
  ⟨(some 15), none, (.pick (.t 11) (.c (.b true)) (.t 14))⟩,
  ⟨(some 16), none, (.val (.t 15))⟩,
  ⟨(some 17), (some (16, false)), (.fa 0 (.t 6))⟩,
  ⟨(some 18), (some (16, false)), (.ld none (.t 17))⟩,
  ⟨(some 19), (some (16, false)), (.bin .eql (.t 18) (.c (.i .i64 (-1))))⟩,
  ⟨(some 20), none, (.pick (.t 16) (.c (.b true)) (.t 19))⟩,
  ⟨(some 21), none, (.val (.t 20))⟩,
  ⟨(some 22), (some (21, false)), (.fa 0 (.t 6))⟩,
  ⟨(some 23), (some (21, false)), (.ld none (.t 22))⟩,
  ⟨(some 24), (some (21, false)), (.val (.t 1))⟩,
  ⟨(some 25), (some (21, false)), (.bin .eql (.t 23) (.t 24))⟩,
  ⟨(some 26), none, (.pick (.t 21) (.c (.b true)) (.t 25))⟩,
  ⟨(some 27), none, (.val (.t 26))⟩,
  ⟨(some 28), (some (27, false)), (.fa 1 (.t 6))⟩,
  ⟨(some 29), (some (27, false)), (.ld none (.t 28))⟩,
  ⟨(some 30), (some (27, false)), (.val (.t 1))⟩,
  ⟨(some 31), (some (27, false)), (.bin .eql (.t 29) (.t 30))⟩,
  ⟨(some 32), none, (.pick (.t 27) (.c (.b true)) (.t 31))⟩]
def r17_3 : List AOper := [
  ⟨(some 4), none, (.val (.c (.i .u64 0)))⟩,
  ⟨(some 5), none, (.val (.c (.b false)))⟩]
def r17_4 : List AOper := [
  ⟨(some 33), none, (.fa 0 (.t 6))⟩,
  ⟨(some 34), none, (.ld none (.t 33))⟩,
  ⟨(some 35), none, (.val (.t 1))⟩,
  ⟨(some 36), none, (.call 8 [(.t 34), (.t 35)])⟩,
  ⟨(some 37), none, (.ext (.t 36) 0)⟩,
  ⟨(some 38), none, (.ext (.t 36) 1)⟩,
  ⟨(some 4), none, (.val (.t 37))⟩,
  ⟨(some 5), none, (.val (.t 38))⟩]
def a17 : AFun := ⟨39, [(.tmp 4), (.tmp 5)], (.seq (.reg r17_0) (.seq (.reg r17_1) (.seq (.seq (.reg r17_2) (.cond (.t 32) (.seq (.reg r17_3) .ret) .skip)) (.seq (.reg r17_4) .ret))))⟩
theorem a17_ok : cfun Try.prog 17 = some a17 := by kernel_rfl
/-- futtock/lock.Drain -/
def r18_0 : List AOper := [
  ⟨(some 3), none, (.box (.t 1))⟩,
  ⟨(some 4), none, (.val (.c (.i .u64 0)))⟩,
  ⟨(some 5), none, (.val (.c (.b false)))⟩]
def r18_1 : List AOper := [
  ⟨(some 6), none, (.val (.t 0))⟩,
  ⟨(some 7), none, (.ld none (.t 3))⟩,
  ⟨(some 8), none, (.mkf (.func 34) [] [(.t 3)])⟩,
  ⟨(some 9), none, (.call 31 [(.t 6), (.t 7), (.t 8)])⟩,
  ⟨(some 10), none, (.ext (.t 9) 0)⟩,
  ⟨(some 11), none, (.ext (.t 9) 1)⟩,
  ⟨(some 4), none, (.val (.t 10))⟩,
  ⟨(some 5), none, (.val (.t 11))⟩]
def a18 : AFun := ⟨12, [(.tmp 4), (.tmp 5)], (.seq (.reg r18_0) (.seq (.reg r18_1) .ret))⟩
theorem a18_ok : cfun Try.prog 18 = some a18 := by kernel_rfl
/-- futtock/futtockref04.Drain -/
def r19_0 : List AOper := [
  ⟨(some 4), none, (.val (.c (.i .u64 0)))⟩,
  ⟨(some 5), none, (.val (.c (.b false)))⟩]
def r19_1 : List AOper := [
  ⟨(some 7), none, (.val (.t 0))⟩,
  ⟨(some 8), none, (.call 9 [(.t 7)])⟩,
  ⟨(some 6), none, (.alloc [(.i .i64 0), (.i .i64 0), (.b false)])⟩,
  ⟨none, none, (.st 3 (.t 6) (.t 8))⟩]
def r19_2 : List AOper := [
  ⟨(some 9), none, (.fa 2 (.t 6))⟩,
  ⟨(some 10), none, (.ld none (.t 9))⟩,
  ⟨(some 11), none, (.val (.t 10))⟩,
  ⟨(some 12), (some (11, false)), (.val (.t 1))⟩,
  ⟨(some 13), (some (11, false)), (.call 28 [(.t 12)])⟩,
  ⟨(some 14), (some (11, false)), (.un .not (.t 13))⟩,
  ⟨(some 15), none, (.pick (.t 11) (.c (.b true)) (.t 14))⟩,
  ⟨(some 16), none, (.val (.t 15))⟩,
  ⟨(some 17), (some (16, false)), (.fa 0 (.t 6))⟩,
  ⟨(some 18), (some (16, false)), (.ld none (.t 17))⟩,
  ⟨(some 19), (some (16, false)), (.val (.t 1))⟩,
  ⟨(some 20), (some (16, false)), (.bin .neq (.t 18) (.t 19))⟩,
  ⟨(some 21), none, (.pick (.t 16) (.c (.b true)) (.t 20))⟩,
  ⟨(some 22), none, (.val (.t 21))⟩,
  ⟨(some 23), (some (22, false)), (.fa 1 (.t 6))⟩,
  ⟨(some 24), (some (22, false)), (.ld none (.t 23))⟩,
  ⟨(some 25), (some (22, false)), (.bin .eql (.t 24) (.c (.i .i64 (-1))))⟩,
  ⟨(some 26), none, (.pick (.t 22) (.c (.b true)) (.t 25))⟩]
def r19_3 : List AOper := [
  ⟨(some 4), none, (.val (.c (.i .u64 0)))⟩,
  ⟨(some 5), none, (.val (.c (.b false)))⟩]
def r19_4 : List AOper := [
  ⟨(some 27), none, (.val (.t 1))⟩,
  ⟨(some 28), none, (.call 8 [(.t 27), (.c (.i .i64 (-1)))])⟩,
  ⟨(some 29), none, (.ext (.t 28) 0)⟩,
  ⟨(some 30), none, (.ext (.t 28) 1)⟩,
  ⟨(some 4), none, (.val (.t 29))⟩,
  ⟨(some 5), none, (.val (.t 30))⟩]
def a19 : AFun := ⟨31, [(.tmp 4), (.tmp 5)], (.seq (.reg r19_0) (.seq (.reg r19_1) (.seq (.seq (.reg r19_2) (.cond (.t 26) (.seq (.reg r19_3) .ret) .skip)) (.seq (.reg r19_4) .ret))))⟩
theorem a19_ok : cfun Try.prog 19 = some a19 := by kernel_rfl
/-- futtock/lock.Hand -/
def r20_0 : List AOper := [
  ⟨(some 4), none, (.box (.t 1))⟩,
  ⟨(some 5), none, (.box (.t 2))⟩,
  ⟨(some 6), none, (.val (.c (.i .u64 0)))⟩,
  ⟨(some 7), none, (.val (.c (.b false)))⟩]
def r20_1 : List AOper := [
  ⟨(some 8), none, (.val (.t 0))⟩,
  ⟨(some 9), none, (.ld none (.t 4))⟩,
  ⟨(some 10), none, (.mkf (.func 35) [] [(.t 5), (.t 4)])⟩,
  ⟨(some 11), none, (.call 31 [(.t 8), (.t 9), (.t 10)])⟩,
  ⟨(some 12), none, (.ext (.t 11) 0)⟩,
  ⟨(some 13), none, (.ext (.t 11) 1)⟩,
  ⟨(some 6), none, (.val (.t 12))⟩,
  ⟨(some 7), none, (.val (.t 13))⟩]
def a20 : AFun := ⟨14, [(.tmp 6), (.tmp 7)], (.seq (.reg r20_0) (.seq (.reg r20_1) .ret))⟩
theorem a20_ok : cfun Try.prog 20 = some a20 := by kernel_rfl
/-- futtock/futtockref04.Hand -/
def r21_0 : List AOper := [
  ⟨(some 6), none, (.val (.c (.i .u64 0)))⟩,
  ⟨(some 7), none, (.val (.c (.b false)))⟩]
def r21_1 : List AOper := [
  ⟨(some 9), none, (.val (.t 0))⟩,
  ⟨(some 10), none, (.call 9 [(.t 9)])⟩,
  ⟨(some 8), none, (.alloc [(.i .i64 0), (.i .i64 0), (.b false)])⟩,
  ⟨none, none, (.st 3 (.t 8) (.t 10))⟩]
def r21_2 : List AOper := [
  ⟨(some 11), none, (.fa 2 (.t 8))⟩,
  ⟨(some 12), none, (.ld none (.t 11))⟩,
  ⟨(some 13), none, (.val (.t 12))⟩,
  ⟨(some 14), (some (13, false)), (.val (.t 1))⟩,
  ⟨(some 15), (some (13, false)), (.call 28 [(.t 14)])⟩,
  ⟨(some 16), (some (13, false)), (.un .not (.t 15))⟩,
  ⟨(some 17), none, (.pick (.t 13) (.c (.b true)) (.t 16))⟩,
  ⟨(some 18), none, (.val (.t 17))⟩,
  ⟨(some 19), (some (18, false)), (.val (.t 2))⟩,
  ⟨(some 20), (some (18, false)), (.call 28 [(.t 19)])⟩,
  ⟨(some 21), (some (18, false)), (.un .not (.t 20))⟩,
  ⟨(some 22), none, (.pick (.t 18) (.c (.b true)) (.t 21))⟩,
  ⟨(some 23), none, (.val (.t 22))⟩,
  ⟨(some 24), (some (23, false)), (.fa 0 (.t 8))⟩,
  ⟨(some 25), (some (23, false)), (.ld none (.t 24))⟩,
  ⟨(some 26), (some (23, false)), (.val (.t 1))⟩,
  ⟨(some 27), (some (23, false)), (.bin .neq (.t 25) (.t 26))⟩,
  ⟨(some 28), none, (.pick (.t 23) (.c (.b true)) (.t 27))⟩,
  ⟨(some 29), none, (.val (.t 28))⟩,
  ⟨(some 30), (some (29, false)), (.val (.t 1))⟩,
  ⟨(some 31), (some (29, false)), (.val (.t 2))⟩,
  ⟨(some 32), (some (29, false)), (.bin .eql (.t 30) (.t 31))⟩,
  ⟨(some 33), none, (.pick (.t 29) (.c (.b true)) (.t 32))⟩]
def r21_3 : List AOper := [
  ⟨(some 6), none, (.val (.c (.i .u64 0)))⟩,
  ⟨(some 7), none, (.val (.c (.b false)))⟩]
def r21_4 : List AOper := [
  ⟨(some 34), none, (.val (.t 2))⟩,
  ⟨(some 35), none, (.fa 1 (.t 8))⟩,
  ⟨(some 36), none, (.ld none (.t 35))⟩,
  ⟨(some 37), none, (.call 8 [(.t 34), (.t 36)])⟩,
  ⟨(some 38), none, (.ext (.t 37) 0)⟩,
  ⟨(some 39), none, (.ext (.t 37) 1)⟩,
  ⟨(some 6), none, (.val (.t 38))⟩,
  ⟨(some 7), none, (.val (.t 39))⟩]
def a21 : AFun := ⟨40, [(.tmp 6), (.tmp 7)], (.seq (.reg r21_0) (.seq (.reg r21_1) (.seq (.seq (.reg r21_2) (.cond (.t 33) (.seq (.reg r21_3) .ret) .skip)) (.seq (.reg r21_4) .ret))))⟩
theorem a21_ok : cfun Try.prog 21 = some a21 := by kernel_rfl
/-- futtock/lock.Release -/
def r22_0 : List AOper := [
  ⟨(some 3), none, (.box (.t 1))⟩,
  ⟨(some 4), none, (.val (.c (.i .u64 0)))⟩,
  ⟨(some 5), none, (.val (.c (.b false)))⟩]
def r22_1 : List AOper := [
  ⟨(some 6), none, (.val (.t 0))⟩,
  ⟨(some 7), none, (.ld none (.t 3))⟩,
  ⟨(some 8), none, (.mkf (.func 36) [] [(.t 3)])⟩,
  ⟨(some 9), none, (.call 31 [(.t 6), (.t 7), (.t 8)])⟩,
  ⟨(some 10), none, (.ext (.t 9) 0)⟩,
  ⟨(some 11), none, (.ext (.t 9) 1)⟩,
  ⟨(some 4), none, (.val (.t 10))⟩,
  ⟨(some 5), none, (.val (.t 11))⟩]
def a22 : AFun := ⟨12, [(.tmp 4), (.tmp 5)], (.seq (.reg r22_0) (.seq (.reg r22_1) .ret))⟩
theorem a22_ok : cfun Try.prog 22 = some a22 := by kernel_rfl
/-- futtock/futtockref04.Release -/
def r23_0 : List AOper := [
  ⟨(some 4), none, (.val (.c (.i .u64 0)))⟩,
  ⟨(some 5), none, (.val (.c (.b false)))⟩]
def r23_1 : List AOper := [
  ⟨(some 7), none, (.val (.t 0))⟩,
  ⟨(some 8), none, (.call 9 [(.t 7)])⟩,
  ⟨(some 6), none, (.alloc [(.i .i64 0), (.i .i64 0), (.b false)])⟩,
  ⟨none, none, (.st 3 (.t 6) (.t 8))⟩]
def r23_2 : List AOper := [
  ⟨(some 9), none, (.fa 2 (.t 6))⟩,
  ⟨(some 10), none, (.ld none (.t 9))⟩,
  ⟨(some 11), none, (.val (.t 10))⟩,
  ⟨(some 12), (some (11, false)), (.val (.t 1))⟩,
  ⟨(some 13), (some (11, false)), (.call 28 [(.t 12)])⟩,
  ⟨(some 14), (some (11, false)), (.un .not (.t 13))⟩,
  ⟨(some 15), none, (.pick (.t 11) (.c (.b true)) (.t 14))⟩,
  ⟨(some 16), none, (.val (.t 15))⟩,
  ⟨(some 17), (some (16, false)), (.fa 0 (.t 6))⟩,
  ⟨(some 18), (some (16, false)), (.ld none (.t 17))⟩,
  ⟨(some 19), (some (16, false)), (.val (.t 1))⟩,
  ⟨(some 20), (some (16, false)), (.bin .neq (.t 18) (.t 19))⟩,
  ⟨(some 21), none, (.pick (.t 16) (.c (.b true)) (.t 20))⟩,
  ⟨(some 22), none, (.val (.t 21))⟩,
  ⟨(some 23), (some (22, false)), (.fa 1 (.t 6))⟩,
  ⟨(some 24), (some (22, false)), (.ld none (.t 23))⟩,
  ⟨(some 25), (some (22, false)), (.bin .neq (.t 24) (.c (.i .i64 (-1))))⟩,
  ⟨(some 26), none, (.pick (.t 22) (.c (.b true)) (.t 25))⟩]
def r23_3 : List AOper := [
  ⟨(some 4), none, (.val (.c (.i .u64 0)))⟩,
  ⟨(some 5), none, (.val (.c (.b false)))⟩]
def r23_4 : List AOper := [
  ⟨(some 4), none, (.val (.c (.i .u64 0)))⟩,
  ⟨(some 5), none, (.val (.c (.b true)))⟩]
def a23 : AFun := ⟨27, [(.tmp 4), (.tmp 5)], (.seq (.reg r23_0) (.seq (.reg r23_1) (.seq (.seq (.reg r23_2) (.cond (.t 26) (.seq (.reg r23_3) .ret) .skip)) (.seq (.reg r23_4) .ret))))⟩
theorem a23_ok : cfun Try.prog 23 = some a23 := by kernel_rfl
/-- futtock/lock.isThread -/
def r24_0 : List AOper := [
  ⟨(some 2), none, (.val (.c (.b false)))⟩]
def r24_1 : List AOper := [
  ⟨(some 3), none, (.val (.t 0))⟩,
  ⟨(some 4), none, (.bin .geq (.t 3) (.c (.i .i64 0)))⟩,
  ⟨(some 5), none, (.val (.t 4))⟩,
  ⟨(some 6), (some (5, true)), (.val (.t 0))⟩,
  ⟨(some 7), (some (5, true)), (.bin .leq (.t 6) (.c (.i .i64 65534)))⟩,
  ⟨(some 8), none, (.pick (.t 5) (.t 7) (.c (.b false)))⟩,
  ⟨(some 2), none, (.val (.t 8))⟩]
def a24 : AFun := ⟨9, [(.tmp 2)], (.seq (.reg r24_0) (.seq (.reg r24_1) .ret))⟩
theorem a24_ok : cfun Try.prog 24 = some a24 := by kernel_rfl
/-- futtock/field.Join -/
def r25_0 : List AOper := [
  ⟨(some 4), none, (.val (.c (.i .u64 0)))⟩,
  ⟨(some 5), none, (.val (.c (.b false)))⟩]
def r25_1 : List AOper := [
  ⟨(some 9), none, (.val (.t 0))⟩,
  ⟨(some 10), none, (.len (.t 9))⟩,
  ⟨(some 11), none, (.val (.t 1))⟩,
  ⟨(some 12), none, (.len (.t 11))⟩,
  ⟨(some 13), none, (.bin .neq (.t 10) (.t 12))⟩,
  ⟨(some 14), none, (.val (.t 13))⟩,
  ⟨(some 15), (some (14, false)), (.val (.t 0))⟩,
  ⟨(some 16), (some (14, false)), (.call 37 [(.t 15)])⟩,
  ⟨(some 17), (some (14, false)), (.un .not (.t 16))⟩,
  ⟨(some 18), none, (.pick (.t 14) (.c (.b true)) (.t 17))⟩]
def r25_2 : List AOper := [
  ⟨(some 4), none, (.val (.c (.i .u64 0)))⟩,
  ⟨(some 5), none, (.val (.c (.b false)))⟩]
def r25_3 : List AOper := [
  ⟨(some 6), none, (.val (.c (.i .u64 0)))⟩]
def r25_4 : List AOper := [
  ⟨(some 19), none, (.val (.t 0))⟩,
  ⟨(some 20), none, (.len (.t 19))⟩,
  ⟨(some 21), none, (.val (.c (.i .i64 0)))⟩]
def r25_5 : List AOper := [
  ⟨(some 22), none, (.bin .lss (.t 21) (.t 20))⟩]
def r25_6 : List AOper := [
  ⟨(some 23), none, (.val (.t 21))⟩,
  ⟨(some 24), none, (.ia 2 (.t 19) (.t 21))⟩,
  ⟨(some 25), none, (.ld (some 2) (.t 24))⟩,
  ⟨(some 8), none, (.alloc [(.i .u8 0), (.i .u8 0)])⟩,
  ⟨(some 7), none, (.val (.t 23))⟩,
  ⟨none, none, (.st 2 (.t 8) (.t 25))⟩]
def r25_7 : List (AOper × List Nat) := [
  (⟨(some 26), none, (.ld (some 2) (.t 8))⟩, [1]),
  (⟨(some 27), none, (.val (.t 1))⟩, []),
  (⟨(some 28), none, (.val (.t 7))⟩, []),
  (⟨(some 29), none, (.ia 1 (.t 27) (.t 28))⟩, []),
  (⟨(some 30), none, (.ld none (.t 29))⟩, [1]),
  (⟨(some 31), none, (.call 38 [(.t 26), (.t 30)])⟩, []),
  (⟨(some 32), none, (.un .not (.t 31))⟩, [])]
def r25_8 : List AOper := [
  ⟨(some 4), none, (.val (.c (.i .u64 0)))⟩,
  ⟨(some 5), none, (.val (.c (.b false)))⟩]
def r25_9 : List (AOper × List Nat) := [
  (⟨(some 33), none, (.ld (some 2) (.t 8))⟩, [1]),
  (⟨(some 34), none, (.val (.t 6))⟩, []),
  (⟨(some 35), none, (.val (.t 1))⟩, []),
  (⟨(some 36), none, (.val (.t 7))⟩, []),
  (⟨(some 37), none, (.ia 1 (.t 35) (.t 36))⟩, []),
  (⟨(some 38), none, (.ld none (.t 37))⟩, [1]),
  (⟨(some 39), none, (.call 39 [(.t 33), (.t 34), (.t 38)])⟩, []),
  (⟨(some 6), none, (.val (.t 39))⟩, [])]
def r25_10 : List AOper := [
  ⟨(some 40), none, (.bin .add (.t 21) (.c (.i .i64 1)))⟩,
  ⟨(some 21), none, (.val (.t 40))⟩]
def l25_11 : ACode := (.seq (.reg r25_5) (.seq (.cond (.t 22) .skip (.exit 0)) (.seq (.block 1 (.seq (.reg r25_6) (.seq (.seq (.drw r25_7) (.cond (.t 32) (.seq (.reg r25_8) .ret) .skip)) (.drw r25_9)))) (.reg r25_10))))
def r25_12 : List AOper := [
  ⟨(some 41), none, (.val (.t 6))⟩,
  ⟨(some 4), none, (.val (.t 41))⟩,
  ⟨(some 5), none, (.val (.c (.b true)))⟩]
def a25 : AFun := ⟨42, [(.tmp 4), (.tmp 5)], (.seq (.reg r25_0) (.seq (.seq (.reg r25_1) (.cond (.t 18) (.seq (.reg r25_2) .ret) .skip)) (.seq (.reg r25_3) (.seq (.seq (.reg r25_4) (.block 0 (.loop l25_11))) (.seq (.reg r25_12) .ret)))))⟩
theorem a25_ok : cfun Try.prog 25 = some a25 := by kernel_rfl
/-- futtock/lock.owner -/
def r26_0 : List AOper := [
  ⟨(some 0), none, (.alloc [(.i .u8 0), (.i .u8 0)])⟩]
def r26_1 : List AOper := [
  ⟨(some 1), none, (.build [(.i .u8 0), (.i .u8 0)] [(0, 1, (.c (.i .u8 0))), (1, 1, (.c (.i .u8 16)))])⟩,
  ⟨none, none, (.st 2 (.t 0) (.t 1))⟩]
def a26 : AFun := ⟨2, [(.cell 0 (some 2))], (.seq (.reg r26_0) (.seq (.reg r26_1) .ret))⟩
theorem a26_ok : cfun Try.prog 26 = some a26 := by kernel_rfl
/-- futtock/lock.head -/
def r27_0 : List AOper := [
  ⟨(some 0), none, (.alloc [(.i .u8 0), (.i .u8 0)])⟩]
def r27_1 : List AOper := [
  ⟨(some 1), none, (.build [(.i .u8 0), (.i .u8 0)] [(0, 1, (.c (.i .u8 16))), (1, 1, (.c (.i .u8 16)))])⟩,
  ⟨none, none, (.st 2 (.t 0) (.t 1))⟩]
def a27 : AFun := ⟨2, [(.cell 0 (some 2))], (.seq (.reg r27_0) (.seq (.reg r27_1) .ret))⟩
theorem a27_ok : cfun Try.prog 27 = some a27 := by kernel_rfl
/-- futtock/futtockref04.is -/
def r28_0 : List AOper := [
  ⟨(some 2), none, (.val (.c (.b false)))⟩]
def r28_1 : List AOper := [
  ⟨(some 3), none, (.val (.t 0))⟩,
  ⟨(some 4), none, (.bin .geq (.t 3) (.c (.i .i64 0)))⟩,
  ⟨(some 5), none, (.val (.t 4))⟩,
  ⟨(some 6), (some (5, true)), (.val (.t 0))⟩,
  ⟨(some 7), (some (5, true)), (.bin .leq (.t 6) (.c (.i .i64 65534)))⟩,
  ⟨(some 8), none, (.pick (.t 5) (.t 7) (.c (.b false)))⟩,
  ⟨(some 2), none, (.val (.t 8))⟩]
def a28 : AFun := ⟨9, [(.tmp 2)], (.seq (.reg r28_0) (.seq (.reg r28_1) .ret))⟩
theorem a28_ok : cfun Try.prog 28 = some a28 := by kernel_rfl
/-- futtock/lock.thread -/
def r29_0 : List AOper := [
  ⟨(some 2), none, (.box (.t 0))⟩,
  ⟨(some 4), none, (.val (.c (.i .i64 0)))⟩]
def r29_1 : List AOper := [
  ⟨(some 5), none, (.val (.t 1))⟩,
  ⟨(some 6), none, (.call 30 [(.t 5)])⟩,
  ⟨(some 7), none, (.un .not (.t 6))⟩]
def r29_2 : List AOper := [
  ⟨(some 4), none, (.val (.c (.i .i64 (-1))))⟩]
def r29_3 : List AOper := [
  ⟨(some 8), none, (.ld (some 2) (.t 2))⟩,
  ⟨(some 9), none, (.val (.t 1))⟩,
  ⟨(some 10), none, (.call 40 [(.t 8), (.t 9)])⟩,
  ⟨(some 11), none, (.cvi .i64 (.t 10))⟩,
  ⟨(some 12), none, (.bin .add (.t 11) (.c (.i .i64 (-1))))⟩,
  ⟨(some 4), none, (.val (.t 12))⟩]
def a29 : AFun := ⟨13, [(.tmp 4)], (.seq (.reg r29_0) (.seq (.seq (.reg r29_1) (.cond (.t 7) (.seq (.reg r29_2) .ret) .skip)) (.seq (.reg r29_3) .ret)))⟩
theorem a29_ok : cfun Try.prog 29 = some a29 := by kernel_rfl
/-- futtock/lock.isWord -/
def r30_0 : List AOper := [
  ⟨(some 2), none, (.val (.c (.b false)))⟩]
def r30_1 : List AOper := [
  ⟨(some 3), none, (.call 41 [])⟩,
  ⟨(some 4), none, (.val (.t 0))⟩,
  ⟨(some 5), none, (.call 40 [(.t 3), (.t 4)])⟩,
  ⟨(some 6), none, (.bin .eql (.t 5) (.c (.i .u64 0)))⟩,
  ⟨(some 2), none, (.val (.t 6))⟩]
def a30 : AFun := ⟨7, [(.tmp 2)], (.seq (.reg r30_0) (.seq (.reg r30_1) .ret))⟩
theorem a30_ok : cfun Try.prog 30 = some a30 := by kernel_rfl
/-- futtock/lock.turn -/
def r31_0 : List AOper := [
  ⟨(some 6), none, (.val (.c (.i .u64 0)))⟩,
  ⟨(some 7), none, (.val (.c (.b false)))⟩]
def r31_1 : List AOper := [
  ⟨(some 11), none, (.val (.t 0))⟩,
  ⟨(some 12), none, (.call 30 [(.t 11)])⟩,
  ⟨(some 13), none, (.un .not (.t 12))⟩,
  ⟨(some 14), none, (.val (.t 13))⟩,
  ⟨(some 15), (some (14, false)), (.val (.t 1))⟩,
  ⟨(some 16), (some (14, false)), (.call 24 [(.t 15)])⟩,
  ⟨(some 17), (some (14, false)), (.un .not (.t 16))⟩,
  ⟨(some 18), none, (.pick (.t 14) (.c (.b true)) (.t 17))⟩]
def r31_2 : List AOper := [
  ⟨(some 6), none, (.val (.c (.i .u64 0)))⟩,
  ⟨(some 7), none, (.val (.c (.b false)))⟩]
def r31_3 : List AOper := [
  ⟨(some 20), none, (.val (.t 2))⟩,
  ⟨(some 21), none, (.val (.t 0))⟩,
  ⟨(some 22), none, (.call 10 [(.t 21)])⟩,
  ⟨(some 23), none, (.val (.t 0))⟩,
  ⟨(some 24), none, (.call 11 [(.t 23)])⟩,
  ⟨(some 25), none, (.callv (.t 20) [(.t 22), (.t 24)])⟩,
  ⟨(some 19), none, (.val (.t 25))⟩,
  ⟨(some 26), none, (.ext (.t 19) 0)⟩,
  ⟨(some 27), none, (.ext (.t 19) 1)⟩,
  ⟨(some 28), none, (.ext (.t 19) 2)⟩,
  ⟨(some 8), none, (.val (.t 26))⟩,
  ⟨(some 9), none, (.val (.t 27))⟩,
  ⟨(some 10), none, (.val (.t 28))⟩]
def r31_4 : List AOper := [
  ⟨(some 29), none, (.val (.t 10))⟩,
  ⟨(some 30), none, (.un .not (.t 29))⟩]
def r31_5 : List AOper := [
  ⟨(some 6), none, (.val (.c (.i .u64 0)))⟩,
  ⟨(some 7), none, (.val (.c (.b false)))⟩]
def r31_6 : List AOper := [
  ⟨(some 31), none, (.val (.t 8))⟩,
  ⟨(some 32), none, (.val (.t 9))⟩,
  ⟨(some 33), none, (.call 7 [(.t 31), (.t 32)])⟩,
  ⟨(some 34), none, (.ext (.t 33) 0)⟩,
  ⟨(some 35), none, (.ext (.t 33) 1)⟩,
  ⟨(some 6), none, (.val (.t 34))⟩,
  ⟨(some 7), none, (.val (.t 35))⟩]
def a31 : AFun := ⟨36, [(.tmp 6), (.tmp 7)], (.seq (.reg r31_0) (.seq (.seq (.reg r31_1) (.cond (.t 18) (.seq (.reg r31_2) .ret) .skip)) (.seq (.reg r31_3) (.seq (.seq (.reg r31_4) (.cond (.t 30) (.seq (.reg r31_5) .ret) .skip)) (.seq (.reg r31_6) .ret)))))⟩
theorem a31_ok : cfun Try.prog 31 = some a31 := by kernel_rfl
/-- futtock/lock.Take$1 -/
def r32_0 : List AOper := [
  ⟨(some 5), none, (.val (.c (.i .i64 0)))⟩,
  ⟨(some 6), none, (.val (.c (.i .i64 0)))⟩,
  ⟨(some 7), none, (.val (.c (.b false)))⟩]
def r32_1 : List AOper := [
  ⟨(some 8), none, (.ld none (.t 2))⟩,
  ⟨(some 9), none, (.val (.t 1))⟩,
  ⟨(some 10), none, (.val (.t 0))⟩,
  ⟨(some 11), none, (.bin .eql (.t 10) (.c (.i .i64 (-1))))⟩,
  ⟨(some 5), none, (.val (.t 8))⟩,
  ⟨(some 6), none, (.val (.t 9))⟩,
  ⟨(some 7), none, (.val (.t 11))⟩]
def a32 : AFun := ⟨12, [(.tmp 5), (.tmp 6), (.tmp 7)], (.seq (.reg r32_0) (.seq (.reg r32_1) .ret))⟩
theorem a32_ok : cfun Try.prog 32 = some a32 := by kernel_rfl
/-- futtock/lock.Push$1 -/
def r33_0 : List AOper := [
  ⟨(some 5), none, (.val (.c (.i .i64 0)))⟩,
  ⟨(some 6), none, (.val (.c (.i .i64 0)))⟩,
  ⟨(some 7), none, (.val (.c (.b false)))⟩]
def r33_1 : List (AOper × List Nat) := [
  (⟨(some 8), none, (.val (.t 0))⟩, []),
  (⟨(some 9), none, (.ld none (.t 2))⟩, [1]),
  (⟨(some 10), none, (.val (.t 0))⟩, []),
  (⟨(some 11), none, (.bin .neq (.t 10) (.c (.i .i64 (-1))))⟩, []),
  (⟨(some 12), none, (.val (.t 11))⟩, []),
  (⟨(some 13), (some (12, true)), (.val (.t 0))⟩, []),
  (⟨(some 14), (some (12, true)), (.ld none (.t 2))⟩, [1]),
  (⟨(some 15), (some (12, true)), (.bin .neq (.t 13) (.t 14))⟩, []),
  (⟨(some 16), none, (.pick (.t 12) (.t 15) (.c (.b false)))⟩, []),
  (⟨(some 17), none, (.val (.t 16))⟩, []),
  (⟨(some 18), (some (17, true)), (.val (.t 1))⟩, []),
  (⟨(some 19), (some (17, true)), (.ld none (.t 2))⟩, [1]),
  (⟨(some 20), (some (17, true)), (.bin .neq (.t 18) (.t 19))⟩, []),
  (⟨(some 21), none, (.pick (.t 17) (.t 20) (.c (.b false)))⟩, []),
  (⟨(some 5), none, (.val (.t 8))⟩, []),
  (⟨(some 6), none, (.val (.t 9))⟩, []),
  (⟨(some 7), none, (.val (.t 21))⟩, [])]
def a33 : AFun := ⟨22, [(.tmp 5), (.tmp 6), (.tmp 7)], (.seq (.reg r33_0) (.seq (.drw r33_1) .ret))⟩
theorem a33_ok : cfun Try.prog 33 = some a33 := by kernel_rfl
/-- futtock/lock.Drain$1 -/
def r34_0 : List AOper := [
  ⟨(some 5), none, (.val (.c (.i .i64 0)))⟩,
  ⟨(some 6), none, (.val (.c (.i .i64 0)))⟩,
  ⟨(some 7), none, (.val (.c (.b false)))⟩]
def r34_1 : List AOper := [
  ⟨(some 8), none, (.val (.t 0))⟩,
  ⟨(some 9), none, (.val (.t 0))⟩,
  ⟨(some 10), none, (.ld none (.t 2))⟩,
  ⟨(some 11), none, (.bin .eql (.t 9) (.t 10))⟩,
  ⟨(some 12), none, (.val (.t 11))⟩,
  ⟨(some 13), (some (12, true)), (.val (.t 1))⟩,
  ⟨(some 14), (some (12, true)), (.bin .neq (.t 13) (.c (.i .i64 (-1))))⟩,
  ⟨(some 15), none, (.pick (.t 12) (.t 14) (.c (.b false)))⟩,
  ⟨(some 5), none, (.val (.t 8))⟩,
  ⟨(some 6), none, (.val (.c (.i .i64 (-1))))⟩,
  ⟨(some 7), none, (.val (.t 15))⟩]
def a34 : AFun := ⟨16, [(.tmp 5), (.tmp 6), (.tmp 7)], (.seq (.reg r34_0) (.seq (.reg r34_1) .ret))⟩
theorem a34_ok : cfun Try.prog 34 = some a34 := by kernel_rfl
/-- futtock/lock.Hand$1 -/
def r35_0 : List AOper := [
  ⟨(some 6), none, (.val (.c (.i .i64 0)))⟩,
  ⟨(some 7), none, (.val (.c (.i .i64 0)))⟩,
  ⟨(some 8), none, (.val (.c (.b false)))⟩]
def r35_1 : List (AOper × List Nat) := [
  (⟨(some 9), none, (.ld none (.t 2))⟩, [1]),
  (⟨(some 10), none, (.val (.t 1))⟩, []),
  (⟨(some 11), none, (.val (.t 0))⟩, []),
  (⟨(some 12), none, (.ld none (.t 3))⟩, [1]),
  (⟨(some 13), none, (.bin .eql (.t 11) (.t 12))⟩, []),
  (⟨(some 14), none, (.val (.t 13))⟩, []),
  (⟨(some 15), (some (14, true)), (.ld none (.t 2))⟩, [1]),
  (⟨(some 16), (some (14, true)), (.ld none (.t 3))⟩, [1]),
  (⟨(some 17), (some (14, true)), (.bin .neq (.t 15) (.t 16))⟩, []),
  (⟨(some 18), none, (.pick (.t 14) (.t 17) (.c (.b false)))⟩, []),
  (⟨(some 19), none, (.val (.t 18))⟩, []),
  (⟨(some 20), (some (19, true)), (.ld none (.t 2))⟩, [1]),
  (⟨(some 21), (some (19, true)), (.call 24 [(.t 20)])⟩, [4]),
  (⟨(some 22), none, (.pick (.t 19) (.t 21) (.c (.b false)))⟩, []),
  (⟨(some 6), none, (.val (.t 9))⟩, []),
  (⟨(some 7), none, (.val (.t 10))⟩, []),
  (⟨(some 8), none, (.val (.t 22))⟩, [])]
def a35 : AFun := ⟨23, [(.tmp 6), (.tmp 7), (.tmp 8)], (.seq (.reg r35_0) (.seq (.drw r35_1) .ret))⟩
theorem a35_ok : cfun Try.prog 35 = some a35 := by kernel_rfl
/-- futtock/lock.Release$1 -/
def r36_0 : List AOper := [
  ⟨(some 5), none, (.val (.c (.i .i64 0)))⟩,
  ⟨(some 6), none, (.val (.c (.i .i64 0)))⟩,
  ⟨(some 7), none, (.val (.c (.b false)))⟩]
def r36_1 : List AOper := [
  ⟨(some 8), none, (.val (.t 0))⟩,
  ⟨(some 9), none, (.ld none (.t 2))⟩,
  ⟨(some 10), none, (.bin .eql (.t 8) (.t 9))⟩,
  ⟨(some 11), none, (.val (.t 10))⟩,
  ⟨(some 12), (some (11, true)), (.val (.t 1))⟩,
  ⟨(some 13), (some (11, true)), (.bin .eql (.t 12) (.c (.i .i64 (-1))))⟩,
  ⟨(some 14), none, (.pick (.t 11) (.t 13) (.c (.b false)))⟩,
  ⟨(some 5), none, (.val (.c (.i .i64 (-1))))⟩,
  ⟨(some 6), none, (.val (.c (.i .i64 (-1))))⟩,
  ⟨(some 7), none, (.val (.t 14))⟩]
def a36 : AFun := ⟨15, [(.tmp 5), (.tmp 6), (.tmp 7)], (.seq (.reg r36_0) (.seq (.reg r36_1) .ret))⟩
theorem a36_ok : cfun Try.prog 36 = some a36 := by kernel_rfl
/-- futtock/field.Apart -/
def r37_0 : List AOper := [
  ⟨(some 2), none, (.val (.c (.b false)))⟩]
def r37_1 : List AOper := [
  ⟨(some 3), none, (.val (.c (.i .u64 0)))⟩]
def r37_2 : List AOper := [
  ⟨(some 4), none, (.val (.c (.fn (.func 42) [] [])))⟩]
def r37_3 : List AOper := [
  ⟨(some 8), none, (.val (.t 0))⟩,
  ⟨(some 9), none, (.len (.t 8))⟩,
  ⟨(some 10), none, (.val (.c (.i .i64 0)))⟩]
def r37_4 : List AOper := [
  ⟨(some 11), none, (.bin .lss (.t 10) (.t 9))⟩]
def r37_5 : List AOper := [
  ⟨(some 12), none, (.ia 2 (.t 8) (.t 10))⟩,
  ⟨(some 13), none, (.ld (some 2) (.t 12))⟩,
  ⟨(some 6), none, (.alloc [(.i .u8 0), (.i .u8 0)])⟩,
  ⟨none, none, (.st 2 (.t 6) (.t 13))⟩]
def r37_6 : List AOper := [
  ⟨(some 14), none, (.val (.t 4))⟩,
  ⟨(some 15), none, (.ld (some 2) (.t 6))⟩,
  ⟨(some 16), none, (.callv (.t 14) [(.t 15)])⟩,
  ⟨(some 7), none, (.val (.t 16))⟩]
def r37_7 : List AOper := [
  ⟨(some 17), none, (.val (.t 7))⟩,
  ⟨(some 18), none, (.bin .eql (.t 17) (.c (.i .u64 0)))⟩,
  ⟨(some 19), none, (.val (.t 18))⟩,
  ⟨(some 20), (some (19, false)), (.val (.t 3))⟩,
  ⟨(some 21), (some (19, false)), (.val (.t 7))⟩,
  ⟨(some 22), (some (19, false)), (.bin .and (.t 20) (.t 21))⟩,
  ⟨(some 23), (some (19, false)), (.bin .neq (.t 22) (.c (.i .u64 0)))⟩,
  ⟨(some 24), none, (.pick (.t 19) (.c (.b true)) (.t 23))⟩]
def r37_8 : List AOper := [
  ⟨(some 2), none, (.val (.c (.b false)))⟩]
def r37_9 : List AOper := [
  ⟨(some 25), none, (.val (.t 3))⟩,
  ⟨(some 26), none, (.val (.t 7))⟩,
  ⟨(some 27), none, (.bin .or (.t 25) (.t 26))⟩,
  ⟨(some 3), none, (.val (.t 27))⟩]
def r37_10 : List AOper := [
  ⟨(some 28), none, (.bin .add (.t 10) (.c (.i .i64 1)))⟩,
  ⟨(some 10), none, (.val (.t 28))⟩]
def l37_11 : ACode := (.seq (.reg r37_4) (.seq (.cond (.t 11) .skip (.exit 0)) (.seq (.block 1 (.seq (.reg r37_5) (.seq (.reg r37_6) (.seq (.seq (.reg r37_7) (.cond (.t 24) (.seq (.reg r37_8) .ret) .skip)) (.reg r37_9))))) (.reg r37_10))))
def r37_12 : List AOper := [
  ⟨(some 2), none, (.val (.c (.b true)))⟩]
def a37 : AFun := ⟨29, [(.tmp 2)], (.seq (.reg r37_0) (.seq (.reg r37_1) (.seq (.reg r37_2) (.seq (.seq (.reg r37_3) (.block 0 (.loop l37_11))) (.seq (.reg r37_12) .ret)))))⟩
theorem a37_ok : cfun Try.prog 37 = some a37 := by kernel_rfl
/-- (futtock/field.Field).Fits -/
def r38_0 : List AOper := [
  ⟨(some 2), none, (.box (.t 0))⟩,
  ⟨(some 4), none, (.val (.c (.b false)))⟩]
def r38_1 : List AOper := [
  ⟨(some 5), none, (.ld (some 2) (.t 2))⟩,
  ⟨(some 6), none, (.call 43 [(.t 5)])⟩,
  ⟨(some 7), none, (.val (.t 6))⟩,
  ⟨(some 8), (some (7, true)), (.val (.t 1))⟩,
  ⟨(some 9), (some (7, true)), (.ld (some 2) (.t 2))⟩,
  ⟨(some 10), (some (7, true)), (.call 44 [(.t 9)])⟩,
  ⟨(some 11), (some (7, true)), (.bin .leq (.t 8) (.t 10))⟩,
  ⟨(some 12), none, (.pick (.t 7) (.t 11) (.c (.b false)))⟩,
  ⟨(some 4), none, (.val (.t 12))⟩]
def a38 : AFun := ⟨13, [(.tmp 4)], (.seq (.reg r38_0) (.seq (.reg r38_1) .ret))⟩
theorem a38_ok : cfun Try.prog 38 = some a38 := by kernel_rfl
/-- (futtock/field.Field).Put -/
def r39_0 : List AOper := [
  ⟨(some 3), none, (.box (.t 0))⟩,
  ⟨(some 6), none, (.val (.c (.i .u64 0)))⟩]
def r39_1 : List (AOper × List Nat) := [
  (⟨(some 7), none, (.val (.t 1))⟩, []),
  (⟨(some 8), none, (.ld (some 2) (.t 3))⟩, [1]),
  (⟨(some 9), none, (.call 42 [(.t 8)])⟩, []),
  (⟨(some 10), none, (.bin .andNot (.t 7) (.t 9))⟩, []),
  (⟨(some 11), none, (.val (.t 2))⟩, []),
  (⟨(some 12), none, (.fa 0 (.t 3))⟩, []),
  (⟨(some 13), none, (.ld none (.t 12))⟩, [2]),
  (⟨(some 14), none, (.bin .shl (.t 11) (.t 13))⟩, []),
  (⟨(some 15), none, (.ld (some 2) (.t 3))⟩, [2]),
  (⟨(some 16), none, (.call 42 [(.t 15)])⟩, [1]),
  (⟨(some 17), none, (.bin .and (.t 14) (.t 16))⟩, []),
  (⟨(some 18), none, (.bin .or (.t 10) (.t 17))⟩, []),
  (⟨(some 6), none, (.val (.t 18))⟩, [])]
def a39 : AFun := ⟨19, [(.tmp 6)], (.seq (.reg r39_0) (.seq (.drw r39_1) .ret))⟩
theorem a39_ok : cfun Try.prog 39 = some a39 := by kernel_rfl
/-- (futtock/field.Field).Get -/
def r40_0 : List AOper := [
  ⟨(some 2), none, (.box (.t 0))⟩,
  ⟨(some 4), none, (.val (.c (.i .u64 0)))⟩]
def r40_1 : List (AOper × List Nat) := [
  (⟨(some 5), none, (.val (.t 1))⟩, []),
  (⟨(some 6), none, (.fa 0 (.t 2))⟩, []),
  (⟨(some 7), none, (.ld none (.t 6))⟩, [1]),
  (⟨(some 8), none, (.bin .shr (.t 5) (.t 7))⟩, []),
  (⟨(some 9), none, (.ld (some 2) (.t 2))⟩, [1]),
  (⟨(some 10), none, (.call 44 [(.t 9)])⟩, [1]),
  (⟨(some 11), none, (.bin .and (.t 8) (.t 10))⟩, []),
  (⟨(some 4), none, (.val (.t 11))⟩, [])]
def a40 : AFun := ⟨12, [(.tmp 4)], (.seq (.reg r40_0) (.seq (.drw r40_1) .ret))⟩
theorem a40_ok : cfun Try.prog 40 = some a40 := by kernel_rfl
/-- futtock/lock.rest -/
def r41_0 : List AOper := [
  ⟨(some 0), none, (.alloc [(.i .u8 0), (.i .u8 0)])⟩]
def r41_1 : List AOper := [
  ⟨(some 1), none, (.build [(.i .u8 0), (.i .u8 0)] [(0, 1, (.c (.i .u8 32))), (1, 1, (.c (.i .u8 32)))])⟩,
  ⟨none, none, (.st 2 (.t 0) (.t 1))⟩]
def a41 : AFun := ⟨2, [(.cell 0 (some 2))], (.seq (.reg r41_0) (.seq (.reg r41_1) .ret))⟩
theorem a41_ok : cfun Try.prog 41 = some a41 := by kernel_rfl
/-- (futtock/field.Field).Mask -/
def r42_0 : List AOper := [
  ⟨(some 1), none, (.box (.t 0))⟩,
  ⟨(some 2), none, (.val (.c (.i .u64 0)))⟩]
def r42_1 : List (AOper × List Nat) := [
  (⟨(some 3), none, (.ld (some 2) (.t 1))⟩, [1]),
  (⟨(some 4), none, (.call 44 [(.t 3)])⟩, []),
  (⟨(some 5), none, (.fa 0 (.t 1))⟩, []),
  (⟨(some 6), none, (.ld none (.t 5))⟩, [2]),
  (⟨(some 7), none, (.bin .shl (.t 4) (.t 6))⟩, []),
  (⟨(some 2), none, (.val (.t 7))⟩, [])]
def a42 : AFun := ⟨8, [(.tmp 2)], (.seq (.reg r42_0) (.seq (.drw r42_1) .ret))⟩
theorem a42_ok : cfun Try.prog 42 = some a42 := by kernel_rfl
/-- (futtock/field.Field).May -/
def r43_0 : List AOper := [
  ⟨(some 1), none, (.box (.t 0))⟩,
  ⟨(some 2), none, (.val (.c (.b false)))⟩]
def r43_1 : List AOper := [
  ⟨(some 3), none, (.fa 1 (.t 1))⟩,
  ⟨(some 4), none, (.ld none (.t 3))⟩,
  ⟨(some 5), none, (.bin .geq (.t 4) (.c (.i .u8 1)))⟩,
  ⟨(some 6), none, (.val (.t 5))⟩,
  ⟨(some 7), (some (6, true)), (.fa 0 (.t 1))⟩,
  ⟨(some 8), (some (6, true)), (.ld none (.t 7))⟩,
  ⟨(some 9), (some (6, true)), (.bin .lss (.t 8) (.c (.i .u8 64)))⟩,
  ⟨(some 10), none, (.pick (.t 6) (.t 9) (.c (.b false)))⟩,
  ⟨(some 11), none, (.val (.t 10))⟩,
  ⟨(some 12), (some (11, true)), (.fa 1 (.t 1))⟩,
  ⟨(some 13), (some (11, true)), (.ld none (.t 12))⟩,
  ⟨(some 14), (some (11, true)), (.fa 0 (.t 1))⟩,
  ⟨(some 15), (some (11, true)), (.ld none (.t 14))⟩,
  ⟨(some 16), (some (11, true)), (.bin .sub (.c (.i .u8 64)) (.t 15))⟩,
  ⟨(some 17), (some (11, true)), (.bin .leq (.t 13) (.t 16))⟩,
  ⟨(some 18), none, (.pick (.t 11) (.t 17) (.c (.b false)))⟩,
  ⟨(some 2), none, (.val (.t 18))⟩]
def a43 : AFun := ⟨19, [(.tmp 2)], (.seq (.reg r43_0) (.seq (.reg r43_1) .ret))⟩
theorem a43_ok : cfun Try.prog 43 = some a43 := by kernel_rfl
/-- (futtock/field.Field).Most -/
def r44_0 : List AOper := [
  ⟨(some 1), none, (.box (.t 0))⟩,
  ⟨(some 2), none, (.val (.c (.i .u64 0)))⟩]
def r44_1 : List AOper := [
  ⟨(some 3), none, (.ld (some 2) (.t 1))⟩,
  ⟨(some 4), none, (.call 43 [(.t 3)])⟩,
  ⟨(some 5), none, (.un .not (.t 4))⟩]
def r44_2 : List AOper := [
  ⟨(some 2), none, (.val (.c (.i .u64 0)))⟩]
def r44_3 : List AOper := [
  ⟨(some 6), none, (.fa 1 (.t 1))⟩,
  ⟨(some 7), none, (.ld none (.t 6))⟩,
  ⟨(some 8), none, (.bin .sub (.c (.i .u8 64)) (.t 7))⟩,
  ⟨(some 9), none, (.bin .shr (.c (.i .u64 18446744073709551615)) (.t 8))⟩,
  ⟨(some 2), none, (.val (.t 9))⟩]
def a44 : AFun := ⟨10, [(.tmp 2)], (.seq (.reg r44_0) (.seq (.seq (.reg r44_1) (.cond (.t 5) (.seq (.reg r44_2) .ret) .skip)) (.seq (.reg r44_3) .ret)))⟩
theorem a44_ok : cfun Try.prog 44 = some a44 := by kernel_rfl
/-- All of them. -/
def tbl : Tbl
  | 3 => some a3
  | 4 => some a4
  | 5 => some a5
  | 6 => some a6
  | 7 => some a7
  | 8 => some a8
  | 9 => some a9
  | 10 => some a10
  | 11 => some a11
  | 12 => some a12
  | 13 => some a13
  | 14 => some a14
  | 15 => some a15
  | 16 => some a16
  | 17 => some a17
  | 18 => some a18
  | 19 => some a19
  | 20 => some a20
  | 21 => some a21
  | 22 => some a22
  | 23 => some a23
  | 24 => some a24
  | 25 => some a25
  | 26 => some a26
  | 27 => some a27
  | 28 => some a28
  | 29 => some a29
  | 30 => some a30
  | 31 => some a31
  | 32 => some a32
  | 33 => some a33
  | 34 => some a34
  | 35 => some a35
  | 36 => some a36
  | 37 => some a37
  | 38 => some a38
  | 39 => some a39
  | 40 => some a40
  | 41 => some a41
  | 42 => some a42
  | 43 => some a43
  | 44 => some a44
  | _ => none
/-- The heap behind a call of which the value alone is told. -/
noncomputable def hC (n : FuncId) (args : List AV) (H : AH) : AH := hAft (callR tbl n args H)
theorem hC_of {n : FuncId} {args : List AV} {H : AH} {v : AV} (h : ∃ H', callR tbl n args H = some (v, H')) : callR tbl n args H = some (v, hC n args H) := aft_of h
theorem tbl3 : tbl 3 = some a3 := rfl
theorem c3 {x0 x1 x2 : AV} {H : AH} : callR tbl 3 [x0, x1, x2] H = runR tbl a3 [.code a3.body] (ainit [x0, x1, x2]) H := callR_of tbl3 (Nat.le_of_ble_eq_true rfl)
theorem b3 : a3.body = (.seq (.reg r3_0) (.seq (.reg r3_1) (.seq (.reg r3_2) (.seq (.reg r3_3) (.seq (.drw r3_4) .ret))))) := rfl
theorem s3 : a3.res = [(.tmp 6)] := rfl
theorem tbl4 : tbl 4 = some a4 := rfl
theorem c4 {x0 : AV} {H : AH} : callR tbl 4 [x0] H = runR tbl a4 [.code a4.body] (ainit [x0]) H := callR_of tbl4 (Nat.le_of_ble_eq_true rfl)
theorem b4 : a4.body = (.seq (.reg r4_0) (.seq (.reg r4_1) (.seq (.seq (.reg r4_2) (.cond (.t 14) (.seq (.reg r4_3) .ret) .skip)) (.seq (.reg r4_4) .ret)))) := rfl
theorem s4 : a4.res = [(.tmp 2)] := rfl
theorem tbl5 : tbl 5 = some a5 := rfl
theorem c5 {x0 x1 x2 : AV} {H : AH} : callR tbl 5 [x0, x1, x2] H = runR tbl a5 [.code a5.body] (ainit [x0, x1, x2]) H := callR_of tbl5 (Nat.le_of_ble_eq_true rfl)
theorem b5 : a5.body = (.seq (.reg r5_0) (.seq (.reg r5_1) (.seq (.reg r5_2) (.seq (.reg r5_3) (.seq (.reg r5_4) (.seq (.seq (.reg r5_5) (.cond (.t 56) (.seq (.reg r5_6) .ret) .skip)) (.seq (.reg r5_7) (.seq (.reg r5_8) (.seq (.reg r5_9) (.seq (.reg r5_10) (.seq (.seq (.reg r5_11) (.cond (.t 100) (.seq (.reg r5_12) .ret) .skip)) (.seq (.reg r5_13) (.seq (.reg r5_14) (.seq (.reg r5_15) .ret)))))))))))))) := rfl
theorem s5 : a5.res = [(.tmp 6)] := rfl
theorem tbl6 : tbl 6 = some a6 := rfl
theorem c6 {x0 x1 x2 : AV} {H : AH} : callR tbl 6 [x0, x1, x2] H = runR tbl a6 [.code a6.body] (ainit [x0, x1, x2]) H := callR_of tbl6 (Nat.le_of_ble_eq_true rfl)
theorem b6 : a6.body = (.seq (.reg r6_0) (.seq (.seq (.reg r6_1) (.seq (.reg r6_2) (.cond (.t 41) (.seq (.reg r6_3) .ret) .skip))) (.seq (.seq (.reg r6_4) (.seq (.reg r6_5) (.cond (.t 65) (.seq (.reg r6_6) .ret) .skip))) (.seq (.seq (.reg r6_7) (.seq (.reg r6_8) (.cond (.t 89) (.seq (.reg r6_9) .ret) .skip))) (.seq (.seq (.reg r6_10) (.seq (.reg r6_11) (.cond (.t 116) (.seq (.reg r6_12) .ret) .skip))) (.seq (.reg r6_13) (.seq (.reg r6_14) .ret))))))) := rfl
theorem s6 : a6.res = [(.tmp 6)] := rfl
theorem tbl7 : tbl 7 = some a7 := rfl
theorem c7 {x0 x1 : AV} {H : AH} : callR tbl 7 [x0, x1] H = runR tbl a7 [.code a7.body] (ainit [x0, x1]) H := callR_of tbl7 (Nat.le_of_ble_eq_true rfl)
theorem b7 : a7.body = (.seq (.reg r7_0) (.seq (.seq (.reg r7_1) (.cond (.t 21) (.seq (.reg r7_2) .ret) .skip)) (.seq (.reg r7_3) .ret))) := rfl
theorem s7 : a7.res = [(.tmp 4), (.tmp 5)] := rfl
theorem tbl8 : tbl 8 = some a8 := rfl
theorem c8 {x0 x1 : AV} {H : AH} : callR tbl 8 [x0, x1] H = runR tbl a8 [.code a8.body] (ainit [x0, x1]) H := callR_of tbl8 (Nat.le_of_ble_eq_true rfl)
theorem b8 : a8.body = (.seq (.reg r8_0) (.seq (.seq (.reg r8_1) (.cond (.t 21) (.seq (.reg r8_2) .ret) .skip)) (.seq (.reg r8_3) .ret))) := rfl
theorem s8 : a8.res = [(.tmp 4), (.tmp 5)] := rfl
theorem tbl9 : tbl 9 = some a9 := rfl
theorem c9 {x0 : AV} {H : AH} : callR tbl 9 [x0] H = runR tbl a9 [.code a9.body] (ainit [x0]) H := callR_of tbl9 (Nat.le_of_ble_eq_true rfl)
theorem b9 : a9.body = (.seq (.reg r9_0) (.seq (.seq (.reg r9_1) (.cond (.t 4) (.seq (.reg r9_2) .ret) .skip)) (.seq (.reg r9_3) .ret))) := rfl
theorem s9 : a9.res = [(.cell 2 (some 3))] := rfl
theorem tbl10 : tbl 10 = some a10 := rfl
theorem c10 {x0 : AV} {H : AH} : callR tbl 10 [x0] H = runR tbl a10 [.code a10.body] (ainit [x0]) H := callR_of tbl10 (Nat.le_of_ble_eq_true rfl)
theorem b10 : a10.body = (.seq (.reg r10_0) (.seq (.reg r10_1) .ret)) := rfl
theorem s10 : a10.res = [(.tmp 2)] := rfl
theorem tbl11 : tbl 11 = some a11 := rfl
theorem c11 {x0 : AV} {H : AH} : callR tbl 11 [x0] H = runR tbl a11 [.code a11.body] (ainit [x0]) H := callR_of tbl11 (Nat.le_of_ble_eq_true rfl)
theorem b11 : a11.body = (.seq (.reg r11_0) (.seq (.reg r11_1) .ret)) := rfl
theorem s11 : a11.res = [(.tmp 2)] := rfl
theorem tbl12 : tbl 12 = some a12 := rfl
theorem c12 {x0 : AV} {H : AH} : callR tbl 12 [x0] H = runR tbl a12 [.code a12.body] (ainit [x0]) H := callR_of tbl12 (Nat.le_of_ble_eq_true rfl)
theorem b12 : a12.body = (.seq (.reg r12_0) (.seq (.reg r12_1) .ret)) := rfl
theorem s12 : a12.res = [(.tmp 2)] := rfl
theorem tbl13 : tbl 13 = some a13 := rfl
theorem c13 {H : AH} : callR tbl 13 [] H = runR tbl a13 [.code a13.body] (ainit []) H := callR_of tbl13 (Nat.le_of_ble_eq_true rfl)
theorem b13 : a13.body = (.seq (.reg r13_0) (.seq (.reg r13_1) (.seq (.reg r13_2) (.seq (.reg r13_3) .ret)))) := rfl
theorem s13 : a13.res = [(.tmp 0)] := rfl
theorem tbl14 : tbl 14 = some a14 := rfl
theorem c14 {x0 x1 : AV} {H : AH} : callR tbl 14 [x0, x1] H = runR tbl a14 [.code a14.body] (ainit [x0, x1]) H := callR_of tbl14 (Nat.le_of_ble_eq_true rfl)
theorem b14 : a14.body = (.seq (.reg r14_0) (.seq (.reg r14_1) .ret)) := rfl
theorem s14 : a14.res = [(.tmp 4), (.tmp 5)] := rfl
theorem tbl15 : tbl 15 = some a15 := rfl
theorem c15 {x0 x1 : AV} {H : AH} : callR tbl 15 [x0, x1] H = runR tbl a15 [.code a15.body] (ainit [x0, x1]) H := callR_of tbl15 (Nat.le_of_ble_eq_true rfl)
theorem b15 : a15.body = (.seq (.reg r15_0) (.seq (.reg r15_1) (.seq (.seq (.reg r15_2) (.cond (.t 20) (.seq (.reg r15_3) .ret) .skip)) (.seq (.reg r15_4) .ret)))) := rfl
theorem s15 : a15.res = [(.tmp 4), (.tmp 5)] := rfl
theorem tbl16 : tbl 16 = some a16 := rfl
theorem c16 {x0 x1 : AV} {H : AH} : callR tbl 16 [x0, x1] H = runR tbl a16 [.code a16.body] (ainit [x0, x1]) H := callR_of tbl16 (Nat.le_of_ble_eq_true rfl)
theorem b16 : a16.body = (.seq (.reg r16_0) (.seq (.reg r16_1) .ret)) := rfl
theorem s16 : a16.res = [(.tmp 4), (.tmp 5)] := rfl
theorem tbl17 : tbl 17 = some a17 := rfl
theorem c17 {x0 x1 : AV} {H : AH} : callR tbl 17 [x0, x1] H = runR tbl a17 [.code a17.body] (ainit [x0, x1]) H := callR_of tbl17 (Nat.le_of_ble_eq_true rfl)
theorem b17 : a17.body = (.seq (.reg r17_0) (.seq (.reg r17_1) (.seq (.seq (.reg r17_2) (.cond (.t 32) (.seq (.reg r17_3) .ret) .skip)) (.seq (.reg r17_4) .ret)))) := rfl
theorem s17 : a17.res = [(.tmp 4), (.tmp 5)] := rfl
theorem tbl18 : tbl 18 = some a18 := rfl
theorem c18 {x0 x1 : AV} {H : AH} : callR tbl 18 [x0, x1] H = runR tbl a18 [.code a18.body] (ainit [x0, x1]) H := callR_of tbl18 (Nat.le_of_ble_eq_true rfl)
theorem b18 : a18.body = (.seq (.reg r18_0) (.seq (.reg r18_1) .ret)) := rfl
theorem s18 : a18.res = [(.tmp 4), (.tmp 5)] := rfl
theorem tbl19 : tbl 19 = some a19 := rfl
theorem c19 {x0 x1 : AV} {H : AH} : callR tbl 19 [x0, x1] H = runR tbl a19 [.code a19.body] (ainit [x0, x1]) H := callR_of tbl19 (Nat.le_of_ble_eq_true rfl)
theorem b19 : a19.body = (.seq (.reg r19_0) (.seq (.reg r19_1) (.seq (.seq (.reg r19_2) (.cond (.t 26) (.seq (.reg r19_3) .ret) .skip)) (.seq (.reg r19_4) .ret)))) := rfl
theorem s19 : a19.res = [(.tmp 4), (.tmp 5)] := rfl
theorem tbl20 : tbl 20 = some a20 := rfl
theorem c20 {x0 x1 x2 : AV} {H : AH} : callR tbl 20 [x0, x1, x2] H = runR tbl a20 [.code a20.body] (ainit [x0, x1, x2]) H := callR_of tbl20 (Nat.le_of_ble_eq_true rfl)
theorem b20 : a20.body = (.seq (.reg r20_0) (.seq (.reg r20_1) .ret)) := rfl
theorem s20 : a20.res = [(.tmp 6), (.tmp 7)] := rfl
theorem tbl21 : tbl 21 = some a21 := rfl
theorem c21 {x0 x1 x2 : AV} {H : AH} : callR tbl 21 [x0, x1, x2] H = runR tbl a21 [.code a21.body] (ainit [x0, x1, x2]) H := callR_of tbl21 (Nat.le_of_ble_eq_true rfl)
theorem b21 : a21.body = (.seq (.reg r21_0) (.seq (.reg r21_1) (.seq (.seq (.reg r21_2) (.cond (.t 33) (.seq (.reg r21_3) .ret) .skip)) (.seq (.reg r21_4) .ret)))) := rfl
theorem s21 : a21.res = [(.tmp 6), (.tmp 7)] := rfl
theorem tbl22 : tbl 22 = some a22 := rfl
theorem c22 {x0 x1 : AV} {H : AH} : callR tbl 22 [x0, x1] H = runR tbl a22 [.code a22.body] (ainit [x0, x1]) H := callR_of tbl22 (Nat.le_of_ble_eq_true rfl)
theorem b22 : a22.body = (.seq (.reg r22_0) (.seq (.reg r22_1) .ret)) := rfl
theorem s22 : a22.res = [(.tmp 4), (.tmp 5)] := rfl
theorem tbl23 : tbl 23 = some a23 := rfl
theorem c23 {x0 x1 : AV} {H : AH} : callR tbl 23 [x0, x1] H = runR tbl a23 [.code a23.body] (ainit [x0, x1]) H := callR_of tbl23 (Nat.le_of_ble_eq_true rfl)
theorem b23 : a23.body = (.seq (.reg r23_0) (.seq (.reg r23_1) (.seq (.seq (.reg r23_2) (.cond (.t 26) (.seq (.reg r23_3) .ret) .skip)) (.seq (.reg r23_4) .ret)))) := rfl
theorem s23 : a23.res = [(.tmp 4), (.tmp 5)] := rfl
theorem tbl24 : tbl 24 = some a24 := rfl
theorem c24 {x0 : AV} {H : AH} : callR tbl 24 [x0] H = runR tbl a24 [.code a24.body] (ainit [x0]) H := callR_of tbl24 (Nat.le_of_ble_eq_true rfl)
theorem b24 : a24.body = (.seq (.reg r24_0) (.seq (.reg r24_1) .ret)) := rfl
theorem s24 : a24.res = [(.tmp 2)] := rfl
theorem tbl25 : tbl 25 = some a25 := rfl
theorem c25 {x0 x1 : AV} {H : AH} : callR tbl 25 [x0, x1] H = runR tbl a25 [.code a25.body] (ainit [x0, x1]) H := callR_of tbl25 (Nat.le_of_ble_eq_true rfl)
theorem b25 : a25.body = (.seq (.reg r25_0) (.seq (.seq (.reg r25_1) (.cond (.t 18) (.seq (.reg r25_2) .ret) .skip)) (.seq (.reg r25_3) (.seq (.seq (.reg r25_4) (.block 0 (.loop l25_11))) (.seq (.reg r25_12) .ret))))) := rfl
theorem s25 : a25.res = [(.tmp 4), (.tmp 5)] := rfl
theorem tbl26 : tbl 26 = some a26 := rfl
theorem c26 {H : AH} : callR tbl 26 [] H = runR tbl a26 [.code a26.body] (ainit []) H := callR_of tbl26 (Nat.le_of_ble_eq_true rfl)
theorem b26 : a26.body = (.seq (.reg r26_0) (.seq (.reg r26_1) .ret)) := rfl
theorem s26 : a26.res = [(.cell 0 (some 2))] := rfl
theorem tbl27 : tbl 27 = some a27 := rfl
theorem c27 {H : AH} : callR tbl 27 [] H = runR tbl a27 [.code a27.body] (ainit []) H := callR_of tbl27 (Nat.le_of_ble_eq_true rfl)
theorem b27 : a27.body = (.seq (.reg r27_0) (.seq (.reg r27_1) .ret)) := rfl
theorem s27 : a27.res = [(.cell 0 (some 2))] := rfl
theorem tbl28 : tbl 28 = some a28 := rfl
theorem c28 {x0 : AV} {H : AH} : callR tbl 28 [x0] H = runR tbl a28 [.code a28.body] (ainit [x0]) H := callR_of tbl28 (Nat.le_of_ble_eq_true rfl)
theorem b28 : a28.body = (.seq (.reg r28_0) (.seq (.reg r28_1) .ret)) := rfl
theorem s28 : a28.res = [(.tmp 2)] := rfl
theorem tbl29 : tbl 29 = some a29 := rfl
theorem c29 {x0 x1 : AV} {H : AH} : callR tbl 29 [x0, x1] H = runR tbl a29 [.code a29.body] (ainit [x0, x1]) H := callR_of tbl29 (Nat.le_of_ble_eq_true rfl)
theorem b29 : a29.body = (.seq (.reg r29_0) (.seq (.seq (.reg r29_1) (.cond (.t 7) (.seq (.reg r29_2) .ret) .skip)) (.seq (.reg r29_3) .ret))) := rfl
theorem s29 : a29.res = [(.tmp 4)] := rfl
theorem tbl30 : tbl 30 = some a30 := rfl
theorem c30 {x0 : AV} {H : AH} : callR tbl 30 [x0] H = runR tbl a30 [.code a30.body] (ainit [x0]) H := callR_of tbl30 (Nat.le_of_ble_eq_true rfl)
theorem b30 : a30.body = (.seq (.reg r30_0) (.seq (.reg r30_1) .ret)) := rfl
theorem s30 : a30.res = [(.tmp 2)] := rfl
theorem tbl31 : tbl 31 = some a31 := rfl
theorem c31 {x0 x1 x2 : AV} {H : AH} : callR tbl 31 [x0, x1, x2] H = runR tbl a31 [.code a31.body] (ainit [x0, x1, x2]) H := callR_of tbl31 (Nat.le_of_ble_eq_true rfl)
theorem b31 : a31.body = (.seq (.reg r31_0) (.seq (.seq (.reg r31_1) (.cond (.t 18) (.seq (.reg r31_2) .ret) .skip)) (.seq (.reg r31_3) (.seq (.seq (.reg r31_4) (.cond (.t 30) (.seq (.reg r31_5) .ret) .skip)) (.seq (.reg r31_6) .ret))))) := rfl
theorem s31 : a31.res = [(.tmp 6), (.tmp 7)] := rfl
theorem tbl32 : tbl 32 = some a32 := rfl
theorem c32 {x0 x1 x2 : AV} {H : AH} : callR tbl 32 [x0, x1, x2] H = runR tbl a32 [.code a32.body] (ainit [x0, x1, x2]) H := callR_of tbl32 (Nat.le_of_ble_eq_true rfl)
theorem b32 : a32.body = (.seq (.reg r32_0) (.seq (.reg r32_1) .ret)) := rfl
theorem s32 : a32.res = [(.tmp 5), (.tmp 6), (.tmp 7)] := rfl
theorem tbl33 : tbl 33 = some a33 := rfl
theorem c33 {x0 x1 x2 : AV} {H : AH} : callR tbl 33 [x0, x1, x2] H = runR tbl a33 [.code a33.body] (ainit [x0, x1, x2]) H := callR_of tbl33 (Nat.le_of_ble_eq_true rfl)
theorem b33 : a33.body = (.seq (.reg r33_0) (.seq (.drw r33_1) .ret)) := rfl
theorem s33 : a33.res = [(.tmp 5), (.tmp 6), (.tmp 7)] := rfl
theorem tbl34 : tbl 34 = some a34 := rfl
theorem c34 {x0 x1 x2 : AV} {H : AH} : callR tbl 34 [x0, x1, x2] H = runR tbl a34 [.code a34.body] (ainit [x0, x1, x2]) H := callR_of tbl34 (Nat.le_of_ble_eq_true rfl)
theorem b34 : a34.body = (.seq (.reg r34_0) (.seq (.reg r34_1) .ret)) := rfl
theorem s34 : a34.res = [(.tmp 5), (.tmp 6), (.tmp 7)] := rfl
theorem tbl35 : tbl 35 = some a35 := rfl
theorem c35 {x0 x1 x2 x3 : AV} {H : AH} : callR tbl 35 [x0, x1, x2, x3] H = runR tbl a35 [.code a35.body] (ainit [x0, x1, x2, x3]) H := callR_of tbl35 (Nat.le_of_ble_eq_true rfl)
theorem b35 : a35.body = (.seq (.reg r35_0) (.seq (.drw r35_1) .ret)) := rfl
theorem s35 : a35.res = [(.tmp 6), (.tmp 7), (.tmp 8)] := rfl
theorem tbl36 : tbl 36 = some a36 := rfl
theorem c36 {x0 x1 x2 : AV} {H : AH} : callR tbl 36 [x0, x1, x2] H = runR tbl a36 [.code a36.body] (ainit [x0, x1, x2]) H := callR_of tbl36 (Nat.le_of_ble_eq_true rfl)
theorem b36 : a36.body = (.seq (.reg r36_0) (.seq (.reg r36_1) .ret)) := rfl
theorem s36 : a36.res = [(.tmp 5), (.tmp 6), (.tmp 7)] := rfl
theorem tbl37 : tbl 37 = some a37 := rfl
theorem c37 {x0 : AV} {H : AH} : callR tbl 37 [x0] H = runR tbl a37 [.code a37.body] (ainit [x0]) H := callR_of tbl37 (Nat.le_of_ble_eq_true rfl)
theorem b37 : a37.body = (.seq (.reg r37_0) (.seq (.reg r37_1) (.seq (.reg r37_2) (.seq (.seq (.reg r37_3) (.block 0 (.loop l37_11))) (.seq (.reg r37_12) .ret))))) := rfl
theorem s37 : a37.res = [(.tmp 2)] := rfl
theorem tbl38 : tbl 38 = some a38 := rfl
theorem c38 {x0 x1 : AV} {H : AH} : callR tbl 38 [x0, x1] H = runR tbl a38 [.code a38.body] (ainit [x0, x1]) H := callR_of tbl38 (Nat.le_of_ble_eq_true rfl)
theorem b38 : a38.body = (.seq (.reg r38_0) (.seq (.reg r38_1) .ret)) := rfl
theorem s38 : a38.res = [(.tmp 4)] := rfl
theorem tbl39 : tbl 39 = some a39 := rfl
theorem c39 {x0 x1 x2 : AV} {H : AH} : callR tbl 39 [x0, x1, x2] H = runR tbl a39 [.code a39.body] (ainit [x0, x1, x2]) H := callR_of tbl39 (Nat.le_of_ble_eq_true rfl)
theorem b39 : a39.body = (.seq (.reg r39_0) (.seq (.drw r39_1) .ret)) := rfl
theorem s39 : a39.res = [(.tmp 6)] := rfl
theorem tbl40 : tbl 40 = some a40 := rfl
theorem c40 {x0 x1 : AV} {H : AH} : callR tbl 40 [x0, x1] H = runR tbl a40 [.code a40.body] (ainit [x0, x1]) H := callR_of tbl40 (Nat.le_of_ble_eq_true rfl)
theorem b40 : a40.body = (.seq (.reg r40_0) (.seq (.drw r40_1) .ret)) := rfl
theorem s40 : a40.res = [(.tmp 4)] := rfl
theorem tbl41 : tbl 41 = some a41 := rfl
theorem c41 {H : AH} : callR tbl 41 [] H = runR tbl a41 [.code a41.body] (ainit []) H := callR_of tbl41 (Nat.le_of_ble_eq_true rfl)
theorem b41 : a41.body = (.seq (.reg r41_0) (.seq (.reg r41_1) .ret)) := rfl
theorem s41 : a41.res = [(.cell 0 (some 2))] := rfl
theorem tbl42 : tbl 42 = some a42 := rfl
theorem c42 {x0 : AV} {H : AH} : callR tbl 42 [x0] H = runR tbl a42 [.code a42.body] (ainit [x0]) H := callR_of tbl42 (Nat.le_of_ble_eq_true rfl)
theorem b42 : a42.body = (.seq (.reg r42_0) (.seq (.drw r42_1) .ret)) := rfl
theorem s42 : a42.res = [(.tmp 2)] := rfl
theorem tbl43 : tbl 43 = some a43 := rfl
theorem c43 {x0 : AV} {H : AH} : callR tbl 43 [x0] H = runR tbl a43 [.code a43.body] (ainit [x0]) H := callR_of tbl43 (Nat.le_of_ble_eq_true rfl)
theorem b43 : a43.body = (.seq (.reg r43_0) (.seq (.reg r43_1) .ret)) := rfl
theorem s43 : a43.res = [(.tmp 2)] := rfl
theorem tbl44 : tbl 44 = some a44 := rfl
theorem c44 {x0 : AV} {H : AH} : callR tbl 44 [x0] H = runR tbl a44 [.code a44.body] (ainit [x0]) H := callR_of tbl44 (Nat.le_of_ble_eq_true rfl)
theorem b44 : a44.body = (.seq (.reg r44_0) (.seq (.seq (.reg r44_1) (.cond (.t 5) (.seq (.reg r44_2) .ret) .skip)) (.seq (.reg r44_3) .ret))) := rfl
theorem s44 : a44.res = [(.tmp 2)] := rfl
theorem tbl_ok : ∀ f a, tbl f = some a → cfun Try.prog f = some a := by
  intro f a h
  unfold tbl at h
  split at h
  · cases h; exact a3_ok
  · cases h; exact a4_ok
  · cases h; exact a5_ok
  · cases h; exact a6_ok
  · cases h; exact a7_ok
  · cases h; exact a8_ok
  · cases h; exact a9_ok
  · cases h; exact a10_ok
  · cases h; exact a11_ok
  · cases h; exact a12_ok
  · cases h; exact a13_ok
  · cases h; exact a14_ok
  · cases h; exact a15_ok
  · cases h; exact a16_ok
  · cases h; exact a17_ok
  · cases h; exact a18_ok
  · cases h; exact a19_ok
  · cases h; exact a20_ok
  · cases h; exact a21_ok
  · cases h; exact a22_ok
  · cases h; exact a23_ok
  · cases h; exact a24_ok
  · cases h; exact a25_ok
  · cases h; exact a26_ok
  · cases h; exact a27_ok
  · cases h; exact a28_ok
  · cases h; exact a29_ok
  · cases h; exact a30_ok
  · cases h; exact a31_ok
  · cases h; exact a32_ok
  · cases h; exact a33_ok
  · cases h; exact a34_ok
  · cases h; exact a35_ok
  · cases h; exact a36_ok
  · cases h; exact a37_ok
  · cases h; exact a38_ok
  · cases h; exact a39_ok
  · cases h; exact a40_ok
  · cases h; exact a41_ok
  · cases h; exact a42_ok
  · cases h; exact a43_ok
  · cases h; exact a44_ok
  · cases h
end Go.Proofs.Ytlcmfjiinnddpaa.Abs
