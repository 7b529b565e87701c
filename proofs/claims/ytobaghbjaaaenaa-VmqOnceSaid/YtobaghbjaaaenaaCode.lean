/- The functions that the laws of this seat reach, in the plain machine's form, and that they are the loaded ones. Printed by a program of this seat's own (gencode.py). No condition of its own. -/
import Derived.Test.YtobaghbjaaaenaaProg
import Derived.Test.YtobaghbjaaaenaaAbs3
import Derived.Test.YtobaghbjaaaenaaEval
import Derived.KernelRfl
namespace Go.Proofs.Ytobaghbjaaaenaa.Abs
set_option linter.unusedVariables false
set_option maxRecDepth 100000
/-- futtock/futtocklaw18.VmqPlays -/
def d3_0 : List AOper := [
  ⟨(some 2), none, (.val (.c (.b false)))⟩]
theorem r3_0 {fn : AFun} {K : List AItem} {t : Nat → AV} {H : AH} {T : Tbl} : runR T fn (.code (.reg d3_0) :: K) t H = regR T fn K (aops (callR T) [
  ⟨(some 2), none, (.val (.c (.b false)))⟩] t H) := runR_reg'
def d3_1 : List AOper := [
  ⟨(some 20), none, (.call 7 [])⟩,
  ⟨(some 3), none, (.val (.t 20))⟩]
theorem r3_1 {fn : AFun} {K : List AItem} {t : Nat → AV} {H : AH} {T : Tbl} : runR T fn (.code (.reg d3_1) :: K) t H = regR T fn K (aops (callR T) [
  ⟨(some 20), none, (.call 7 [])⟩,
  ⟨(some 3), none, (.val (.t 20))⟩] t H) := runR_reg'
def d3_2 : List AOper := [
  ⟨(some 4), none, (.alloc [(.sl none 0 0 true 0)])⟩]
theorem r3_2 {fn : AFun} {K : List AItem} {t : Nat → AV} {H : AH} {T : Tbl} : runR T fn (.code (.reg d3_2) :: K) t H = regR T fn K (aops (callR T) [
  ⟨(some 4), none, (.alloc [(.sl none 0 0 true 0)])⟩] t H) := runR_reg'
def d3_3 : List AOper := [
  ⟨(some 21), none, (.val (.t 3))⟩,
  ⟨(some 22), none, (.eqn 0 false (.t 21) (.c (.p none)))⟩]
theorem r3_3 {fn : AFun} {K : List AItem} {t : Nat → AV} {H : AH} {T : Tbl} : runR T fn (.code (.reg d3_3) :: K) t H = regR T fn K (aops (callR T) [
  ⟨(some 21), none, (.val (.t 3))⟩,
  ⟨(some 22), none, (.eqn 0 false (.t 21) (.c (.p none)))⟩] t H) := runR_reg'
def d3_4 : List AOper := [
  ⟨(some 2), none, (.val (.c (.b false)))⟩]
theorem r3_4 {fn : AFun} {K : List AItem} {t : Nat → AV} {H : AH} {T : Tbl} : runR T fn (.code (.reg d3_4) :: K) t H = regR T fn K (aops (callR T) [
  ⟨(some 2), none, (.val (.c (.b false)))⟩] t H) := runR_reg'
def d3_5 : List AOper := [
  ⟨(some 23), none, (.val (.t 0))⟩,
  ⟨(some 24), none, (.call 8 [(.t 23)])⟩,
  ⟨(some 25), none, (.len (.t 24))⟩,
  ⟨(some 26), none, (.val (.c (.i .i64 0)))⟩]
theorem r3_5 {fn : AFun} {K : List AItem} {t : Nat → AV} {H : AH} {T : Tbl} : runR T fn (.code (.reg d3_5) :: K) t H = regR T fn K (aops (callR T) [
  ⟨(some 23), none, (.val (.t 0))⟩,
  ⟨(some 24), none, (.call 8 [(.t 23)])⟩,
  ⟨(some 25), none, (.len (.t 24))⟩,
  ⟨(some 26), none, (.val (.c (.i .i64 0)))⟩] t H) := runR_reg'
def d3_6 : List AOper := [
  ⟨(some 27), none, (.bin .lss (.t 26) (.t 25))⟩]
theorem r3_6 {fn : AFun} {K : List AItem} {t : Nat → AV} {H : AH} {T : Tbl} : runR T fn (.code (.reg d3_6) :: K) t H = regR T fn K (aops (callR T) [
  ⟨(some 27), none, (.bin .lss (.t 26) (.t 25))⟩] t H) := runR_reg'
def d3_7 : List AOper := [
  ⟨(some 28), none, (.ia 4 (.t 24) (.t 26))⟩,
  ⟨(some 29), none, (.ld (some 4) (.t 28))⟩,
  ⟨(some 6), none, (.alloc [(.i .u8 0), (.i .i64 0), (.i .i64 0), (.i .i64 0)])⟩,
  ⟨none, none, (.st 4 (.t 6) (.t 29))⟩]
theorem r3_7 {fn : AFun} {K : List AItem} {t : Nat → AV} {H : AH} {T : Tbl} : runR T fn (.code (.reg d3_7) :: K) t H = regR T fn K (aops (callR T) [
  ⟨(some 28), none, (.ia 4 (.t 24) (.t 26))⟩,
  ⟨(some 29), none, (.ld (some 4) (.t 28))⟩,
  ⟨(some 6), none, (.alloc [(.i .u8 0), (.i .i64 0), (.i .i64 0), (.i .i64 0)])⟩,
  ⟨none, none, (.st 4 (.t 6) (.t 29))⟩] t H) := runR_reg'
def d3_8 : List AOper := [
  ⟨(some 7), none, (.val (.c (.b false)))⟩]
theorem r3_8 {fn : AFun} {K : List AItem} {t : Nat → AV} {H : AH} {T : Tbl} : runR T fn (.code (.reg d3_8) :: K) t H = regR T fn K (aops (callR T) [
  ⟨(some 7), none, (.val (.c (.b false)))⟩] t H) := runR_reg'
def d3_9 : List AOper := [
  ⟨(some 30), none, (.fa 0 (.t 6))⟩,
  ⟨(some 31), none, (.ld none (.t 30))⟩,
  ⟨(some 32), none, (.bin .rem (.t 31) (.c (.i .u8 3)))⟩,
  ⟨(some 33), none, (.bin .eql (.t 32) (.c (.i .u8 1)))⟩]
theorem r3_9 {fn : AFun} {K : List AItem} {t : Nat → AV} {H : AH} {T : Tbl} : runR T fn (.code (.reg d3_9) :: K) t H = regR T fn K (aops (callR T) [
  ⟨(some 30), none, (.fa 0 (.t 6))⟩,
  ⟨(some 31), none, (.ld none (.t 30))⟩,
  ⟨(some 32), none, (.bin .rem (.t 31) (.c (.i .u8 3)))⟩,
  ⟨(some 33), none, (.bin .eql (.t 32) (.c (.i .u8 1)))⟩] t H) := runR_reg'
def d3_10 : List AOper := [
  ⟨(some 35), none, (.val (.t 3))⟩,
  ⟨(some 36), none, (.call 9 [(.t 35)])⟩,
  ⟨(some 34), none, (.val (.t 36))⟩,
  ⟨(some 37), none, (.ext (.t 34) 0)⟩,
  ⟨(some 38), none, (.ext (.t 34) 1)⟩,
  ⟨(some 39), none, (.ext (.t 34) 2)⟩,
  ⟨(some 8), none, (.alloc [(.i .i64 0), (.i .i64 0)])⟩,
  ⟨none, none, (.st 2 (.t 8) (.t 37))⟩,
  ⟨(some 9), none, (.val (.t 38))⟩,
  ⟨(some 10), none, (.val (.t 39))⟩]
theorem r3_10 {fn : AFun} {K : List AItem} {t : Nat → AV} {H : AH} {T : Tbl} : runR T fn (.code (.reg d3_10) :: K) t H = regR T fn K (aops (callR T) [
  ⟨(some 35), none, (.val (.t 3))⟩,
  ⟨(some 36), none, (.call 9 [(.t 35)])⟩,
  ⟨(some 34), none, (.val (.t 36))⟩,
  ⟨(some 37), none, (.ext (.t 34) 0)⟩,
  ⟨(some 38), none, (.ext (.t 34) 1)⟩,
  ⟨(some 39), none, (.ext (.t 34) 2)⟩,
  ⟨(some 8), none, (.alloc [(.i .i64 0), (.i .i64 0)])⟩,
  ⟨none, none, (.st 2 (.t 8) (.t 37))⟩,
  ⟨(some 9), none, (.val (.t 38))⟩,
  ⟨(some 10), none, (.val (.t 39))⟩] t H) := runR_reg'
def d3_11 : List AOper := [
  ⟨(some 41), none, (.call 10 [(.t 4)])⟩,
  ⟨(some 40), none, (.val (.t 41))⟩,
  ⟨(some 42), none, (.ext (.t 40) 0)⟩,
  ⟨(some 43), none, (.ext (.t 40) 1)⟩,
  ⟨(some 11), none, (.alloc [(.i .i64 0), (.i .i64 0), (.sl none 0 0 true 0)])⟩,
  ⟨none, none, (.st 3 (.t 11) (.t 42))⟩,
  ⟨(some 12), none, (.val (.t 43))⟩]
theorem r3_11 {fn : AFun} {K : List AItem} {t : Nat → AV} {H : AH} {T : Tbl} : runR T fn (.code (.reg d3_11) :: K) t H = regR T fn K (aops (callR T) [
  ⟨(some 41), none, (.call 10 [(.t 4)])⟩,
  ⟨(some 40), none, (.val (.t 41))⟩,
  ⟨(some 42), none, (.ext (.t 40) 0)⟩,
  ⟨(some 43), none, (.ext (.t 40) 1)⟩,
  ⟨(some 11), none, (.alloc [(.i .i64 0), (.i .i64 0), (.sl none 0 0 true 0)])⟩,
  ⟨none, none, (.st 3 (.t 11) (.t 42))⟩,
  ⟨(some 12), none, (.val (.t 43))⟩] t H) := runR_reg'
def d3_12 : List AOper := [
  ⟨(some 44), none, (.fa 0 (.t 8))⟩,
  ⟨(some 45), none, (.ld none (.t 44))⟩,
  ⟨(some 46), none, (.fa 1 (.t 8))⟩,
  ⟨(some 47), none, (.ld none (.t 46))⟩,
  ⟨(some 48), none, (.build [(.i .i64 0), (.i .i64 0)] [(0, 1, (.t 45)), (1, 1, (.t 47))])⟩,
  ⟨(some 49), none, (.fa 0 (.t 11))⟩,
  ⟨(some 50), none, (.ld (some 2) (.t 49))⟩,
  ⟨(some 51), none, (.eqc [0, 0] false (.t 48) (.t 50))⟩,
  ⟨(some 52), none, (.val (.t 51))⟩,
  ⟨(some 53), (some (52, true)), (.val (.t 9))⟩,
  ⟨(some 54), (some (52, true)), (.fa 2 (.t 11))⟩,
  ⟨(some 55), (some (52, true)), (.ld none (.t 54))⟩,
  ⟨(some 56), (some (52, true)), (.call 11 [(.t 53), (.t 55)])⟩,
  ⟨(some 57), none, (.pick (.t 52) (.t 56) (.c (.b false)))⟩,
  ⟨(some 58), none, (.val (.t 57))⟩,
  ⟨(some 59), (some (58, true)), (.val (.t 10))⟩,
  ⟨(some 60), (some (58, true)), (.val (.t 12))⟩,
  ⟨(some 61), (some (58, true)), (.eqb false (.t 59) (.t 60))⟩,
  ⟨(some 62), none, (.pick (.t 58) (.t 61) (.c (.b false)))⟩,
  ⟨(some 7), none, (.val (.t 62))⟩]
theorem r3_12 {fn : AFun} {K : List AItem} {t : Nat → AV} {H : AH} {T : Tbl} : runR T fn (.code (.reg d3_12) :: K) t H = regR T fn K (aops (callR T) [
  ⟨(some 44), none, (.fa 0 (.t 8))⟩,
  ⟨(some 45), none, (.ld none (.t 44))⟩,
  ⟨(some 46), none, (.fa 1 (.t 8))⟩,
  ⟨(some 47), none, (.ld none (.t 46))⟩,
  ⟨(some 48), none, (.build [(.i .i64 0), (.i .i64 0)] [(0, 1, (.t 45)), (1, 1, (.t 47))])⟩,
  ⟨(some 49), none, (.fa 0 (.t 11))⟩,
  ⟨(some 50), none, (.ld (some 2) (.t 49))⟩,
  ⟨(some 51), none, (.eqc [0, 0] false (.t 48) (.t 50))⟩,
  ⟨(some 52), none, (.val (.t 51))⟩,
  ⟨(some 53), (some (52, true)), (.val (.t 9))⟩,
  ⟨(some 54), (some (52, true)), (.fa 2 (.t 11))⟩,
  ⟨(some 55), (some (52, true)), (.ld none (.t 54))⟩,
  ⟨(some 56), (some (52, true)), (.call 11 [(.t 53), (.t 55)])⟩,
  ⟨(some 57), none, (.pick (.t 52) (.t 56) (.c (.b false)))⟩,
  ⟨(some 58), none, (.val (.t 57))⟩,
  ⟨(some 59), (some (58, true)), (.val (.t 10))⟩,
  ⟨(some 60), (some (58, true)), (.val (.t 12))⟩,
  ⟨(some 61), (some (58, true)), (.eqb false (.t 59) (.t 60))⟩,
  ⟨(some 62), none, (.pick (.t 58) (.t 61) (.c (.b false)))⟩,
  ⟨(some 7), none, (.val (.t 62))⟩] t H) := runR_reg'
def d3_13 : List AOper := [
  ⟨(some 64), none, (.val (.t 3))⟩,
  ⟨(some 65), none, (.fa 1 (.t 6))⟩,
  ⟨(some 66), none, (.fa 0 (.t 65))⟩,
  ⟨(some 67), none, (.ld none (.t 66))⟩,
  ⟨(some 68), none, (.fa 1 (.t 6))⟩,
  ⟨(some 69), none, (.fa 1 (.t 68))⟩,
  ⟨(some 70), none, (.ld none (.t 69))⟩,
  ⟨(some 71), none, (.build [(.i .i64 0), (.i .i64 0)] [(0, 1, (.t 67)), (1, 1, (.t 70))])⟩,
  ⟨(some 72), none, (.fa 3 (.t 6))⟩,
  ⟨(some 73), none, (.ld none (.t 72))⟩,
  ⟨(some 74), none, (.call 12 [(.t 64), (.t 71), (.t 73)])⟩,
  ⟨(some 63), none, (.val (.t 74))⟩,
  ⟨(some 75), none, (.ext (.t 63) 0)⟩,
  ⟨(some 76), none, (.ext (.t 63) 1)⟩,
  ⟨(some 13), none, (.val (.t 75))⟩,
  ⟨(some 14), none, (.val (.t 76))⟩]
theorem r3_13 {fn : AFun} {K : List AItem} {t : Nat → AV} {H : AH} {T : Tbl} : runR T fn (.code (.reg d3_13) :: K) t H = regR T fn K (aops (callR T) [
  ⟨(some 64), none, (.val (.t 3))⟩,
  ⟨(some 65), none, (.fa 1 (.t 6))⟩,
  ⟨(some 66), none, (.fa 0 (.t 65))⟩,
  ⟨(some 67), none, (.ld none (.t 66))⟩,
  ⟨(some 68), none, (.fa 1 (.t 6))⟩,
  ⟨(some 69), none, (.fa 1 (.t 68))⟩,
  ⟨(some 70), none, (.ld none (.t 69))⟩,
  ⟨(some 71), none, (.build [(.i .i64 0), (.i .i64 0)] [(0, 1, (.t 67)), (1, 1, (.t 70))])⟩,
  ⟨(some 72), none, (.fa 3 (.t 6))⟩,
  ⟨(some 73), none, (.ld none (.t 72))⟩,
  ⟨(some 74), none, (.call 12 [(.t 64), (.t 71), (.t 73)])⟩,
  ⟨(some 63), none, (.val (.t 74))⟩,
  ⟨(some 75), none, (.ext (.t 63) 0)⟩,
  ⟨(some 76), none, (.ext (.t 63) 1)⟩,
  ⟨(some 13), none, (.val (.t 75))⟩,
  ⟨(some 14), none, (.val (.t 76))⟩] t H) := runR_reg'
def d3_14 : List AOper := [
  ⟨(some 78), none, (.fa 1 (.t 6))⟩,
  ⟨(some 79), none, (.ld (some 2) (.t 78))⟩,
  ⟨(some 80), none, (.fa 3 (.t 6))⟩,
  ⟨(some 81), none, (.ld none (.t 80))⟩,
  ⟨(some 82), none, (.call 13 [(.t 4), (.t 79), (.t 81)])⟩,
  ⟨(some 77), none, (.val (.t 82))⟩,
  ⟨(some 83), none, (.ext (.t 77) 0)⟩,
  ⟨(some 84), none, (.ext (.t 77) 1)⟩,
  ⟨(some 15), none, (.val (.t 83))⟩,
  ⟨(some 16), none, (.val (.t 84))⟩]
theorem r3_14 {fn : AFun} {K : List AItem} {t : Nat → AV} {H : AH} {T : Tbl} : runR T fn (.code (.reg d3_14) :: K) t H = regR T fn K (aops (callR T) [
  ⟨(some 78), none, (.fa 1 (.t 6))⟩,
  ⟨(some 79), none, (.ld (some 2) (.t 78))⟩,
  ⟨(some 80), none, (.fa 3 (.t 6))⟩,
  ⟨(some 81), none, (.ld none (.t 80))⟩,
  ⟨(some 82), none, (.call 13 [(.t 4), (.t 79), (.t 81)])⟩,
  ⟨(some 77), none, (.val (.t 82))⟩,
  ⟨(some 83), none, (.ext (.t 77) 0)⟩,
  ⟨(some 84), none, (.ext (.t 77) 1)⟩,
  ⟨(some 15), none, (.val (.t 83))⟩,
  ⟨(some 16), none, (.val (.t 84))⟩] t H) := runR_reg'
def d3_15 : List AOper := [
  ⟨(some 85), none, (.val (.t 13))⟩,
  ⟨(some 86), none, (.val (.t 15))⟩,
  ⟨(some 87), none, (.eqb false (.t 85) (.t 86))⟩,
  ⟨(some 88), none, (.val (.t 87))⟩,
  ⟨(some 89), (some (88, true)), (.val (.t 14))⟩,
  ⟨(some 90), (some (88, true)), (.val (.t 16))⟩,
  ⟨(some 91), (some (88, true)), (.bin .eql (.t 89) (.t 90))⟩,
  ⟨(some 92), none, (.pick (.t 88) (.t 91) (.c (.b false)))⟩,
  ⟨(some 7), none, (.val (.t 92))⟩]
theorem r3_15 {fn : AFun} {K : List AItem} {t : Nat → AV} {H : AH} {T : Tbl} : runR T fn (.code (.reg d3_15) :: K) t H = regR T fn K (aops (callR T) [
  ⟨(some 85), none, (.val (.t 13))⟩,
  ⟨(some 86), none, (.val (.t 15))⟩,
  ⟨(some 87), none, (.eqb false (.t 85) (.t 86))⟩,
  ⟨(some 88), none, (.val (.t 87))⟩,
  ⟨(some 89), (some (88, true)), (.val (.t 14))⟩,
  ⟨(some 90), (some (88, true)), (.val (.t 16))⟩,
  ⟨(some 91), (some (88, true)), (.bin .eql (.t 89) (.t 90))⟩,
  ⟨(some 92), none, (.pick (.t 88) (.t 91) (.c (.b false)))⟩,
  ⟨(some 7), none, (.val (.t 92))⟩] t H) := runR_reg'
def d3_16 : List AOper := [
  ⟨(some 93), none, (.val (.t 3))⟩,
  ⟨(some 94), none, (.call 14 [(.t 93)])⟩,
  ⟨(some 17), none, (.val (.t 94))⟩]
theorem r3_16 {fn : AFun} {K : List AItem} {t : Nat → AV} {H : AH} {T : Tbl} : runR T fn (.code (.reg d3_16) :: K) t H = regR T fn K (aops (callR T) [
  ⟨(some 93), none, (.val (.t 3))⟩,
  ⟨(some 94), none, (.call 14 [(.t 93)])⟩,
  ⟨(some 17), none, (.val (.t 94))⟩] t H) := runR_reg'
def d3_17 : List (AOper × List Nat) := [
  (⟨(some 95), none, (.val (.t 7))⟩, []),
  (⟨(some 96), none, (.un .not (.t 95))⟩, []),
  (⟨(some 97), none, (.val (.t 96))⟩, []),
  (⟨(some 98), (some (97, false)), (.val (.t 3))⟩, []),
  (⟨(some 99), (some (97, false)), (.fa 3 (.t 6))⟩, []),
  (⟨(some 100), (some (97, false)), (.ld none (.t 99))⟩, [1]),
  (⟨(some 101), (some (97, false)), (.call 15 [(.t 98), (.t 100)])⟩, []),
  (⟨(some 102), (some (97, false)), (.fa 3 (.t 6))⟩, []),
  (⟨(some 103), (some (97, false)), (.ld none (.t 102))⟩, [2]),
  (⟨(some 104), (some (97, false)), (.call 16 [(.t 4), (.t 103)])⟩, []),
  (⟨(some 105), (some (97, false)), (.eqb true (.t 101) (.t 104))⟩, []),
  (⟨(some 106), none, (.pick (.t 97) (.c (.b true)) (.t 105))⟩, []),
  (⟨(some 107), none, (.val (.t 106))⟩, []),
  (⟨(some 108), (some (107, false)), (.val (.t 3))⟩, []),
  (⟨(some 109), (some (107, false)), (.call 17 [(.t 108)])⟩, []),
  (⟨(some 110), (some (107, false)), (.fa 0 (.t 4))⟩, []),
  (⟨(some 111), (some (107, false)), (.ld none (.t 110))⟩, [2]),
  (⟨(some 112), (some (107, false)), (.len (.t 111))⟩, []),
  (⟨(some 113), (some (107, false)), (.bin .neq (.t 109) (.t 112))⟩, []),
  (⟨(some 114), none, (.pick (.t 107) (.c (.b true)) (.t 113))⟩, []),
  (⟨(some 115), none, (.val (.t 114))⟩, []),
  (⟨(some 116), (some (115, false)), (.val (.t 17))⟩, []),
  (⟨(some 117), (some (115, false)), (.len (.t 116))⟩, []),
  (⟨(some 118), (some (115, false)), (.fa 0 (.t 4))⟩, []),
  (⟨(some 119), (some (115, false)), (.ld none (.t 118))⟩, [1]),
  (⟨(some 120), (some (115, false)), (.len (.t 119))⟩, []),
  (⟨(some 121), (some (115, false)), (.bin .neq (.t 117) (.t 120))⟩, []),
  (⟨(some 122), none, (.pick (.t 115) (.c (.b true)) (.t 121))⟩, [])]
theorem r3_17 {fn : AFun} {K : List AItem} {t : Nat → AV} {H : AH} {T : Tbl} : runR T fn (.code (.drw d3_17) :: K) t H = regR T fn K (adrn (callR T) [
  (⟨(some 95), none, (.val (.t 7))⟩, []),
  (⟨(some 96), none, (.un .not (.t 95))⟩, []),
  (⟨(some 97), none, (.val (.t 96))⟩, []),
  (⟨(some 98), (some (97, false)), (.val (.t 3))⟩, []),
  (⟨(some 99), (some (97, false)), (.fa 3 (.t 6))⟩, []),
  (⟨(some 100), (some (97, false)), (.ld none (.t 99))⟩, [1]),
  (⟨(some 101), (some (97, false)), (.call 15 [(.t 98), (.t 100)])⟩, []),
  (⟨(some 102), (some (97, false)), (.fa 3 (.t 6))⟩, []),
  (⟨(some 103), (some (97, false)), (.ld none (.t 102))⟩, [2]),
  (⟨(some 104), (some (97, false)), (.call 16 [(.t 4), (.t 103)])⟩, []),
  (⟨(some 105), (some (97, false)), (.eqb true (.t 101) (.t 104))⟩, []),
  (⟨(some 106), none, (.pick (.t 97) (.c (.b true)) (.t 105))⟩, []),
  (⟨(some 107), none, (.val (.t 106))⟩, []),
  (⟨(some 108), (some (107, false)), (.val (.t 3))⟩, []),
  (⟨(some 109), (some (107, false)), (.call 17 [(.t 108)])⟩, []),
  (⟨(some 110), (some (107, false)), (.fa 0 (.t 4))⟩, []),
  (⟨(some 111), (some (107, false)), (.ld none (.t 110))⟩, [2]),
  (⟨(some 112), (some (107, false)), (.len (.t 111))⟩, []),
  (⟨(some 113), (some (107, false)), (.bin .neq (.t 109) (.t 112))⟩, []),
  (⟨(some 114), none, (.pick (.t 107) (.c (.b true)) (.t 113))⟩, []),
  (⟨(some 115), none, (.val (.t 114))⟩, []),
  (⟨(some 116), (some (115, false)), (.val (.t 17))⟩, []),
  (⟨(some 117), (some (115, false)), (.len (.t 116))⟩, []),
  (⟨(some 118), (some (115, false)), (.fa 0 (.t 4))⟩, []),
  (⟨(some 119), (some (115, false)), (.ld none (.t 118))⟩, [1]),
  (⟨(some 120), (some (115, false)), (.len (.t 119))⟩, []),
  (⟨(some 121), (some (115, false)), (.bin .neq (.t 117) (.t 120))⟩, []),
  (⟨(some 122), none, (.pick (.t 115) (.c (.b true)) (.t 121))⟩, [])] t H [H]) := runR_free rfl
def d3_18 : List AOper := [
  ⟨(some 2), none, (.val (.c (.b false)))⟩]
theorem r3_18 {fn : AFun} {K : List AItem} {t : Nat → AV} {H : AH} {T : Tbl} : runR T fn (.code (.reg d3_18) :: K) t H = regR T fn K (aops (callR T) [
  ⟨(some 2), none, (.val (.c (.b false)))⟩] t H) := runR_reg'
def d3_19 : List AOper := [
  ⟨(some 123), none, (.fa 0 (.t 4))⟩,
  ⟨(some 124), none, (.ld none (.t 123))⟩,
  ⟨(some 125), none, (.len (.t 124))⟩,
  ⟨(some 126), none, (.val (.c (.i .i64 0)))⟩]
theorem r3_19 {fn : AFun} {K : List AItem} {t : Nat → AV} {H : AH} {T : Tbl} : runR T fn (.code (.reg d3_19) :: K) t H = regR T fn K (aops (callR T) [
  ⟨(some 123), none, (.fa 0 (.t 4))⟩,
  ⟨(some 124), none, (.ld none (.t 123))⟩,
  ⟨(some 125), none, (.len (.t 124))⟩,
  ⟨(some 126), none, (.val (.c (.i .i64 0)))⟩] t H) := runR_reg'
def d3_20 : List AOper := [
  ⟨(some 127), none, (.bin .lss (.t 126) (.t 125))⟩]
theorem r3_20 {fn : AFun} {K : List AItem} {t : Nat → AV} {H : AH} {T : Tbl} : runR T fn (.code (.reg d3_20) :: K) t H = regR T fn K (aops (callR T) [
  ⟨(some 127), none, (.bin .lss (.t 126) (.t 125))⟩] t H) := runR_reg'
def d3_21 : List AOper := [
  ⟨(some 128), none, (.val (.t 126))⟩,
  ⟨(some 129), none, (.ia 3 (.t 124) (.t 126))⟩,
  ⟨(some 130), none, (.ld (some 3) (.t 129))⟩,
  ⟨(some 19), none, (.alloc [(.i .i64 0), (.i .i64 0), (.sl none 0 0 true 0)])⟩,
  ⟨(some 18), none, (.val (.t 128))⟩,
  ⟨none, none, (.st 3 (.t 19) (.t 130))⟩]
theorem r3_21 {fn : AFun} {K : List AItem} {t : Nat → AV} {H : AH} {T : Tbl} : runR T fn (.code (.reg d3_21) :: K) t H = regR T fn K (aops (callR T) [
  ⟨(some 128), none, (.val (.t 126))⟩,
  ⟨(some 129), none, (.ia 3 (.t 124) (.t 126))⟩,
  ⟨(some 130), none, (.ld (some 3) (.t 129))⟩,
  ⟨(some 19), none, (.alloc [(.i .i64 0), (.i .i64 0), (.sl none 0 0 true 0)])⟩,
  ⟨(some 18), none, (.val (.t 128))⟩,
  ⟨none, none, (.st 3 (.t 19) (.t 130))⟩] t H) := runR_reg'
def d3_22 : List (AOper × List Nat) := [
  (⟨(some 131), none, (.val (.t 17))⟩, []),
  (⟨(some 132), none, (.val (.t 18))⟩, []),
  (⟨(some 133), none, (.ia 2 (.t 131) (.t 132))⟩, []),
  (⟨(some 134), none, (.fa 0 (.t 133))⟩, []),
  (⟨(some 135), none, (.ld none (.t 134))⟩, [1]),
  (⟨(some 136), none, (.val (.t 17))⟩, []),
  (⟨(some 137), none, (.val (.t 18))⟩, []),
  (⟨(some 138), none, (.ia 2 (.t 136) (.t 137))⟩, []),
  (⟨(some 139), none, (.fa 1 (.t 138))⟩, []),
  (⟨(some 140), none, (.ld none (.t 139))⟩, [1]),
  (⟨(some 141), none, (.build [(.i .i64 0), (.i .i64 0)] [(0, 1, (.t 135)), (1, 1, (.t 140))])⟩, []),
  (⟨(some 142), none, (.fa 0 (.t 19))⟩, []),
  (⟨(some 143), none, (.ld (some 2) (.t 142))⟩, [1]),
  (⟨(some 144), none, (.eqc [0, 0] true (.t 141) (.t 143))⟩, [])]
theorem r3_22 {fn : AFun} {K : List AItem} {t : Nat → AV} {H : AH} {T : Tbl} : runR T fn (.code (.drw d3_22) :: K) t H = regR T fn K (aops (callR T) [
  ⟨(some 131), none, (.val (.t 17))⟩,
  ⟨(some 132), none, (.val (.t 18))⟩,
  ⟨(some 133), none, (.ia 2 (.t 131) (.t 132))⟩,
  ⟨(some 134), none, (.fa 0 (.t 133))⟩,
  ⟨(some 135), none, (.ld none (.t 134))⟩,
  ⟨(some 136), none, (.val (.t 17))⟩,
  ⟨(some 137), none, (.val (.t 18))⟩,
  ⟨(some 138), none, (.ia 2 (.t 136) (.t 137))⟩,
  ⟨(some 139), none, (.fa 1 (.t 138))⟩,
  ⟨(some 140), none, (.ld none (.t 139))⟩,
  ⟨(some 141), none, (.build [(.i .i64 0), (.i .i64 0)] [(0, 1, (.t 135)), (1, 1, (.t 140))])⟩,
  ⟨(some 142), none, (.fa 0 (.t 19))⟩,
  ⟨(some 143), none, (.ld (some 2) (.t 142))⟩,
  ⟨(some 144), none, (.eqc [0, 0] true (.t 141) (.t 143))⟩] t H) := runR_plain rfl
def d3_23 : List AOper := [
  ⟨(some 2), none, (.val (.c (.b false)))⟩]
theorem r3_23 {fn : AFun} {K : List AItem} {t : Nat → AV} {H : AH} {T : Tbl} : runR T fn (.code (.reg d3_23) :: K) t H = regR T fn K (aops (callR T) [
  ⟨(some 2), none, (.val (.c (.b false)))⟩] t H) := runR_reg'
def d3_24 : List AOper := [
  ⟨(some 145), none, (.bin .add (.t 126) (.c (.i .i64 1)))⟩,
  ⟨(some 126), none, (.val (.t 145))⟩]
theorem r3_24 {fn : AFun} {K : List AItem} {t : Nat → AV} {H : AH} {T : Tbl} : runR T fn (.code (.reg d3_24) :: K) t H = regR T fn K (aops (callR T) [
  ⟨(some 145), none, (.bin .add (.t 126) (.c (.i .i64 1)))⟩,
  ⟨(some 126), none, (.val (.t 145))⟩] t H) := runR_reg'
def l3_25 : ACode := (.seq (.reg d3_20) (.seq (.cond (.t 127) .skip (.exit 2)) (.seq (.block 3 (.seq (.reg d3_21) (.seq (.drw d3_22) (.cond (.t 144) (.seq (.reg d3_23) .ret) .skip)))) (.reg d3_24))))
def d3_26 : List AOper := [
  ⟨(some 146), none, (.bin .add (.t 26) (.c (.i .i64 1)))⟩,
  ⟨(some 26), none, (.val (.t 146))⟩]
theorem r3_26 {fn : AFun} {K : List AItem} {t : Nat → AV} {H : AH} {T : Tbl} : runR T fn (.code (.reg d3_26) :: K) t H = regR T fn K (aops (callR T) [
  ⟨(some 146), none, (.bin .add (.t 26) (.c (.i .i64 1)))⟩,
  ⟨(some 26), none, (.val (.t 146))⟩] t H) := runR_reg'
def l3_27 : ACode := (.seq (.reg d3_6) (.seq (.cond (.t 27) .skip (.exit 0)) (.seq (.block 1 (.seq (.reg d3_7) (.seq (.reg d3_8) (.seq (.seq (.reg d3_9) (.cond (.t 33) (.seq (.reg d3_10) (.seq (.reg d3_11) (.reg d3_12))) (.seq (.reg d3_13) (.seq (.reg d3_14) (.reg d3_15))))) (.seq (.reg d3_16) (.seq (.seq (.drw d3_17) (.cond (.t 122) (.seq (.reg d3_18) .ret) .skip)) (.seq (.reg d3_19) (.block 2 (.loop l3_25))))))))) (.reg d3_26))))
def d3_28 : List AOper := [
  ⟨(some 147), none, (.call 18 [])⟩,
  ⟨(some 2), none, (.val (.t 147))⟩]
theorem r3_28 {fn : AFun} {K : List AItem} {t : Nat → AV} {H : AH} {T : Tbl} : runR T fn (.code (.reg d3_28) :: K) t H = regR T fn K (aops (callR T) [
  ⟨(some 147), none, (.call 18 [])⟩,
  ⟨(some 2), none, (.val (.t 147))⟩] t H) := runR_reg'
def a3 : AFun := ⟨148, [(.tmp 2)], (.seq (.reg d3_0) (.seq (.reg d3_1) (.seq (.reg d3_2) (.seq (.seq (.reg d3_3) (.cond (.t 22) (.seq (.reg d3_4) .ret) .skip)) (.seq (.seq (.reg d3_5) (.block 0 (.loop l3_27))) (.seq (.reg d3_28) .ret))))))⟩
theorem a3_ok : cfun Try.prog 3 = some a3 := by kernel_rfl
/-- futtock/futtocklaw18.VmqOnce -/
def d4_0 : List AOper := [
  ⟨(some 2), none, (.val (.c (.b false)))⟩]
theorem r4_0 {fn : AFun} {K : List AItem} {t : Nat → AV} {H : AH} {T : Tbl} : runR T fn (.code (.reg d4_0) :: K) t H = regR T fn K (aops (callR T) [
  ⟨(some 2), none, (.val (.c (.b false)))⟩] t H) := runR_reg'
def d4_1 : List AOper := [
  ⟨(some 14), none, (.call 7 [])⟩,
  ⟨(some 3), none, (.alloc [(.p none)])⟩,
  ⟨none, none, (.st 1 (.t 3) (.t 14))⟩]
theorem r4_1 {fn : AFun} {K : List AItem} {t : Nat → AV} {H : AH} {T : Tbl} : runR T fn (.code (.reg d4_1) :: K) t H = regR T fn K (aops (callR T) [
  ⟨(some 14), none, (.call 7 [])⟩,
  ⟨(some 3), none, (.alloc [(.p none)])⟩,
  ⟨none, none, (.st 1 (.t 3) (.t 14))⟩] t H) := runR_reg'
def d4_2 : List AOper := [
  ⟨(some 15), none, (.ld none (.t 3))⟩,
  ⟨(some 16), none, (.eqn 0 false (.t 15) (.c (.p none)))⟩]
theorem r4_2 {fn : AFun} {K : List AItem} {t : Nat → AV} {H : AH} {T : Tbl} : runR T fn (.code (.reg d4_2) :: K) t H = regR T fn K (aops (callR T) [
  ⟨(some 15), none, (.ld none (.t 3))⟩,
  ⟨(some 16), none, (.eqn 0 false (.t 15) (.c (.p none)))⟩] t H) := runR_reg'
def d4_3 : List AOper := [
  ⟨(some 2), none, (.val (.c (.b false)))⟩]
theorem r4_3 {fn : AFun} {K : List AItem} {t : Nat → AV} {H : AH} {T : Tbl} : runR T fn (.code (.reg d4_3) :: K) t H = regR T fn K (aops (callR T) [
  ⟨(some 2), none, (.val (.c (.b false)))⟩] t H) := runR_reg'
def d4_4 : List AOper := [
  ⟨(some 4), none, (.alloc [(.sl none 0 0 true 0)])⟩]
theorem r4_4 {fn : AFun} {K : List AItem} {t : Nat → AV} {H : AH} {T : Tbl} : runR T fn (.code (.reg d4_4) :: K) t H = regR T fn K (aops (callR T) [
  ⟨(some 4), none, (.alloc [(.sl none 0 0 true 0)])⟩] t H) := runR_reg'
def d4_5 : List AOper := [
  ⟨(some 17), none, .mkm⟩,
  ⟨(some 5), none, (.alloc [(.mp none)])⟩,
  ⟨none, none, (.st 1 (.t 5) (.t 17))⟩]
theorem r4_5 {fn : AFun} {K : List AItem} {t : Nat → AV} {H : AH} {T : Tbl} : runR T fn (.code (.reg d4_5) :: K) t H = regR T fn K (aops (callR T) [
  ⟨(some 17), none, .mkm⟩,
  ⟨(some 5), none, (.alloc [(.mp none)])⟩,
  ⟨none, none, (.st 1 (.t 5) (.t 17))⟩] t H) := runR_reg'
def d4_6 : List AOper := [
  ⟨(some 18), none, (.mkf (.func 19) [] [(.t 3), (.t 4), (.t 5)])⟩,
  ⟨(some 6), none, (.val (.t 18))⟩]
theorem r4_6 {fn : AFun} {K : List AItem} {t : Nat → AV} {H : AH} {T : Tbl} : runR T fn (.code (.reg d4_6) :: K) t H = regR T fn K (aops (callR T) [
  ⟨(some 18), none, (.mkf (.func 19) [] [(.t 3), (.t 4), (.t 5)])⟩,
  ⟨(some 6), none, (.val (.t 18))⟩] t H) := runR_reg'
def d4_7 : List AOper := [
  ⟨(some 19), none, (.val (.t 0))⟩,
  ⟨(some 20), none, (.call 8 [(.t 19)])⟩,
  ⟨(some 21), none, (.len (.t 20))⟩,
  ⟨(some 22), none, (.val (.c (.i .i64 0)))⟩]
theorem r4_7 {fn : AFun} {K : List AItem} {t : Nat → AV} {H : AH} {T : Tbl} : runR T fn (.code (.reg d4_7) :: K) t H = regR T fn K (aops (callR T) [
  ⟨(some 19), none, (.val (.t 0))⟩,
  ⟨(some 20), none, (.call 8 [(.t 19)])⟩,
  ⟨(some 21), none, (.len (.t 20))⟩,
  ⟨(some 22), none, (.val (.c (.i .i64 0)))⟩] t H) := runR_reg'
def d4_8 : List AOper := [
  ⟨(some 23), none, (.bin .lss (.t 22) (.t 21))⟩]
theorem r4_8 {fn : AFun} {K : List AItem} {t : Nat → AV} {H : AH} {T : Tbl} : runR T fn (.code (.reg d4_8) :: K) t H = regR T fn K (aops (callR T) [
  ⟨(some 23), none, (.bin .lss (.t 22) (.t 21))⟩] t H) := runR_reg'
def d4_9 : List AOper := [
  ⟨(some 24), none, (.ia 4 (.t 20) (.t 22))⟩,
  ⟨(some 25), none, (.ld (some 4) (.t 24))⟩,
  ⟨(some 8), none, (.alloc [(.i .u8 0), (.i .i64 0), (.i .i64 0), (.i .i64 0)])⟩,
  ⟨none, none, (.st 4 (.t 8) (.t 25))⟩]
theorem r4_9 {fn : AFun} {K : List AItem} {t : Nat → AV} {H : AH} {T : Tbl} : runR T fn (.code (.reg d4_9) :: K) t H = regR T fn K (aops (callR T) [
  ⟨(some 24), none, (.ia 4 (.t 20) (.t 22))⟩,
  ⟨(some 25), none, (.ld (some 4) (.t 24))⟩,
  ⟨(some 8), none, (.alloc [(.i .u8 0), (.i .i64 0), (.i .i64 0), (.i .i64 0)])⟩,
  ⟨none, none, (.st 4 (.t 8) (.t 25))⟩] t H) := runR_reg'
def d4_10 : List AOper := [
  ⟨(some 26), none, (.fa 0 (.t 8))⟩,
  ⟨(some 27), none, (.ld none (.t 26))⟩,
  ⟨(some 28), none, (.bin .rem (.t 27) (.c (.i .u8 3)))⟩,
  ⟨(some 29), none, (.bin .eql (.t 28) (.c (.i .u8 1)))⟩]
theorem r4_10 {fn : AFun} {K : List AItem} {t : Nat → AV} {H : AH} {T : Tbl} : runR T fn (.code (.reg d4_10) :: K) t H = regR T fn K (aops (callR T) [
  ⟨(some 26), none, (.fa 0 (.t 8))⟩,
  ⟨(some 27), none, (.ld none (.t 26))⟩,
  ⟨(some 28), none, (.bin .rem (.t 27) (.c (.i .u8 3)))⟩,
  ⟨(some 29), none, (.bin .eql (.t 28) (.c (.i .u8 1)))⟩] t H) := runR_reg'
def d4_11 : List AOper := [
  ⟨(some 30), none, (.val (.t 6))⟩,
  ⟨(some 31), none, (.callv (.t 30) [])⟩,
  ⟨(some 32), none, (.un .not (.t 31))⟩]
theorem r4_11 {fn : AFun} {K : List AItem} {t : Nat → AV} {H : AH} {T : Tbl} : runR T fn (.code (.reg d4_11) :: K) t H = regR T fn K (aops (callR T) [
  ⟨(some 30), none, (.val (.t 6))⟩,
  ⟨(some 31), none, (.callv (.t 30) [])⟩,
  ⟨(some 32), none, (.un .not (.t 31))⟩] t H) := runR_reg'
def d4_12 : List AOper := [
  ⟨(some 2), none, (.val (.c (.b false)))⟩]
theorem r4_12 {fn : AFun} {K : List AItem} {t : Nat → AV} {H : AH} {T : Tbl} : runR T fn (.code (.reg d4_12) :: K) t H = regR T fn K (aops (callR T) [
  ⟨(some 2), none, (.val (.c (.b false)))⟩] t H) := runR_reg'
def d4_13 : List AOper := [
  ⟨(some 33), none, (.fa 1 (.t 8))⟩,
  ⟨(some 34), none, (.fa 0 (.t 33))⟩,
  ⟨(some 35), none, (.ld none (.t 34))⟩,
  ⟨(some 36), none, (.fa 1 (.t 8))⟩,
  ⟨(some 37), none, (.fa 1 (.t 36))⟩,
  ⟨(some 38), none, (.ld none (.t 37))⟩,
  ⟨(some 39), none, (.build [(.i .i64 0), (.i .i64 0)] [(0, 1, (.t 35)), (1, 1, (.t 38))])⟩,
  ⟨(some 9), none, (.alloc [(.i .i64 0), (.i .i64 0)])⟩,
  ⟨none, none, (.st 2 (.t 9) (.t 39))⟩]
theorem r4_13 {fn : AFun} {K : List AItem} {t : Nat → AV} {H : AH} {T : Tbl} : runR T fn (.code (.reg d4_13) :: K) t H = regR T fn K (aops (callR T) [
  ⟨(some 33), none, (.fa 1 (.t 8))⟩,
  ⟨(some 34), none, (.fa 0 (.t 33))⟩,
  ⟨(some 35), none, (.ld none (.t 34))⟩,
  ⟨(some 36), none, (.fa 1 (.t 8))⟩,
  ⟨(some 37), none, (.fa 1 (.t 36))⟩,
  ⟨(some 38), none, (.ld none (.t 37))⟩,
  ⟨(some 39), none, (.build [(.i .i64 0), (.i .i64 0)] [(0, 1, (.t 35)), (1, 1, (.t 38))])⟩,
  ⟨(some 9), none, (.alloc [(.i .i64 0), (.i .i64 0)])⟩,
  ⟨none, none, (.st 2 (.t 9) (.t 39))⟩] t H) := runR_reg'
def d4_14 : List AOper := [
  ⟨(some 41), none, (.ld none (.t 3))⟩,
  ⟨(some 42), none, (.ld (some 2) (.t 9))⟩,
  ⟨(some 43), none, (.fa 3 (.t 8))⟩,
  ⟨(some 44), none, (.ld none (.t 43))⟩,
  ⟨(some 45), none, (.call 12 [(.t 41), (.t 42), (.t 44)])⟩,
  ⟨(some 40), none, (.val (.t 45))⟩,
  ⟨(some 46), none, (.ext (.t 40) 0)⟩,
  ⟨(some 47), none, (.ext (.t 40) 1)⟩,
  ⟨(some 10), none, (.val (.t 46))⟩,
  ⟨(some 11), none, (.val (.t 47))⟩]
theorem r4_14 {fn : AFun} {K : List AItem} {t : Nat → AV} {H : AH} {T : Tbl} : runR T fn (.code (.reg d4_14) :: K) t H = regR T fn K (aops (callR T) [
  ⟨(some 41), none, (.ld none (.t 3))⟩,
  ⟨(some 42), none, (.ld (some 2) (.t 9))⟩,
  ⟨(some 43), none, (.fa 3 (.t 8))⟩,
  ⟨(some 44), none, (.ld none (.t 43))⟩,
  ⟨(some 45), none, (.call 12 [(.t 41), (.t 42), (.t 44)])⟩,
  ⟨(some 40), none, (.val (.t 45))⟩,
  ⟨(some 46), none, (.ext (.t 40) 0)⟩,
  ⟨(some 47), none, (.ext (.t 40) 1)⟩,
  ⟨(some 10), none, (.val (.t 46))⟩,
  ⟨(some 11), none, (.val (.t 47))⟩] t H) := runR_reg'
def d4_15 : List AOper := [
  ⟨(some 48), none, (.val (.t 11))⟩,
  ⟨(some 49), none, (.bin .neq (.t 48) (.c (.i .i64 0)))⟩]
theorem r4_15 {fn : AFun} {K : List AItem} {t : Nat → AV} {H : AH} {T : Tbl} : runR T fn (.code (.reg d4_15) :: K) t H = regR T fn K (aops (callR T) [
  ⟨(some 48), none, (.val (.t 11))⟩,
  ⟨(some 49), none, (.bin .neq (.t 48) (.c (.i .i64 0)))⟩] t H) := runR_reg'
def d4_16 : List AOper := [
  ⟨(some 50), none, (.ld none (.t 4))⟩,
  ⟨(some 51), none, (.len (.t 50))⟩,
  ⟨(some 52), none, (.val (.c (.i .i64 0)))⟩]
theorem r4_16 {fn : AFun} {K : List AItem} {t : Nat → AV} {H : AH} {T : Tbl} : runR T fn (.code (.reg d4_16) :: K) t H = regR T fn K (aops (callR T) [
  ⟨(some 50), none, (.ld none (.t 4))⟩,
  ⟨(some 51), none, (.len (.t 50))⟩,
  ⟨(some 52), none, (.val (.c (.i .i64 0)))⟩] t H) := runR_reg'
def d4_17 : List AOper := [
  ⟨(some 53), none, (.bin .lss (.t 52) (.t 51))⟩]
theorem r4_17 {fn : AFun} {K : List AItem} {t : Nat → AV} {H : AH} {T : Tbl} : runR T fn (.code (.reg d4_17) :: K) t H = regR T fn K (aops (callR T) [
  ⟨(some 53), none, (.bin .lss (.t 52) (.t 51))⟩] t H) := runR_reg'
def d4_18 : List AOper := [
  ⟨(some 54), none, (.ia 2 (.t 50) (.t 52))⟩,
  ⟨(some 55), none, (.ld (some 2) (.t 54))⟩,
  ⟨(some 13), none, (.alloc [(.i .i64 0), (.i .i64 0)])⟩,
  ⟨none, none, (.st 2 (.t 13) (.t 55))⟩]
theorem r4_18 {fn : AFun} {K : List AItem} {t : Nat → AV} {H : AH} {T : Tbl} : runR T fn (.code (.reg d4_18) :: K) t H = regR T fn K (aops (callR T) [
  ⟨(some 54), none, (.ia 2 (.t 50) (.t 52))⟩,
  ⟨(some 55), none, (.ld (some 2) (.t 54))⟩,
  ⟨(some 13), none, (.alloc [(.i .i64 0), (.i .i64 0)])⟩,
  ⟨none, none, (.st 2 (.t 13) (.t 55))⟩] t H) := runR_reg'
def d4_19 : List AOper := [
  ⟨(some 56), none, (.ld (some 2) (.t 13))⟩,
  ⟨(some 57), none, (.ld (some 2) (.t 9))⟩,
  ⟨(some 58), none, (.eqc [0, 0] false (.t 56) (.t 57))⟩,
  ⟨(some 59), none, (.val (.t 58))⟩,
  ⟨(some 60), (some (59, true)), (.val (.t 10))⟩,
  ⟨(some 61), none, (.pick (.t 59) (.t 60) (.c (.b false)))⟩]
theorem r4_19 {fn : AFun} {K : List AItem} {t : Nat → AV} {H : AH} {T : Tbl} : runR T fn (.code (.reg d4_19) :: K) t H = regR T fn K (aops (callR T) [
  ⟨(some 56), none, (.ld (some 2) (.t 13))⟩,
  ⟨(some 57), none, (.ld (some 2) (.t 9))⟩,
  ⟨(some 58), none, (.eqc [0, 0] false (.t 56) (.t 57))⟩,
  ⟨(some 59), none, (.val (.t 58))⟩,
  ⟨(some 60), (some (59, true)), (.val (.t 10))⟩,
  ⟨(some 61), none, (.pick (.t 59) (.t 60) (.c (.b false)))⟩] t H) := runR_reg'
def d4_20 : List AOper := [
  ⟨(some 2), none, (.val (.c (.b false)))⟩]
theorem r4_20 {fn : AFun} {K : List AItem} {t : Nat → AV} {H : AH} {T : Tbl} : runR T fn (.code (.reg d4_20) :: K) t H = regR T fn K (aops (callR T) [
  ⟨(some 2), none, (.val (.c (.b false)))⟩] t H) := runR_reg'
def d4_21 : List AOper := [
  ⟨(some 62), none, (.bin .add (.t 52) (.c (.i .i64 1)))⟩,
  ⟨(some 52), none, (.val (.t 62))⟩]
theorem r4_21 {fn : AFun} {K : List AItem} {t : Nat → AV} {H : AH} {T : Tbl} : runR T fn (.code (.reg d4_21) :: K) t H = regR T fn K (aops (callR T) [
  ⟨(some 62), none, (.bin .add (.t 52) (.c (.i .i64 1)))⟩,
  ⟨(some 52), none, (.val (.t 62))⟩] t H) := runR_reg'
def l4_22 : ACode := (.seq (.reg d4_17) (.seq (.cond (.t 53) .skip (.exit 2)) (.seq (.block 3 (.seq (.reg d4_18) (.seq (.reg d4_19) (.cond (.t 61) (.seq (.reg d4_20) .ret) .skip)))) (.reg d4_21))))
def d4_23 : List AOper := [
  ⟨(some 63), none, (.val (.t 10))⟩]
theorem r4_23 {fn : AFun} {K : List AItem} {t : Nat → AV} {H : AH} {T : Tbl} : runR T fn (.code (.reg d4_23) :: K) t H = regR T fn K (aops (callR T) [
  ⟨(some 63), none, (.val (.t 10))⟩] t H) := runR_reg'
def d4_24 : List AOper := [
  ⟨(some 64), none, (.ld none (.t 4))⟩,
  ⟨(some 65), none, (.ld (some 2) (.t 9))⟩,
  ⟨(some 66), none, (.bsl [(.i .i64 0), (.i .i64 0)] 1 [(0, 2, (.t 65))])⟩,
  ⟨(some 67), none, (.app [(.i .i64 0), (.i .i64 0)] 16 (.t 64) (.t 66))⟩,
  ⟨none, none, (.st 1 (.t 4) (.t 67))⟩]
theorem r4_24 {fn : AFun} {K : List AItem} {t : Nat → AV} {H : AH} {T : Tbl} : runR T fn (.code (.reg d4_24) :: K) t H = regR T fn K (aops (callR T) [
  ⟨(some 64), none, (.ld none (.t 4))⟩,
  ⟨(some 65), none, (.ld (some 2) (.t 9))⟩,
  ⟨(some 66), none, (.bsl [(.i .i64 0), (.i .i64 0)] 1 [(0, 2, (.t 65))])⟩,
  ⟨(some 67), none, (.app [(.i .i64 0), (.i .i64 0)] 16 (.t 64) (.t 66))⟩,
  ⟨none, none, (.st 1 (.t 4) (.t 67))⟩] t H) := runR_reg'
def d4_25 : List AOper := [
  ⟨(some 68), none, (.fa 3 (.t 8))⟩,
  ⟨(some 69), none, (.ld none (.t 68))⟩,
  ⟨(some 70), none, (.bin .geq (.t 69) (.c (.i .i64 0)))⟩]
theorem r4_25 {fn : AFun} {K : List AItem} {t : Nat → AV} {H : AH} {T : Tbl} : runR T fn (.code (.reg d4_25) :: K) t H = regR T fn K (aops (callR T) [
  ⟨(some 68), none, (.fa 3 (.t 8))⟩,
  ⟨(some 69), none, (.ld none (.t 68))⟩,
  ⟨(some 70), none, (.bin .geq (.t 69) (.c (.i .i64 0)))⟩] t H) := runR_reg'
def d4_26 : List AOper := [
  ⟨(some 71), none, (.ld none (.t 5))⟩,
  ⟨(some 72), none, (.fa 3 (.t 8))⟩,
  ⟨(some 73), none, (.ld none (.t 72))⟩,
  ⟨(some 74), none, (.ld (some 2) (.t 9))⟩,
  ⟨none, none, (.mu [0] (.t 71) (.t 73) (.t 74))⟩]
theorem r4_26 {fn : AFun} {K : List AItem} {t : Nat → AV} {H : AH} {T : Tbl} : runR T fn (.code (.reg d4_26) :: K) t H = regR T fn K (aops (callR T) [
  ⟨(some 71), none, (.ld none (.t 5))⟩,
  ⟨(some 72), none, (.fa 3 (.t 8))⟩,
  ⟨(some 73), none, (.ld none (.t 72))⟩,
  ⟨(some 74), none, (.ld (some 2) (.t 9))⟩,
  ⟨none, none, (.mu [0] (.t 71) (.t 73) (.t 74))⟩] t H) := runR_reg'
def d4_27 : List AOper := [
  ⟨(some 75), none, (.bin .add (.t 22) (.c (.i .i64 1)))⟩,
  ⟨(some 22), none, (.val (.t 75))⟩]
theorem r4_27 {fn : AFun} {K : List AItem} {t : Nat → AV} {H : AH} {T : Tbl} : runR T fn (.code (.reg d4_27) :: K) t H = regR T fn K (aops (callR T) [
  ⟨(some 75), none, (.bin .add (.t 22) (.c (.i .i64 1)))⟩,
  ⟨(some 22), none, (.val (.t 75))⟩] t H) := runR_reg'
def l4_28 : ACode := (.seq (.reg d4_8) (.seq (.cond (.t 23) .skip (.exit 0)) (.seq (.block 1 (.seq (.reg d4_9) (.seq (.seq (.reg d4_10) (.cond (.t 29) (.seq (.seq (.reg d4_11) (.cond (.t 32) (.seq (.reg d4_12) .ret) .skip)) (.exit 1)) .skip)) (.seq (.reg d4_13) (.seq (.reg d4_14) (.seq (.seq (.reg d4_15) (.cond (.t 49) (.exit 1) .skip)) (.seq (.seq (.reg d4_16) (.block 2 (.loop l4_22))) (.seq (.seq (.reg d4_23) (.cond (.t 63) (.reg d4_24) .skip)) (.seq (.reg d4_25) (.cond (.t 70) (.reg d4_26) .skip)))))))))) (.reg d4_27))))
def d4_29 : List AOper := [
  ⟨(some 76), none, (.ld none (.t 4))⟩,
  ⟨(some 77), none, (.len (.t 76))⟩,
  ⟨(some 78), none, (.bin .add (.t 77) (.c (.i .i64 1)))⟩,
  ⟨(some 79), none, (.val (.c (.i .i64 0)))⟩]
theorem r4_29 {fn : AFun} {K : List AItem} {t : Nat → AV} {H : AH} {T : Tbl} : runR T fn (.code (.reg d4_29) :: K) t H = regR T fn K (aops (callR T) [
  ⟨(some 76), none, (.ld none (.t 4))⟩,
  ⟨(some 77), none, (.len (.t 76))⟩,
  ⟨(some 78), none, (.bin .add (.t 77) (.c (.i .i64 1)))⟩,
  ⟨(some 79), none, (.val (.c (.i .i64 0)))⟩] t H) := runR_reg'
def d4_30 : List AOper := [
  ⟨(some 80), none, (.bin .lss (.t 79) (.t 78))⟩]
theorem r4_30 {fn : AFun} {K : List AItem} {t : Nat → AV} {H : AH} {T : Tbl} : runR T fn (.code (.reg d4_30) :: K) t H = regR T fn K (aops (callR T) [
  ⟨(some 80), none, (.bin .lss (.t 79) (.t 78))⟩] t H) := runR_reg'
def d4_31 : List AOper := [
  ⟨(some 81), none, (.val (.t 6))⟩,
  ⟨(some 82), none, (.callv (.t 81) [])⟩,
  ⟨(some 83), none, (.un .not (.t 82))⟩]
theorem r4_31 {fn : AFun} {K : List AItem} {t : Nat → AV} {H : AH} {T : Tbl} : runR T fn (.code (.reg d4_31) :: K) t H = regR T fn K (aops (callR T) [
  ⟨(some 81), none, (.val (.t 6))⟩,
  ⟨(some 82), none, (.callv (.t 81) [])⟩,
  ⟨(some 83), none, (.un .not (.t 82))⟩] t H) := runR_reg'
def d4_32 : List AOper := [
  ⟨(some 2), none, (.val (.c (.b false)))⟩]
theorem r4_32 {fn : AFun} {K : List AItem} {t : Nat → AV} {H : AH} {T : Tbl} : runR T fn (.code (.reg d4_32) :: K) t H = regR T fn K (aops (callR T) [
  ⟨(some 2), none, (.val (.c (.b false)))⟩] t H) := runR_reg'
def d4_33 : List AOper := [
  ⟨(some 84), none, (.bin .add (.t 79) (.c (.i .i64 1)))⟩,
  ⟨(some 79), none, (.val (.t 84))⟩]
theorem r4_33 {fn : AFun} {K : List AItem} {t : Nat → AV} {H : AH} {T : Tbl} : runR T fn (.code (.reg d4_33) :: K) t H = regR T fn K (aops (callR T) [
  ⟨(some 84), none, (.bin .add (.t 79) (.c (.i .i64 1)))⟩,
  ⟨(some 79), none, (.val (.t 84))⟩] t H) := runR_reg'
def l4_34 : ACode := (.seq (.reg d4_30) (.seq (.cond (.t 80) .skip (.exit 4)) (.seq (.block 5 (.seq (.reg d4_31) (.cond (.t 83) (.seq (.reg d4_32) .ret) .skip))) (.reg d4_33))))
def d4_35 : List AOper := [
  ⟨(some 85), none, (.ld none (.t 4))⟩,
  ⟨(some 86), none, (.len (.t 85))⟩,
  ⟨(some 87), none, (.bin .eql (.t 86) (.c (.i .i64 0)))⟩,
  ⟨(some 88), none, (.val (.t 87))⟩,
  ⟨(some 89), (some (88, true)), (.ld none (.t 5))⟩,
  ⟨(some 90), (some (88, true)), (.lenm (.t 89))⟩,
  ⟨(some 91), (some (88, true)), (.bin .eql (.t 90) (.c (.i .i64 0)))⟩,
  ⟨(some 92), none, (.pick (.t 88) (.t 91) (.c (.b false)))⟩,
  ⟨(some 93), none, (.val (.t 92))⟩,
  ⟨(some 94), (some (93, true)), (.call 18 [])⟩,
  ⟨(some 95), none, (.pick (.t 93) (.t 94) (.c (.b false)))⟩,
  ⟨(some 2), none, (.val (.t 95))⟩]
theorem r4_35 {fn : AFun} {K : List AItem} {t : Nat → AV} {H : AH} {T : Tbl} : runR T fn (.code (.reg d4_35) :: K) t H = regR T fn K (aops (callR T) [
  ⟨(some 85), none, (.ld none (.t 4))⟩,
  ⟨(some 86), none, (.len (.t 85))⟩,
  ⟨(some 87), none, (.bin .eql (.t 86) (.c (.i .i64 0)))⟩,
  ⟨(some 88), none, (.val (.t 87))⟩,
  ⟨(some 89), (some (88, true)), (.ld none (.t 5))⟩,
  ⟨(some 90), (some (88, true)), (.lenm (.t 89))⟩,
  ⟨(some 91), (some (88, true)), (.bin .eql (.t 90) (.c (.i .i64 0)))⟩,
  ⟨(some 92), none, (.pick (.t 88) (.t 91) (.c (.b false)))⟩,
  ⟨(some 93), none, (.val (.t 92))⟩,
  ⟨(some 94), (some (93, true)), (.call 18 [])⟩,
  ⟨(some 95), none, (.pick (.t 93) (.t 94) (.c (.b false)))⟩,
  ⟨(some 2), none, (.val (.t 95))⟩] t H) := runR_reg'
def a4 : AFun := ⟨96, [(.tmp 2)], (.seq (.reg d4_0) (.seq (.reg d4_1) (.seq (.seq (.reg d4_2) (.cond (.t 16) (.seq (.reg d4_3) .ret) .skip)) (.seq (.reg d4_4) (.seq (.reg d4_5) (.seq (.reg d4_6) (.seq (.seq (.reg d4_7) (.block 0 (.loop l4_28))) (.seq (.seq (.reg d4_29) (.block 4 (.loop l4_34))) (.seq (.reg d4_35) .ret)))))))))⟩
theorem a4_ok : cfun Try.prog 4 = some a4 := by kernel_rfl
/-- futtock/futtocklaw18.VmqNobody -/
def d5_0 : List AOper := [
  ⟨(some 1), none, (.box (.t 0))⟩,
  ⟨(some 2), none, (.val (.c (.b false)))⟩]
theorem r5_0 {fn : AFun} {K : List AItem} {t : Nat → AV} {H : AH} {T : Tbl} : runR T fn (.code (.reg d5_0) :: K) t H = regR T fn K (aops (callR T) [
  ⟨(some 1), none, (.box (.t 0))⟩,
  ⟨(some 2), none, (.val (.c (.b false)))⟩] t H) := runR_reg'
def d5_1 : List AOper := [
  ⟨(some 10), none, (.build [(.sl none 0 0 true 0), (.mp none), (.mp none)] [])⟩,
  ⟨(some 11), none, (.box (.t 10))⟩,
  ⟨(some 12), none, (.bsl [(.p none)] 2 [(0, 1, (.c (.p none))), (1, 1, (.t 11))])⟩,
  ⟨(some 13), none, (.len (.t 12))⟩,
  ⟨(some 14), none, (.val (.c (.i .i64 0)))⟩]
theorem r5_1 {fn : AFun} {K : List AItem} {t : Nat → AV} {H : AH} {T : Tbl} : runR T fn (.code (.reg d5_1) :: K) t H = regR T fn K (aops (callR T) [
  ⟨(some 10), none, (.build [(.sl none 0 0 true 0), (.mp none), (.mp none)] [])⟩,
  ⟨(some 11), none, (.box (.t 10))⟩,
  ⟨(some 12), none, (.bsl [(.p none)] 2 [(0, 1, (.c (.p none))), (1, 1, (.t 11))])⟩,
  ⟨(some 13), none, (.len (.t 12))⟩,
  ⟨(some 14), none, (.val (.c (.i .i64 0)))⟩] t H) := runR_reg'
def d5_2 : List AOper := [
  ⟨(some 15), none, (.bin .lss (.t 14) (.t 13))⟩]
theorem r5_2 {fn : AFun} {K : List AItem} {t : Nat → AV} {H : AH} {T : Tbl} : runR T fn (.code (.reg d5_2) :: K) t H = regR T fn K (aops (callR T) [
  ⟨(some 15), none, (.bin .lss (.t 14) (.t 13))⟩] t H) := runR_reg'
def d5_3 : List AOper := [
  ⟨(some 16), none, (.ia 1 (.t 12) (.t 14))⟩,
  ⟨(some 17), none, (.ld none (.t 16))⟩,
  ⟨(some 4), none, (.val (.t 17))⟩]
theorem r5_3 {fn : AFun} {K : List AItem} {t : Nat → AV} {H : AH} {T : Tbl} : runR T fn (.code (.reg d5_3) :: K) t H = regR T fn K (aops (callR T) [
  ⟨(some 16), none, (.ia 1 (.t 12) (.t 14))⟩,
  ⟨(some 17), none, (.ld none (.t 16))⟩,
  ⟨(some 4), none, (.val (.t 17))⟩] t H) := runR_reg'
def d5_4 : List AOper := [
  ⟨(some 19), none, (.val (.t 4))⟩,
  ⟨(some 20), none, (.fa 1 (.t 1))⟩,
  ⟨(some 21), none, (.fa 0 (.t 20))⟩,
  ⟨(some 22), none, (.ld none (.t 21))⟩,
  ⟨(some 23), none, (.fa 1 (.t 1))⟩,
  ⟨(some 24), none, (.fa 1 (.t 23))⟩,
  ⟨(some 25), none, (.ld none (.t 24))⟩,
  ⟨(some 26), none, (.build [(.i .i64 0), (.i .i64 0)] [(0, 1, (.t 22)), (1, 1, (.t 25))])⟩,
  ⟨(some 27), none, (.fa 3 (.t 1))⟩,
  ⟨(some 28), none, (.ld none (.t 27))⟩,
  ⟨(some 29), none, (.call 12 [(.t 19), (.t 26), (.t 28)])⟩,
  ⟨(some 18), none, (.val (.t 29))⟩,
  ⟨(some 30), none, (.ext (.t 18) 0)⟩,
  ⟨(some 31), none, (.ext (.t 18) 1)⟩,
  ⟨(some 5), none, (.val (.t 30))⟩,
  ⟨(some 6), none, (.val (.t 31))⟩]
theorem r5_4 {fn : AFun} {K : List AItem} {t : Nat → AV} {H : AH} {T : Tbl} : runR T fn (.code (.reg d5_4) :: K) t H = regR T fn K (aops (callR T) [
  ⟨(some 19), none, (.val (.t 4))⟩,
  ⟨(some 20), none, (.fa 1 (.t 1))⟩,
  ⟨(some 21), none, (.fa 0 (.t 20))⟩,
  ⟨(some 22), none, (.ld none (.t 21))⟩,
  ⟨(some 23), none, (.fa 1 (.t 1))⟩,
  ⟨(some 24), none, (.fa 1 (.t 23))⟩,
  ⟨(some 25), none, (.ld none (.t 24))⟩,
  ⟨(some 26), none, (.build [(.i .i64 0), (.i .i64 0)] [(0, 1, (.t 22)), (1, 1, (.t 25))])⟩,
  ⟨(some 27), none, (.fa 3 (.t 1))⟩,
  ⟨(some 28), none, (.ld none (.t 27))⟩,
  ⟨(some 29), none, (.call 12 [(.t 19), (.t 26), (.t 28)])⟩,
  ⟨(some 18), none, (.val (.t 29))⟩,
  ⟨(some 30), none, (.ext (.t 18) 0)⟩,
  ⟨(some 31), none, (.ext (.t 18) 1)⟩,
  ⟨(some 5), none, (.val (.t 30))⟩,
  ⟨(some 6), none, (.val (.t 31))⟩] t H) := runR_reg'
def d5_5 : List AOper := [
  ⟨(some 33), none, (.val (.t 4))⟩,
  ⟨(some 34), none, (.call 9 [(.t 33)])⟩,
  ⟨(some 32), none, (.val (.t 34))⟩,
  ⟨(some 35), none, (.ext (.t 32) 0)⟩,
  ⟨(some 36), none, (.ext (.t 32) 1)⟩,
  ⟨(some 37), none, (.ext (.t 32) 2)⟩,
  ⟨(some 7), none, (.alloc [(.i .i64 0), (.i .i64 0)])⟩,
  ⟨none, none, (.st 2 (.t 7) (.t 35))⟩,
  ⟨(some 8), none, (.val (.t 36))⟩,
  ⟨(some 9), none, (.val (.t 37))⟩]
theorem r5_5 {fn : AFun} {K : List AItem} {t : Nat → AV} {H : AH} {T : Tbl} : runR T fn (.code (.reg d5_5) :: K) t H = regR T fn K (aops (callR T) [
  ⟨(some 33), none, (.val (.t 4))⟩,
  ⟨(some 34), none, (.call 9 [(.t 33)])⟩,
  ⟨(some 32), none, (.val (.t 34))⟩,
  ⟨(some 35), none, (.ext (.t 32) 0)⟩,
  ⟨(some 36), none, (.ext (.t 32) 1)⟩,
  ⟨(some 37), none, (.ext (.t 32) 2)⟩,
  ⟨(some 7), none, (.alloc [(.i .i64 0), (.i .i64 0)])⟩,
  ⟨none, none, (.st 2 (.t 7) (.t 35))⟩,
  ⟨(some 8), none, (.val (.t 36))⟩,
  ⟨(some 9), none, (.val (.t 37))⟩] t H) := runR_reg'
def d5_6 : List AOper := [
  ⟨(some 38), none, (.val (.t 5))⟩,
  ⟨(some 39), none, (.val (.t 38))⟩,
  ⟨(some 40), (some (39, false)), (.val (.t 6))⟩,
  ⟨(some 41), (some (39, false)), (.bin .neq (.t 40) (.c (.i .i64 2)))⟩,
  ⟨(some 42), none, (.pick (.t 39) (.c (.b true)) (.t 41))⟩,
  ⟨(some 43), none, (.val (.t 42))⟩,
  ⟨(some 44), (some (43, false)), (.ld (some 2) (.t 7))⟩,
  ⟨(some 45), (some (43, false)), (.build [(.i .i64 0), (.i .i64 0)] [])⟩,
  ⟨(some 46), (some (43, false)), (.eqc [0, 0] true (.t 44) (.t 45))⟩,
  ⟨(some 47), none, (.pick (.t 43) (.c (.b true)) (.t 46))⟩,
  ⟨(some 48), none, (.val (.t 47))⟩,
  ⟨(some 49), (some (48, false)), (.val (.t 8))⟩,
  ⟨(some 50), (some (48, false)), (.len (.t 49))⟩,
  ⟨(some 51), (some (48, false)), (.bin .neq (.t 50) (.c (.i .i64 0)))⟩,
  ⟨(some 52), none, (.pick (.t 48) (.c (.b true)) (.t 51))⟩,
  ⟨(some 53), none, (.val (.t 52))⟩,
  ⟨(some 54), (some (53, false)), (.val (.t 9))⟩,
  ⟨(some 55), none, (.pick (.t 53) (.c (.b true)) (.t 54))⟩,
  ⟨(some 56), none, (.val (.t 55))⟩,
  ⟨(some 57), (some (56, false)), (.val (.t 4))⟩,
  ⟨(some 58), (some (56, false)), (.fa 3 (.t 1))⟩,
  ⟨(some 59), (some (56, false)), (.ld none (.t 58))⟩,
  ⟨(some 60), (some (56, false)), (.call 15 [(.t 57), (.t 59)])⟩,
  ⟨(some 61), none, (.pick (.t 56) (.c (.b true)) (.t 60))⟩,
  ⟨(some 62), none, (.val (.t 61))⟩,
  ⟨(some 63), (some (62, false)), (.val (.t 4))⟩,
  ⟨(some 64), (some (62, false)), (.call 17 [(.t 63)])⟩,
  ⟨(some 65), (some (62, false)), (.val (.t 4))⟩,
  ⟨(some 66), (some (62, false)), (.call 14 [(.t 65)])⟩,
  ⟨(some 67), (some (62, false)), (.len (.t 66))⟩,
  ⟨(some 68), (some (62, false)), (.bin .add (.t 64) (.t 67))⟩,
  ⟨(some 69), (some (62, false)), (.bin .neq (.t 68) (.c (.i .i64 0)))⟩,
  ⟨(some 70), none, (.pick (.t 62) (.c (.b true)) (.t 69))⟩]
theorem r5_6 {fn : AFun} {K : List AItem} {t : Nat → AV} {H : AH} {T : Tbl} : runR T fn (.code (.reg d5_6) :: K) t H = regR T fn K (aops (callR T) [
  ⟨(some 38), none, (.val (.t 5))⟩,
  ⟨(some 39), none, (.val (.t 38))⟩,
  ⟨(some 40), (some (39, false)), (.val (.t 6))⟩,
  ⟨(some 41), (some (39, false)), (.bin .neq (.t 40) (.c (.i .i64 2)))⟩,
  ⟨(some 42), none, (.pick (.t 39) (.c (.b true)) (.t 41))⟩,
  ⟨(some 43), none, (.val (.t 42))⟩,
  ⟨(some 44), (some (43, false)), (.ld (some 2) (.t 7))⟩,
  ⟨(some 45), (some (43, false)), (.build [(.i .i64 0), (.i .i64 0)] [])⟩,
  ⟨(some 46), (some (43, false)), (.eqc [0, 0] true (.t 44) (.t 45))⟩,
  ⟨(some 47), none, (.pick (.t 43) (.c (.b true)) (.t 46))⟩,
  ⟨(some 48), none, (.val (.t 47))⟩,
  ⟨(some 49), (some (48, false)), (.val (.t 8))⟩,
  ⟨(some 50), (some (48, false)), (.len (.t 49))⟩,
  ⟨(some 51), (some (48, false)), (.bin .neq (.t 50) (.c (.i .i64 0)))⟩,
  ⟨(some 52), none, (.pick (.t 48) (.c (.b true)) (.t 51))⟩,
  ⟨(some 53), none, (.val (.t 52))⟩,
  ⟨(some 54), (some (53, false)), (.val (.t 9))⟩,
  ⟨(some 55), none, (.pick (.t 53) (.c (.b true)) (.t 54))⟩,
  ⟨(some 56), none, (.val (.t 55))⟩,
  ⟨(some 57), (some (56, false)), (.val (.t 4))⟩,
  ⟨(some 58), (some (56, false)), (.fa 3 (.t 1))⟩,
  ⟨(some 59), (some (56, false)), (.ld none (.t 58))⟩,
  ⟨(some 60), (some (56, false)), (.call 15 [(.t 57), (.t 59)])⟩,
  ⟨(some 61), none, (.pick (.t 56) (.c (.b true)) (.t 60))⟩,
  ⟨(some 62), none, (.val (.t 61))⟩,
  ⟨(some 63), (some (62, false)), (.val (.t 4))⟩,
  ⟨(some 64), (some (62, false)), (.call 17 [(.t 63)])⟩,
  ⟨(some 65), (some (62, false)), (.val (.t 4))⟩,
  ⟨(some 66), (some (62, false)), (.call 14 [(.t 65)])⟩,
  ⟨(some 67), (some (62, false)), (.len (.t 66))⟩,
  ⟨(some 68), (some (62, false)), (.bin .add (.t 64) (.t 67))⟩,
  ⟨(some 69), (some (62, false)), (.bin .neq (.t 68) (.c (.i .i64 0)))⟩,
  ⟨(some 70), none, (.pick (.t 62) (.c (.b true)) (.t 69))⟩] t H) := runR_reg'
def d5_7 : List AOper := [
  ⟨(some 2), none, (.val (.c (.b false)))⟩]
theorem r5_7 {fn : AFun} {K : List AItem} {t : Nat → AV} {H : AH} {T : Tbl} : runR T fn (.code (.reg d5_7) :: K) t H = regR T fn K (aops (callR T) [
  ⟨(some 2), none, (.val (.c (.b false)))⟩] t H) := runR_reg'
def d5_8 : List AOper := [
  ⟨(some 71), none, (.bin .add (.t 14) (.c (.i .i64 1)))⟩,
  ⟨(some 14), none, (.val (.t 71))⟩]
theorem r5_8 {fn : AFun} {K : List AItem} {t : Nat → AV} {H : AH} {T : Tbl} : runR T fn (.code (.reg d5_8) :: K) t H = regR T fn K (aops (callR T) [
  ⟨(some 71), none, (.bin .add (.t 14) (.c (.i .i64 1)))⟩,
  ⟨(some 14), none, (.val (.t 71))⟩] t H) := runR_reg'
def l5_9 : ACode := (.seq (.reg d5_2) (.seq (.cond (.t 15) .skip (.exit 0)) (.seq (.block 1 (.seq (.reg d5_3) (.seq (.reg d5_4) (.seq (.reg d5_5) (.seq (.reg d5_6) (.cond (.t 70) (.seq (.reg d5_7) .ret) .skip)))))) (.reg d5_8))))
def d5_10 : List AOper := [
  ⟨(some 72), none, (.call 18 [])⟩,
  ⟨(some 2), none, (.val (.t 72))⟩]
theorem r5_10 {fn : AFun} {K : List AItem} {t : Nat → AV} {H : AH} {T : Tbl} : runR T fn (.code (.reg d5_10) :: K) t H = regR T fn K (aops (callR T) [
  ⟨(some 72), none, (.call 18 [])⟩,
  ⟨(some 2), none, (.val (.t 72))⟩] t H) := runR_reg'
def a5 : AFun := ⟨73, [(.tmp 2)], (.seq (.reg d5_0) (.seq (.seq (.reg d5_1) (.block 0 (.loop l5_9))) (.seq (.reg d5_10) .ret)))⟩
theorem a5_ok : cfun Try.prog 5 = some a5 := by kernel_rfl
/-- futtock/futtocklaw18.VmqRooms -/
def d6_0 : List AOper := [
  ⟨(some 4), none, (.val (.c (.b false)))⟩]
theorem r6_0 {fn : AFun} {K : List AItem} {t : Nat → AV} {H : AH} {T : Tbl} : runR T fn (.code (.reg d6_0) :: K) t H = regR T fn K (aops (callR T) [
  ⟨(some 4), none, (.val (.c (.b false)))⟩] t H) := runR_reg'
def d6_1 : List AOper := [
  ⟨(some 15), none, (.call 7 [])⟩,
  ⟨(some 5), none, (.val (.t 15))⟩]
theorem r6_1 {fn : AFun} {K : List AItem} {t : Nat → AV} {H : AH} {T : Tbl} : runR T fn (.code (.reg d6_1) :: K) t H = regR T fn K (aops (callR T) [
  ⟨(some 15), none, (.call 7 [])⟩,
  ⟨(some 5), none, (.val (.t 15))⟩] t H) := runR_reg'
def d6_2 : List AOper := [
  ⟨(some 16), none, (.val (.t 5))⟩,
  ⟨(some 17), none, (.eqn 0 false (.t 16) (.c (.p none)))⟩]
theorem r6_2 {fn : AFun} {K : List AItem} {t : Nat → AV} {H : AH} {T : Tbl} : runR T fn (.code (.reg d6_2) :: K) t H = regR T fn K (aops (callR T) [
  ⟨(some 16), none, (.val (.t 5))⟩,
  ⟨(some 17), none, (.eqn 0 false (.t 16) (.c (.p none)))⟩] t H) := runR_reg'
def d6_3 : List AOper := [
  ⟨(some 4), none, (.val (.c (.b false)))⟩]
theorem r6_3 {fn : AFun} {K : List AItem} {t : Nat → AV} {H : AH} {T : Tbl} : runR T fn (.code (.reg d6_3) :: K) t H = regR T fn K (aops (callR T) [
  ⟨(some 4), none, (.val (.c (.b false)))⟩] t H) := runR_reg'
def d6_4 : List AOper := [
  ⟨(some 18), none, (.val (.t 1))⟩,
  ⟨(some 19), none, (.cvi .i64 (.t 18))⟩,
  ⟨(some 20), none, (.bin .rem (.t 19) (.c (.i .i64 400)))⟩,
  ⟨(some 21), none, (.val (.c (.i .i64 0)))⟩]
theorem r6_4 {fn : AFun} {K : List AItem} {t : Nat → AV} {H : AH} {T : Tbl} : runR T fn (.code (.reg d6_4) :: K) t H = regR T fn K (aops (callR T) [
  ⟨(some 18), none, (.val (.t 1))⟩,
  ⟨(some 19), none, (.cvi .i64 (.t 18))⟩,
  ⟨(some 20), none, (.bin .rem (.t 19) (.c (.i .i64 400)))⟩,
  ⟨(some 21), none, (.val (.c (.i .i64 0)))⟩] t H) := runR_reg'
def d6_5 : List AOper := [
  ⟨(some 22), none, (.bin .lss (.t 21) (.t 20))⟩]
theorem r6_5 {fn : AFun} {K : List AItem} {t : Nat → AV} {H : AH} {T : Tbl} : runR T fn (.code (.reg d6_5) :: K) t H = regR T fn K (aops (callR T) [
  ⟨(some 22), none, (.bin .lss (.t 21) (.t 20))⟩] t H) := runR_reg'
def d6_6 : List AOper := [
  ⟨(some 23), none, (.val (.t 21))⟩,
  ⟨(some 6), none, (.val (.t 23))⟩]
theorem r6_6 {fn : AFun} {K : List AItem} {t : Nat → AV} {H : AH} {T : Tbl} : runR T fn (.code (.reg d6_6) :: K) t H = regR T fn K (aops (callR T) [
  ⟨(some 23), none, (.val (.t 21))⟩,
  ⟨(some 6), none, (.val (.t 23))⟩] t H) := runR_reg'
def d6_7 : List AOper := [
  ⟨(some 25), none, (.val (.t 5))⟩,
  ⟨(some 26), none, (.val (.t 6))⟩,
  ⟨(some 27), none, (.build [(.i .i64 0), (.i .i64 0)] [(0, 1, (.c (.i .i64 1))), (1, 1, (.t 26))])⟩,
  ⟨(some 28), none, (.call 12 [(.t 25), (.t 27), (.c (.i .i64 (-1)))])⟩,
  ⟨(some 24), none, (.val (.t 28))⟩,
  ⟨(some 29), none, (.ext (.t 24) 0)⟩,
  ⟨(some 30), none, (.ext (.t 24) 1)⟩,
  ⟨(some 7), none, (.val (.t 29))⟩,
  ⟨(some 8), none, (.val (.t 30))⟩]
theorem r6_7 {fn : AFun} {K : List AItem} {t : Nat → AV} {H : AH} {T : Tbl} : runR T fn (.code (.reg d6_7) :: K) t H = regR T fn K (aops (callR T) [
  ⟨(some 25), none, (.val (.t 5))⟩,
  ⟨(some 26), none, (.val (.t 6))⟩,
  ⟨(some 27), none, (.build [(.i .i64 0), (.i .i64 0)] [(0, 1, (.c (.i .i64 1))), (1, 1, (.t 26))])⟩,
  ⟨(some 28), none, (.call 12 [(.t 25), (.t 27), (.c (.i .i64 (-1)))])⟩,
  ⟨(some 24), none, (.val (.t 28))⟩,
  ⟨(some 29), none, (.ext (.t 24) 0)⟩,
  ⟨(some 30), none, (.ext (.t 24) 1)⟩,
  ⟨(some 7), none, (.val (.t 29))⟩,
  ⟨(some 8), none, (.val (.t 30))⟩] t H) := runR_reg'
def d6_8 : List AOper := [
  ⟨(some 31), none, (.val (.t 7))⟩,
  ⟨(some 32), none, (.val (.t 6))⟩,
  ⟨(some 33), none, (.bin .lss (.t 32) (.c (.i .i64 256)))⟩,
  ⟨(some 34), none, (.eqb true (.t 31) (.t 33))⟩,
  ⟨(some 35), none, (.val (.t 34))⟩,
  ⟨(some 36), (some (35, false)), (.val (.t 8))⟩,
  ⟨(some 37), (some (35, false)), (.bin .eql (.t 36) (.c (.i .i64 0)))⟩,
  ⟨(some 38), (some (35, false)), (.val (.t 6))⟩,
  ⟨(some 39), (some (35, false)), (.bin .lss (.t 38) (.c (.i .i64 256)))⟩,
  ⟨(some 40), (some (35, false)), (.eqb true (.t 37) (.t 39))⟩,
  ⟨(some 41), none, (.pick (.t 35) (.c (.b true)) (.t 40))⟩]
theorem r6_8 {fn : AFun} {K : List AItem} {t : Nat → AV} {H : AH} {T : Tbl} : runR T fn (.code (.reg d6_8) :: K) t H = regR T fn K (aops (callR T) [
  ⟨(some 31), none, (.val (.t 7))⟩,
  ⟨(some 32), none, (.val (.t 6))⟩,
  ⟨(some 33), none, (.bin .lss (.t 32) (.c (.i .i64 256)))⟩,
  ⟨(some 34), none, (.eqb true (.t 31) (.t 33))⟩,
  ⟨(some 35), none, (.val (.t 34))⟩,
  ⟨(some 36), (some (35, false)), (.val (.t 8))⟩,
  ⟨(some 37), (some (35, false)), (.bin .eql (.t 36) (.c (.i .i64 0)))⟩,
  ⟨(some 38), (some (35, false)), (.val (.t 6))⟩,
  ⟨(some 39), (some (35, false)), (.bin .lss (.t 38) (.c (.i .i64 256)))⟩,
  ⟨(some 40), (some (35, false)), (.eqb true (.t 37) (.t 39))⟩,
  ⟨(some 41), none, (.pick (.t 35) (.c (.b true)) (.t 40))⟩] t H) := runR_reg'
def d6_9 : List AOper := [
  ⟨(some 4), none, (.val (.c (.b false)))⟩]
theorem r6_9 {fn : AFun} {K : List AItem} {t : Nat → AV} {H : AH} {T : Tbl} : runR T fn (.code (.reg d6_9) :: K) t H = regR T fn K (aops (callR T) [
  ⟨(some 4), none, (.val (.c (.b false)))⟩] t H) := runR_reg'
def d6_10 : List AOper := [
  ⟨(some 42), none, (.bin .add (.t 21) (.c (.i .i64 1)))⟩,
  ⟨(some 21), none, (.val (.t 42))⟩]
theorem r6_10 {fn : AFun} {K : List AItem} {t : Nat → AV} {H : AH} {T : Tbl} : runR T fn (.code (.reg d6_10) :: K) t H = regR T fn K (aops (callR T) [
  ⟨(some 42), none, (.bin .add (.t 21) (.c (.i .i64 1)))⟩,
  ⟨(some 21), none, (.val (.t 42))⟩] t H) := runR_reg'
def l6_11 : ACode := (.seq (.reg d6_5) (.seq (.cond (.t 22) .skip (.exit 0)) (.seq (.block 1 (.seq (.reg d6_6) (.seq (.reg d6_7) (.seq (.reg d6_8) (.cond (.t 41) (.seq (.reg d6_9) .ret) .skip))))) (.reg d6_10))))
def d6_12 : List AOper := [
  ⟨(some 43), none, (.val (.t 0))⟩,
  ⟨(some 44), none, (.call 8 [(.t 43)])⟩,
  ⟨(some 45), none, (.len (.t 44))⟩,
  ⟨(some 46), none, (.val (.c (.i .i64 0)))⟩]
theorem r6_12 {fn : AFun} {K : List AItem} {t : Nat → AV} {H : AH} {T : Tbl} : runR T fn (.code (.reg d6_12) :: K) t H = regR T fn K (aops (callR T) [
  ⟨(some 43), none, (.val (.t 0))⟩,
  ⟨(some 44), none, (.call 8 [(.t 43)])⟩,
  ⟨(some 45), none, (.len (.t 44))⟩,
  ⟨(some 46), none, (.val (.c (.i .i64 0)))⟩] t H) := runR_reg'
def d6_13 : List AOper := [
  ⟨(some 47), none, (.bin .lss (.t 46) (.t 45))⟩]
theorem r6_13 {fn : AFun} {K : List AItem} {t : Nat → AV} {H : AH} {T : Tbl} : runR T fn (.code (.reg d6_13) :: K) t H = regR T fn K (aops (callR T) [
  ⟨(some 47), none, (.bin .lss (.t 46) (.t 45))⟩] t H) := runR_reg'
def d6_14 : List AOper := [
  ⟨(some 48), none, (.ia 4 (.t 44) (.t 46))⟩,
  ⟨(some 49), none, (.ld (some 4) (.t 48))⟩,
  ⟨(some 10), none, (.alloc [(.i .u8 0), (.i .i64 0), (.i .i64 0), (.i .i64 0)])⟩,
  ⟨none, none, (.st 4 (.t 10) (.t 49))⟩]
theorem r6_14 {fn : AFun} {K : List AItem} {t : Nat → AV} {H : AH} {T : Tbl} : runR T fn (.code (.reg d6_14) :: K) t H = regR T fn K (aops (callR T) [
  ⟨(some 48), none, (.ia 4 (.t 44) (.t 46))⟩,
  ⟨(some 49), none, (.ld (some 4) (.t 48))⟩,
  ⟨(some 10), none, (.alloc [(.i .u8 0), (.i .i64 0), (.i .i64 0), (.i .i64 0)])⟩,
  ⟨none, none, (.st 4 (.t 10) (.t 49))⟩] t H) := runR_reg'
def d6_15 : List AOper := [
  ⟨(some 50), none, (.val (.t 5))⟩,
  ⟨(some 51), none, (.fa 3 (.t 10))⟩,
  ⟨(some 52), none, (.ld none (.t 51))⟩,
  ⟨(some 53), none, (.call 15 [(.t 50), (.t 52)])⟩,
  ⟨(some 11), none, (.val (.t 53))⟩]
theorem r6_15 {fn : AFun} {K : List AItem} {t : Nat → AV} {H : AH} {T : Tbl} : runR T fn (.code (.reg d6_15) :: K) t H = regR T fn K (aops (callR T) [
  ⟨(some 50), none, (.val (.t 5))⟩,
  ⟨(some 51), none, (.fa 3 (.t 10))⟩,
  ⟨(some 52), none, (.ld none (.t 51))⟩,
  ⟨(some 53), none, (.call 15 [(.t 50), (.t 52)])⟩,
  ⟨(some 11), none, (.val (.t 53))⟩] t H) := runR_reg'
def d6_16 : List AOper := [
  ⟨(some 54), none, (.val (.t 5))⟩,
  ⟨(some 55), none, (.call 17 [(.t 54)])⟩,
  ⟨(some 12), none, (.val (.t 55))⟩]
theorem r6_16 {fn : AFun} {K : List AItem} {t : Nat → AV} {H : AH} {T : Tbl} : runR T fn (.code (.reg d6_16) :: K) t H = regR T fn K (aops (callR T) [
  ⟨(some 54), none, (.val (.t 5))⟩,
  ⟨(some 55), none, (.call 17 [(.t 54)])⟩,
  ⟨(some 12), none, (.val (.t 55))⟩] t H) := runR_reg'
def d6_17 : List AOper := [
  ⟨(some 57), none, (.val (.t 5))⟩,
  ⟨(some 58), none, (.fa 1 (.t 10))⟩,
  ⟨(some 59), none, (.fa 0 (.t 58))⟩,
  ⟨(some 60), none, (.ld none (.t 59))⟩,
  ⟨(some 61), none, (.fa 1 (.t 10))⟩,
  ⟨(some 62), none, (.fa 1 (.t 61))⟩,
  ⟨(some 63), none, (.ld none (.t 62))⟩,
  ⟨(some 64), none, (.build [(.i .i64 0), (.i .i64 0)] [(0, 1, (.t 60)), (1, 1, (.t 63))])⟩,
  ⟨(some 65), none, (.fa 3 (.t 10))⟩,
  ⟨(some 66), none, (.ld none (.t 65))⟩,
  ⟨(some 67), none, (.call 12 [(.t 57), (.t 64), (.t 66)])⟩,
  ⟨(some 56), none, (.val (.t 67))⟩,
  ⟨(some 68), none, (.ext (.t 56) 0)⟩,
  ⟨(some 69), none, (.ext (.t 56) 1)⟩,
  ⟨(some 13), none, (.val (.t 68))⟩,
  ⟨(some 14), none, (.val (.t 69))⟩]
theorem r6_17 {fn : AFun} {K : List AItem} {t : Nat → AV} {H : AH} {T : Tbl} : runR T fn (.code (.reg d6_17) :: K) t H = regR T fn K (aops (callR T) [
  ⟨(some 57), none, (.val (.t 5))⟩,
  ⟨(some 58), none, (.fa 1 (.t 10))⟩,
  ⟨(some 59), none, (.fa 0 (.t 58))⟩,
  ⟨(some 60), none, (.ld none (.t 59))⟩,
  ⟨(some 61), none, (.fa 1 (.t 10))⟩,
  ⟨(some 62), none, (.fa 1 (.t 61))⟩,
  ⟨(some 63), none, (.ld none (.t 62))⟩,
  ⟨(some 64), none, (.build [(.i .i64 0), (.i .i64 0)] [(0, 1, (.t 60)), (1, 1, (.t 63))])⟩,
  ⟨(some 65), none, (.fa 3 (.t 10))⟩,
  ⟨(some 66), none, (.ld none (.t 65))⟩,
  ⟨(some 67), none, (.call 12 [(.t 57), (.t 64), (.t 66)])⟩,
  ⟨(some 56), none, (.val (.t 67))⟩,
  ⟨(some 68), none, (.ext (.t 56) 0)⟩,
  ⟨(some 69), none, (.ext (.t 56) 1)⟩,
  ⟨(some 13), none, (.val (.t 68))⟩,
  ⟨(some 14), none, (.val (.t 69))⟩] t H) := runR_reg'
def d6_18 : List AOper := [
  ⟨(some 70), none, (.val (.t 11))⟩,
  ⟨(some 71), none, (.val (.t 70))⟩,
  ⟨(some 72), (some (71, true)), (.val (.t 14))⟩,
  ⟨(some 73), (some (71, true)), (.bin .eql (.t 72) (.c (.i .i64 0)))⟩,
  ⟨(some 74), none, (.pick (.t 71) (.t 73) (.c (.b false)))⟩,
  ⟨(some 75), none, (.val (.t 74))⟩,
  ⟨(some 76), (some (75, false)), (.val (.t 14))⟩,
  ⟨(some 77), (some (75, false)), (.bin .eql (.t 76) (.c (.i .i64 0)))⟩,
  ⟨(some 78), (some (75, false)), (.val (.t 77))⟩,
  ⟨(some 79), (some (78, true)), (.fa 3 (.t 10))⟩,
  ⟨(some 80), (some (78, true)), (.ld none (.t 79))⟩,
  ⟨(some 81), (some (78, true)), (.bin .geq (.t 80) (.c (.i .i64 0)))⟩,
  ⟨(some 82), (some (75, false)), (.pick (.t 78) (.t 81) (.c (.b false)))⟩,
  ⟨(some 83), (some (75, false)), (.val (.t 82))⟩,
  ⟨(some 84), (some (83, true)), (.val (.t 5))⟩,
  ⟨(some 85), (some (83, true)), (.fa 3 (.t 10))⟩,
  ⟨(some 86), (some (83, true)), (.ld none (.t 85))⟩,
  ⟨(some 87), (some (83, true)), (.call 15 [(.t 84), (.t 86)])⟩,
  ⟨(some 88), (some (83, true)), (.un .not (.t 87))⟩,
  ⟨(some 89), (some (75, false)), (.pick (.t 83) (.t 88) (.c (.b false)))⟩,
  ⟨(some 90), none, (.pick (.t 75) (.c (.b true)) (.t 89))⟩,
  ⟨(some 91), none, (.val (.t 90))⟩,
  ⟨(some 92), (some (91, false)), (.val (.t 13))⟩,
  ⟨(some 93), (some (91, false)), (.val (.t 92))⟩,
  ⟨(some 94), (some (93, true)), (.val (.t 14))⟩,
  ⟨(some 95), (some (93, true)), (.bin .neq (.t 94) (.c (.i .i64 0)))⟩,
  ⟨(some 96), (some (93, true)), (.val (.t 95))⟩,
  ⟨(some 97), (some (96, false)), (.val (.t 5))⟩,
  ⟨(some 98), (some (96, false)), (.call 17 [(.t 97)])⟩,
  ⟨(some 99), (some (96, false)), (.val (.t 12))⟩,
  ⟨(some 100), (some (96, false)), (.bin .add (.t 99) (.c (.i .i64 1)))⟩,
  ⟨(some 101), (some (96, false)), (.bin .neq (.t 98) (.t 100))⟩,
  ⟨(some 102), (some (93, true)), (.pick (.t 96) (.c (.b true)) (.t 101))⟩,
  ⟨(some 103), (some (91, false)), (.pick (.t 93) (.t 102) (.c (.b false)))⟩,
  ⟨(some 104), none, (.pick (.t 91) (.c (.b true)) (.t 103))⟩,
  ⟨(some 105), none, (.val (.t 104))⟩,
  ⟨(some 106), (some (105, false)), (.val (.t 13))⟩,
  ⟨(some 107), (some (105, false)), (.un .not (.t 106))⟩,
  ⟨(some 108), (some (105, false)), (.val (.t 107))⟩,
  ⟨(some 109), (some (108, true)), (.val (.t 5))⟩,
  ⟨(some 110), (some (108, true)), (.call 17 [(.t 109)])⟩,
  ⟨(some 111), (some (108, true)), (.val (.t 12))⟩,
  ⟨(some 112), (some (108, true)), (.bin .neq (.t 110) (.t 111))⟩,
  ⟨(some 113), (some (105, false)), (.pick (.t 108) (.t 112) (.c (.b false)))⟩,
  ⟨(some 114), none, (.pick (.t 105) (.c (.b true)) (.t 113))⟩,
  ⟨(some 115), none, (.val (.t 114))⟩,
  ⟨(some 116), (some (115, false)), (.val (.t 5))⟩,
  ⟨(some 117), (some (115, false)), (.call 17 [(.t 116)])⟩,
  ⟨(some 118), (some (115, false)), (.bin .gtr (.t 117) (.c (.i .i64 256)))⟩,
  ⟨(some 119), none, (.pick (.t 115) (.c (.b true)) (.t 118))⟩]
theorem r6_18 {fn : AFun} {K : List AItem} {t : Nat → AV} {H : AH} {T : Tbl} : runR T fn (.code (.reg d6_18) :: K) t H = regR T fn K (aops (callR T) [
  ⟨(some 70), none, (.val (.t 11))⟩,
  ⟨(some 71), none, (.val (.t 70))⟩,
  ⟨(some 72), (some (71, true)), (.val (.t 14))⟩,
  ⟨(some 73), (some (71, true)), (.bin .eql (.t 72) (.c (.i .i64 0)))⟩,
  ⟨(some 74), none, (.pick (.t 71) (.t 73) (.c (.b false)))⟩,
  ⟨(some 75), none, (.val (.t 74))⟩,
  ⟨(some 76), (some (75, false)), (.val (.t 14))⟩,
  ⟨(some 77), (some (75, false)), (.bin .eql (.t 76) (.c (.i .i64 0)))⟩,
  ⟨(some 78), (some (75, false)), (.val (.t 77))⟩,
  ⟨(some 79), (some (78, true)), (.fa 3 (.t 10))⟩,
  ⟨(some 80), (some (78, true)), (.ld none (.t 79))⟩,
  ⟨(some 81), (some (78, true)), (.bin .geq (.t 80) (.c (.i .i64 0)))⟩,
  ⟨(some 82), (some (75, false)), (.pick (.t 78) (.t 81) (.c (.b false)))⟩,
  ⟨(some 83), (some (75, false)), (.val (.t 82))⟩,
  ⟨(some 84), (some (83, true)), (.val (.t 5))⟩,
  ⟨(some 85), (some (83, true)), (.fa 3 (.t 10))⟩,
  ⟨(some 86), (some (83, true)), (.ld none (.t 85))⟩,
  ⟨(some 87), (some (83, true)), (.call 15 [(.t 84), (.t 86)])⟩,
  ⟨(some 88), (some (83, true)), (.un .not (.t 87))⟩,
  ⟨(some 89), (some (75, false)), (.pick (.t 83) (.t 88) (.c (.b false)))⟩,
  ⟨(some 90), none, (.pick (.t 75) (.c (.b true)) (.t 89))⟩,
  ⟨(some 91), none, (.val (.t 90))⟩,
  ⟨(some 92), (some (91, false)), (.val (.t 13))⟩,
  ⟨(some 93), (some (91, false)), (.val (.t 92))⟩,
  ⟨(some 94), (some (93, true)), (.val (.t 14))⟩,
  ⟨(some 95), (some (93, true)), (.bin .neq (.t 94) (.c (.i .i64 0)))⟩,
  ⟨(some 96), (some (93, true)), (.val (.t 95))⟩,
  ⟨(some 97), (some (96, false)), (.val (.t 5))⟩,
  ⟨(some 98), (some (96, false)), (.call 17 [(.t 97)])⟩,
  ⟨(some 99), (some (96, false)), (.val (.t 12))⟩,
  ⟨(some 100), (some (96, false)), (.bin .add (.t 99) (.c (.i .i64 1)))⟩,
  ⟨(some 101), (some (96, false)), (.bin .neq (.t 98) (.t 100))⟩,
  ⟨(some 102), (some (93, true)), (.pick (.t 96) (.c (.b true)) (.t 101))⟩,
  ⟨(some 103), (some (91, false)), (.pick (.t 93) (.t 102) (.c (.b false)))⟩,
  ⟨(some 104), none, (.pick (.t 91) (.c (.b true)) (.t 103))⟩,
  ⟨(some 105), none, (.val (.t 104))⟩,
  ⟨(some 106), (some (105, false)), (.val (.t 13))⟩,
  ⟨(some 107), (some (105, false)), (.un .not (.t 106))⟩,
  ⟨(some 108), (some (105, false)), (.val (.t 107))⟩,
  ⟨(some 109), (some (108, true)), (.val (.t 5))⟩,
  ⟨(some 110), (some (108, true)), (.call 17 [(.t 109)])⟩,
  ⟨(some 111), (some (108, true)), (.val (.t 12))⟩,
  ⟨(some 112), (some (108, true)), (.bin .neq (.t 110) (.t 111))⟩,
  ⟨(some 113), (some (105, false)), (.pick (.t 108) (.t 112) (.c (.b false)))⟩,
  ⟨(some 114), none, (.pick (.t 105) (.c (.b true)) (.t 113))⟩,
  ⟨(some 115), none, (.val (.t 114))⟩,
  ⟨(some 116), (some (115, false)), (.val (.t 5))⟩,
  ⟨(some 117), (some (115, false)), (.call 17 [(.t 116)])⟩,
  ⟨(some 118), (some (115, false)), (.bin .gtr (.t 117) (.c (.i .i64 256)))⟩,
  ⟨(some 119), none, (.pick (.t 115) (.c (.b true)) (.t 118))⟩] t H) := runR_reg'
def d6_19 : List AOper := [
  ⟨(some 4), none, (.val (.c (.b false)))⟩]
theorem r6_19 {fn : AFun} {K : List AItem} {t : Nat → AV} {H : AH} {T : Tbl} : runR T fn (.code (.reg d6_19) :: K) t H = regR T fn K (aops (callR T) [
  ⟨(some 4), none, (.val (.c (.b false)))⟩] t H) := runR_reg'
def d6_20 : List AOper := [
  ⟨(some 120), none, (.bin .add (.t 46) (.c (.i .i64 1)))⟩,
  ⟨(some 46), none, (.val (.t 120))⟩]
theorem r6_20 {fn : AFun} {K : List AItem} {t : Nat → AV} {H : AH} {T : Tbl} : runR T fn (.code (.reg d6_20) :: K) t H = regR T fn K (aops (callR T) [
  ⟨(some 120), none, (.bin .add (.t 46) (.c (.i .i64 1)))⟩,
  ⟨(some 46), none, (.val (.t 120))⟩] t H) := runR_reg'
def l6_21 : ACode := (.seq (.reg d6_13) (.seq (.cond (.t 47) .skip (.exit 2)) (.seq (.block 3 (.seq (.reg d6_14) (.seq (.reg d6_15) (.seq (.reg d6_16) (.seq (.reg d6_17) (.seq (.reg d6_18) (.cond (.t 119) (.seq (.reg d6_19) .ret) .skip))))))) (.reg d6_20))))
def d6_22 : List AOper := [
  ⟨(some 121), none, (.call 18 [])⟩,
  ⟨(some 4), none, (.val (.t 121))⟩]
theorem r6_22 {fn : AFun} {K : List AItem} {t : Nat → AV} {H : AH} {T : Tbl} : runR T fn (.code (.reg d6_22) :: K) t H = regR T fn K (aops (callR T) [
  ⟨(some 121), none, (.call 18 [])⟩,
  ⟨(some 4), none, (.val (.t 121))⟩] t H) := runR_reg'
def a6 : AFun := ⟨122, [(.tmp 4)], (.seq (.reg d6_0) (.seq (.reg d6_1) (.seq (.seq (.reg d6_2) (.cond (.t 17) (.seq (.reg d6_3) .ret) .skip)) (.seq (.seq (.reg d6_4) (.block 0 (.loop l6_11))) (.seq (.seq (.reg d6_12) (.block 2 (.loop l6_21))) (.seq (.reg d6_22) .ret))))))⟩
theorem a6_ok : cfun Try.prog 6 = some a6 := by kernel_rfl
/-- futtock/vmq.New -/
def d7_0 : List AOper := [
  ⟨(some 0), none, (.val (.c (.p none)))⟩]
theorem r7_0 {fn : AFun} {K : List AItem} {t : Nat → AV} {H : AH} {T : Tbl} : runR T fn (.code (.reg d7_0) :: K) t H = regR T fn K (aops (callR T) [
  ⟨(some 0), none, (.val (.c (.p none)))⟩] t H) := runR_reg'
def d7_1 : List AOper := [
  ⟨(some 1), none, .mkm⟩,
  ⟨(some 2), none, .mkm⟩,
  ⟨(some 3), none, (.build [(.sl none 0 0 true 0), (.mp none), (.mp none)] [(1, 1, (.t 1)), (2, 1, (.t 2))])⟩,
  ⟨(some 4), none, (.box (.t 3))⟩,
  ⟨(some 0), none, (.val (.t 4))⟩]
theorem r7_1 {fn : AFun} {K : List AItem} {t : Nat → AV} {H : AH} {T : Tbl} : runR T fn (.code (.reg d7_1) :: K) t H = regR T fn K (aops (callR T) [
  ⟨(some 1), none, .mkm⟩,
  ⟨(some 2), none, .mkm⟩,
  ⟨(some 3), none, (.build [(.sl none 0 0 true 0), (.mp none), (.mp none)] [(1, 1, (.t 1)), (2, 1, (.t 2))])⟩,
  ⟨(some 4), none, (.box (.t 3))⟩,
  ⟨(some 0), none, (.val (.t 4))⟩] t H) := runR_reg'
def a7 : AFun := ⟨5, [(.tmp 0)], (.seq (.reg d7_0) (.seq (.reg d7_1) .ret))⟩
theorem a7_ok : cfun Try.prog 7 = some a7 := by kernel_rfl
/-- futtock/futtocklaw18.short -/
def d8_0 : List AOper := [
  ⟨(some 2), none, (.val (.c (.sl none 0 0 true 0)))⟩]
theorem r8_0 {fn : AFun} {K : List AItem} {t : Nat → AV} {H : AH} {T : Tbl} : runR T fn (.code (.reg d8_0) :: K) t H = regR T fn K (aops (callR T) [
  ⟨(some 2), none, (.val (.c (.sl none 0 0 true 0)))⟩] t H) := runR_reg'
def d8_1 : List AOper := [
  ⟨(some 3), none, (.val (.t 0))⟩,
  ⟨(some 4), none, (.val (.t 0))⟩,
  ⟨(some 5), none, (.len (.t 4))⟩,
  ⟨(some 6), none, (.mm false [(.t 5), (.c (.i .i64 400))])⟩,
  ⟨(some 7), none, (.sls 4 (.t 3) none (some (.t 6)) none)⟩,
  ⟨(some 2), none, (.val (.t 7))⟩]
theorem r8_1 {fn : AFun} {K : List AItem} {t : Nat → AV} {H : AH} {T : Tbl} : runR T fn (.code (.reg d8_1) :: K) t H = regR T fn K (aops (callR T) [
  ⟨(some 3), none, (.val (.t 0))⟩,
  ⟨(some 4), none, (.val (.t 0))⟩,
  ⟨(some 5), none, (.len (.t 4))⟩,
  ⟨(some 6), none, (.mm false [(.t 5), (.c (.i .i64 400))])⟩,
  ⟨(some 7), none, (.sls 4 (.t 3) none (some (.t 6)) none)⟩,
  ⟨(some 2), none, (.val (.t 7))⟩] t H) := runR_reg'
def a8 : AFun := ⟨8, [(.tmp 2)], (.seq (.reg d8_0) (.seq (.reg d8_1) .ret))⟩
theorem a8_ok : cfun Try.prog 8 = some a8 := by kernel_rfl
/-- (*futtock/vmq.Queue).Next -/
def d9_0 : List AOper := [
  ⟨(some 2), none, (.alloc [(.i .i64 0), (.i .i64 0)])⟩,
  ⟨(some 3), none, (.val (.c (.sl none 0 0 true 0)))⟩,
  ⟨(some 4), none, (.val (.c (.b false)))⟩]
theorem r9_0 {fn : AFun} {K : List AItem} {t : Nat → AV} {H : AH} {T : Tbl} : runR T fn (.code (.reg d9_0) :: K) t H = regR T fn K (aops (callR T) [
  ⟨(some 2), none, (.alloc [(.i .i64 0), (.i .i64 0)])⟩,
  ⟨(some 3), none, (.val (.c (.sl none 0 0 true 0)))⟩,
  ⟨(some 4), none, (.val (.c (.b false)))⟩] t H) := runR_reg'
def d9_1 : List AOper := [
  ⟨(some 9), none, (.val (.t 0))⟩,
  ⟨(some 10), none, (.call 17 [(.t 9)])⟩,
  ⟨(some 11), none, (.bin .eql (.t 10) (.c (.i .i64 0)))⟩]
theorem r9_1 {fn : AFun} {K : List AItem} {t : Nat → AV} {H : AH} {T : Tbl} : runR T fn (.code (.reg d9_1) :: K) t H = regR T fn K (aops (callR T) [
  ⟨(some 9), none, (.val (.t 0))⟩,
  ⟨(some 10), none, (.call 17 [(.t 9)])⟩,
  ⟨(some 11), none, (.bin .eql (.t 10) (.c (.i .i64 0)))⟩] t H) := runR_reg'
def d9_2 : List AOper := [
  ⟨(some 12), none, (.build [(.i .i64 0), (.i .i64 0)] [])⟩,
  ⟨none, none, (.st 2 (.t 2) (.t 12))⟩,
  ⟨(some 3), none, (.val (.c (.sl none 0 0 true 0)))⟩,
  ⟨(some 4), none, (.val (.c (.b false)))⟩]
theorem r9_2 {fn : AFun} {K : List AItem} {t : Nat → AV} {H : AH} {T : Tbl} : runR T fn (.code (.reg d9_2) :: K) t H = regR T fn K (aops (callR T) [
  ⟨(some 12), none, (.build [(.i .i64 0), (.i .i64 0)] [])⟩,
  ⟨none, none, (.st 2 (.t 2) (.t 12))⟩,
  ⟨(some 3), none, (.val (.c (.sl none 0 0 true 0)))⟩,
  ⟨(some 4), none, (.val (.c (.b false)))⟩] t H) := runR_reg'
def d9_3 : List AOper := [
  ⟨(some 13), none, (.val (.t 0))⟩,
  ⟨(some 14), none, (.nilc (.t 13))⟩,
  ⟨(some 15), none, (.fa 0 (.t 14))⟩,
  ⟨(some 16), none, (.ld none (.t 15))⟩,
  ⟨(some 17), none, (.ia 2 (.t 16) (.c (.i .i64 0)))⟩,
  ⟨(some 18), none, (.ld (some 2) (.t 17))⟩,
  ⟨(some 5), none, (.alloc [(.i .i64 0), (.i .i64 0)])⟩,
  ⟨none, none, (.st 2 (.t 5) (.t 18))⟩]
theorem r9_3 {fn : AFun} {K : List AItem} {t : Nat → AV} {H : AH} {T : Tbl} : runR T fn (.code (.reg d9_3) :: K) t H = regR T fn K (aops (callR T) [
  ⟨(some 13), none, (.val (.t 0))⟩,
  ⟨(some 14), none, (.nilc (.t 13))⟩,
  ⟨(some 15), none, (.fa 0 (.t 14))⟩,
  ⟨(some 16), none, (.ld none (.t 15))⟩,
  ⟨(some 17), none, (.ia 2 (.t 16) (.c (.i .i64 0)))⟩,
  ⟨(some 18), none, (.ld (some 2) (.t 17))⟩,
  ⟨(some 5), none, (.alloc [(.i .i64 0), (.i .i64 0)])⟩,
  ⟨none, none, (.st 2 (.t 5) (.t 18))⟩] t H) := runR_reg'
def d9_4 : List AOper := [
  ⟨(some 19), none, (.val (.t 0))⟩,
  ⟨(some 20), none, (.val (.t 0))⟩,
  ⟨(some 21), none, (.nilc (.t 20))⟩,
  ⟨(some 22), none, (.fa 0 (.t 21))⟩,
  ⟨(some 23), none, (.ld none (.t 22))⟩,
  ⟨(some 24), none, (.sls 2 (.t 23) (some (.c (.i .i64 1))) none none)⟩,
  ⟨(some 25), none, (.nilc (.t 19))⟩,
  ⟨(some 26), none, (.fa 0 (.t 25))⟩,
  ⟨none, none, (.st 1 (.t 26) (.t 24))⟩]
theorem r9_4 {fn : AFun} {K : List AItem} {t : Nat → AV} {H : AH} {T : Tbl} : runR T fn (.code (.reg d9_4) :: K) t H = regR T fn K (aops (callR T) [
  ⟨(some 19), none, (.val (.t 0))⟩,
  ⟨(some 20), none, (.val (.t 0))⟩,
  ⟨(some 21), none, (.nilc (.t 20))⟩,
  ⟨(some 22), none, (.fa 0 (.t 21))⟩,
  ⟨(some 23), none, (.ld none (.t 22))⟩,
  ⟨(some 24), none, (.sls 2 (.t 23) (some (.c (.i .i64 1))) none none)⟩,
  ⟨(some 25), none, (.nilc (.t 19))⟩,
  ⟨(some 26), none, (.fa 0 (.t 25))⟩,
  ⟨none, none, (.st 1 (.t 26) (.t 24))⟩] t H) := runR_reg'
def d9_5 : List (AOper × List Nat) := [
  (⟨(some 27), none, (.val (.t 0))⟩, []),
  (⟨(some 28), none, (.nilc (.t 27))⟩, []),
  (⟨(some 29), none, (.fa 1 (.t 28))⟩, []),
  (⟨(some 30), none, (.ld none (.t 29))⟩, [1]),
  (⟨(some 31), none, (.ld (some 2) (.t 5))⟩, [1]),
  (⟨(some 32), none, (.lk [9, 0, 0] (.sl none 0 0 true 0) (.t 30) (.t 31) false)⟩, [1]),
  (⟨(some 6), none, (.val (.t 32))⟩, [])]
theorem r9_5 {fn : AFun} {K : List AItem} {t : Nat → AV} {H : AH} {T : Tbl} : runR T fn (.code (.drw d9_5) :: K) t H = regR T fn K (aops (callR T) [
  ⟨(some 27), none, (.val (.t 0))⟩,
  ⟨(some 28), none, (.nilc (.t 27))⟩,
  ⟨(some 29), none, (.fa 1 (.t 28))⟩,
  ⟨(some 30), none, (.ld none (.t 29))⟩,
  ⟨(some 31), none, (.ld (some 2) (.t 5))⟩,
  ⟨(some 32), none, (.lk [9, 0, 0] (.sl none 0 0 true 0) (.t 30) (.t 31) false)⟩,
  ⟨(some 6), none, (.val (.t 32))⟩] t H) := runR_plain rfl
def d9_6 : List (AOper × List Nat) := [
  (⟨(some 33), none, (.val (.t 0))⟩, []),
  (⟨(some 34), none, (.nilc (.t 33))⟩, []),
  (⟨(some 35), none, (.fa 1 (.t 34))⟩, []),
  (⟨(some 36), none, (.ld none (.t 35))⟩, [1]),
  (⟨(some 37), none, (.ld (some 2) (.t 5))⟩, [1]),
  (⟨none, none, (.dl [9, 0, 0] (.t 36) (.t 37))⟩, [])]
theorem r9_6 {fn : AFun} {K : List AItem} {t : Nat → AV} {H : AH} {T : Tbl} : runR T fn (.code (.drw d9_6) :: K) t H = regR T fn K (aops (callR T) [
  ⟨(some 33), none, (.val (.t 0))⟩,
  ⟨(some 34), none, (.nilc (.t 33))⟩,
  ⟨(some 35), none, (.fa 1 (.t 34))⟩,
  ⟨(some 36), none, (.ld none (.t 35))⟩,
  ⟨(some 37), none, (.ld (some 2) (.t 5))⟩,
  ⟨none, none, (.dl [9, 0, 0] (.t 36) (.t 37))⟩] t H) := runR_plain rfl
def d9_7 : List AOper := [
  ⟨(some 38), none, (.val (.t 6))⟩,
  ⟨(some 39), none, (.len (.t 38))⟩,
  ⟨(some 40), none, (.val (.c (.i .i64 0)))⟩]
theorem r9_7 {fn : AFun} {K : List AItem} {t : Nat → AV} {H : AH} {T : Tbl} : runR T fn (.code (.reg d9_7) :: K) t H = regR T fn K (aops (callR T) [
  ⟨(some 38), none, (.val (.t 6))⟩,
  ⟨(some 39), none, (.len (.t 38))⟩,
  ⟨(some 40), none, (.val (.c (.i .i64 0)))⟩] t H) := runR_reg'
def d9_8 : List AOper := [
  ⟨(some 41), none, (.bin .lss (.t 40) (.t 39))⟩]
theorem r9_8 {fn : AFun} {K : List AItem} {t : Nat → AV} {H : AH} {T : Tbl} : runR T fn (.code (.reg d9_8) :: K) t H = regR T fn K (aops (callR T) [
  ⟨(some 41), none, (.bin .lss (.t 40) (.t 39))⟩] t H) := runR_reg'
def d9_9 : List AOper := [
  ⟨(some 42), none, (.ia 1 (.t 38) (.t 40))⟩,
  ⟨(some 43), none, (.ld none (.t 42))⟩,
  ⟨(some 8), none, (.val (.t 43))⟩]
theorem r9_9 {fn : AFun} {K : List AItem} {t : Nat → AV} {H : AH} {T : Tbl} : runR T fn (.code (.reg d9_9) :: K) t H = regR T fn K (aops (callR T) [
  ⟨(some 42), none, (.ia 1 (.t 38) (.t 40))⟩,
  ⟨(some 43), none, (.ld none (.t 42))⟩,
  ⟨(some 8), none, (.val (.t 43))⟩] t H) := runR_reg'
def d9_10 : List AOper := [
  ⟨(some 44), none, (.val (.t 0))⟩,
  ⟨(some 45), none, (.nilc (.t 44))⟩,
  ⟨(some 46), none, (.fa 2 (.t 45))⟩,
  ⟨(some 47), none, (.ld none (.t 46))⟩,
  ⟨(some 48), none, (.val (.t 8))⟩,
  ⟨none, none, (.dl [0] (.t 47) (.t 48))⟩]
theorem r9_10 {fn : AFun} {K : List AItem} {t : Nat → AV} {H : AH} {T : Tbl} : runR T fn (.code (.reg d9_10) :: K) t H = regR T fn K (aops (callR T) [
  ⟨(some 44), none, (.val (.t 0))⟩,
  ⟨(some 45), none, (.nilc (.t 44))⟩,
  ⟨(some 46), none, (.fa 2 (.t 45))⟩,
  ⟨(some 47), none, (.ld none (.t 46))⟩,
  ⟨(some 48), none, (.val (.t 8))⟩,
  ⟨none, none, (.dl [0] (.t 47) (.t 48))⟩] t H) := runR_reg'
def d9_11 : List AOper := [
  ⟨(some 49), none, (.bin .add (.t 40) (.c (.i .i64 1)))⟩,
  ⟨(some 40), none, (.val (.t 49))⟩]
theorem r9_11 {fn : AFun} {K : List AItem} {t : Nat → AV} {H : AH} {T : Tbl} : runR T fn (.code (.reg d9_11) :: K) t H = regR T fn K (aops (callR T) [
  ⟨(some 49), none, (.bin .add (.t 40) (.c (.i .i64 1)))⟩,
  ⟨(some 40), none, (.val (.t 49))⟩] t H) := runR_reg'
def l9_12 : ACode := (.seq (.reg d9_8) (.seq (.cond (.t 41) .skip (.exit 0)) (.seq (.block 1 (.seq (.reg d9_9) (.reg d9_10))) (.reg d9_11))))
def d9_13 : List AOper := [
  ⟨(some 50), none, (.ld (some 2) (.t 5))⟩,
  ⟨(some 51), none, (.val (.t 6))⟩,
  ⟨none, none, (.st 2 (.t 2) (.t 50))⟩,
  ⟨(some 3), none, (.val (.t 51))⟩,
  ⟨(some 4), none, (.val (.c (.b true)))⟩]
theorem r9_13 {fn : AFun} {K : List AItem} {t : Nat → AV} {H : AH} {T : Tbl} : runR T fn (.code (.reg d9_13) :: K) t H = regR T fn K (aops (callR T) [
  ⟨(some 50), none, (.ld (some 2) (.t 5))⟩,
  ⟨(some 51), none, (.val (.t 6))⟩,
  ⟨none, none, (.st 2 (.t 2) (.t 50))⟩,
  ⟨(some 3), none, (.val (.t 51))⟩,
  ⟨(some 4), none, (.val (.c (.b true)))⟩] t H) := runR_reg'
def a9 : AFun := ⟨52, [(.cell 2 (some 2)), (.tmp 3), (.tmp 4)], (.seq (.reg d9_0) (.seq (.seq (.reg d9_1) (.cond (.t 11) (.seq (.reg d9_2) .ret) .skip)) (.seq (.reg d9_3) (.seq (.reg d9_4) (.seq (.drw d9_5) (.seq (.drw d9_6) (.seq (.seq (.reg d9_7) (.block 0 (.loop l9_12))) (.seq (.reg d9_13) .ret))))))))⟩
theorem a9_ok : cfun Try.prog 9 = some a9 := by kernel_rfl
/-- (*futtock/futtockref18.Queue).Next -/
def d10_0 : List AOper := [
  ⟨(some 2), none, (.alloc [(.i .i64 0), (.i .i64 0), (.sl none 0 0 true 0)])⟩,
  ⟨(some 3), none, (.val (.c (.b false)))⟩]
theorem r10_0 {fn : AFun} {K : List AItem} {t : Nat → AV} {H : AH} {T : Tbl} : runR T fn (.code (.reg d10_0) :: K) t H = regR T fn K (aops (callR T) [
  ⟨(some 2), none, (.alloc [(.i .i64 0), (.i .i64 0), (.sl none 0 0 true 0)])⟩,
  ⟨(some 3), none, (.val (.c (.b false)))⟩] t H) := runR_reg'
def d10_1 : List AOper := [
  ⟨(some 5), none, (.val (.t 0))⟩,
  ⟨(some 6), none, (.nilc (.t 5))⟩,
  ⟨(some 7), none, (.fa 0 (.t 6))⟩,
  ⟨(some 8), none, (.ld none (.t 7))⟩,
  ⟨(some 9), none, (.len (.t 8))⟩,
  ⟨(some 10), none, (.bin .eql (.t 9) (.c (.i .i64 0)))⟩]
theorem r10_1 {fn : AFun} {K : List AItem} {t : Nat → AV} {H : AH} {T : Tbl} : runR T fn (.code (.reg d10_1) :: K) t H = regR T fn K (aops (callR T) [
  ⟨(some 5), none, (.val (.t 0))⟩,
  ⟨(some 6), none, (.nilc (.t 5))⟩,
  ⟨(some 7), none, (.fa 0 (.t 6))⟩,
  ⟨(some 8), none, (.ld none (.t 7))⟩,
  ⟨(some 9), none, (.len (.t 8))⟩,
  ⟨(some 10), none, (.bin .eql (.t 9) (.c (.i .i64 0)))⟩] t H) := runR_reg'
def d10_2 : List AOper := [
  ⟨(some 11), none, (.build [(.i .i64 0), (.i .i64 0), (.sl none 0 0 true 0)] [])⟩,
  ⟨none, none, (.st 3 (.t 2) (.t 11))⟩,
  ⟨(some 3), none, (.val (.c (.b false)))⟩]
theorem r10_2 {fn : AFun} {K : List AItem} {t : Nat → AV} {H : AH} {T : Tbl} : runR T fn (.code (.reg d10_2) :: K) t H = regR T fn K (aops (callR T) [
  ⟨(some 11), none, (.build [(.i .i64 0), (.i .i64 0), (.sl none 0 0 true 0)] [])⟩,
  ⟨none, none, (.st 3 (.t 2) (.t 11))⟩,
  ⟨(some 3), none, (.val (.c (.b false)))⟩] t H) := runR_reg'
def d10_3 : List AOper := [
  ⟨(some 12), none, (.val (.t 0))⟩,
  ⟨(some 13), none, (.nilc (.t 12))⟩,
  ⟨(some 14), none, (.fa 0 (.t 13))⟩,
  ⟨(some 15), none, (.ld none (.t 14))⟩,
  ⟨(some 16), none, (.ia 3 (.t 15) (.c (.i .i64 0)))⟩,
  ⟨(some 17), none, (.ld (some 3) (.t 16))⟩,
  ⟨(some 4), none, (.alloc [(.i .i64 0), (.i .i64 0), (.sl none 0 0 true 0)])⟩,
  ⟨none, none, (.st 3 (.t 4) (.t 17))⟩]
theorem r10_3 {fn : AFun} {K : List AItem} {t : Nat → AV} {H : AH} {T : Tbl} : runR T fn (.code (.reg d10_3) :: K) t H = regR T fn K (aops (callR T) [
  ⟨(some 12), none, (.val (.t 0))⟩,
  ⟨(some 13), none, (.nilc (.t 12))⟩,
  ⟨(some 14), none, (.fa 0 (.t 13))⟩,
  ⟨(some 15), none, (.ld none (.t 14))⟩,
  ⟨(some 16), none, (.ia 3 (.t 15) (.c (.i .i64 0)))⟩,
  ⟨(some 17), none, (.ld (some 3) (.t 16))⟩,
  ⟨(some 4), none, (.alloc [(.i .i64 0), (.i .i64 0), (.sl none 0 0 true 0)])⟩,
  ⟨none, none, (.st 3 (.t 4) (.t 17))⟩] t H) := runR_reg'
def d10_4 : List AOper := [
  ⟨(some 18), none, (.val (.t 0))⟩,
  ⟨(some 19), none, (.val (.t 0))⟩,
  ⟨(some 20), none, (.nilc (.t 19))⟩,
  ⟨(some 21), none, (.fa 0 (.t 20))⟩,
  ⟨(some 22), none, (.ld none (.t 21))⟩,
  ⟨(some 23), none, (.sls 3 (.t 22) (some (.c (.i .i64 1))) none none)⟩,
  ⟨(some 24), none, (.nilc (.t 18))⟩,
  ⟨(some 25), none, (.fa 0 (.t 24))⟩,
  ⟨none, none, (.st 1 (.t 25) (.t 23))⟩]
theorem r10_4 {fn : AFun} {K : List AItem} {t : Nat → AV} {H : AH} {T : Tbl} : runR T fn (.code (.reg d10_4) :: K) t H = regR T fn K (aops (callR T) [
  ⟨(some 18), none, (.val (.t 0))⟩,
  ⟨(some 19), none, (.val (.t 0))⟩,
  ⟨(some 20), none, (.nilc (.t 19))⟩,
  ⟨(some 21), none, (.fa 0 (.t 20))⟩,
  ⟨(some 22), none, (.ld none (.t 21))⟩,
  ⟨(some 23), none, (.sls 3 (.t 22) (some (.c (.i .i64 1))) none none)⟩,
  ⟨(some 24), none, (.nilc (.t 18))⟩,
  ⟨(some 25), none, (.fa 0 (.t 24))⟩,
  ⟨none, none, (.st 1 (.t 25) (.t 23))⟩] t H) := runR_reg'
def d10_5 : List AOper := [
  ⟨(some 26), none, (.ld (some 3) (.t 4))⟩,
  ⟨none, none, (.st 3 (.t 2) (.t 26))⟩,
  ⟨(some 3), none, (.val (.c (.b true)))⟩]
theorem r10_5 {fn : AFun} {K : List AItem} {t : Nat → AV} {H : AH} {T : Tbl} : runR T fn (.code (.reg d10_5) :: K) t H = regR T fn K (aops (callR T) [
  ⟨(some 26), none, (.ld (some 3) (.t 4))⟩,
  ⟨none, none, (.st 3 (.t 2) (.t 26))⟩,
  ⟨(some 3), none, (.val (.c (.b true)))⟩] t H) := runR_reg'
def a10 : AFun := ⟨27, [(.cell 2 (some 3)), (.tmp 3)], (.seq (.reg d10_0) (.seq (.seq (.reg d10_1) (.cond (.t 10) (.seq (.reg d10_2) .ret) .skip)) (.seq (.reg d10_3) (.seq (.reg d10_4) (.seq (.reg d10_5) .ret)))))⟩
theorem a10_ok : cfun Try.prog 10 = some a10 := by kernel_rfl
/-- futtock/futtocklaw18.same -/
def d11_0 : List AOper := [
  ⟨(some 4), none, (.val (.c (.b false)))⟩]
theorem r11_0 {fn : AFun} {K : List AItem} {t : Nat → AV} {H : AH} {T : Tbl} : runR T fn (.code (.reg d11_0) :: K) t H = regR T fn K (aops (callR T) [
  ⟨(some 4), none, (.val (.c (.b false)))⟩] t H) := runR_reg'
def d11_1 : List AOper := [
  ⟨(some 6), none, (.val (.t 0))⟩,
  ⟨(some 7), none, (.len (.t 6))⟩,
  ⟨(some 8), none, (.val (.t 1))⟩,
  ⟨(some 9), none, (.len (.t 8))⟩,
  ⟨(some 10), none, (.bin .neq (.t 7) (.t 9))⟩]
theorem r11_1 {fn : AFun} {K : List AItem} {t : Nat → AV} {H : AH} {T : Tbl} : runR T fn (.code (.reg d11_1) :: K) t H = regR T fn K (aops (callR T) [
  ⟨(some 6), none, (.val (.t 0))⟩,
  ⟨(some 7), none, (.len (.t 6))⟩,
  ⟨(some 8), none, (.val (.t 1))⟩,
  ⟨(some 9), none, (.len (.t 8))⟩,
  ⟨(some 10), none, (.bin .neq (.t 7) (.t 9))⟩] t H) := runR_reg'
def d11_2 : List AOper := [
  ⟨(some 4), none, (.val (.c (.b false)))⟩]
theorem r11_2 {fn : AFun} {K : List AItem} {t : Nat → AV} {H : AH} {T : Tbl} : runR T fn (.code (.reg d11_2) :: K) t H = regR T fn K (aops (callR T) [
  ⟨(some 4), none, (.val (.c (.b false)))⟩] t H) := runR_reg'
def d11_3 : List AOper := [
  ⟨(some 11), none, (.val (.t 0))⟩,
  ⟨(some 12), none, (.len (.t 11))⟩,
  ⟨(some 13), none, (.val (.c (.i .i64 0)))⟩]
theorem r11_3 {fn : AFun} {K : List AItem} {t : Nat → AV} {H : AH} {T : Tbl} : runR T fn (.code (.reg d11_3) :: K) t H = regR T fn K (aops (callR T) [
  ⟨(some 11), none, (.val (.t 0))⟩,
  ⟨(some 12), none, (.len (.t 11))⟩,
  ⟨(some 13), none, (.val (.c (.i .i64 0)))⟩] t H) := runR_reg'
def d11_4 : List AOper := [
  ⟨(some 14), none, (.bin .lss (.t 13) (.t 12))⟩]
theorem r11_4 {fn : AFun} {K : List AItem} {t : Nat → AV} {H : AH} {T : Tbl} : runR T fn (.code (.reg d11_4) :: K) t H = regR T fn K (aops (callR T) [
  ⟨(some 14), none, (.bin .lss (.t 13) (.t 12))⟩] t H) := runR_reg'
def d11_5 : List AOper := [
  ⟨(some 15), none, (.val (.t 13))⟩,
  ⟨(some 5), none, (.val (.t 15))⟩]
theorem r11_5 {fn : AFun} {K : List AItem} {t : Nat → AV} {H : AH} {T : Tbl} : runR T fn (.code (.reg d11_5) :: K) t H = regR T fn K (aops (callR T) [
  ⟨(some 15), none, (.val (.t 13))⟩,
  ⟨(some 5), none, (.val (.t 15))⟩] t H) := runR_reg'
def d11_6 : List (AOper × List Nat) := [
  (⟨(some 16), none, (.val (.t 0))⟩, []),
  (⟨(some 17), none, (.val (.t 5))⟩, []),
  (⟨(some 18), none, (.ia 1 (.t 16) (.t 17))⟩, []),
  (⟨(some 19), none, (.ld none (.t 18))⟩, [1]),
  (⟨(some 20), none, (.val (.t 1))⟩, []),
  (⟨(some 21), none, (.val (.t 5))⟩, []),
  (⟨(some 22), none, (.ia 1 (.t 20) (.t 21))⟩, []),
  (⟨(some 23), none, (.ld none (.t 22))⟩, [1]),
  (⟨(some 24), none, (.bin .neq (.t 19) (.t 23))⟩, [])]
theorem r11_6 {fn : AFun} {K : List AItem} {t : Nat → AV} {H : AH} {T : Tbl} : runR T fn (.code (.drw d11_6) :: K) t H = regR T fn K (aops (callR T) [
  ⟨(some 16), none, (.val (.t 0))⟩,
  ⟨(some 17), none, (.val (.t 5))⟩,
  ⟨(some 18), none, (.ia 1 (.t 16) (.t 17))⟩,
  ⟨(some 19), none, (.ld none (.t 18))⟩,
  ⟨(some 20), none, (.val (.t 1))⟩,
  ⟨(some 21), none, (.val (.t 5))⟩,
  ⟨(some 22), none, (.ia 1 (.t 20) (.t 21))⟩,
  ⟨(some 23), none, (.ld none (.t 22))⟩,
  ⟨(some 24), none, (.bin .neq (.t 19) (.t 23))⟩] t H) := runR_plain rfl
def d11_7 : List AOper := [
  ⟨(some 4), none, (.val (.c (.b false)))⟩]
theorem r11_7 {fn : AFun} {K : List AItem} {t : Nat → AV} {H : AH} {T : Tbl} : runR T fn (.code (.reg d11_7) :: K) t H = regR T fn K (aops (callR T) [
  ⟨(some 4), none, (.val (.c (.b false)))⟩] t H) := runR_reg'
def d11_8 : List AOper := [
  ⟨(some 25), none, (.bin .add (.t 13) (.c (.i .i64 1)))⟩,
  ⟨(some 13), none, (.val (.t 25))⟩]
theorem r11_8 {fn : AFun} {K : List AItem} {t : Nat → AV} {H : AH} {T : Tbl} : runR T fn (.code (.reg d11_8) :: K) t H = regR T fn K (aops (callR T) [
  ⟨(some 25), none, (.bin .add (.t 13) (.c (.i .i64 1)))⟩,
  ⟨(some 13), none, (.val (.t 25))⟩] t H) := runR_reg'
def l11_9 : ACode := (.seq (.reg d11_4) (.seq (.cond (.t 14) .skip (.exit 0)) (.seq (.block 1 (.seq (.reg d11_5) (.seq (.drw d11_6) (.cond (.t 24) (.seq (.reg d11_7) .ret) .skip)))) (.reg d11_8))))
def d11_10 : List AOper := [
  ⟨(some 4), none, (.val (.c (.b true)))⟩]
theorem r11_10 {fn : AFun} {K : List AItem} {t : Nat → AV} {H : AH} {T : Tbl} : runR T fn (.code (.reg d11_10) :: K) t H = regR T fn K (aops (callR T) [
  ⟨(some 4), none, (.val (.c (.b true)))⟩] t H) := runR_reg'
def a11 : AFun := ⟨26, [(.tmp 4)], (.seq (.reg d11_0) (.seq (.seq (.reg d11_1) (.cond (.t 10) (.seq (.reg d11_2) .ret) .skip)) (.seq (.seq (.reg d11_3) (.block 0 (.loop l11_9))) (.seq (.reg d11_10) .ret))))⟩
theorem a11_ok : cfun Try.prog 11 = some a11 := by kernel_rfl
/-- (*futtock/vmq.Queue).Ask -/
def d12_0 : List AOper := [
  ⟨(some 4), none, (.box (.t 1))⟩,
  ⟨(some 6), none, (.val (.c (.b false)))⟩,
  ⟨(some 7), none, (.val (.c (.i .i64 0)))⟩]
theorem r12_0 {fn : AFun} {K : List AItem} {t : Nat → AV} {H : AH} {T : Tbl} : runR T fn (.code (.reg d12_0) :: K) t H = regR T fn K (aops (callR T) [
  ⟨(some 4), none, (.box (.t 1))⟩,
  ⟨(some 6), none, (.val (.c (.b false)))⟩,
  ⟨(some 7), none, (.val (.c (.i .i64 0)))⟩] t H) := runR_reg'
def d12_1 : List AOper := [
  ⟨(some 10), none, (.val (.t 0))⟩,
  ⟨(some 11), none, (.call 20 [(.t 10)])⟩,
  ⟨(some 12), none, (.un .not (.t 11))⟩]
theorem r12_1 {fn : AFun} {K : List AItem} {t : Nat → AV} {H : AH} {T : Tbl} : runR T fn (.code (.reg d12_1) :: K) t H = regR T fn K (aops (callR T) [
  ⟨(some 10), none, (.val (.t 0))⟩,
  ⟨(some 11), none, (.call 20 [(.t 10)])⟩,
  ⟨(some 12), none, (.un .not (.t 11))⟩] t H) := runR_reg'
def d12_2 : List AOper := [
  ⟨(some 6), none, (.val (.c (.b false)))⟩,
  ⟨(some 7), none, (.val (.c (.i .i64 2)))⟩]
theorem r12_2 {fn : AFun} {K : List AItem} {t : Nat → AV} {H : AH} {T : Tbl} : runR T fn (.code (.reg d12_2) :: K) t H = regR T fn K (aops (callR T) [
  ⟨(some 6), none, (.val (.c (.b false)))⟩,
  ⟨(some 7), none, (.val (.c (.i .i64 2)))⟩] t H) := runR_reg'
def d12_3 : List (AOper × List Nat) := [
  (⟨(some 14), none, (.val (.t 0))⟩, []),
  (⟨(some 15), none, (.nilc (.t 14))⟩, []),
  (⟨(some 16), none, (.fa 1 (.t 15))⟩, []),
  (⟨(some 17), none, (.ld none (.t 16))⟩, [1]),
  (⟨(some 18), none, (.ld (some 2) (.t 4))⟩, [1]),
  (⟨(some 19), none, (.lk [9, 0, 0] (.sl none 0 0 true 0) (.t 17) (.t 18) true)⟩, [1]),
  (⟨(some 13), none, (.val (.t 19))⟩, []),
  (⟨(some 20), none, (.ext (.t 13) 0)⟩, []),
  (⟨(some 21), none, (.ext (.t 13) 1)⟩, []),
  (⟨(some 8), none, (.val (.t 20))⟩, []),
  (⟨(some 9), none, (.val (.t 21))⟩, [])]
theorem r12_3 {fn : AFun} {K : List AItem} {t : Nat → AV} {H : AH} {T : Tbl} : runR T fn (.code (.drw d12_3) :: K) t H = regR T fn K (aops (callR T) [
  ⟨(some 14), none, (.val (.t 0))⟩,
  ⟨(some 15), none, (.nilc (.t 14))⟩,
  ⟨(some 16), none, (.fa 1 (.t 15))⟩,
  ⟨(some 17), none, (.ld none (.t 16))⟩,
  ⟨(some 18), none, (.ld (some 2) (.t 4))⟩,
  ⟨(some 19), none, (.lk [9, 0, 0] (.sl none 0 0 true 0) (.t 17) (.t 18) true)⟩,
  ⟨(some 13), none, (.val (.t 19))⟩,
  ⟨(some 20), none, (.ext (.t 13) 0)⟩,
  ⟨(some 21), none, (.ext (.t 13) 1)⟩,
  ⟨(some 8), none, (.val (.t 20))⟩,
  ⟨(some 9), none, (.val (.t 21))⟩] t H) := runR_plain rfl
def d12_4 : List AOper := [
  ⟨(some 23), none, (.ld (some 2) (.t 4))⟩,
  ⟨(some 24), none, (.call 21 [(.t 23)])⟩,
  ⟨(some 25), none, (.un .not (.t 24))⟩,
  ⟨(some 26), none, (.val (.t 25))⟩,
  ⟨(some 27), (some (26, false)), (.val (.t 2))⟩,
  ⟨(some 28), (some (26, false)), (.bin .lss (.t 27) (.c (.i .i64 (-1))))⟩,
  ⟨(some 29), none, (.pick (.t 26) (.c (.b true)) (.t 28))⟩,
  ⟨(some 30), none, (.val (.t 29))⟩,
  ⟨(some 31), (some (30, false)), (.val (.t 2))⟩,
  ⟨(some 32), (some (30, false)), (.bin .geq (.t 31) (.c (.i .i64 256)))⟩,
  ⟨(some 33), none, (.pick (.t 30) (.c (.b true)) (.t 32))⟩,
  ⟨(some 22), none, (.val (.t 33))⟩]
theorem r12_4 {fn : AFun} {K : List AItem} {t : Nat → AV} {H : AH} {T : Tbl} : runR T fn (.code (.reg d12_4) :: K) t H = regR T fn K (aops (callR T) [
  ⟨(some 23), none, (.ld (some 2) (.t 4))⟩,
  ⟨(some 24), none, (.call 21 [(.t 23)])⟩,
  ⟨(some 25), none, (.un .not (.t 24))⟩,
  ⟨(some 26), none, (.val (.t 25))⟩,
  ⟨(some 27), (some (26, false)), (.val (.t 2))⟩,
  ⟨(some 28), (some (26, false)), (.bin .lss (.t 27) (.c (.i .i64 (-1))))⟩,
  ⟨(some 29), none, (.pick (.t 26) (.c (.b true)) (.t 28))⟩,
  ⟨(some 30), none, (.val (.t 29))⟩,
  ⟨(some 31), (some (30, false)), (.val (.t 2))⟩,
  ⟨(some 32), (some (30, false)), (.bin .geq (.t 31) (.c (.i .i64 256)))⟩,
  ⟨(some 33), none, (.pick (.t 30) (.c (.b true)) (.t 32))⟩,
  ⟨(some 22), none, (.val (.t 33))⟩] t H) := runR_reg'
def d12_5 : List AOper := [
  ⟨(some 6), none, (.val (.c (.b false)))⟩,
  ⟨(some 7), none, (.val (.c (.i .i64 1)))⟩]
theorem r12_5 {fn : AFun} {K : List AItem} {t : Nat → AV} {H : AH} {T : Tbl} : runR T fn (.code (.reg d12_5) :: K) t H = regR T fn K (aops (callR T) [
  ⟨(some 6), none, (.val (.c (.b false)))⟩,
  ⟨(some 7), none, (.val (.c (.i .i64 1)))⟩] t H) := runR_reg'
def d12_6 : List AOper := [
  ⟨(some 35), none, (.val (.t 0))⟩,
  ⟨(some 36), none, (.val (.t 2))⟩,
  ⟨(some 37), none, (.call 15 [(.t 35), (.t 36)])⟩,
  ⟨(some 34), none, (.val (.t 37))⟩]
theorem r12_6 {fn : AFun} {K : List AItem} {t : Nat → AV} {H : AH} {T : Tbl} : runR T fn (.code (.reg d12_6) :: K) t H = regR T fn K (aops (callR T) [
  ⟨(some 35), none, (.val (.t 0))⟩,
  ⟨(some 36), none, (.val (.t 2))⟩,
  ⟨(some 37), none, (.call 15 [(.t 35), (.t 36)])⟩,
  ⟨(some 34), none, (.val (.t 37))⟩] t H) := runR_reg'
def d12_7 : List AOper := [
  ⟨(some 6), none, (.val (.c (.b false)))⟩,
  ⟨(some 7), none, (.val (.c (.i .i64 7)))⟩]
theorem r12_7 {fn : AFun} {K : List AItem} {t : Nat → AV} {H : AH} {T : Tbl} : runR T fn (.code (.reg d12_7) :: K) t H = regR T fn K (aops (callR T) [
  ⟨(some 6), none, (.val (.c (.b false)))⟩,
  ⟨(some 7), none, (.val (.c (.i .i64 7)))⟩] t H) := runR_reg'
def d12_8 : List AOper := [
  ⟨(some 39), none, (.val (.t 9))⟩,
  ⟨(some 40), none, (.un .not (.t 39))⟩,
  ⟨(some 41), none, (.val (.t 40))⟩,
  ⟨(some 42), (some (41, true)), (.val (.t 0))⟩,
  ⟨(some 43), (some (41, true)), (.nilc (.t 42))⟩,
  ⟨(some 44), (some (41, true)), (.fa 0 (.t 43))⟩,
  ⟨(some 45), (some (41, true)), (.ld none (.t 44))⟩,
  ⟨(some 46), (some (41, true)), (.len (.t 45))⟩,
  ⟨(some 47), (some (41, true)), (.bin .eql (.t 46) (.c (.i .i64 256)))⟩,
  ⟨(some 48), none, (.pick (.t 41) (.t 47) (.c (.b false)))⟩,
  ⟨(some 38), none, (.val (.t 48))⟩]
theorem r12_8 {fn : AFun} {K : List AItem} {t : Nat → AV} {H : AH} {T : Tbl} : runR T fn (.code (.reg d12_8) :: K) t H = regR T fn K (aops (callR T) [
  ⟨(some 39), none, (.val (.t 9))⟩,
  ⟨(some 40), none, (.un .not (.t 39))⟩,
  ⟨(some 41), none, (.val (.t 40))⟩,
  ⟨(some 42), (some (41, true)), (.val (.t 0))⟩,
  ⟨(some 43), (some (41, true)), (.nilc (.t 42))⟩,
  ⟨(some 44), (some (41, true)), (.fa 0 (.t 43))⟩,
  ⟨(some 45), (some (41, true)), (.ld none (.t 44))⟩,
  ⟨(some 46), (some (41, true)), (.len (.t 45))⟩,
  ⟨(some 47), (some (41, true)), (.bin .eql (.t 46) (.c (.i .i64 256)))⟩,
  ⟨(some 48), none, (.pick (.t 41) (.t 47) (.c (.b false)))⟩,
  ⟨(some 38), none, (.val (.t 48))⟩] t H) := runR_reg'
def d12_9 : List AOper := [
  ⟨(some 6), none, (.val (.c (.b false)))⟩,
  ⟨(some 7), none, (.val (.c (.i .i64 8)))⟩]
theorem r12_9 {fn : AFun} {K : List AItem} {t : Nat → AV} {H : AH} {T : Tbl} : runR T fn (.code (.reg d12_9) :: K) t H = regR T fn K (aops (callR T) [
  ⟨(some 6), none, (.val (.c (.b false)))⟩,
  ⟨(some 7), none, (.val (.c (.i .i64 8)))⟩] t H) := runR_reg'
def d12_10 : List AOper := [
  ⟨(some 50), none, (.val (.t 9))⟩,
  ⟨(some 51), none, (.un .not (.t 50))⟩,
  ⟨(some 49), none, (.val (.t 51))⟩]
theorem r12_10 {fn : AFun} {K : List AItem} {t : Nat → AV} {H : AH} {T : Tbl} : runR T fn (.code (.reg d12_10) :: K) t H = regR T fn K (aops (callR T) [
  ⟨(some 50), none, (.val (.t 9))⟩,
  ⟨(some 51), none, (.un .not (.t 50))⟩,
  ⟨(some 49), none, (.val (.t 51))⟩] t H) := runR_reg'
def d12_11 : List (AOper × List Nat) := [
  (⟨(some 52), none, (.val (.t 0))⟩, []),
  (⟨(some 53), none, (.val (.t 0))⟩, []),
  (⟨(some 54), none, (.nilc (.t 53))⟩, []),
  (⟨(some 55), none, (.fa 0 (.t 54))⟩, []),
  (⟨(some 56), none, (.ld none (.t 55))⟩, [1]),
  (⟨(some 57), none, (.ld (some 2) (.t 4))⟩, [1]),
  (⟨(some 58), none, (.bsl [(.i .i64 0), (.i .i64 0)] 1 [(0, 2, (.t 57))])⟩, []),
  (⟨(some 59), none, (.app [(.i .i64 0), (.i .i64 0)] 16 (.t 56) (.t 58))⟩, []),
  (⟨(some 60), none, (.nilc (.t 52))⟩, []),
  (⟨(some 61), none, (.fa 0 (.t 60))⟩, []),
  (⟨none, none, (.st 1 (.t 61) (.t 59))⟩, [])]
theorem r12_11 {fn : AFun} {K : List AItem} {t : Nat → AV} {H : AH} {T : Tbl} : runR T fn (.code (.drw d12_11) :: K) t H = regR T fn K (aops (callR T) [
  ⟨(some 52), none, (.val (.t 0))⟩,
  ⟨(some 53), none, (.val (.t 0))⟩,
  ⟨(some 54), none, (.nilc (.t 53))⟩,
  ⟨(some 55), none, (.fa 0 (.t 54))⟩,
  ⟨(some 56), none, (.ld none (.t 55))⟩,
  ⟨(some 57), none, (.ld (some 2) (.t 4))⟩,
  ⟨(some 58), none, (.bsl [(.i .i64 0), (.i .i64 0)] 1 [(0, 2, (.t 57))])⟩,
  ⟨(some 59), none, (.app [(.i .i64 0), (.i .i64 0)] 16 (.t 56) (.t 58))⟩,
  ⟨(some 60), none, (.nilc (.t 52))⟩,
  ⟨(some 61), none, (.fa 0 (.t 60))⟩,
  ⟨none, none, (.st 1 (.t 61) (.t 59))⟩] t H) := runR_plain rfl
def d12_12 : List (AOper × List Nat) := [
  (⟨(some 62), none, (.val (.t 0))⟩, []),
  (⟨(some 63), none, (.nilc (.t 62))⟩, []),
  (⟨(some 64), none, (.fa 1 (.t 63))⟩, []),
  (⟨(some 65), none, (.ld none (.t 64))⟩, [1]),
  (⟨(some 66), none, (.ld (some 2) (.t 4))⟩, [1]),
  (⟨none, none, (.mu [9, 0, 0] (.t 65) (.t 66) (.c (.sl none 0 0 true 0)))⟩, [])]
theorem r12_12 {fn : AFun} {K : List AItem} {t : Nat → AV} {H : AH} {T : Tbl} : runR T fn (.code (.drw d12_12) :: K) t H = regR T fn K (aops (callR T) [
  ⟨(some 62), none, (.val (.t 0))⟩,
  ⟨(some 63), none, (.nilc (.t 62))⟩,
  ⟨(some 64), none, (.fa 1 (.t 63))⟩,
  ⟨(some 65), none, (.ld none (.t 64))⟩,
  ⟨(some 66), none, (.ld (some 2) (.t 4))⟩,
  ⟨none, none, (.mu [9, 0, 0] (.t 65) (.t 66) (.c (.sl none 0 0 true 0)))⟩] t H) := runR_plain rfl
def d12_13 : List AOper := [
  ⟨(some 67), none, (.val (.t 2))⟩,
  ⟨(some 68), none, (.bin .neq (.t 67) (.c (.i .i64 (-1))))⟩]
theorem r12_13 {fn : AFun} {K : List AItem} {t : Nat → AV} {H : AH} {T : Tbl} : runR T fn (.code (.reg d12_13) :: K) t H = regR T fn K (aops (callR T) [
  ⟨(some 67), none, (.val (.t 2))⟩,
  ⟨(some 68), none, (.bin .neq (.t 67) (.c (.i .i64 (-1))))⟩] t H) := runR_reg'
def d12_14 : List (AOper × List Nat) := [
  (⟨(some 69), none, (.val (.t 0))⟩, []),
  (⟨(some 70), none, (.nilc (.t 69))⟩, []),
  (⟨(some 71), none, (.fa 1 (.t 70))⟩, []),
  (⟨(some 72), none, (.ld none (.t 71))⟩, [1]),
  (⟨(some 73), none, (.ld (some 2) (.t 4))⟩, [1]),
  (⟨(some 75), none, (.val (.t 2))⟩, []),
  (⟨(some 76), none, (.bsl [(.i .i64 0)] 1 [(0, 1, (.t 75))])⟩, []),
  (⟨(some 77), none, (.mke [9, 0, 0] (.sl none 0 0 true 0) (.t 72) (.t 73))⟩, []),
  (⟨(some 74), none, (.ext (.t 77) 0)⟩, []),
  (⟨(some 78), none, (.app [(.i .i64 0)] 8 (.t 74) (.t 76))⟩, []),
  (⟨(some 79), none, (.ext (.t 77) 1)⟩, []),
  (⟨none, none, (.ens (.t 72) (.t 79) (.t 78))⟩, [])]
theorem r12_14 {fn : AFun} {K : List AItem} {t : Nat → AV} {H : AH} {T : Tbl} : runR T fn (.code (.drw d12_14) :: K) t H = regR T fn K (aops (callR T) [
  ⟨(some 69), none, (.val (.t 0))⟩,
  ⟨(some 70), none, (.nilc (.t 69))⟩,
  ⟨(some 71), none, (.fa 1 (.t 70))⟩,
  ⟨(some 72), none, (.ld none (.t 71))⟩,
  ⟨(some 73), none, (.ld (some 2) (.t 4))⟩,
  ⟨(some 75), none, (.val (.t 2))⟩,
  ⟨(some 76), none, (.bsl [(.i .i64 0)] 1 [(0, 1, (.t 75))])⟩,
  ⟨(some 77), none, (.mke [9, 0, 0] (.sl none 0 0 true 0) (.t 72) (.t 73))⟩,
  ⟨(some 74), none, (.ext (.t 77) 0)⟩,
  ⟨(some 78), none, (.app [(.i .i64 0)] 8 (.t 74) (.t 76))⟩,
  ⟨(some 79), none, (.ext (.t 77) 1)⟩,
  ⟨none, none, (.ens (.t 72) (.t 79) (.t 78))⟩] t H) := runR_plain rfl
def d12_15 : List (AOper × List Nat) := [
  (⟨(some 80), none, (.val (.t 0))⟩, []),
  (⟨(some 81), none, (.nilc (.t 80))⟩, []),
  (⟨(some 82), none, (.fa 2 (.t 81))⟩, []),
  (⟨(some 83), none, (.ld none (.t 82))⟩, [1]),
  (⟨(some 84), none, (.val (.t 2))⟩, []),
  (⟨(some 85), none, (.ld (some 2) (.t 4))⟩, [1]),
  (⟨none, none, (.mu [0] (.t 83) (.t 84) (.t 85))⟩, [])]
theorem r12_15 {fn : AFun} {K : List AItem} {t : Nat → AV} {H : AH} {T : Tbl} : runR T fn (.code (.drw d12_15) :: K) t H = regR T fn K (aops (callR T) [
  ⟨(some 80), none, (.val (.t 0))⟩,
  ⟨(some 81), none, (.nilc (.t 80))⟩,
  ⟨(some 82), none, (.fa 2 (.t 81))⟩,
  ⟨(some 83), none, (.ld none (.t 82))⟩,
  ⟨(some 84), none, (.val (.t 2))⟩,
  ⟨(some 85), none, (.ld (some 2) (.t 4))⟩,
  ⟨none, none, (.mu [0] (.t 83) (.t 84) (.t 85))⟩] t H) := runR_plain rfl
def d12_16 : List AOper := [
  ⟨(some 86), none, (.val (.t 9))⟩,
  ⟨(some 87), none, (.un .not (.t 86))⟩,
  ⟨(some 6), none, (.val (.t 87))⟩,
  ⟨(some 7), none, (.val (.c (.i .i64 0)))⟩]
theorem r12_16 {fn : AFun} {K : List AItem} {t : Nat → AV} {H : AH} {T : Tbl} : runR T fn (.code (.reg d12_16) :: K) t H = regR T fn K (aops (callR T) [
  ⟨(some 86), none, (.val (.t 9))⟩,
  ⟨(some 87), none, (.un .not (.t 86))⟩,
  ⟨(some 6), none, (.val (.t 87))⟩,
  ⟨(some 7), none, (.val (.c (.i .i64 0)))⟩] t H) := runR_reg'
def a12 : AFun := ⟨88, [(.tmp 6), (.tmp 7)], (.seq (.reg d12_0) (.seq (.seq (.reg d12_1) (.cond (.t 12) (.seq (.reg d12_2) .ret) .skip)) (.seq (.drw d12_3) (.seq (.block 0 (.seq (.reg d12_4) (.cond (.t 22) (.seq (.reg d12_5) .ret) (.seq (.reg d12_6) (.cond (.t 34) (.seq (.reg d12_7) .ret) (.seq (.reg d12_8) (.cond (.t 38) (.seq (.reg d12_9) .ret) (.seq (.reg d12_10) (.cond (.t 49) (.seq (.drw d12_11) (.drw d12_12)) .skip))))))))) (.seq (.seq (.reg d12_13) (.cond (.t 68) (.seq (.drw d12_14) (.drw d12_15)) .skip)) (.seq (.reg d12_16) .ret))))))⟩
theorem a12_ok : cfun Try.prog 12 = some a12 := by kernel_rfl
/-- (*futtock/futtockref18.Queue).Ask -/
def d13_0 : List AOper := [
  ⟨(some 4), none, (.box (.t 1))⟩,
  ⟨(some 6), none, (.val (.c (.b false)))⟩,
  ⟨(some 7), none, (.val (.c (.i .i64 0)))⟩]
theorem r13_0 {fn : AFun} {K : List AItem} {t : Nat → AV} {H : AH} {T : Tbl} : runR T fn (.code (.reg d13_0) :: K) t H = regR T fn K (aops (callR T) [
  ⟨(some 4), none, (.box (.t 1))⟩,
  ⟨(some 6), none, (.val (.c (.b false)))⟩,
  ⟨(some 7), none, (.val (.c (.i .i64 0)))⟩] t H) := runR_reg'
def d13_1 : List AOper := [
  ⟨(some 11), none, (.fa 0 (.t 4))⟩,
  ⟨(some 12), none, (.ld none (.t 11))⟩,
  ⟨(some 13), none, (.bin .eql (.t 12) (.c (.i .i64 1)))⟩,
  ⟨(some 14), none, (.val (.t 13))⟩,
  ⟨(some 15), (some (14, true)), (.fa 1 (.t 4))⟩,
  ⟨(some 16), (some (14, true)), (.ld none (.t 15))⟩,
  ⟨(some 17), (some (14, true)), (.bin .geq (.t 16) (.c (.i .i64 0)))⟩,
  ⟨(some 18), none, (.pick (.t 14) (.t 17) (.c (.b false)))⟩,
  ⟨(some 19), none, (.val (.t 18))⟩,
  ⟨(some 20), (some (19, true)), (.fa 1 (.t 4))⟩,
  ⟨(some 21), (some (19, true)), (.ld none (.t 20))⟩,
  ⟨(some 22), (some (19, true)), (.bin .lss (.t 21) (.c (.i .i64 65536)))⟩,
  ⟨(some 23), none, (.pick (.t 19) (.t 22) (.c (.b false)))⟩,
  ⟨(some 8), none, (.val (.t 23))⟩]
theorem r13_1 {fn : AFun} {K : List AItem} {t : Nat → AV} {H : AH} {T : Tbl} : runR T fn (.code (.reg d13_1) :: K) t H = regR T fn K (aops (callR T) [
  ⟨(some 11), none, (.fa 0 (.t 4))⟩,
  ⟨(some 12), none, (.ld none (.t 11))⟩,
  ⟨(some 13), none, (.bin .eql (.t 12) (.c (.i .i64 1)))⟩,
  ⟨(some 14), none, (.val (.t 13))⟩,
  ⟨(some 15), (some (14, true)), (.fa 1 (.t 4))⟩,
  ⟨(some 16), (some (14, true)), (.ld none (.t 15))⟩,
  ⟨(some 17), (some (14, true)), (.bin .geq (.t 16) (.c (.i .i64 0)))⟩,
  ⟨(some 18), none, (.pick (.t 14) (.t 17) (.c (.b false)))⟩,
  ⟨(some 19), none, (.val (.t 18))⟩,
  ⟨(some 20), (some (19, true)), (.fa 1 (.t 4))⟩,
  ⟨(some 21), (some (19, true)), (.ld none (.t 20))⟩,
  ⟨(some 22), (some (19, true)), (.bin .lss (.t 21) (.c (.i .i64 65536)))⟩,
  ⟨(some 23), none, (.pick (.t 19) (.t 22) (.c (.b false)))⟩,
  ⟨(some 8), none, (.val (.t 23))⟩] t H) := runR_reg'
def d13_2 : List AOper := [
  ⟨(some 24), none, (.val (.t 8))⟩,
  ⟨(some 25), none, (.un .not (.t 24))⟩,
  ⟨(some 26), none, (.val (.t 25))⟩,
  ⟨(some 27), (some (26, true)), (.fa 0 (.t 4))⟩,
  ⟨(some 28), (some (26, true)), (.ld none (.t 27))⟩,
  ⟨(some 29), (some (26, true)), (.bin .neq (.t 28) (.c (.i .i64 2)))⟩,
  ⟨(some 30), (some (26, true)), (.val (.t 29))⟩,
  ⟨(some 31), (some (30, false)), (.fa 1 (.t 4))⟩,
  ⟨(some 32), (some (30, false)), (.ld none (.t 31))⟩,
  ⟨(some 33), (some (30, false)), (.bin .neq (.t 32) (.c (.i .i64 0)))⟩,
  ⟨(some 34), (some (26, true)), (.pick (.t 30) (.c (.b true)) (.t 33))⟩,
  ⟨(some 35), none, (.pick (.t 26) (.t 34) (.c (.b false)))⟩,
  ⟨(some 36), none, (.val (.t 35))⟩,
  ⟨(some 37), (some (36, false)), (.val (.t 2))⟩,
  ⟨(some 38), (some (36, false)), (.bin .lss (.t 37) (.c (.i .i64 (-1))))⟩,
  ⟨(some 39), none, (.pick (.t 36) (.c (.b true)) (.t 38))⟩,
  ⟨(some 40), none, (.val (.t 39))⟩,
  ⟨(some 41), (some (40, false)), (.val (.t 2))⟩,
  ⟨(some 42), (some (40, false)), (.bin .geq (.t 41) (.c (.i .i64 256)))⟩,
  ⟨(some 43), none, (.pick (.t 40) (.c (.b true)) (.t 42))⟩]
theorem r13_2 {fn : AFun} {K : List AItem} {t : Nat → AV} {H : AH} {T : Tbl} : runR T fn (.code (.reg d13_2) :: K) t H = regR T fn K (aops (callR T) [
  ⟨(some 24), none, (.val (.t 8))⟩,
  ⟨(some 25), none, (.un .not (.t 24))⟩,
  ⟨(some 26), none, (.val (.t 25))⟩,
  ⟨(some 27), (some (26, true)), (.fa 0 (.t 4))⟩,
  ⟨(some 28), (some (26, true)), (.ld none (.t 27))⟩,
  ⟨(some 29), (some (26, true)), (.bin .neq (.t 28) (.c (.i .i64 2)))⟩,
  ⟨(some 30), (some (26, true)), (.val (.t 29))⟩,
  ⟨(some 31), (some (30, false)), (.fa 1 (.t 4))⟩,
  ⟨(some 32), (some (30, false)), (.ld none (.t 31))⟩,
  ⟨(some 33), (some (30, false)), (.bin .neq (.t 32) (.c (.i .i64 0)))⟩,
  ⟨(some 34), (some (26, true)), (.pick (.t 30) (.c (.b true)) (.t 33))⟩,
  ⟨(some 35), none, (.pick (.t 26) (.t 34) (.c (.b false)))⟩,
  ⟨(some 36), none, (.val (.t 35))⟩,
  ⟨(some 37), (some (36, false)), (.val (.t 2))⟩,
  ⟨(some 38), (some (36, false)), (.bin .lss (.t 37) (.c (.i .i64 (-1))))⟩,
  ⟨(some 39), none, (.pick (.t 36) (.c (.b true)) (.t 38))⟩,
  ⟨(some 40), none, (.val (.t 39))⟩,
  ⟨(some 41), (some (40, false)), (.val (.t 2))⟩,
  ⟨(some 42), (some (40, false)), (.bin .geq (.t 41) (.c (.i .i64 256)))⟩,
  ⟨(some 43), none, (.pick (.t 40) (.c (.b true)) (.t 42))⟩] t H) := runR_reg'
def d13_3 : List AOper := [
  ⟨(some 6), none, (.val (.c (.b false)))⟩,
  ⟨(some 7), none, (.val (.c (.i .i64 1)))⟩]
theorem r13_3 {fn : AFun} {K : List AItem} {t : Nat → AV} {H : AH} {T : Tbl} : runR T fn (.code (.reg d13_3) :: K) t H = regR T fn K (aops (callR T) [
  ⟨(some 6), none, (.val (.c (.b false)))⟩,
  ⟨(some 7), none, (.val (.c (.i .i64 1)))⟩] t H) := runR_reg'
def d13_4 : List AOper := [
  ⟨(some 44), none, (.val (.t 0))⟩,
  ⟨(some 45), none, (.val (.t 2))⟩,
  ⟨(some 46), none, (.call 16 [(.t 44), (.t 45)])⟩]
theorem r13_4 {fn : AFun} {K : List AItem} {t : Nat → AV} {H : AH} {T : Tbl} : runR T fn (.code (.reg d13_4) :: K) t H = regR T fn K (aops (callR T) [
  ⟨(some 44), none, (.val (.t 0))⟩,
  ⟨(some 45), none, (.val (.t 2))⟩,
  ⟨(some 46), none, (.call 16 [(.t 44), (.t 45)])⟩] t H) := runR_reg'
def d13_5 : List AOper := [
  ⟨(some 6), none, (.val (.c (.b false)))⟩,
  ⟨(some 7), none, (.val (.c (.i .i64 7)))⟩]
theorem r13_5 {fn : AFun} {K : List AItem} {t : Nat → AV} {H : AH} {T : Tbl} : runR T fn (.code (.reg d13_5) :: K) t H = regR T fn K (aops (callR T) [
  ⟨(some 6), none, (.val (.c (.b false)))⟩,
  ⟨(some 7), none, (.val (.c (.i .i64 7)))⟩] t H) := runR_reg'
def d13_6 : List AOper := [
  ⟨(some 9), none, (.val (.c (.sl none 0 0 true 0)))⟩]
theorem r13_6 {fn : AFun} {K : List AItem} {t : Nat → AV} {H : AH} {T : Tbl} : runR T fn (.code (.reg d13_6) :: K) t H = regR T fn K (aops (callR T) [
  ⟨(some 9), none, (.val (.c (.sl none 0 0 true 0)))⟩] t H) := runR_reg'
def d13_7 : List AOper := [
  ⟨(some 47), none, (.val (.t 2))⟩,
  ⟨(some 48), none, (.bin .geq (.t 47) (.c (.i .i64 0)))⟩]
theorem r13_7 {fn : AFun} {K : List AItem} {t : Nat → AV} {H : AH} {T : Tbl} : runR T fn (.code (.reg d13_7) :: K) t H = regR T fn K (aops (callR T) [
  ⟨(some 47), none, (.val (.t 2))⟩,
  ⟨(some 48), none, (.bin .geq (.t 47) (.c (.i .i64 0)))⟩] t H) := runR_reg'
def d13_8 : List AOper := [
  ⟨(some 49), none, (.val (.t 2))⟩,
  ⟨(some 50), none, (.bsl [(.i .i64 0)] 1 [(0, 1, (.t 49))])⟩,
  ⟨(some 9), none, (.val (.t 50))⟩]
theorem r13_8 {fn : AFun} {K : List AItem} {t : Nat → AV} {H : AH} {T : Tbl} : runR T fn (.code (.reg d13_8) :: K) t H = regR T fn K (aops (callR T) [
  ⟨(some 49), none, (.val (.t 2))⟩,
  ⟨(some 50), none, (.bsl [(.i .i64 0)] 1 [(0, 1, (.t 49))])⟩,
  ⟨(some 9), none, (.val (.t 50))⟩] t H) := runR_reg'
def d13_9 : List AOper := [
  ⟨(some 10), none, (.val (.c (.i .i64 0)))⟩]
theorem r13_9 {fn : AFun} {K : List AItem} {t : Nat → AV} {H : AH} {T : Tbl} : runR T fn (.code (.reg d13_9) :: K) t H = regR T fn K (aops (callR T) [
  ⟨(some 10), none, (.val (.c (.i .i64 0)))⟩] t H) := runR_reg'
def d13_10 : List AOper := [
  ⟨(some 51), none, (.val (.t 10))⟩,
  ⟨(some 52), none, (.val (.t 0))⟩,
  ⟨(some 53), none, (.nilc (.t 52))⟩,
  ⟨(some 54), none, (.fa 0 (.t 53))⟩,
  ⟨(some 55), none, (.ld none (.t 54))⟩,
  ⟨(some 56), none, (.len (.t 55))⟩,
  ⟨(some 57), none, (.bin .lss (.t 51) (.t 56))⟩]
theorem r13_10 {fn : AFun} {K : List AItem} {t : Nat → AV} {H : AH} {T : Tbl} : runR T fn (.code (.reg d13_10) :: K) t H = regR T fn K (aops (callR T) [
  ⟨(some 51), none, (.val (.t 10))⟩,
  ⟨(some 52), none, (.val (.t 0))⟩,
  ⟨(some 53), none, (.nilc (.t 52))⟩,
  ⟨(some 54), none, (.fa 0 (.t 53))⟩,
  ⟨(some 55), none, (.ld none (.t 54))⟩,
  ⟨(some 56), none, (.len (.t 55))⟩,
  ⟨(some 57), none, (.bin .lss (.t 51) (.t 56))⟩] t H) := runR_reg'
def d13_11 : List (AOper × List Nat) := [
  (⟨(some 60), none, (.val (.t 0))⟩, []),
  (⟨(some 61), none, (.nilc (.t 60))⟩, []),
  (⟨(some 62), none, (.fa 0 (.t 61))⟩, []),
  (⟨(some 63), none, (.ld none (.t 62))⟩, [1]),
  (⟨(some 64), none, (.val (.t 10))⟩, []),
  (⟨(some 65), none, (.ia 3 (.t 63) (.t 64))⟩, []),
  (⟨(some 66), none, (.fa 0 (.t 65))⟩, []),
  (⟨(some 67), none, (.ld (some 2) (.t 66))⟩, [1]),
  (⟨(some 68), none, (.ld (some 2) (.t 4))⟩, [1]),
  (⟨(some 69), none, (.eqc [0, 0] false (.t 67) (.t 68))⟩, [])]
theorem r13_11 {fn : AFun} {K : List AItem} {t : Nat → AV} {H : AH} {T : Tbl} : runR T fn (.code (.drw d13_11) :: K) t H = regR T fn K (aops (callR T) [
  ⟨(some 60), none, (.val (.t 0))⟩,
  ⟨(some 61), none, (.nilc (.t 60))⟩,
  ⟨(some 62), none, (.fa 0 (.t 61))⟩,
  ⟨(some 63), none, (.ld none (.t 62))⟩,
  ⟨(some 64), none, (.val (.t 10))⟩,
  ⟨(some 65), none, (.ia 3 (.t 63) (.t 64))⟩,
  ⟨(some 66), none, (.fa 0 (.t 65))⟩,
  ⟨(some 67), none, (.ld (some 2) (.t 66))⟩,
  ⟨(some 68), none, (.ld (some 2) (.t 4))⟩,
  ⟨(some 69), none, (.eqc [0, 0] false (.t 67) (.t 68))⟩] t H) := runR_plain rfl
def d13_12 : List (AOper × List Nat) := [
  (⟨(some 70), none, (.val (.t 0))⟩, []),
  (⟨(some 71), none, (.nilc (.t 70))⟩, []),
  (⟨(some 72), none, (.fa 0 (.t 71))⟩, []),
  (⟨(some 73), none, (.ld none (.t 72))⟩, [1]),
  (⟨(some 74), none, (.val (.t 10))⟩, []),
  (⟨(some 75), none, (.val (.t 0))⟩, []),
  (⟨(some 76), none, (.nilc (.t 75))⟩, []),
  (⟨(some 77), none, (.fa 0 (.t 76))⟩, []),
  (⟨(some 78), none, (.ld none (.t 77))⟩, [1]),
  (⟨(some 79), none, (.val (.t 10))⟩, []),
  (⟨(some 80), none, (.ia 3 (.t 78) (.t 79))⟩, []),
  (⟨(some 81), none, (.fa 2 (.t 80))⟩, []),
  (⟨(some 82), none, (.ld none (.t 81))⟩, [1]),
  (⟨(some 83), none, (.app [(.i .i64 0)] 8 (.c (.sl none 0 0 true 0)) (.t 82))⟩, [2]),
  (⟨(some 84), none, (.val (.t 9))⟩, []),
  (⟨(some 85), none, (.app [(.i .i64 0)] 8 (.t 83) (.t 84))⟩, [2]),
  (⟨(some 86), none, (.ia 3 (.t 73) (.t 74))⟩, []),
  (⟨(some 87), none, (.fa 2 (.t 86))⟩, []),
  (⟨none, none, (.st 1 (.t 87) (.t 85))⟩, [])]
theorem r13_12 {fn : AFun} {K : List AItem} {t : Nat → AV} {H : AH} {T : Tbl} : runR T fn (.code (.drw d13_12) :: K) t H = regR T fn K (adrw (callR T) [
  (⟨(some 70), none, (.val (.t 0))⟩, []),
  (⟨(some 71), none, (.nilc (.t 70))⟩, []),
  (⟨(some 72), none, (.fa 0 (.t 71))⟩, []),
  (⟨(some 73), none, (.ld none (.t 72))⟩, [1]),
  (⟨(some 74), none, (.val (.t 10))⟩, []),
  (⟨(some 75), none, (.val (.t 0))⟩, []),
  (⟨(some 76), none, (.nilc (.t 75))⟩, []),
  (⟨(some 77), none, (.fa 0 (.t 76))⟩, []),
  (⟨(some 78), none, (.ld none (.t 77))⟩, [1]),
  (⟨(some 79), none, (.val (.t 10))⟩, []),
  (⟨(some 80), none, (.ia 3 (.t 78) (.t 79))⟩, []),
  (⟨(some 81), none, (.fa 2 (.t 80))⟩, []),
  (⟨(some 82), none, (.ld none (.t 81))⟩, [1]),
  (⟨(some 83), none, (.app [(.i .i64 0)] 8 (.c (.sl none 0 0 true 0)) (.t 82))⟩, [2]),
  (⟨(some 84), none, (.val (.t 9))⟩, []),
  (⟨(some 85), none, (.app [(.i .i64 0)] 8 (.t 83) (.t 84))⟩, [2]),
  (⟨(some 86), none, (.ia 3 (.t 73) (.t 74))⟩, []),
  (⟨(some 87), none, (.fa 2 (.t 86))⟩, []),
  (⟨none, none, (.st 1 (.t 87) (.t 85))⟩, [])] t H [H] []) := runR_drw'
def d13_13 : List AOper := [
  ⟨(some 6), none, (.val (.c (.b false)))⟩,
  ⟨(some 7), none, (.val (.c (.i .i64 0)))⟩]
theorem r13_13 {fn : AFun} {K : List AItem} {t : Nat → AV} {H : AH} {T : Tbl} : runR T fn (.code (.reg d13_13) :: K) t H = regR T fn K (aops (callR T) [
  ⟨(some 6), none, (.val (.c (.b false)))⟩,
  ⟨(some 7), none, (.val (.c (.i .i64 0)))⟩] t H) := runR_reg'
def d13_14 : List AOper := [
  ⟨(some 58), none, (.val (.t 10))⟩,
  ⟨(some 59), none, (.bin .add (.t 58) (.c (.i .i64 1)))⟩,
  ⟨(some 10), none, (.val (.t 59))⟩]
theorem r13_14 {fn : AFun} {K : List AItem} {t : Nat → AV} {H : AH} {T : Tbl} : runR T fn (.code (.reg d13_14) :: K) t H = regR T fn K (aops (callR T) [
  ⟨(some 58), none, (.val (.t 10))⟩,
  ⟨(some 59), none, (.bin .add (.t 58) (.c (.i .i64 1)))⟩,
  ⟨(some 10), none, (.val (.t 59))⟩] t H) := runR_reg'
def l13_15 : ACode := (.seq (.seq (.reg d13_10) (.cond (.t 57) .skip (.exit 0))) (.seq (.block 1 (.seq (.drw d13_11) (.cond (.t 69) (.seq (.drw d13_12) (.seq (.reg d13_13) .ret)) .skip))) (.reg d13_14)))
def d13_16 : List AOper := [
  ⟨(some 88), none, (.val (.t 0))⟩,
  ⟨(some 89), none, (.nilc (.t 88))⟩,
  ⟨(some 90), none, (.fa 0 (.t 89))⟩,
  ⟨(some 91), none, (.ld none (.t 90))⟩,
  ⟨(some 92), none, (.len (.t 91))⟩,
  ⟨(some 93), none, (.bin .geq (.t 92) (.c (.i .i64 256)))⟩]
theorem r13_16 {fn : AFun} {K : List AItem} {t : Nat → AV} {H : AH} {T : Tbl} : runR T fn (.code (.reg d13_16) :: K) t H = regR T fn K (aops (callR T) [
  ⟨(some 88), none, (.val (.t 0))⟩,
  ⟨(some 89), none, (.nilc (.t 88))⟩,
  ⟨(some 90), none, (.fa 0 (.t 89))⟩,
  ⟨(some 91), none, (.ld none (.t 90))⟩,
  ⟨(some 92), none, (.len (.t 91))⟩,
  ⟨(some 93), none, (.bin .geq (.t 92) (.c (.i .i64 256)))⟩] t H) := runR_reg'
def d13_17 : List AOper := [
  ⟨(some 6), none, (.val (.c (.b false)))⟩,
  ⟨(some 7), none, (.val (.c (.i .i64 8)))⟩]
theorem r13_17 {fn : AFun} {K : List AItem} {t : Nat → AV} {H : AH} {T : Tbl} : runR T fn (.code (.reg d13_17) :: K) t H = regR T fn K (aops (callR T) [
  ⟨(some 6), none, (.val (.c (.b false)))⟩,
  ⟨(some 7), none, (.val (.c (.i .i64 8)))⟩] t H) := runR_reg'
def d13_18 : List (AOper × List Nat) := [
  (⟨(some 94), none, (.val (.t 0))⟩, []),
  (⟨(some 95), none, (.val (.t 0))⟩, []),
  (⟨(some 96), none, (.nilc (.t 95))⟩, []),
  (⟨(some 97), none, (.fa 0 (.t 96))⟩, []),
  (⟨(some 98), none, (.ld none (.t 97))⟩, [1]),
  (⟨(some 99), none, (.app [(.i .i64 0), (.i .i64 0), (.sl none 0 0 true 0)] 40 (.c (.sl none 0 0 true 0)) (.t 98))⟩, []),
  (⟨(some 100), none, (.ld (some 2) (.t 4))⟩, [2]),
  (⟨(some 101), none, (.val (.t 9))⟩, []),
  (⟨(some 102), none, (.build [(.i .i64 0), (.i .i64 0), (.sl none 0 0 true 0)] [(0, 2, (.t 100)), (2, 1, (.t 101))])⟩, []),
  (⟨(some 103), none, (.bsl [(.i .i64 0), (.i .i64 0), (.sl none 0 0 true 0)] 1 [(0, 3, (.t 102))])⟩, []),
  (⟨(some 104), none, (.app [(.i .i64 0), (.i .i64 0), (.sl none 0 0 true 0)] 40 (.t 99) (.t 103))⟩, []),
  (⟨(some 105), none, (.nilc (.t 94))⟩, []),
  (⟨(some 106), none, (.fa 0 (.t 105))⟩, []),
  (⟨none, none, (.st 1 (.t 106) (.t 104))⟩, [])]
theorem r13_18 {fn : AFun} {K : List AItem} {t : Nat → AV} {H : AH} {T : Tbl} : runR T fn (.code (.drw d13_18) :: K) t H = regR T fn K (adrn (callR T) [
  (⟨(some 94), none, (.val (.t 0))⟩, []),
  (⟨(some 95), none, (.val (.t 0))⟩, []),
  (⟨(some 96), none, (.nilc (.t 95))⟩, []),
  (⟨(some 97), none, (.fa 0 (.t 96))⟩, []),
  (⟨(some 98), none, (.ld none (.t 97))⟩, [1]),
  (⟨(some 99), none, (.app [(.i .i64 0), (.i .i64 0), (.sl none 0 0 true 0)] 40 (.c (.sl none 0 0 true 0)) (.t 98))⟩, []),
  (⟨(some 100), none, (.ld (some 2) (.t 4))⟩, [2]),
  (⟨(some 101), none, (.val (.t 9))⟩, []),
  (⟨(some 102), none, (.build [(.i .i64 0), (.i .i64 0), (.sl none 0 0 true 0)] [(0, 2, (.t 100)), (2, 1, (.t 101))])⟩, []),
  (⟨(some 103), none, (.bsl [(.i .i64 0), (.i .i64 0), (.sl none 0 0 true 0)] 1 [(0, 3, (.t 102))])⟩, []),
  (⟨(some 104), none, (.app [(.i .i64 0), (.i .i64 0), (.sl none 0 0 true 0)] 40 (.t 99) (.t 103))⟩, []),
  (⟨(some 105), none, (.nilc (.t 94))⟩, []),
  (⟨(some 106), none, (.fa 0 (.t 105))⟩, []),
  (⟨none, none, (.st 1 (.t 106) (.t 104))⟩, [])] t H [H]) := runR_free rfl
def d13_19 : List AOper := [
  ⟨(some 6), none, (.val (.c (.b true)))⟩,
  ⟨(some 7), none, (.val (.c (.i .i64 0)))⟩]
theorem r13_19 {fn : AFun} {K : List AItem} {t : Nat → AV} {H : AH} {T : Tbl} : runR T fn (.code (.reg d13_19) :: K) t H = regR T fn K (aops (callR T) [
  ⟨(some 6), none, (.val (.c (.b true)))⟩,
  ⟨(some 7), none, (.val (.c (.i .i64 0)))⟩] t H) := runR_reg'
def a13 : AFun := ⟨107, [(.tmp 6), (.tmp 7)], (.seq (.reg d13_0) (.seq (.reg d13_1) (.seq (.seq (.reg d13_2) (.cond (.t 43) (.seq (.reg d13_3) .ret) .skip)) (.seq (.seq (.reg d13_4) (.cond (.t 46) (.seq (.reg d13_5) .ret) .skip)) (.seq (.reg d13_6) (.seq (.seq (.reg d13_7) (.cond (.t 48) (.reg d13_8) .skip)) (.seq (.seq (.reg d13_9) (.block 0 (.loop l13_15))) (.seq (.seq (.reg d13_16) (.cond (.t 93) (.seq (.reg d13_17) .ret) .skip)) (.seq (.drw d13_18) (.seq (.reg d13_19) .ret))))))))))⟩
theorem a13_ok : cfun Try.prog 13 = some a13 := by kernel_rfl
/-- (*futtock/vmq.Queue).All -/
def d14_0 : List AOper := [
  ⟨(some 2), none, (.val (.c (.sl none 0 0 true 0)))⟩]
theorem r14_0 {fn : AFun} {K : List AItem} {t : Nat → AV} {H : AH} {T : Tbl} : runR T fn (.code (.reg d14_0) :: K) t H = regR T fn K (aops (callR T) [
  ⟨(some 2), none, (.val (.c (.sl none 0 0 true 0)))⟩] t H) := runR_reg'
def d14_1 : List AOper := [
  ⟨(some 3), none, (.val (.t 0))⟩,
  ⟨(some 4), none, (.call 20 [(.t 3)])⟩,
  ⟨(some 5), none, (.un .not (.t 4))⟩]
theorem r14_1 {fn : AFun} {K : List AItem} {t : Nat → AV} {H : AH} {T : Tbl} : runR T fn (.code (.reg d14_1) :: K) t H = regR T fn K (aops (callR T) [
  ⟨(some 3), none, (.val (.t 0))⟩,
  ⟨(some 4), none, (.call 20 [(.t 3)])⟩,
  ⟨(some 5), none, (.un .not (.t 4))⟩] t H) := runR_reg'
def d14_2 : List AOper := [
  ⟨(some 2), none, (.val (.c (.sl none 0 0 true 0)))⟩]
theorem r14_2 {fn : AFun} {K : List AItem} {t : Nat → AV} {H : AH} {T : Tbl} : runR T fn (.code (.reg d14_2) :: K) t H = regR T fn K (aops (callR T) [
  ⟨(some 2), none, (.val (.c (.sl none 0 0 true 0)))⟩] t H) := runR_reg'
def d14_3 : List AOper := [
  ⟨(some 6), none, (.val (.t 0))⟩,
  ⟨(some 7), none, (.nilc (.t 6))⟩,
  ⟨(some 8), none, (.fa 0 (.t 7))⟩,
  ⟨(some 9), none, (.ld none (.t 8))⟩,
  ⟨(some 10), none, (.call 22 [(.t 9)])⟩,
  ⟨(some 2), none, (.val (.t 10))⟩]
theorem r14_3 {fn : AFun} {K : List AItem} {t : Nat → AV} {H : AH} {T : Tbl} : runR T fn (.code (.reg d14_3) :: K) t H = regR T fn K (aops (callR T) [
  ⟨(some 6), none, (.val (.t 0))⟩,
  ⟨(some 7), none, (.nilc (.t 6))⟩,
  ⟨(some 8), none, (.fa 0 (.t 7))⟩,
  ⟨(some 9), none, (.ld none (.t 8))⟩,
  ⟨(some 10), none, (.call 22 [(.t 9)])⟩,
  ⟨(some 2), none, (.val (.t 10))⟩] t H) := runR_reg'
def a14 : AFun := ⟨11, [(.tmp 2)], (.seq (.reg d14_0) (.seq (.seq (.reg d14_1) (.cond (.t 5) (.seq (.reg d14_2) .ret) .skip)) (.seq (.reg d14_3) .ret)))⟩
theorem a14_ok : cfun Try.prog 14 = some a14 := by kernel_rfl
/-- (*futtock/vmq.Queue).Waits -/
def d15_0 : List AOper := [
  ⟨(some 4), none, (.val (.c (.b false)))⟩]
theorem r15_0 {fn : AFun} {K : List AItem} {t : Nat → AV} {H : AH} {T : Tbl} : runR T fn (.code (.reg d15_0) :: K) t H = regR T fn K (aops (callR T) [
  ⟨(some 4), none, (.val (.c (.b false)))⟩] t H) := runR_reg'
def d15_1 : List AOper := [
  ⟨(some 7), none, (.val (.t 0))⟩,
  ⟨(some 8), none, (.call 20 [(.t 7)])⟩,
  ⟨(some 9), none, (.un .not (.t 8))⟩]
theorem r15_1 {fn : AFun} {K : List AItem} {t : Nat → AV} {H : AH} {T : Tbl} : runR T fn (.code (.reg d15_1) :: K) t H = regR T fn K (aops (callR T) [
  ⟨(some 7), none, (.val (.t 0))⟩,
  ⟨(some 8), none, (.call 20 [(.t 7)])⟩,
  ⟨(some 9), none, (.un .not (.t 8))⟩] t H) := runR_reg'
def d15_2 : List AOper := [
  ⟨(some 4), none, (.val (.c (.b false)))⟩]
theorem r15_2 {fn : AFun} {K : List AItem} {t : Nat → AV} {H : AH} {T : Tbl} : runR T fn (.code (.reg d15_2) :: K) t H = regR T fn K (aops (callR T) [
  ⟨(some 4), none, (.val (.c (.b false)))⟩] t H) := runR_reg'
def d15_3 : List AOper := [
  ⟨(some 11), none, (.val (.t 0))⟩,
  ⟨(some 12), none, (.nilc (.t 11))⟩,
  ⟨(some 13), none, (.fa 2 (.t 12))⟩,
  ⟨(some 14), none, (.ld none (.t 13))⟩,
  ⟨(some 15), none, (.val (.t 1))⟩,
  ⟨(some 16), none, (.lk [0] (.agg [(.i .i64 0), (.i .i64 0)]) (.t 14) (.t 15) true)⟩,
  ⟨(some 10), none, (.val (.t 16))⟩,
  ⟨(some 17), none, (.ext (.t 10) 0)⟩,
  ⟨(some 18), none, (.ext (.t 10) 1)⟩,
  ⟨(some 5), none, (.alloc [(.i .i64 0), (.i .i64 0)])⟩,
  ⟨none, none, (.st 2 (.t 5) (.t 17))⟩,
  ⟨(some 6), none, (.val (.t 18))⟩]
theorem r15_3 {fn : AFun} {K : List AItem} {t : Nat → AV} {H : AH} {T : Tbl} : runR T fn (.code (.reg d15_3) :: K) t H = regR T fn K (aops (callR T) [
  ⟨(some 11), none, (.val (.t 0))⟩,
  ⟨(some 12), none, (.nilc (.t 11))⟩,
  ⟨(some 13), none, (.fa 2 (.t 12))⟩,
  ⟨(some 14), none, (.ld none (.t 13))⟩,
  ⟨(some 15), none, (.val (.t 1))⟩,
  ⟨(some 16), none, (.lk [0] (.agg [(.i .i64 0), (.i .i64 0)]) (.t 14) (.t 15) true)⟩,
  ⟨(some 10), none, (.val (.t 16))⟩,
  ⟨(some 17), none, (.ext (.t 10) 0)⟩,
  ⟨(some 18), none, (.ext (.t 10) 1)⟩,
  ⟨(some 5), none, (.alloc [(.i .i64 0), (.i .i64 0)])⟩,
  ⟨none, none, (.st 2 (.t 5) (.t 17))⟩,
  ⟨(some 6), none, (.val (.t 18))⟩] t H) := runR_reg'
def d15_4 : List AOper := [
  ⟨(some 19), none, (.val (.t 6))⟩,
  ⟨(some 4), none, (.val (.t 19))⟩]
theorem r15_4 {fn : AFun} {K : List AItem} {t : Nat → AV} {H : AH} {T : Tbl} : runR T fn (.code (.reg d15_4) :: K) t H = regR T fn K (aops (callR T) [
  ⟨(some 19), none, (.val (.t 6))⟩,
  ⟨(some 4), none, (.val (.t 19))⟩] t H) := runR_reg'
def a15 : AFun := ⟨20, [(.tmp 4)], (.seq (.reg d15_0) (.seq (.seq (.reg d15_1) (.cond (.t 9) (.seq (.reg d15_2) .ret) .skip)) (.seq (.reg d15_3) (.seq (.reg d15_4) .ret))))⟩
theorem a15_ok : cfun Try.prog 15 = some a15 := by kernel_rfl
/-- (*futtock/futtockref18.Queue).Waits -/
def d16_0 : List AOper := [
  ⟨(some 4), none, (.val (.c (.b false)))⟩]
theorem r16_0 {fn : AFun} {K : List AItem} {t : Nat → AV} {H : AH} {T : Tbl} : runR T fn (.code (.reg d16_0) :: K) t H = regR T fn K (aops (callR T) [
  ⟨(some 4), none, (.val (.c (.b false)))⟩] t H) := runR_reg'
def d16_1 : List AOper := [
  ⟨(some 5), none, (.val (.c (.i .i64 0)))⟩]
theorem r16_1 {fn : AFun} {K : List AItem} {t : Nat → AV} {H : AH} {T : Tbl} : runR T fn (.code (.reg d16_1) :: K) t H = regR T fn K (aops (callR T) [
  ⟨(some 5), none, (.val (.c (.i .i64 0)))⟩] t H) := runR_reg'
def d16_2 : List AOper := [
  ⟨(some 7), none, (.val (.t 5))⟩,
  ⟨(some 8), none, (.val (.t 0))⟩,
  ⟨(some 9), none, (.nilc (.t 8))⟩,
  ⟨(some 10), none, (.fa 0 (.t 9))⟩,
  ⟨(some 11), none, (.ld none (.t 10))⟩,
  ⟨(some 12), none, (.len (.t 11))⟩,
  ⟨(some 13), none, (.bin .lss (.t 7) (.t 12))⟩]
theorem r16_2 {fn : AFun} {K : List AItem} {t : Nat → AV} {H : AH} {T : Tbl} : runR T fn (.code (.reg d16_2) :: K) t H = regR T fn K (aops (callR T) [
  ⟨(some 7), none, (.val (.t 5))⟩,
  ⟨(some 8), none, (.val (.t 0))⟩,
  ⟨(some 9), none, (.nilc (.t 8))⟩,
  ⟨(some 10), none, (.fa 0 (.t 9))⟩,
  ⟨(some 11), none, (.ld none (.t 10))⟩,
  ⟨(some 12), none, (.len (.t 11))⟩,
  ⟨(some 13), none, (.bin .lss (.t 7) (.t 12))⟩] t H) := runR_reg'
def d16_3 : List AOper := [
  ⟨(some 6), none, (.val (.c (.i .i64 0)))⟩]
theorem r16_3 {fn : AFun} {K : List AItem} {t : Nat → AV} {H : AH} {T : Tbl} : runR T fn (.code (.reg d16_3) :: K) t H = regR T fn K (aops (callR T) [
  ⟨(some 6), none, (.val (.c (.i .i64 0)))⟩] t H) := runR_reg'
def d16_4 : List AOper := [
  ⟨(some 16), none, (.val (.t 6))⟩,
  ⟨(some 17), none, (.val (.t 0))⟩,
  ⟨(some 18), none, (.nilc (.t 17))⟩,
  ⟨(some 19), none, (.fa 0 (.t 18))⟩,
  ⟨(some 20), none, (.ld none (.t 19))⟩,
  ⟨(some 21), none, (.val (.t 5))⟩,
  ⟨(some 22), none, (.ia 3 (.t 20) (.t 21))⟩,
  ⟨(some 23), none, (.fa 2 (.t 22))⟩,
  ⟨(some 24), none, (.ld none (.t 23))⟩,
  ⟨(some 25), none, (.len (.t 24))⟩,
  ⟨(some 26), none, (.bin .lss (.t 16) (.t 25))⟩]
theorem r16_4 {fn : AFun} {K : List AItem} {t : Nat → AV} {H : AH} {T : Tbl} : runR T fn (.code (.reg d16_4) :: K) t H = regR T fn K (aops (callR T) [
  ⟨(some 16), none, (.val (.t 6))⟩,
  ⟨(some 17), none, (.val (.t 0))⟩,
  ⟨(some 18), none, (.nilc (.t 17))⟩,
  ⟨(some 19), none, (.fa 0 (.t 18))⟩,
  ⟨(some 20), none, (.ld none (.t 19))⟩,
  ⟨(some 21), none, (.val (.t 5))⟩,
  ⟨(some 22), none, (.ia 3 (.t 20) (.t 21))⟩,
  ⟨(some 23), none, (.fa 2 (.t 22))⟩,
  ⟨(some 24), none, (.ld none (.t 23))⟩,
  ⟨(some 25), none, (.len (.t 24))⟩,
  ⟨(some 26), none, (.bin .lss (.t 16) (.t 25))⟩] t H) := runR_reg'
def d16_5 : List AOper := [
  ⟨(some 29), none, (.val (.t 0))⟩,
  ⟨(some 30), none, (.nilc (.t 29))⟩,
  ⟨(some 31), none, (.fa 0 (.t 30))⟩,
  ⟨(some 32), none, (.ld none (.t 31))⟩,
  ⟨(some 33), none, (.val (.t 5))⟩,
  ⟨(some 34), none, (.ia 3 (.t 32) (.t 33))⟩,
  ⟨(some 35), none, (.fa 2 (.t 34))⟩,
  ⟨(some 36), none, (.ld none (.t 35))⟩,
  ⟨(some 37), none, (.val (.t 6))⟩,
  ⟨(some 38), none, (.ia 1 (.t 36) (.t 37))⟩,
  ⟨(some 39), none, (.ld none (.t 38))⟩,
  ⟨(some 40), none, (.val (.t 1))⟩,
  ⟨(some 41), none, (.bin .eql (.t 39) (.t 40))⟩]
theorem r16_5 {fn : AFun} {K : List AItem} {t : Nat → AV} {H : AH} {T : Tbl} : runR T fn (.code (.reg d16_5) :: K) t H = regR T fn K (aops (callR T) [
  ⟨(some 29), none, (.val (.t 0))⟩,
  ⟨(some 30), none, (.nilc (.t 29))⟩,
  ⟨(some 31), none, (.fa 0 (.t 30))⟩,
  ⟨(some 32), none, (.ld none (.t 31))⟩,
  ⟨(some 33), none, (.val (.t 5))⟩,
  ⟨(some 34), none, (.ia 3 (.t 32) (.t 33))⟩,
  ⟨(some 35), none, (.fa 2 (.t 34))⟩,
  ⟨(some 36), none, (.ld none (.t 35))⟩,
  ⟨(some 37), none, (.val (.t 6))⟩,
  ⟨(some 38), none, (.ia 1 (.t 36) (.t 37))⟩,
  ⟨(some 39), none, (.ld none (.t 38))⟩,
  ⟨(some 40), none, (.val (.t 1))⟩,
  ⟨(some 41), none, (.bin .eql (.t 39) (.t 40))⟩] t H) := runR_reg'
def d16_6 : List AOper := [
  ⟨(some 4), none, (.val (.c (.b true)))⟩]
theorem r16_6 {fn : AFun} {K : List AItem} {t : Nat → AV} {H : AH} {T : Tbl} : runR T fn (.code (.reg d16_6) :: K) t H = regR T fn K (aops (callR T) [
  ⟨(some 4), none, (.val (.c (.b true)))⟩] t H) := runR_reg'
def d16_7 : List AOper := [
  ⟨(some 27), none, (.val (.t 6))⟩,
  ⟨(some 28), none, (.bin .add (.t 27) (.c (.i .i64 1)))⟩,
  ⟨(some 6), none, (.val (.t 28))⟩]
theorem r16_7 {fn : AFun} {K : List AItem} {t : Nat → AV} {H : AH} {T : Tbl} : runR T fn (.code (.reg d16_7) :: K) t H = regR T fn K (aops (callR T) [
  ⟨(some 27), none, (.val (.t 6))⟩,
  ⟨(some 28), none, (.bin .add (.t 27) (.c (.i .i64 1)))⟩,
  ⟨(some 6), none, (.val (.t 28))⟩] t H) := runR_reg'
def l16_8 : ACode := (.seq (.seq (.reg d16_4) (.cond (.t 26) .skip (.exit 2))) (.seq (.block 3 (.seq (.reg d16_5) (.cond (.t 41) (.seq (.reg d16_6) .ret) .skip))) (.reg d16_7)))
def d16_9 : List AOper := [
  ⟨(some 14), none, (.val (.t 5))⟩,
  ⟨(some 15), none, (.bin .add (.t 14) (.c (.i .i64 1)))⟩,
  ⟨(some 5), none, (.val (.t 15))⟩]
theorem r16_9 {fn : AFun} {K : List AItem} {t : Nat → AV} {H : AH} {T : Tbl} : runR T fn (.code (.reg d16_9) :: K) t H = regR T fn K (aops (callR T) [
  ⟨(some 14), none, (.val (.t 5))⟩,
  ⟨(some 15), none, (.bin .add (.t 14) (.c (.i .i64 1)))⟩,
  ⟨(some 5), none, (.val (.t 15))⟩] t H) := runR_reg'
def l16_10 : ACode := (.seq (.seq (.reg d16_2) (.cond (.t 13) .skip (.exit 0))) (.seq (.block 1 (.seq (.reg d16_3) (.block 2 (.loop l16_8)))) (.reg d16_9)))
def d16_11 : List AOper := [
  ⟨(some 4), none, (.val (.c (.b false)))⟩]
theorem r16_11 {fn : AFun} {K : List AItem} {t : Nat → AV} {H : AH} {T : Tbl} : runR T fn (.code (.reg d16_11) :: K) t H = regR T fn K (aops (callR T) [
  ⟨(some 4), none, (.val (.c (.b false)))⟩] t H) := runR_reg'
def a16 : AFun := ⟨42, [(.tmp 4)], (.seq (.reg d16_0) (.seq (.seq (.reg d16_1) (.block 0 (.loop l16_10))) (.seq (.reg d16_11) .ret)))⟩
theorem a16_ok : cfun Try.prog 16 = some a16 := by kernel_rfl
/-- (*futtock/vmq.Queue).Len -/
def d17_0 : List AOper := [
  ⟨(some 2), none, (.val (.c (.i .i64 0)))⟩]
theorem r17_0 {fn : AFun} {K : List AItem} {t : Nat → AV} {H : AH} {T : Tbl} : runR T fn (.code (.reg d17_0) :: K) t H = regR T fn K (aops (callR T) [
  ⟨(some 2), none, (.val (.c (.i .i64 0)))⟩] t H) := runR_reg'
def d17_1 : List AOper := [
  ⟨(some 3), none, (.val (.t 0))⟩,
  ⟨(some 4), none, (.call 14 [(.t 3)])⟩,
  ⟨(some 5), none, (.len (.t 4))⟩,
  ⟨(some 2), none, (.val (.t 5))⟩]
theorem r17_1 {fn : AFun} {K : List AItem} {t : Nat → AV} {H : AH} {T : Tbl} : runR T fn (.code (.reg d17_1) :: K) t H = regR T fn K (aops (callR T) [
  ⟨(some 3), none, (.val (.t 0))⟩,
  ⟨(some 4), none, (.call 14 [(.t 3)])⟩,
  ⟨(some 5), none, (.len (.t 4))⟩,
  ⟨(some 2), none, (.val (.t 5))⟩] t H) := runR_reg'
def a17 : AFun := ⟨6, [(.tmp 2)], (.seq (.reg d17_0) (.seq (.reg d17_1) .ret))⟩
theorem a17_ok : cfun Try.prog 17 = some a17 := by kernel_rfl
/-- futtock/futtocklaw18.alive -/
def d18_0 : List AOper := [
  ⟨(some 0), none, (.val (.c (.b false)))⟩]
theorem r18_0 {fn : AFun} {K : List AItem} {t : Nat → AV} {H : AH} {T : Tbl} : runR T fn (.code (.reg d18_0) :: K) t H = regR T fn K (aops (callR T) [
  ⟨(some 0), none, (.val (.c (.b false)))⟩] t H) := runR_reg'
def d18_1 : List AOper := [
  ⟨(some 10), none, (.call 7 [])⟩,
  ⟨(some 1), none, (.val (.t 10))⟩]
theorem r18_1 {fn : AFun} {K : List AItem} {t : Nat → AV} {H : AH} {T : Tbl} : runR T fn (.code (.reg d18_1) :: K) t H = regR T fn K (aops (callR T) [
  ⟨(some 10), none, (.call 7 [])⟩,
  ⟨(some 1), none, (.val (.t 10))⟩] t H) := runR_reg'
def d18_2 : List AOper := [
  ⟨(some 11), none, (.val (.t 1))⟩,
  ⟨(some 12), none, (.eqn 0 false (.t 11) (.c (.p none)))⟩]
theorem r18_2 {fn : AFun} {K : List AItem} {t : Nat → AV} {H : AH} {T : Tbl} : runR T fn (.code (.reg d18_2) :: K) t H = regR T fn K (aops (callR T) [
  ⟨(some 11), none, (.val (.t 1))⟩,
  ⟨(some 12), none, (.eqn 0 false (.t 11) (.c (.p none)))⟩] t H) := runR_reg'
def d18_3 : List AOper := [
  ⟨(some 0), none, (.val (.c (.b false)))⟩]
theorem r18_3 {fn : AFun} {K : List AItem} {t : Nat → AV} {H : AH} {T : Tbl} : runR T fn (.code (.reg d18_3) :: K) t H = regR T fn K (aops (callR T) [
  ⟨(some 0), none, (.val (.c (.b false)))⟩] t H) := runR_reg'
def d18_4 : List AOper := [
  ⟨(some 14), none, (.val (.t 1))⟩,
  ⟨(some 15), none, (.build [(.i .i64 0), (.i .i64 0)] [(0, 1, (.c (.i .i64 1))), (1, 1, (.c (.i .i64 3)))])⟩,
  ⟨(some 16), none, (.call 12 [(.t 14), (.t 15), (.c (.i .i64 0))])⟩,
  ⟨(some 13), none, (.val (.t 16))⟩,
  ⟨(some 17), none, (.ext (.t 13) 0)⟩,
  ⟨(some 18), none, (.ext (.t 13) 1)⟩,
  ⟨(some 2), none, (.val (.t 17))⟩,
  ⟨(some 3), none, (.val (.t 18))⟩]
theorem r18_4 {fn : AFun} {K : List AItem} {t : Nat → AV} {H : AH} {T : Tbl} : runR T fn (.code (.reg d18_4) :: K) t H = regR T fn K (aops (callR T) [
  ⟨(some 14), none, (.val (.t 1))⟩,
  ⟨(some 15), none, (.build [(.i .i64 0), (.i .i64 0)] [(0, 1, (.c (.i .i64 1))), (1, 1, (.c (.i .i64 3)))])⟩,
  ⟨(some 16), none, (.call 12 [(.t 14), (.t 15), (.c (.i .i64 0))])⟩,
  ⟨(some 13), none, (.val (.t 16))⟩,
  ⟨(some 17), none, (.ext (.t 13) 0)⟩,
  ⟨(some 18), none, (.ext (.t 13) 1)⟩,
  ⟨(some 2), none, (.val (.t 17))⟩,
  ⟨(some 3), none, (.val (.t 18))⟩] t H) := runR_reg'
def d18_5 : List AOper := [
  ⟨(some 20), none, (.val (.t 1))⟩,
  ⟨(some 21), none, (.build [(.i .i64 0), (.i .i64 0)] [(0, 1, (.c (.i .i64 1))), (1, 1, (.c (.i .i64 3)))])⟩,
  ⟨(some 22), none, (.call 12 [(.t 20), (.t 21), (.c (.i .i64 1))])⟩,
  ⟨(some 19), none, (.val (.t 22))⟩,
  ⟨(some 23), none, (.ext (.t 19) 0)⟩,
  ⟨(some 24), none, (.ext (.t 19) 1)⟩,
  ⟨(some 4), none, (.val (.t 23))⟩,
  ⟨(some 5), none, (.val (.t 24))⟩]
theorem r18_5 {fn : AFun} {K : List AItem} {t : Nat → AV} {H : AH} {T : Tbl} : runR T fn (.code (.reg d18_5) :: K) t H = regR T fn K (aops (callR T) [
  ⟨(some 20), none, (.val (.t 1))⟩,
  ⟨(some 21), none, (.build [(.i .i64 0), (.i .i64 0)] [(0, 1, (.c (.i .i64 1))), (1, 1, (.c (.i .i64 3)))])⟩,
  ⟨(some 22), none, (.call 12 [(.t 20), (.t 21), (.c (.i .i64 1))])⟩,
  ⟨(some 19), none, (.val (.t 22))⟩,
  ⟨(some 23), none, (.ext (.t 19) 0)⟩,
  ⟨(some 24), none, (.ext (.t 19) 1)⟩,
  ⟨(some 4), none, (.val (.t 23))⟩,
  ⟨(some 5), none, (.val (.t 24))⟩] t H) := runR_reg'
def d18_6 : List AOper := [
  ⟨(some 25), none, (.val (.t 1))⟩,
  ⟨(some 26), none, (.call 17 [(.t 25)])⟩,
  ⟨(some 6), none, (.val (.t 26))⟩]
theorem r18_6 {fn : AFun} {K : List AItem} {t : Nat → AV} {H : AH} {T : Tbl} : runR T fn (.code (.reg d18_6) :: K) t H = regR T fn K (aops (callR T) [
  ⟨(some 25), none, (.val (.t 1))⟩,
  ⟨(some 26), none, (.call 17 [(.t 25)])⟩,
  ⟨(some 6), none, (.val (.t 26))⟩] t H) := runR_reg'
def d18_7 : List AOper := [
  ⟨(some 28), none, (.val (.t 1))⟩,
  ⟨(some 29), none, (.call 9 [(.t 28)])⟩,
  ⟨(some 27), none, (.val (.t 29))⟩,
  ⟨(some 30), none, (.ext (.t 27) 0)⟩,
  ⟨(some 31), none, (.ext (.t 27) 1)⟩,
  ⟨(some 32), none, (.ext (.t 27) 2)⟩,
  ⟨(some 7), none, (.alloc [(.i .i64 0), (.i .i64 0)])⟩,
  ⟨none, none, (.st 2 (.t 7) (.t 30))⟩,
  ⟨(some 8), none, (.val (.t 31))⟩,
  ⟨(some 9), none, (.val (.t 32))⟩]
theorem r18_7 {fn : AFun} {K : List AItem} {t : Nat → AV} {H : AH} {T : Tbl} : runR T fn (.code (.reg d18_7) :: K) t H = regR T fn K (aops (callR T) [
  ⟨(some 28), none, (.val (.t 1))⟩,
  ⟨(some 29), none, (.call 9 [(.t 28)])⟩,
  ⟨(some 27), none, (.val (.t 29))⟩,
  ⟨(some 30), none, (.ext (.t 27) 0)⟩,
  ⟨(some 31), none, (.ext (.t 27) 1)⟩,
  ⟨(some 32), none, (.ext (.t 27) 2)⟩,
  ⟨(some 7), none, (.alloc [(.i .i64 0), (.i .i64 0)])⟩,
  ⟨none, none, (.st 2 (.t 7) (.t 30))⟩,
  ⟨(some 8), none, (.val (.t 31))⟩,
  ⟨(some 9), none, (.val (.t 32))⟩] t H) := runR_reg'
def d18_8 : List AOper := [
  ⟨(some 33), none, (.val (.t 2))⟩,
  ⟨(some 34), none, (.val (.t 33))⟩,
  ⟨(some 35), (some (34, true)), (.val (.t 4))⟩,
  ⟨(some 36), (some (34, true)), (.un .not (.t 35))⟩,
  ⟨(some 37), none, (.pick (.t 34) (.t 36) (.c (.b false)))⟩,
  ⟨(some 38), none, (.val (.t 37))⟩,
  ⟨(some 39), (some (38, true)), (.val (.t 6))⟩,
  ⟨(some 40), (some (38, true)), (.bin .eql (.t 39) (.c (.i .i64 1)))⟩,
  ⟨(some 41), none, (.pick (.t 38) (.t 40) (.c (.b false)))⟩,
  ⟨(some 42), none, (.val (.t 41))⟩,
  ⟨(some 43), (some (42, true)), (.fa 1 (.t 7))⟩,
  ⟨(some 44), (some (42, true)), (.ld none (.t 43))⟩,
  ⟨(some 45), (some (42, true)), (.bin .eql (.t 44) (.c (.i .i64 3)))⟩,
  ⟨(some 46), none, (.pick (.t 42) (.t 45) (.c (.b false)))⟩,
  ⟨(some 47), none, (.val (.t 46))⟩,
  ⟨(some 48), (some (47, true)), (.val (.t 8))⟩,
  ⟨(some 49), (some (47, true)), (.len (.t 48))⟩,
  ⟨(some 50), (some (47, true)), (.bin .eql (.t 49) (.c (.i .i64 2)))⟩,
  ⟨(some 51), none, (.pick (.t 47) (.t 50) (.c (.b false)))⟩,
  ⟨(some 52), none, (.val (.t 51))⟩,
  ⟨(some 53), (some (52, true)), (.val (.t 9))⟩,
  ⟨(some 54), none, (.pick (.t 52) (.t 53) (.c (.b false)))⟩,
  ⟨(some 55), none, (.val (.t 54))⟩,
  ⟨(some 56), (some (55, true)), (.val (.t 1))⟩,
  ⟨(some 57), (some (55, true)), (.call 15 [(.t 56), (.c (.i .i64 0))])⟩,
  ⟨(some 58), (some (55, true)), (.un .not (.t 57))⟩,
  ⟨(some 59), none, (.pick (.t 55) (.t 58) (.c (.b false)))⟩,
  ⟨(some 0), none, (.val (.t 59))⟩]
theorem r18_8 {fn : AFun} {K : List AItem} {t : Nat → AV} {H : AH} {T : Tbl} : runR T fn (.code (.reg d18_8) :: K) t H = regR T fn K (aops (callR T) [
  ⟨(some 33), none, (.val (.t 2))⟩,
  ⟨(some 34), none, (.val (.t 33))⟩,
  ⟨(some 35), (some (34, true)), (.val (.t 4))⟩,
  ⟨(some 36), (some (34, true)), (.un .not (.t 35))⟩,
  ⟨(some 37), none, (.pick (.t 34) (.t 36) (.c (.b false)))⟩,
  ⟨(some 38), none, (.val (.t 37))⟩,
  ⟨(some 39), (some (38, true)), (.val (.t 6))⟩,
  ⟨(some 40), (some (38, true)), (.bin .eql (.t 39) (.c (.i .i64 1)))⟩,
  ⟨(some 41), none, (.pick (.t 38) (.t 40) (.c (.b false)))⟩,
  ⟨(some 42), none, (.val (.t 41))⟩,
  ⟨(some 43), (some (42, true)), (.fa 1 (.t 7))⟩,
  ⟨(some 44), (some (42, true)), (.ld none (.t 43))⟩,
  ⟨(some 45), (some (42, true)), (.bin .eql (.t 44) (.c (.i .i64 3)))⟩,
  ⟨(some 46), none, (.pick (.t 42) (.t 45) (.c (.b false)))⟩,
  ⟨(some 47), none, (.val (.t 46))⟩,
  ⟨(some 48), (some (47, true)), (.val (.t 8))⟩,
  ⟨(some 49), (some (47, true)), (.len (.t 48))⟩,
  ⟨(some 50), (some (47, true)), (.bin .eql (.t 49) (.c (.i .i64 2)))⟩,
  ⟨(some 51), none, (.pick (.t 47) (.t 50) (.c (.b false)))⟩,
  ⟨(some 52), none, (.val (.t 51))⟩,
  ⟨(some 53), (some (52, true)), (.val (.t 9))⟩,
  ⟨(some 54), none, (.pick (.t 52) (.t 53) (.c (.b false)))⟩,
  ⟨(some 55), none, (.val (.t 54))⟩,
  ⟨(some 56), (some (55, true)), (.val (.t 1))⟩,
  ⟨(some 57), (some (55, true)), (.call 15 [(.t 56), (.c (.i .i64 0))])⟩,
  ⟨(some 58), (some (55, true)), (.un .not (.t 57))⟩,
  ⟨(some 59), none, (.pick (.t 55) (.t 58) (.c (.b false)))⟩,
  ⟨(some 0), none, (.val (.t 59))⟩] t H) := runR_reg'
def a18 : AFun := ⟨60, [(.tmp 0)], (.seq (.reg d18_0) (.seq (.reg d18_1) (.seq (.seq (.reg d18_2) (.cond (.t 12) (.seq (.reg d18_3) .ret) .skip)) (.seq (.reg d18_4) (.seq (.reg d18_5) (.seq (.reg d18_6) (.seq (.reg d18_7) (.seq (.reg d18_8) .ret))))))))⟩
theorem a18_ok : cfun Try.prog 18 = some a18 := by kernel_rfl
/-- futtock/futtocklaw18.VmqOnce$1 -/
def d19_0 : List AOper := [
  ⟨(some 3), none, (.val (.c (.b false)))⟩]
theorem r19_0 {fn : AFun} {K : List AItem} {t : Nat → AV} {H : AH} {T : Tbl} : runR T fn (.code (.reg d19_0) :: K) t H = regR T fn K (aops (callR T) [
  ⟨(some 3), none, (.val (.c (.b false)))⟩] t H) := runR_reg'
def d19_1 : List AOper := [
  ⟨(some 15), none, (.ld none (.t 0))⟩,
  ⟨(some 16), none, (.call 9 [(.t 15)])⟩,
  ⟨(some 14), none, (.val (.t 16))⟩,
  ⟨(some 17), none, (.ext (.t 14) 0)⟩,
  ⟨(some 18), none, (.ext (.t 14) 1)⟩,
  ⟨(some 19), none, (.ext (.t 14) 2)⟩,
  ⟨(some 4), none, (.alloc [(.i .i64 0), (.i .i64 0)])⟩,
  ⟨none, none, (.st 2 (.t 4) (.t 17))⟩,
  ⟨(some 5), none, (.val (.t 18))⟩,
  ⟨(some 6), none, (.val (.t 19))⟩]
theorem r19_1 {fn : AFun} {K : List AItem} {t : Nat → AV} {H : AH} {T : Tbl} : runR T fn (.code (.reg d19_1) :: K) t H = regR T fn K (aops (callR T) [
  ⟨(some 15), none, (.ld none (.t 0))⟩,
  ⟨(some 16), none, (.call 9 [(.t 15)])⟩,
  ⟨(some 14), none, (.val (.t 16))⟩,
  ⟨(some 17), none, (.ext (.t 14) 0)⟩,
  ⟨(some 18), none, (.ext (.t 14) 1)⟩,
  ⟨(some 19), none, (.ext (.t 14) 2)⟩,
  ⟨(some 4), none, (.alloc [(.i .i64 0), (.i .i64 0)])⟩,
  ⟨none, none, (.st 2 (.t 4) (.t 17))⟩,
  ⟨(some 5), none, (.val (.t 18))⟩,
  ⟨(some 6), none, (.val (.t 19))⟩] t H) := runR_reg'
def d19_2 : List AOper := [
  ⟨(some 20), none, (.val (.t 6))⟩,
  ⟨(some 21), none, (.ld none (.t 1))⟩,
  ⟨(some 22), none, (.len (.t 21))⟩,
  ⟨(some 23), none, (.bin .gtr (.t 22) (.c (.i .i64 0)))⟩,
  ⟨(some 24), none, (.eqb true (.t 20) (.t 23))⟩]
theorem r19_2 {fn : AFun} {K : List AItem} {t : Nat → AV} {H : AH} {T : Tbl} : runR T fn (.code (.reg d19_2) :: K) t H = regR T fn K (aops (callR T) [
  ⟨(some 20), none, (.val (.t 6))⟩,
  ⟨(some 21), none, (.ld none (.t 1))⟩,
  ⟨(some 22), none, (.len (.t 21))⟩,
  ⟨(some 23), none, (.bin .gtr (.t 22) (.c (.i .i64 0)))⟩,
  ⟨(some 24), none, (.eqb true (.t 20) (.t 23))⟩] t H) := runR_reg'
def d19_3 : List AOper := [
  ⟨(some 3), none, (.val (.c (.b false)))⟩]
theorem r19_3 {fn : AFun} {K : List AItem} {t : Nat → AV} {H : AH} {T : Tbl} : runR T fn (.code (.reg d19_3) :: K) t H = regR T fn K (aops (callR T) [
  ⟨(some 3), none, (.val (.c (.b false)))⟩] t H) := runR_reg'
def d19_4 : List AOper := [
  ⟨(some 25), none, (.val (.t 6))⟩,
  ⟨(some 26), none, (.un .not (.t 25))⟩]
theorem r19_4 {fn : AFun} {K : List AItem} {t : Nat → AV} {H : AH} {T : Tbl} : runR T fn (.code (.reg d19_4) :: K) t H = regR T fn K (aops (callR T) [
  ⟨(some 25), none, (.val (.t 6))⟩,
  ⟨(some 26), none, (.un .not (.t 25))⟩] t H) := runR_reg'
def d19_5 : List AOper := [
  ⟨(some 3), none, (.val (.c (.b true)))⟩]
theorem r19_5 {fn : AFun} {K : List AItem} {t : Nat → AV} {H : AH} {T : Tbl} : runR T fn (.code (.reg d19_5) :: K) t H = regR T fn K (aops (callR T) [
  ⟨(some 3), none, (.val (.c (.b true)))⟩] t H) := runR_reg'
def d19_6 : List (AOper × List Nat) := [
  (⟨(some 27), none, (.ld (some 2) (.t 4))⟩, [1]),
  (⟨(some 28), none, (.ld none (.t 1))⟩, [1]),
  (⟨(some 29), none, (.ia 2 (.t 28) (.c (.i .i64 0)))⟩, []),
  (⟨(some 30), none, (.ld (some 2) (.t 29))⟩, [1]),
  (⟨(some 31), none, (.eqc [0, 0] true (.t 27) (.t 30))⟩, [])]
theorem r19_6 {fn : AFun} {K : List AItem} {t : Nat → AV} {H : AH} {T : Tbl} : runR T fn (.code (.drw d19_6) :: K) t H = regR T fn K (aops (callR T) [
  ⟨(some 27), none, (.ld (some 2) (.t 4))⟩,
  ⟨(some 28), none, (.ld none (.t 1))⟩,
  ⟨(some 29), none, (.ia 2 (.t 28) (.c (.i .i64 0)))⟩,
  ⟨(some 30), none, (.ld (some 2) (.t 29))⟩,
  ⟨(some 31), none, (.eqc [0, 0] true (.t 27) (.t 30))⟩] t H) := runR_plain rfl
def d19_7 : List AOper := [
  ⟨(some 3), none, (.val (.c (.b false)))⟩]
theorem r19_7 {fn : AFun} {K : List AItem} {t : Nat → AV} {H : AH} {T : Tbl} : runR T fn (.code (.reg d19_7) :: K) t H = regR T fn K (aops (callR T) [
  ⟨(some 3), none, (.val (.c (.b false)))⟩] t H) := runR_reg'
def d19_8 : List AOper := [
  ⟨(some 32), none, (.ld none (.t 1))⟩,
  ⟨(some 33), none, (.sls 2 (.t 32) (some (.c (.i .i64 1))) none none)⟩,
  ⟨none, none, (.st 1 (.t 1) (.t 33))⟩]
theorem r19_8 {fn : AFun} {K : List AItem} {t : Nat → AV} {H : AH} {T : Tbl} : runR T fn (.code (.reg d19_8) :: K) t H = regR T fn K (aops (callR T) [
  ⟨(some 32), none, (.ld none (.t 1))⟩,
  ⟨(some 33), none, (.sls 2 (.t 32) (some (.c (.i .i64 1))) none none)⟩,
  ⟨none, none, (.st 1 (.t 1) (.t 33))⟩] t H) := runR_reg'
def d19_9 : List AOper := [
  ⟨(some 34), none, (.val (.t 5))⟩,
  ⟨(some 35), none, (.len (.t 34))⟩,
  ⟨(some 36), none, (.val (.c (.i .i64 0)))⟩]
theorem r19_9 {fn : AFun} {K : List AItem} {t : Nat → AV} {H : AH} {T : Tbl} : runR T fn (.code (.reg d19_9) :: K) t H = regR T fn K (aops (callR T) [
  ⟨(some 34), none, (.val (.t 5))⟩,
  ⟨(some 35), none, (.len (.t 34))⟩,
  ⟨(some 36), none, (.val (.c (.i .i64 0)))⟩] t H) := runR_reg'
def d19_10 : List AOper := [
  ⟨(some 37), none, (.bin .lss (.t 36) (.t 35))⟩]
theorem r19_10 {fn : AFun} {K : List AItem} {t : Nat → AV} {H : AH} {T : Tbl} : runR T fn (.code (.reg d19_10) :: K) t H = regR T fn K (aops (callR T) [
  ⟨(some 37), none, (.bin .lss (.t 36) (.t 35))⟩] t H) := runR_reg'
def d19_11 : List AOper := [
  ⟨(some 38), none, (.ia 1 (.t 34) (.t 36))⟩,
  ⟨(some 39), none, (.ld none (.t 38))⟩,
  ⟨(some 8), none, (.val (.t 39))⟩]
theorem r19_11 {fn : AFun} {K : List AItem} {t : Nat → AV} {H : AH} {T : Tbl} : runR T fn (.code (.reg d19_11) :: K) t H = regR T fn K (aops (callR T) [
  ⟨(some 38), none, (.ia 1 (.t 34) (.t 36))⟩,
  ⟨(some 39), none, (.ld none (.t 38))⟩,
  ⟨(some 8), none, (.val (.t 39))⟩] t H) := runR_reg'
def d19_12 : List AOper := [
  ⟨(some 41), none, (.ld none (.t 2))⟩,
  ⟨(some 42), none, (.val (.t 8))⟩,
  ⟨(some 43), none, (.lk [0] (.agg [(.i .i64 0), (.i .i64 0)]) (.t 41) (.t 42) true)⟩,
  ⟨(some 40), none, (.val (.t 43))⟩,
  ⟨(some 44), none, (.ext (.t 40) 0)⟩,
  ⟨(some 45), none, (.ext (.t 40) 1)⟩,
  ⟨(some 9), none, (.alloc [(.i .i64 0), (.i .i64 0)])⟩,
  ⟨none, none, (.st 2 (.t 9) (.t 44))⟩,
  ⟨(some 10), none, (.val (.t 45))⟩]
theorem r19_12 {fn : AFun} {K : List AItem} {t : Nat → AV} {H : AH} {T : Tbl} : runR T fn (.code (.reg d19_12) :: K) t H = regR T fn K (aops (callR T) [
  ⟨(some 41), none, (.ld none (.t 2))⟩,
  ⟨(some 42), none, (.val (.t 8))⟩,
  ⟨(some 43), none, (.lk [0] (.agg [(.i .i64 0), (.i .i64 0)]) (.t 41) (.t 42) true)⟩,
  ⟨(some 40), none, (.val (.t 43))⟩,
  ⟨(some 44), none, (.ext (.t 40) 0)⟩,
  ⟨(some 45), none, (.ext (.t 40) 1)⟩,
  ⟨(some 9), none, (.alloc [(.i .i64 0), (.i .i64 0)])⟩,
  ⟨none, none, (.st 2 (.t 9) (.t 44))⟩,
  ⟨(some 10), none, (.val (.t 45))⟩] t H) := runR_reg'
def d19_13 : List AOper := [
  ⟨(some 46), none, (.val (.t 10))⟩,
  ⟨(some 47), none, (.un .not (.t 46))⟩,
  ⟨(some 48), none, (.val (.t 47))⟩,
  ⟨(some 49), (some (48, false)), (.ld (some 2) (.t 9))⟩,
  ⟨(some 50), (some (48, false)), (.ld (some 2) (.t 4))⟩,
  ⟨(some 51), (some (48, false)), (.eqc [0, 0] true (.t 49) (.t 50))⟩,
  ⟨(some 52), none, (.pick (.t 48) (.c (.b true)) (.t 51))⟩]
theorem r19_13 {fn : AFun} {K : List AItem} {t : Nat → AV} {H : AH} {T : Tbl} : runR T fn (.code (.reg d19_13) :: K) t H = regR T fn K (aops (callR T) [
  ⟨(some 46), none, (.val (.t 10))⟩,
  ⟨(some 47), none, (.un .not (.t 46))⟩,
  ⟨(some 48), none, (.val (.t 47))⟩,
  ⟨(some 49), (some (48, false)), (.ld (some 2) (.t 9))⟩,
  ⟨(some 50), (some (48, false)), (.ld (some 2) (.t 4))⟩,
  ⟨(some 51), (some (48, false)), (.eqc [0, 0] true (.t 49) (.t 50))⟩,
  ⟨(some 52), none, (.pick (.t 48) (.c (.b true)) (.t 51))⟩] t H) := runR_reg'
def d19_14 : List AOper := [
  ⟨(some 3), none, (.val (.c (.b false)))⟩]
theorem r19_14 {fn : AFun} {K : List AItem} {t : Nat → AV} {H : AH} {T : Tbl} : runR T fn (.code (.reg d19_14) :: K) t H = regR T fn K (aops (callR T) [
  ⟨(some 3), none, (.val (.c (.b false)))⟩] t H) := runR_reg'
def d19_15 : List AOper := [
  ⟨(some 53), none, (.ld none (.t 2))⟩,
  ⟨(some 54), none, (.val (.t 8))⟩,
  ⟨none, none, (.dl [0] (.t 53) (.t 54))⟩]
theorem r19_15 {fn : AFun} {K : List AItem} {t : Nat → AV} {H : AH} {T : Tbl} : runR T fn (.code (.reg d19_15) :: K) t H = regR T fn K (aops (callR T) [
  ⟨(some 53), none, (.ld none (.t 2))⟩,
  ⟨(some 54), none, (.val (.t 8))⟩,
  ⟨none, none, (.dl [0] (.t 53) (.t 54))⟩] t H) := runR_reg'
def d19_16 : List AOper := [
  ⟨(some 55), none, (.bin .add (.t 36) (.c (.i .i64 1)))⟩,
  ⟨(some 36), none, (.val (.t 55))⟩]
theorem r19_16 {fn : AFun} {K : List AItem} {t : Nat → AV} {H : AH} {T : Tbl} : runR T fn (.code (.reg d19_16) :: K) t H = regR T fn K (aops (callR T) [
  ⟨(some 55), none, (.bin .add (.t 36) (.c (.i .i64 1)))⟩,
  ⟨(some 36), none, (.val (.t 55))⟩] t H) := runR_reg'
def l19_17 : ACode := (.seq (.reg d19_10) (.seq (.cond (.t 37) .skip (.exit 0)) (.seq (.block 1 (.seq (.reg d19_11) (.seq (.seq (.reg d19_12) (.seq (.reg d19_13) (.cond (.t 52) (.seq (.reg d19_14) .ret) .skip))) (.reg d19_15)))) (.reg d19_16))))
def d19_18 : List AOper := [
  ⟨(some 56), none, (.val (.c (.i .i64 0)))⟩]
theorem r19_18 {fn : AFun} {K : List AItem} {t : Nat → AV} {H : AH} {T : Tbl} : runR T fn (.code (.reg d19_18) :: K) t H = regR T fn K (aops (callR T) [
  ⟨(some 56), none, (.val (.c (.i .i64 0)))⟩] t H) := runR_reg'
def d19_19 : List AOper := [
  ⟨(some 57), none, (.bin .lss (.t 56) (.c (.i .i64 256)))⟩]
theorem r19_19 {fn : AFun} {K : List AItem} {t : Nat → AV} {H : AH} {T : Tbl} : runR T fn (.code (.reg d19_19) :: K) t H = regR T fn K (aops (callR T) [
  ⟨(some 57), none, (.bin .lss (.t 56) (.c (.i .i64 256)))⟩] t H) := runR_reg'
def d19_20 : List AOper := [
  ⟨(some 58), none, (.val (.t 56))⟩,
  ⟨(some 11), none, (.val (.t 58))⟩]
theorem r19_20 {fn : AFun} {K : List AItem} {t : Nat → AV} {H : AH} {T : Tbl} : runR T fn (.code (.reg d19_20) :: K) t H = regR T fn K (aops (callR T) [
  ⟨(some 58), none, (.val (.t 56))⟩,
  ⟨(some 11), none, (.val (.t 58))⟩] t H) := runR_reg'
def d19_21 : List AOper := [
  ⟨(some 60), none, (.ld none (.t 2))⟩,
  ⟨(some 61), none, (.val (.t 11))⟩,
  ⟨(some 62), none, (.lk [0] (.agg [(.i .i64 0), (.i .i64 0)]) (.t 60) (.t 61) true)⟩,
  ⟨(some 59), none, (.val (.t 62))⟩,
  ⟨(some 63), none, (.ext (.t 59) 0)⟩,
  ⟨(some 64), none, (.ext (.t 59) 1)⟩,
  ⟨(some 12), none, (.alloc [(.i .i64 0), (.i .i64 0)])⟩,
  ⟨none, none, (.st 2 (.t 12) (.t 63))⟩,
  ⟨(some 13), none, (.val (.t 64))⟩]
theorem r19_21 {fn : AFun} {K : List AItem} {t : Nat → AV} {H : AH} {T : Tbl} : runR T fn (.code (.reg d19_21) :: K) t H = regR T fn K (aops (callR T) [
  ⟨(some 60), none, (.ld none (.t 2))⟩,
  ⟨(some 61), none, (.val (.t 11))⟩,
  ⟨(some 62), none, (.lk [0] (.agg [(.i .i64 0), (.i .i64 0)]) (.t 60) (.t 61) true)⟩,
  ⟨(some 59), none, (.val (.t 62))⟩,
  ⟨(some 63), none, (.ext (.t 59) 0)⟩,
  ⟨(some 64), none, (.ext (.t 59) 1)⟩,
  ⟨(some 12), none, (.alloc [(.i .i64 0), (.i .i64 0)])⟩,
  ⟨none, none, (.st 2 (.t 12) (.t 63))⟩,
  ⟨(some 13), none, (.val (.t 64))⟩] t H) := runR_reg'
def d19_22 : List AOper := [
  ⟨(some 65), none, (.val (.t 13))⟩,
  ⟨(some 66), none, (.val (.t 65))⟩,
  ⟨(some 67), (some (66, true)), (.ld (some 2) (.t 12))⟩,
  ⟨(some 68), (some (66, true)), (.ld (some 2) (.t 4))⟩,
  ⟨(some 69), (some (66, true)), (.eqc [0, 0] false (.t 67) (.t 68))⟩,
  ⟨(some 70), none, (.pick (.t 66) (.t 69) (.c (.b false)))⟩]
theorem r19_22 {fn : AFun} {K : List AItem} {t : Nat → AV} {H : AH} {T : Tbl} : runR T fn (.code (.reg d19_22) :: K) t H = regR T fn K (aops (callR T) [
  ⟨(some 65), none, (.val (.t 13))⟩,
  ⟨(some 66), none, (.val (.t 65))⟩,
  ⟨(some 67), (some (66, true)), (.ld (some 2) (.t 12))⟩,
  ⟨(some 68), (some (66, true)), (.ld (some 2) (.t 4))⟩,
  ⟨(some 69), (some (66, true)), (.eqc [0, 0] false (.t 67) (.t 68))⟩,
  ⟨(some 70), none, (.pick (.t 66) (.t 69) (.c (.b false)))⟩] t H) := runR_reg'
def d19_23 : List AOper := [
  ⟨(some 3), none, (.val (.c (.b false)))⟩]
theorem r19_23 {fn : AFun} {K : List AItem} {t : Nat → AV} {H : AH} {T : Tbl} : runR T fn (.code (.reg d19_23) :: K) t H = regR T fn K (aops (callR T) [
  ⟨(some 3), none, (.val (.c (.b false)))⟩] t H) := runR_reg'
def d19_24 : List AOper := [
  ⟨(some 71), none, (.bin .add (.t 56) (.c (.i .i64 1)))⟩,
  ⟨(some 56), none, (.val (.t 71))⟩]
theorem r19_24 {fn : AFun} {K : List AItem} {t : Nat → AV} {H : AH} {T : Tbl} : runR T fn (.code (.reg d19_24) :: K) t H = regR T fn K (aops (callR T) [
  ⟨(some 71), none, (.bin .add (.t 56) (.c (.i .i64 1)))⟩,
  ⟨(some 56), none, (.val (.t 71))⟩] t H) := runR_reg'
def l19_25 : ACode := (.seq (.reg d19_19) (.seq (.cond (.t 57) .skip (.exit 2)) (.seq (.block 3 (.seq (.reg d19_20) (.seq (.reg d19_21) (.seq (.reg d19_22) (.cond (.t 70) (.seq (.reg d19_23) .ret) .skip))))) (.reg d19_24))))
def d19_26 : List AOper := [
  ⟨(some 3), none, (.val (.c (.b true)))⟩]
theorem r19_26 {fn : AFun} {K : List AItem} {t : Nat → AV} {H : AH} {T : Tbl} : runR T fn (.code (.reg d19_26) :: K) t H = regR T fn K (aops (callR T) [
  ⟨(some 3), none, (.val (.c (.b true)))⟩] t H) := runR_reg'
def a19 : AFun := ⟨72, [(.tmp 3)], (.seq (.reg d19_0) (.seq (.reg d19_1) (.seq (.seq (.reg d19_2) (.cond (.t 24) (.seq (.reg d19_3) .ret) .skip)) (.seq (.seq (.reg d19_4) (.cond (.t 26) (.seq (.reg d19_5) .ret) .skip)) (.seq (.seq (.drw d19_6) (.cond (.t 31) (.seq (.reg d19_7) .ret) .skip)) (.seq (.reg d19_8) (.seq (.seq (.reg d19_9) (.block 0 (.loop l19_17))) (.seq (.seq (.reg d19_18) (.block 2 (.loop l19_25))) (.seq (.reg d19_26) .ret)))))))))⟩
theorem a19_ok : cfun Try.prog 19 = some a19 := by kernel_rfl
/-- (*futtock/vmq.Queue).ok -/
def d20_0 : List AOper := [
  ⟨(some 2), none, (.val (.c (.b false)))⟩]
theorem r20_0 {fn : AFun} {K : List AItem} {t : Nat → AV} {H : AH} {T : Tbl} : runR T fn (.code (.reg d20_0) :: K) t H = regR T fn K (aops (callR T) [
  ⟨(some 2), none, (.val (.c (.b false)))⟩] t H) := runR_reg'
def d20_1 : List AOper := [
  ⟨(some 3), none, (.val (.t 0))⟩,
  ⟨(some 4), none, (.eqn 0 true (.t 3) (.c (.p none)))⟩,
  ⟨(some 5), none, (.val (.t 4))⟩,
  ⟨(some 6), (some (5, true)), (.val (.t 0))⟩,
  ⟨(some 7), (some (5, true)), (.nilc (.t 6))⟩,
  ⟨(some 8), (some (5, true)), (.fa 1 (.t 7))⟩,
  ⟨(some 9), (some (5, true)), (.ld none (.t 8))⟩,
  ⟨(some 10), (some (5, true)), (.eqn 2 true (.t 9) (.c (.mp none)))⟩,
  ⟨(some 11), none, (.pick (.t 5) (.t 10) (.c (.b false)))⟩,
  ⟨(some 2), none, (.val (.t 11))⟩]
theorem r20_1 {fn : AFun} {K : List AItem} {t : Nat → AV} {H : AH} {T : Tbl} : runR T fn (.code (.reg d20_1) :: K) t H = regR T fn K (aops (callR T) [
  ⟨(some 3), none, (.val (.t 0))⟩,
  ⟨(some 4), none, (.eqn 0 true (.t 3) (.c (.p none)))⟩,
  ⟨(some 5), none, (.val (.t 4))⟩,
  ⟨(some 6), (some (5, true)), (.val (.t 0))⟩,
  ⟨(some 7), (some (5, true)), (.nilc (.t 6))⟩,
  ⟨(some 8), (some (5, true)), (.fa 1 (.t 7))⟩,
  ⟨(some 9), (some (5, true)), (.ld none (.t 8))⟩,
  ⟨(some 10), (some (5, true)), (.eqn 2 true (.t 9) (.c (.mp none)))⟩,
  ⟨(some 11), none, (.pick (.t 5) (.t 10) (.c (.b false)))⟩,
  ⟨(some 2), none, (.val (.t 11))⟩] t H) := runR_reg'
def a20 : AFun := ⟨12, [(.tmp 2)], (.seq (.reg d20_0) (.seq (.reg d20_1) .ret))⟩
theorem a20_ok : cfun Try.prog 20 = some a20 := by kernel_rfl
/-- futtock/vmq.may -/
def d21_0 : List AOper := [
  ⟨(some 1), none, (.box (.t 0))⟩,
  ⟨(some 2), none, (.val (.c (.b false)))⟩]
theorem r21_0 {fn : AFun} {K : List AItem} {t : Nat → AV} {H : AH} {T : Tbl} : runR T fn (.code (.reg d21_0) :: K) t H = regR T fn K (aops (callR T) [
  ⟨(some 1), none, (.box (.t 0))⟩,
  ⟨(some 2), none, (.val (.c (.b false)))⟩] t H) := runR_reg'
def d21_1 : List AOper := [
  ⟨(some 3), none, (.fa 0 (.t 1))⟩,
  ⟨(some 4), none, (.ld none (.t 3))⟩]
theorem r21_1 {fn : AFun} {K : List AItem} {t : Nat → AV} {H : AH} {T : Tbl} : runR T fn (.code (.reg d21_1) :: K) t H = regR T fn K (aops (callR T) [
  ⟨(some 3), none, (.fa 0 (.t 1))⟩,
  ⟨(some 4), none, (.ld none (.t 3))⟩] t H) := runR_reg'
def d21_2 : List AOper := [
  ⟨(some 6), none, (.bin .eql (.t 4) (.c (.i .i64 1)))⟩,
  ⟨(some 5), none, (.val (.t 6))⟩]
theorem r21_2 {fn : AFun} {K : List AItem} {t : Nat → AV} {H : AH} {T : Tbl} : runR T fn (.code (.reg d21_2) :: K) t H = regR T fn K (aops (callR T) [
  ⟨(some 6), none, (.bin .eql (.t 4) (.c (.i .i64 1)))⟩,
  ⟨(some 5), none, (.val (.t 6))⟩] t H) := runR_reg'
def d21_3 : List AOper := [
  ⟨(some 7), none, (.fa 1 (.t 1))⟩,
  ⟨(some 8), none, (.ld none (.t 7))⟩,
  ⟨(some 9), none, (.bin .geq (.t 8) (.c (.i .i64 0)))⟩,
  ⟨(some 10), none, (.val (.t 9))⟩,
  ⟨(some 11), (some (10, true)), (.fa 1 (.t 1))⟩,
  ⟨(some 12), (some (10, true)), (.ld none (.t 11))⟩,
  ⟨(some 13), (some (10, true)), (.bin .lss (.t 12) (.c (.i .i64 65536)))⟩,
  ⟨(some 14), none, (.pick (.t 10) (.t 13) (.c (.b false)))⟩,
  ⟨(some 2), none, (.val (.t 14))⟩]
theorem r21_3 {fn : AFun} {K : List AItem} {t : Nat → AV} {H : AH} {T : Tbl} : runR T fn (.code (.reg d21_3) :: K) t H = regR T fn K (aops (callR T) [
  ⟨(some 7), none, (.fa 1 (.t 1))⟩,
  ⟨(some 8), none, (.ld none (.t 7))⟩,
  ⟨(some 9), none, (.bin .geq (.t 8) (.c (.i .i64 0)))⟩,
  ⟨(some 10), none, (.val (.t 9))⟩,
  ⟨(some 11), (some (10, true)), (.fa 1 (.t 1))⟩,
  ⟨(some 12), (some (10, true)), (.ld none (.t 11))⟩,
  ⟨(some 13), (some (10, true)), (.bin .lss (.t 12) (.c (.i .i64 65536)))⟩,
  ⟨(some 14), none, (.pick (.t 10) (.t 13) (.c (.b false)))⟩,
  ⟨(some 2), none, (.val (.t 14))⟩] t H) := runR_reg'
def d21_4 : List AOper := [
  ⟨(some 16), none, (.bin .eql (.t 4) (.c (.i .i64 2)))⟩,
  ⟨(some 15), none, (.val (.t 16))⟩]
theorem r21_4 {fn : AFun} {K : List AItem} {t : Nat → AV} {H : AH} {T : Tbl} : runR T fn (.code (.reg d21_4) :: K) t H = regR T fn K (aops (callR T) [
  ⟨(some 16), none, (.bin .eql (.t 4) (.c (.i .i64 2)))⟩,
  ⟨(some 15), none, (.val (.t 16))⟩] t H) := runR_reg'
def d21_5 : List AOper := [
  ⟨(some 17), none, (.fa 1 (.t 1))⟩,
  ⟨(some 18), none, (.ld none (.t 17))⟩,
  ⟨(some 19), none, (.bin .eql (.t 18) (.c (.i .i64 0)))⟩,
  ⟨(some 2), none, (.val (.t 19))⟩]
theorem r21_5 {fn : AFun} {K : List AItem} {t : Nat → AV} {H : AH} {T : Tbl} : runR T fn (.code (.reg d21_5) :: K) t H = regR T fn K (aops (callR T) [
  ⟨(some 17), none, (.fa 1 (.t 1))⟩,
  ⟨(some 18), none, (.ld none (.t 17))⟩,
  ⟨(some 19), none, (.bin .eql (.t 18) (.c (.i .i64 0)))⟩,
  ⟨(some 2), none, (.val (.t 19))⟩] t H) := runR_reg'
def d21_6 : List AOper := [
  ⟨(some 2), none, (.val (.c (.b false)))⟩]
theorem r21_6 {fn : AFun} {K : List AItem} {t : Nat → AV} {H : AH} {T : Tbl} : runR T fn (.code (.reg d21_6) :: K) t H = regR T fn K (aops (callR T) [
  ⟨(some 2), none, (.val (.c (.b false)))⟩] t H) := runR_reg'
def a21 : AFun := ⟨20, [(.tmp 2)], (.seq (.reg d21_0) (.seq (.seq (.reg d21_1) (.block 0 (.seq (.reg d21_2) (.cond (.t 5) (.seq (.reg d21_3) .ret) (.seq (.reg d21_4) (.cond (.t 15) (.seq (.reg d21_5) .ret) .skip)))))) (.seq (.reg d21_6) .ret)))⟩
theorem a21_ok : cfun Try.prog 21 = some a21 := by kernel_rfl
/-- slices.Clone[[]futtock/vmq.Request,futtock/vmq.Request] -/
def d22_0 : List AOper := [
  ⟨(some 2), none, (.val (.c (.sl none 0 0 true 0)))⟩]
theorem r22_0 {fn : AFun} {K : List AItem} {t : Nat → AV} {H : AH} {T : Tbl} : runR T fn (.code (.reg d22_0) :: K) t H = regR T fn K (aops (callR T) [
  ⟨(some 2), none, (.val (.c (.sl none 0 0 true 0)))⟩] t H) := runR_reg'
def d22_1 : List AOper := [
  ⟨(some 3), none, (.val (.t 0))⟩,
  ⟨(some 4), none, (.eqn 1 false (.t 3) (.c (.sl none 0 0 true 0)))⟩]
theorem r22_1 {fn : AFun} {K : List AItem} {t : Nat → AV} {H : AH} {T : Tbl} : runR T fn (.code (.reg d22_1) :: K) t H = regR T fn K (aops (callR T) [
  ⟨(some 3), none, (.val (.t 0))⟩,
  ⟨(some 4), none, (.eqn 1 false (.t 3) (.c (.sl none 0 0 true 0)))⟩] t H) := runR_reg'
def d22_2 : List AOper := [
  ⟨(some 2), none, (.val (.c (.sl none 0 0 true 0)))⟩]
theorem r22_2 {fn : AFun} {K : List AItem} {t : Nat → AV} {H : AH} {T : Tbl} : runR T fn (.code (.reg d22_2) :: K) t H = regR T fn K (aops (callR T) [
  ⟨(some 2), none, (.val (.c (.sl none 0 0 true 0)))⟩] t H) := runR_reg'
def d22_3 : List AOper := [
  ⟨(some 5), none, (.bsl [(.i .i64 0), (.i .i64 0)] 0 [])⟩,
  ⟨(some 6), none, (.val (.t 0))⟩,
  ⟨(some 7), none, (.app [(.i .i64 0), (.i .i64 0)] 16 (.t 5) (.t 6))⟩,
  ⟨(some 2), none, (.val (.t 7))⟩]
theorem r22_3 {fn : AFun} {K : List AItem} {t : Nat → AV} {H : AH} {T : Tbl} : runR T fn (.code (.reg d22_3) :: K) t H = regR T fn K (aops (callR T) [
  ⟨(some 5), none, (.bsl [(.i .i64 0), (.i .i64 0)] 0 [])⟩,
  ⟨(some 6), none, (.val (.t 0))⟩,
  ⟨(some 7), none, (.app [(.i .i64 0), (.i .i64 0)] 16 (.t 5) (.t 6))⟩,
  ⟨(some 2), none, (.val (.t 7))⟩] t H) := runR_reg'
def a22 : AFun := ⟨8, [(.tmp 2)], (.seq (.reg d22_0) (.seq (.seq (.reg d22_1) (.cond (.t 4) (.seq (.reg d22_2) .ret) .skip)) (.seq (.reg d22_3) .ret)))⟩
theorem a22_ok : cfun Try.prog 22 = some a22 := by kernel_rfl
/-- All of them. -/
def tbl : Tbl
  | 3 => some a3
  | 4 => some a4
  | 5 => some a5
  | 6 => some a6
  | 7 => some a7
  | 8 => some a8
  | 9 => some a9
  | 10 => some a10
  | 11 => some a11
  | 12 => some a12
  | 13 => some a13
  | 14 => some a14
  | 15 => some a15
  | 16 => some a16
  | 17 => some a17
  | 18 => some a18
  | 19 => some a19
  | 20 => some a20
  | 21 => some a21
  | 22 => some a22
  | _ => none
/-- The heap behind a call of which the value alone is told. -/
noncomputable def hC (n : FuncId) (args : List AV) (H : AH) : AH := hAft (callR tbl n args H)
theorem hC_of {n : FuncId} {args : List AV} {H : AH} {v : AV} (h : ∃ H', callR tbl n args H = some (v, H')) : callR tbl n args H = some (v, hC n args H) := aft_of h
theorem tbl3 : tbl 3 = some a3 := rfl
theorem c3 {x0 : AV} {H : AH} : callR tbl 3 [x0] H = runR tbl a3 [.code a3.body] (ainit [x0]) H := callR_of tbl3 (Nat.le_of_ble_eq_true rfl)
theorem b3 : a3.body = (.seq (.reg d3_0) (.seq (.reg d3_1) (.seq (.reg d3_2) (.seq (.seq (.reg d3_3) (.cond (.t 22) (.seq (.reg d3_4) .ret) .skip)) (.seq (.seq (.reg d3_5) (.block 0 (.loop l3_27))) (.seq (.reg d3_28) .ret)))))) := rfl
theorem s3 : a3.res = [(.tmp 2)] := rfl
theorem tbl4 : tbl 4 = some a4 := rfl
theorem c4 {x0 : AV} {H : AH} : callR tbl 4 [x0] H = runR tbl a4 [.code a4.body] (ainit [x0]) H := callR_of tbl4 (Nat.le_of_ble_eq_true rfl)
theorem b4 : a4.body = (.seq (.reg d4_0) (.seq (.reg d4_1) (.seq (.seq (.reg d4_2) (.cond (.t 16) (.seq (.reg d4_3) .ret) .skip)) (.seq (.reg d4_4) (.seq (.reg d4_5) (.seq (.reg d4_6) (.seq (.seq (.reg d4_7) (.block 0 (.loop l4_28))) (.seq (.seq (.reg d4_29) (.block 4 (.loop l4_34))) (.seq (.reg d4_35) .ret))))))))) := rfl
theorem s4 : a4.res = [(.tmp 2)] := rfl
theorem tbl5 : tbl 5 = some a5 := rfl
theorem c5 {x0 : AV} {H : AH} : callR tbl 5 [x0] H = runR tbl a5 [.code a5.body] (ainit [x0]) H := callR_of tbl5 (Nat.le_of_ble_eq_true rfl)
theorem b5 : a5.body = (.seq (.reg d5_0) (.seq (.seq (.reg d5_1) (.block 0 (.loop l5_9))) (.seq (.reg d5_10) .ret))) := rfl
theorem s5 : a5.res = [(.tmp 2)] := rfl
theorem tbl6 : tbl 6 = some a6 := rfl
theorem c6 {x0 x1 : AV} {H : AH} : callR tbl 6 [x0, x1] H = runR tbl a6 [.code a6.body] (ainit [x0, x1]) H := callR_of tbl6 (Nat.le_of_ble_eq_true rfl)
theorem b6 : a6.body = (.seq (.reg d6_0) (.seq (.reg d6_1) (.seq (.seq (.reg d6_2) (.cond (.t 17) (.seq (.reg d6_3) .ret) .skip)) (.seq (.seq (.reg d6_4) (.block 0 (.loop l6_11))) (.seq (.seq (.reg d6_12) (.block 2 (.loop l6_21))) (.seq (.reg d6_22) .ret)))))) := rfl
theorem s6 : a6.res = [(.tmp 4)] := rfl
theorem tbl7 : tbl 7 = some a7 := rfl
theorem c7 {H : AH} : callR tbl 7 [] H = runR tbl a7 [.code a7.body] (ainit []) H := callR_of tbl7 (Nat.le_of_ble_eq_true rfl)
theorem b7 : a7.body = (.seq (.reg d7_0) (.seq (.reg d7_1) .ret)) := rfl
theorem s7 : a7.res = [(.tmp 0)] := rfl
theorem tbl8 : tbl 8 = some a8 := rfl
theorem c8 {x0 : AV} {H : AH} : callR tbl 8 [x0] H = runR tbl a8 [.code a8.body] (ainit [x0]) H := callR_of tbl8 (Nat.le_of_ble_eq_true rfl)
theorem b8 : a8.body = (.seq (.reg d8_0) (.seq (.reg d8_1) .ret)) := rfl
theorem s8 : a8.res = [(.tmp 2)] := rfl
theorem tbl9 : tbl 9 = some a9 := rfl
theorem c9 {x0 : AV} {H : AH} : callR tbl 9 [x0] H = runR tbl a9 [.code a9.body] (ainit [x0]) H := callR_of tbl9 (Nat.le_of_ble_eq_true rfl)
theorem b9 : a9.body = (.seq (.reg d9_0) (.seq (.seq (.reg d9_1) (.cond (.t 11) (.seq (.reg d9_2) .ret) .skip)) (.seq (.reg d9_3) (.seq (.reg d9_4) (.seq (.drw d9_5) (.seq (.drw d9_6) (.seq (.seq (.reg d9_7) (.block 0 (.loop l9_12))) (.seq (.reg d9_13) .ret)))))))) := rfl
theorem s9 : a9.res = [(.cell 2 (some 2)), (.tmp 3), (.tmp 4)] := rfl
theorem tbl10 : tbl 10 = some a10 := rfl
theorem c10 {x0 : AV} {H : AH} : callR tbl 10 [x0] H = runR tbl a10 [.code a10.body] (ainit [x0]) H := callR_of tbl10 (Nat.le_of_ble_eq_true rfl)
theorem b10 : a10.body = (.seq (.reg d10_0) (.seq (.seq (.reg d10_1) (.cond (.t 10) (.seq (.reg d10_2) .ret) .skip)) (.seq (.reg d10_3) (.seq (.reg d10_4) (.seq (.reg d10_5) .ret))))) := rfl
theorem s10 : a10.res = [(.cell 2 (some 3)), (.tmp 3)] := rfl
theorem tbl11 : tbl 11 = some a11 := rfl
theorem c11 {x0 x1 : AV} {H : AH} : callR tbl 11 [x0, x1] H = runR tbl a11 [.code a11.body] (ainit [x0, x1]) H := callR_of tbl11 (Nat.le_of_ble_eq_true rfl)
theorem b11 : a11.body = (.seq (.reg d11_0) (.seq (.seq (.reg d11_1) (.cond (.t 10) (.seq (.reg d11_2) .ret) .skip)) (.seq (.seq (.reg d11_3) (.block 0 (.loop l11_9))) (.seq (.reg d11_10) .ret)))) := rfl
theorem s11 : a11.res = [(.tmp 4)] := rfl
theorem tbl12 : tbl 12 = some a12 := rfl
theorem c12 {x0 x1 x2 : AV} {H : AH} : callR tbl 12 [x0, x1, x2] H = runR tbl a12 [.code a12.body] (ainit [x0, x1, x2]) H := callR_of tbl12 (Nat.le_of_ble_eq_true rfl)
theorem b12 : a12.body = (.seq (.reg d12_0) (.seq (.seq (.reg d12_1) (.cond (.t 12) (.seq (.reg d12_2) .ret) .skip)) (.seq (.drw d12_3) (.seq (.block 0 (.seq (.reg d12_4) (.cond (.t 22) (.seq (.reg d12_5) .ret) (.seq (.reg d12_6) (.cond (.t 34) (.seq (.reg d12_7) .ret) (.seq (.reg d12_8) (.cond (.t 38) (.seq (.reg d12_9) .ret) (.seq (.reg d12_10) (.cond (.t 49) (.seq (.drw d12_11) (.drw d12_12)) .skip))))))))) (.seq (.seq (.reg d12_13) (.cond (.t 68) (.seq (.drw d12_14) (.drw d12_15)) .skip)) (.seq (.reg d12_16) .ret)))))) := rfl
theorem s12 : a12.res = [(.tmp 6), (.tmp 7)] := rfl
theorem tbl13 : tbl 13 = some a13 := rfl
theorem c13 {x0 x1 x2 : AV} {H : AH} : callR tbl 13 [x0, x1, x2] H = runR tbl a13 [.code a13.body] (ainit [x0, x1, x2]) H := callR_of tbl13 (Nat.le_of_ble_eq_true rfl)
theorem b13 : a13.body = (.seq (.reg d13_0) (.seq (.reg d13_1) (.seq (.seq (.reg d13_2) (.cond (.t 43) (.seq (.reg d13_3) .ret) .skip)) (.seq (.seq (.reg d13_4) (.cond (.t 46) (.seq (.reg d13_5) .ret) .skip)) (.seq (.reg d13_6) (.seq (.seq (.reg d13_7) (.cond (.t 48) (.reg d13_8) .skip)) (.seq (.seq (.reg d13_9) (.block 0 (.loop l13_15))) (.seq (.seq (.reg d13_16) (.cond (.t 93) (.seq (.reg d13_17) .ret) .skip)) (.seq (.drw d13_18) (.seq (.reg d13_19) .ret)))))))))) := rfl
theorem s13 : a13.res = [(.tmp 6), (.tmp 7)] := rfl
theorem tbl14 : tbl 14 = some a14 := rfl
theorem c14 {x0 : AV} {H : AH} : callR tbl 14 [x0] H = runR tbl a14 [.code a14.body] (ainit [x0]) H := callR_of tbl14 (Nat.le_of_ble_eq_true rfl)
theorem b14 : a14.body = (.seq (.reg d14_0) (.seq (.seq (.reg d14_1) (.cond (.t 5) (.seq (.reg d14_2) .ret) .skip)) (.seq (.reg d14_3) .ret))) := rfl
theorem s14 : a14.res = [(.tmp 2)] := rfl
theorem tbl15 : tbl 15 = some a15 := rfl
theorem c15 {x0 x1 : AV} {H : AH} : callR tbl 15 [x0, x1] H = runR tbl a15 [.code a15.body] (ainit [x0, x1]) H := callR_of tbl15 (Nat.le_of_ble_eq_true rfl)
theorem b15 : a15.body = (.seq (.reg d15_0) (.seq (.seq (.reg d15_1) (.cond (.t 9) (.seq (.reg d15_2) .ret) .skip)) (.seq (.reg d15_3) (.seq (.reg d15_4) .ret)))) := rfl
theorem s15 : a15.res = [(.tmp 4)] := rfl
theorem tbl16 : tbl 16 = some a16 := rfl
theorem c16 {x0 x1 : AV} {H : AH} : callR tbl 16 [x0, x1] H = runR tbl a16 [.code a16.body] (ainit [x0, x1]) H := callR_of tbl16 (Nat.le_of_ble_eq_true rfl)
theorem b16 : a16.body = (.seq (.reg d16_0) (.seq (.seq (.reg d16_1) (.block 0 (.loop l16_10))) (.seq (.reg d16_11) .ret))) := rfl
theorem s16 : a16.res = [(.tmp 4)] := rfl
theorem tbl17 : tbl 17 = some a17 := rfl
theorem c17 {x0 : AV} {H : AH} : callR tbl 17 [x0] H = runR tbl a17 [.code a17.body] (ainit [x0]) H := callR_of tbl17 (Nat.le_of_ble_eq_true rfl)
theorem b17 : a17.body = (.seq (.reg d17_0) (.seq (.reg d17_1) .ret)) := rfl
theorem s17 : a17.res = [(.tmp 2)] := rfl
theorem tbl18 : tbl 18 = some a18 := rfl
theorem c18 {H : AH} : callR tbl 18 [] H = runR tbl a18 [.code a18.body] (ainit []) H := callR_of tbl18 (Nat.le_of_ble_eq_true rfl)
theorem b18 : a18.body = (.seq (.reg d18_0) (.seq (.reg d18_1) (.seq (.seq (.reg d18_2) (.cond (.t 12) (.seq (.reg d18_3) .ret) .skip)) (.seq (.reg d18_4) (.seq (.reg d18_5) (.seq (.reg d18_6) (.seq (.reg d18_7) (.seq (.reg d18_8) .ret)))))))) := rfl
theorem s18 : a18.res = [(.tmp 0)] := rfl
theorem tbl19 : tbl 19 = some a19 := rfl
theorem c19 {x0 x1 x2 : AV} {H : AH} : callR tbl 19 [x0, x1, x2] H = runR tbl a19 [.code a19.body] (ainit [x0, x1, x2]) H := callR_of tbl19 (Nat.le_of_ble_eq_true rfl)
theorem b19 : a19.body = (.seq (.reg d19_0) (.seq (.reg d19_1) (.seq (.seq (.reg d19_2) (.cond (.t 24) (.seq (.reg d19_3) .ret) .skip)) (.seq (.seq (.reg d19_4) (.cond (.t 26) (.seq (.reg d19_5) .ret) .skip)) (.seq (.seq (.drw d19_6) (.cond (.t 31) (.seq (.reg d19_7) .ret) .skip)) (.seq (.reg d19_8) (.seq (.seq (.reg d19_9) (.block 0 (.loop l19_17))) (.seq (.seq (.reg d19_18) (.block 2 (.loop l19_25))) (.seq (.reg d19_26) .ret))))))))) := rfl
theorem s19 : a19.res = [(.tmp 3)] := rfl
theorem tbl20 : tbl 20 = some a20 := rfl
theorem c20 {x0 : AV} {H : AH} : callR tbl 20 [x0] H = runR tbl a20 [.code a20.body] (ainit [x0]) H := callR_of tbl20 (Nat.le_of_ble_eq_true rfl)
theorem b20 : a20.body = (.seq (.reg d20_0) (.seq (.reg d20_1) .ret)) := rfl
theorem s20 : a20.res = [(.tmp 2)] := rfl
theorem tbl21 : tbl 21 = some a21 := rfl
theorem c21 {x0 : AV} {H : AH} : callR tbl 21 [x0] H = runR tbl a21 [.code a21.body] (ainit [x0]) H := callR_of tbl21 (Nat.le_of_ble_eq_true rfl)
theorem b21 : a21.body = (.seq (.reg d21_0) (.seq (.seq (.reg d21_1) (.block 0 (.seq (.reg d21_2) (.cond (.t 5) (.seq (.reg d21_3) .ret) (.seq (.reg d21_4) (.cond (.t 15) (.seq (.reg d21_5) .ret) .skip)))))) (.seq (.reg d21_6) .ret))) := rfl
theorem s21 : a21.res = [(.tmp 2)] := rfl
theorem tbl22 : tbl 22 = some a22 := rfl
theorem c22 {x0 : AV} {H : AH} : callR tbl 22 [x0] H = runR tbl a22 [.code a22.body] (ainit [x0]) H := callR_of tbl22 (Nat.le_of_ble_eq_true rfl)
theorem b22 : a22.body = (.seq (.reg d22_0) (.seq (.seq (.reg d22_1) (.cond (.t 4) (.seq (.reg d22_2) .ret) .skip)) (.seq (.reg d22_3) .ret))) := rfl
theorem s22 : a22.res = [(.tmp 2)] := rfl
theorem tbl_ok : ∀ f a, tbl f = some a → cfun Try.prog f = some a := by
  intro f a h
  unfold tbl at h
  split at h
  · cases h; exact a3_ok
  · cases h; exact a4_ok
  · cases h; exact a5_ok
  · cases h; exact a6_ok
  · cases h; exact a7_ok
  · cases h; exact a8_ok
  · cases h; exact a9_ok
  · cases h; exact a10_ok
  · cases h; exact a11_ok
  · cases h; exact a12_ok
  · cases h; exact a13_ok
  · cases h; exact a14_ok
  · cases h; exact a15_ok
  · cases h; exact a16_ok
  · cases h; exact a17_ok
  · cases h; exact a18_ok
  · cases h; exact a19_ok
  · cases h; exact a20_ok
  · cases h; exact a21_ok
  · cases h; exact a22_ok
  · cases h
end Go.Proofs.Ytobaghbjaaaenaa.Abs
