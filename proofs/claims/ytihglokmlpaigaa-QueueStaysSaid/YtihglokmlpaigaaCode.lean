/- The functions that the laws of this seat reach, in the plain machine's form, and that they are the loaded ones. Printed by a program of this seat's own (gencode.py). No condition of its own. -/
import Derived.Test.YtihglokmlpaigaaProg
import Derived.Test.YtihglokmlpaigaaAbs3
import Derived.Test.YtihglokmlpaigaaEval
import Derived.KernelRfl
namespace Go.Proofs.Ytihglokmlpaigaa.Abs
set_option linter.unusedVariables false
set_option maxRecDepth 100000
/-- futtock/futtocklaw12.QueueOrder -/
def d3_0 : List AOper := [
  ⟨(some 2), none, (.val (.c (.b false)))⟩]
theorem r3_0 {fn : AFun} {K : List AItem} {t : Nat → AV} {H : AH} {T : Tbl} : runR T fn (.code (.reg d3_0) :: K) t H = regR T fn K (aops (callR T) [
  ⟨(some 2), none, (.val (.c (.b false)))⟩] t H) := runR_reg'
def d3_1 : List AOper := [
  ⟨(some 15), none, (.val (.t 0))⟩,
  ⟨(some 16), none, (.len (.t 15))⟩,
  ⟨(some 17), none, (.bin .gtr (.t 16) (.c (.i .i64 200)))⟩]
theorem r3_1 {fn : AFun} {K : List AItem} {t : Nat → AV} {H : AH} {T : Tbl} : runR T fn (.code (.reg d3_1) :: K) t H = regR T fn K (aops (callR T) [
  ⟨(some 15), none, (.val (.t 0))⟩,
  ⟨(some 16), none, (.len (.t 15))⟩,
  ⟨(some 17), none, (.bin .gtr (.t 16) (.c (.i .i64 200)))⟩] t H) := runR_reg'
def d3_2 : List AOper := [
  ⟨(some 18), none, (.call 7 [])⟩,
  ⟨(some 2), none, (.val (.t 18))⟩]
theorem r3_2 {fn : AFun} {K : List AItem} {t : Nat → AV} {H : AH} {T : Tbl} : runR T fn (.code (.reg d3_2) :: K) t H = regR T fn K (aops (callR T) [
  ⟨(some 18), none, (.call 7 [])⟩,
  ⟨(some 2), none, (.val (.t 18))⟩] t H) := runR_reg'
def d3_3 : List AOper := [
  ⟨(some 3), none, (.alloc [(.sl none 0 0 true 0)])⟩]
theorem r3_3 {fn : AFun} {K : List AItem} {t : Nat → AV} {H : AH} {T : Tbl} : runR T fn (.code (.reg d3_3) :: K) t H = regR T fn K (aops (callR T) [
  ⟨(some 3), none, (.alloc [(.sl none 0 0 true 0)])⟩] t H) := runR_reg'
def d3_4 : List AOper := [
  ⟨(some 19), none, .mkm⟩,
  ⟨(some 4), none, (.val (.t 19))⟩]
theorem r3_4 {fn : AFun} {K : List AItem} {t : Nat → AV} {H : AH} {T : Tbl} : runR T fn (.code (.reg d3_4) :: K) t H = regR T fn K (aops (callR T) [
  ⟨(some 19), none, .mkm⟩,
  ⟨(some 4), none, (.val (.t 19))⟩] t H) := runR_reg'
def d3_5 : List AOper := [
  ⟨(some 5), none, (.val (.c (.sl none 0 0 true 0)))⟩]
theorem r3_5 {fn : AFun} {K : List AItem} {t : Nat → AV} {H : AH} {T : Tbl} : runR T fn (.code (.reg d3_5) :: K) t H = regR T fn K (aops (callR T) [
  ⟨(some 5), none, (.val (.c (.sl none 0 0 true 0)))⟩] t H) := runR_reg'
def d3_6 : List AOper := [
  ⟨(some 20), none, (.val (.t 0))⟩,
  ⟨(some 21), none, (.len (.t 20))⟩,
  ⟨(some 22), none, (.val (.c (.i .i64 0)))⟩]
theorem r3_6 {fn : AFun} {K : List AItem} {t : Nat → AV} {H : AH} {T : Tbl} : runR T fn (.code (.reg d3_6) :: K) t H = regR T fn K (aops (callR T) [
  ⟨(some 20), none, (.val (.t 0))⟩,
  ⟨(some 21), none, (.len (.t 20))⟩,
  ⟨(some 22), none, (.val (.c (.i .i64 0)))⟩] t H) := runR_reg'
def d3_7 : List AOper := [
  ⟨(some 23), none, (.bin .lss (.t 22) (.t 21))⟩]
theorem r3_7 {fn : AFun} {K : List AItem} {t : Nat → AV} {H : AH} {T : Tbl} : runR T fn (.code (.reg d3_7) :: K) t H = regR T fn K (aops (callR T) [
  ⟨(some 23), none, (.bin .lss (.t 22) (.t 21))⟩] t H) := runR_reg'
def d3_8 : List AOper := [
  ⟨(some 24), none, (.ia 1 (.t 20) (.t 22))⟩,
  ⟨(some 25), none, (.ld none (.t 24))⟩,
  ⟨(some 7), none, (.val (.t 25))⟩]
theorem r3_8 {fn : AFun} {K : List AItem} {t : Nat → AV} {H : AH} {T : Tbl} : runR T fn (.code (.reg d3_8) :: K) t H = regR T fn K (aops (callR T) [
  ⟨(some 24), none, (.ia 1 (.t 20) (.t 22))⟩,
  ⟨(some 25), none, (.ld none (.t 24))⟩,
  ⟨(some 7), none, (.val (.t 25))⟩] t H) := runR_reg'
def d3_9 : List AOper := [
  ⟨(some 27), none, (.ld (some 1) (.t 3))⟩,
  ⟨(some 28), none, (.val (.t 7))⟩,
  ⟨(some 29), none, (.call 8 [(.t 27), (.t 28)])⟩,
  ⟨(some 26), none, (.val (.t 29))⟩,
  ⟨(some 30), none, (.ext (.t 26) 0)⟩,
  ⟨(some 31), none, (.ext (.t 26) 1)⟩,
  ⟨(some 8), none, (.alloc [(.sl none 0 0 true 0)])⟩,
  ⟨none, none, (.st 1 (.t 8) (.t 30))⟩,
  ⟨(some 9), none, (.val (.t 31))⟩]
theorem r3_9 {fn : AFun} {K : List AItem} {t : Nat → AV} {H : AH} {T : Tbl} : runR T fn (.code (.reg d3_9) :: K) t H = regR T fn K (aops (callR T) [
  ⟨(some 27), none, (.ld (some 1) (.t 3))⟩,
  ⟨(some 28), none, (.val (.t 7))⟩,
  ⟨(some 29), none, (.call 8 [(.t 27), (.t 28)])⟩,
  ⟨(some 26), none, (.val (.t 29))⟩,
  ⟨(some 30), none, (.ext (.t 26) 0)⟩,
  ⟨(some 31), none, (.ext (.t 26) 1)⟩,
  ⟨(some 8), none, (.alloc [(.sl none 0 0 true 0)])⟩,
  ⟨none, none, (.st 1 (.t 8) (.t 30))⟩,
  ⟨(some 9), none, (.val (.t 31))⟩] t H) := runR_reg'
def d3_10 : List AOper := [
  ⟨(some 32), none, (.val (.t 9))⟩,
  ⟨(some 33), none, (.val (.t 7))⟩,
  ⟨(some 34), none, (.bin .geq (.t 33) (.c (.i .i64 0)))⟩,
  ⟨(some 35), none, (.val (.t 34))⟩,
  ⟨(some 36), (some (35, true)), (.val (.t 7))⟩,
  ⟨(some 37), (some (35, true)), (.bin .leq (.t 36) (.c (.i .i64 65534)))⟩,
  ⟨(some 38), none, (.pick (.t 35) (.t 37) (.c (.b false)))⟩,
  ⟨(some 39), none, (.val (.t 38))⟩,
  ⟨(some 40), (some (39, true)), (.val (.t 4))⟩,
  ⟨(some 41), (some (39, true)), (.val (.t 7))⟩,
  ⟨(some 42), (some (39, true)), (.lk [0] (.b false) (.t 40) (.t 41) false)⟩,
  ⟨(some 43), (some (39, true)), (.un .not (.t 42))⟩,
  ⟨(some 44), none, (.pick (.t 39) (.t 43) (.c (.b false)))⟩,
  ⟨(some 45), none, (.eqb true (.t 32) (.t 44))⟩]
theorem r3_10 {fn : AFun} {K : List AItem} {t : Nat → AV} {H : AH} {T : Tbl} : runR T fn (.code (.reg d3_10) :: K) t H = regR T fn K (aops (callR T) [
  ⟨(some 32), none, (.val (.t 9))⟩,
  ⟨(some 33), none, (.val (.t 7))⟩,
  ⟨(some 34), none, (.bin .geq (.t 33) (.c (.i .i64 0)))⟩,
  ⟨(some 35), none, (.val (.t 34))⟩,
  ⟨(some 36), (some (35, true)), (.val (.t 7))⟩,
  ⟨(some 37), (some (35, true)), (.bin .leq (.t 36) (.c (.i .i64 65534)))⟩,
  ⟨(some 38), none, (.pick (.t 35) (.t 37) (.c (.b false)))⟩,
  ⟨(some 39), none, (.val (.t 38))⟩,
  ⟨(some 40), (some (39, true)), (.val (.t 4))⟩,
  ⟨(some 41), (some (39, true)), (.val (.t 7))⟩,
  ⟨(some 42), (some (39, true)), (.lk [0] (.b false) (.t 40) (.t 41) false)⟩,
  ⟨(some 43), (some (39, true)), (.un .not (.t 42))⟩,
  ⟨(some 44), none, (.pick (.t 39) (.t 43) (.c (.b false)))⟩,
  ⟨(some 45), none, (.eqb true (.t 32) (.t 44))⟩] t H) := runR_reg'
def d3_11 : List AOper := [
  ⟨(some 2), none, (.val (.c (.b false)))⟩]
theorem r3_11 {fn : AFun} {K : List AItem} {t : Nat → AV} {H : AH} {T : Tbl} : runR T fn (.code (.reg d3_11) :: K) t H = regR T fn K (aops (callR T) [
  ⟨(some 2), none, (.val (.c (.b false)))⟩] t H) := runR_reg'
def d3_12 : List AOper := [
  ⟨(some 46), none, (.val (.t 9))⟩]
theorem r3_12 {fn : AFun} {K : List AItem} {t : Nat → AV} {H : AH} {T : Tbl} : runR T fn (.code (.reg d3_12) :: K) t H = regR T fn K (aops (callR T) [
  ⟨(some 46), none, (.val (.t 9))⟩] t H) := runR_reg'
def d3_13 : List AOper := [
  ⟨(some 47), none, (.val (.t 4))⟩,
  ⟨(some 48), none, (.val (.t 7))⟩,
  ⟨none, none, (.mu [0] (.t 47) (.t 48) (.c (.b true)))⟩]
theorem r3_13 {fn : AFun} {K : List AItem} {t : Nat → AV} {H : AH} {T : Tbl} : runR T fn (.code (.reg d3_13) :: K) t H = regR T fn K (aops (callR T) [
  ⟨(some 47), none, (.val (.t 4))⟩,
  ⟨(some 48), none, (.val (.t 7))⟩,
  ⟨none, none, (.mu [0] (.t 47) (.t 48) (.c (.b true)))⟩] t H) := runR_reg'
def d3_14 : List AOper := [
  ⟨(some 49), none, (.val (.t 5))⟩,
  ⟨(some 50), none, (.val (.t 7))⟩,
  ⟨(some 51), none, (.bsl [(.i .i64 0)] 1 [(0, 1, (.t 50))])⟩,
  ⟨(some 52), none, (.app [(.i .i64 0)] 8 (.t 49) (.t 51))⟩,
  ⟨(some 5), none, (.val (.t 52))⟩]
theorem r3_14 {fn : AFun} {K : List AItem} {t : Nat → AV} {H : AH} {T : Tbl} : runR T fn (.code (.reg d3_14) :: K) t H = regR T fn K (aops (callR T) [
  ⟨(some 49), none, (.val (.t 5))⟩,
  ⟨(some 50), none, (.val (.t 7))⟩,
  ⟨(some 51), none, (.bsl [(.i .i64 0)] 1 [(0, 1, (.t 50))])⟩,
  ⟨(some 52), none, (.app [(.i .i64 0)] 8 (.t 49) (.t 51))⟩,
  ⟨(some 5), none, (.val (.t 52))⟩] t H) := runR_reg'
def d3_15 : List AOper := [
  ⟨(some 53), none, (.ld (some 1) (.t 8))⟩,
  ⟨none, none, (.st 1 (.t 3) (.t 53))⟩]
theorem r3_15 {fn : AFun} {K : List AItem} {t : Nat → AV} {H : AH} {T : Tbl} : runR T fn (.code (.reg d3_15) :: K) t H = regR T fn K (aops (callR T) [
  ⟨(some 53), none, (.ld (some 1) (.t 8))⟩,
  ⟨none, none, (.st 1 (.t 3) (.t 53))⟩] t H) := runR_reg'
def d3_16 : List AOper := [
  ⟨(some 54), none, (.bin .add (.t 22) (.c (.i .i64 1)))⟩,
  ⟨(some 22), none, (.val (.t 54))⟩]
theorem r3_16 {fn : AFun} {K : List AItem} {t : Nat → AV} {H : AH} {T : Tbl} : runR T fn (.code (.reg d3_16) :: K) t H = regR T fn K (aops (callR T) [
  ⟨(some 54), none, (.bin .add (.t 22) (.c (.i .i64 1)))⟩,
  ⟨(some 22), none, (.val (.t 54))⟩] t H) := runR_reg'
def l3_17 : ACode := (.seq (.reg d3_7) (.seq (.cond (.t 23) .skip (.exit 0)) (.seq (.block 1 (.seq (.reg d3_8) (.seq (.reg d3_9) (.seq (.seq (.reg d3_10) (.cond (.t 45) (.seq (.reg d3_11) .ret) .skip)) (.seq (.seq (.reg d3_12) (.cond (.t 46) (.seq (.reg d3_13) (.reg d3_14)) .skip)) (.reg d3_15)))))) (.reg d3_16))))
def d3_18 : List AOper := [
  ⟨(some 55), none, (.val (.t 5))⟩,
  ⟨(some 56), none, (.len (.t 55))⟩,
  ⟨(some 57), none, (.val (.c (.i .i64 0)))⟩]
theorem r3_18 {fn : AFun} {K : List AItem} {t : Nat → AV} {H : AH} {T : Tbl} : runR T fn (.code (.reg d3_18) :: K) t H = regR T fn K (aops (callR T) [
  ⟨(some 55), none, (.val (.t 5))⟩,
  ⟨(some 56), none, (.len (.t 55))⟩,
  ⟨(some 57), none, (.val (.c (.i .i64 0)))⟩] t H) := runR_reg'
def d3_19 : List AOper := [
  ⟨(some 58), none, (.bin .lss (.t 57) (.t 56))⟩]
theorem r3_19 {fn : AFun} {K : List AItem} {t : Nat → AV} {H : AH} {T : Tbl} : runR T fn (.code (.reg d3_19) :: K) t H = regR T fn K (aops (callR T) [
  ⟨(some 58), none, (.bin .lss (.t 57) (.t 56))⟩] t H) := runR_reg'
def d3_20 : List AOper := [
  ⟨(some 59), none, (.ia 1 (.t 55) (.t 57))⟩,
  ⟨(some 60), none, (.ld none (.t 59))⟩,
  ⟨(some 11), none, (.val (.t 60))⟩]
theorem r3_20 {fn : AFun} {K : List AItem} {t : Nat → AV} {H : AH} {T : Tbl} : runR T fn (.code (.reg d3_20) :: K) t H = regR T fn K (aops (callR T) [
  ⟨(some 59), none, (.ia 1 (.t 55) (.t 57))⟩,
  ⟨(some 60), none, (.ld none (.t 59))⟩,
  ⟨(some 11), none, (.val (.t 60))⟩] t H) := runR_reg'
def d3_21 : List AOper := [
  ⟨(some 62), none, (.ld (some 1) (.t 3))⟩,
  ⟨(some 63), none, (.call 9 [(.t 62)])⟩,
  ⟨(some 61), none, (.val (.t 63))⟩,
  ⟨(some 64), none, (.ext (.t 61) 0)⟩,
  ⟨(some 65), none, (.ext (.t 61) 1)⟩,
  ⟨(some 66), none, (.ext (.t 61) 2)⟩,
  ⟨(some 13), none, (.alloc [(.sl none 0 0 true 0)])⟩,
  ⟨(some 12), none, (.val (.t 64))⟩,
  ⟨none, none, (.st 1 (.t 13) (.t 65))⟩,
  ⟨(some 14), none, (.val (.t 66))⟩]
theorem r3_21 {fn : AFun} {K : List AItem} {t : Nat → AV} {H : AH} {T : Tbl} : runR T fn (.code (.reg d3_21) :: K) t H = regR T fn K (aops (callR T) [
  ⟨(some 62), none, (.ld (some 1) (.t 3))⟩,
  ⟨(some 63), none, (.call 9 [(.t 62)])⟩,
  ⟨(some 61), none, (.val (.t 63))⟩,
  ⟨(some 64), none, (.ext (.t 61) 0)⟩,
  ⟨(some 65), none, (.ext (.t 61) 1)⟩,
  ⟨(some 66), none, (.ext (.t 61) 2)⟩,
  ⟨(some 13), none, (.alloc [(.sl none 0 0 true 0)])⟩,
  ⟨(some 12), none, (.val (.t 64))⟩,
  ⟨none, none, (.st 1 (.t 13) (.t 65))⟩,
  ⟨(some 14), none, (.val (.t 66))⟩] t H) := runR_reg'
def d3_22 : List (AOper × List Nat) := [
  (⟨(some 67), none, (.val (.t 12))⟩, []),
  (⟨(some 68), none, (.val (.t 11))⟩, []),
  (⟨(some 69), none, (.bin .neq (.t 67) (.t 68))⟩, []),
  (⟨(some 70), none, (.val (.t 69))⟩, []),
  (⟨(some 71), (some (70, false)), (.val (.t 14))⟩, []),
  (⟨(some 72), (some (70, false)), (.un .not (.t 71))⟩, []),
  (⟨(some 73), none, (.pick (.t 70) (.c (.b true)) (.t 72))⟩, []),
  (⟨(some 74), none, (.val (.t 73))⟩, []),
  (⟨(some 75), (some (74, false)), (.ld (some 1) (.t 3))⟩, [1]),
  (⟨(some 76), (some (74, false)), (.call 10 [(.t 75)])⟩, []),
  (⟨(some 77), (some (74, false)), (.ld (some 1) (.t 13))⟩, [2]),
  (⟨(some 78), (some (74, false)), (.call 10 [(.t 77)])⟩, []),
  (⟨(some 79), (some (74, false)), (.bin .add (.t 78) (.c (.i .i64 1)))⟩, []),
  (⟨(some 80), (some (74, false)), (.bin .neq (.t 76) (.t 79))⟩, []),
  (⟨(some 81), none, (.pick (.t 74) (.c (.b true)) (.t 80))⟩, [])]
theorem r3_22 {fn : AFun} {K : List AItem} {t : Nat → AV} {H : AH} {T : Tbl} : runR T fn (.code (.drw d3_22) :: K) t H = regR T fn K (adrn (callR T) [
  (⟨(some 67), none, (.val (.t 12))⟩, []),
  (⟨(some 68), none, (.val (.t 11))⟩, []),
  (⟨(some 69), none, (.bin .neq (.t 67) (.t 68))⟩, []),
  (⟨(some 70), none, (.val (.t 69))⟩, []),
  (⟨(some 71), (some (70, false)), (.val (.t 14))⟩, []),
  (⟨(some 72), (some (70, false)), (.un .not (.t 71))⟩, []),
  (⟨(some 73), none, (.pick (.t 70) (.c (.b true)) (.t 72))⟩, []),
  (⟨(some 74), none, (.val (.t 73))⟩, []),
  (⟨(some 75), (some (74, false)), (.ld (some 1) (.t 3))⟩, [1]),
  (⟨(some 76), (some (74, false)), (.call 10 [(.t 75)])⟩, []),
  (⟨(some 77), (some (74, false)), (.ld (some 1) (.t 13))⟩, [2]),
  (⟨(some 78), (some (74, false)), (.call 10 [(.t 77)])⟩, []),
  (⟨(some 79), (some (74, false)), (.bin .add (.t 78) (.c (.i .i64 1)))⟩, []),
  (⟨(some 80), (some (74, false)), (.bin .neq (.t 76) (.t 79))⟩, []),
  (⟨(some 81), none, (.pick (.t 74) (.c (.b true)) (.t 80))⟩, [])] t H [H]) := runR_free rfl
def d3_23 : List AOper := [
  ⟨(some 2), none, (.val (.c (.b false)))⟩]
theorem r3_23 {fn : AFun} {K : List AItem} {t : Nat → AV} {H : AH} {T : Tbl} : runR T fn (.code (.reg d3_23) :: K) t H = regR T fn K (aops (callR T) [
  ⟨(some 2), none, (.val (.c (.b false)))⟩] t H) := runR_reg'
def d3_24 : List AOper := [
  ⟨(some 82), none, (.ld (some 1) (.t 13))⟩,
  ⟨none, none, (.st 1 (.t 3) (.t 82))⟩]
theorem r3_24 {fn : AFun} {K : List AItem} {t : Nat → AV} {H : AH} {T : Tbl} : runR T fn (.code (.reg d3_24) :: K) t H = regR T fn K (aops (callR T) [
  ⟨(some 82), none, (.ld (some 1) (.t 13))⟩,
  ⟨none, none, (.st 1 (.t 3) (.t 82))⟩] t H) := runR_reg'
def d3_25 : List AOper := [
  ⟨(some 83), none, (.bin .add (.t 57) (.c (.i .i64 1)))⟩,
  ⟨(some 57), none, (.val (.t 83))⟩]
theorem r3_25 {fn : AFun} {K : List AItem} {t : Nat → AV} {H : AH} {T : Tbl} : runR T fn (.code (.reg d3_25) :: K) t H = regR T fn K (aops (callR T) [
  ⟨(some 83), none, (.bin .add (.t 57) (.c (.i .i64 1)))⟩,
  ⟨(some 57), none, (.val (.t 83))⟩] t H) := runR_reg'
def l3_26 : ACode := (.seq (.reg d3_19) (.seq (.cond (.t 58) .skip (.exit 2)) (.seq (.block 3 (.seq (.reg d3_20) (.seq (.reg d3_21) (.seq (.seq (.drw d3_22) (.cond (.t 81) (.seq (.reg d3_23) .ret) .skip)) (.reg d3_24))))) (.reg d3_25))))
def d3_27 : List AOper := [
  ⟨(some 84), none, (.ld (some 1) (.t 3))⟩,
  ⟨(some 85), none, (.call 10 [(.t 84)])⟩,
  ⟨(some 86), none, (.bin .eql (.t 85) (.c (.i .i64 0)))⟩,
  ⟨(some 87), none, (.val (.t 86))⟩,
  ⟨(some 88), (some (87, true)), (.call 7 [])⟩,
  ⟨(some 89), none, (.pick (.t 87) (.t 88) (.c (.b false)))⟩,
  ⟨(some 2), none, (.val (.t 89))⟩]
theorem r3_27 {fn : AFun} {K : List AItem} {t : Nat → AV} {H : AH} {T : Tbl} : runR T fn (.code (.reg d3_27) :: K) t H = regR T fn K (aops (callR T) [
  ⟨(some 84), none, (.ld (some 1) (.t 3))⟩,
  ⟨(some 85), none, (.call 10 [(.t 84)])⟩,
  ⟨(some 86), none, (.bin .eql (.t 85) (.c (.i .i64 0)))⟩,
  ⟨(some 87), none, (.val (.t 86))⟩,
  ⟨(some 88), (some (87, true)), (.call 7 [])⟩,
  ⟨(some 89), none, (.pick (.t 87) (.t 88) (.c (.b false)))⟩,
  ⟨(some 2), none, (.val (.t 89))⟩] t H) := runR_reg'
def a3 : AFun := ⟨90, [(.tmp 2)], (.seq (.reg d3_0) (.seq (.seq (.reg d3_1) (.cond (.t 17) (.seq (.reg d3_2) .ret) .skip)) (.seq (.reg d3_3) (.seq (.reg d3_4) (.seq (.reg d3_5) (.seq (.seq (.reg d3_6) (.block 0 (.loop l3_17))) (.seq (.seq (.reg d3_18) (.block 2 (.loop l3_26))) (.seq (.reg d3_27) .ret))))))))⟩
theorem a3_ok : cfun Try.prog 3 = some a3 := by kernel_rfl
/-- futtock/futtocklaw12.QueuePlays -/
def d4_0 : List AOper := [
  ⟨(some 2), none, (.val (.c (.b false)))⟩]
theorem r4_0 {fn : AFun} {K : List AItem} {t : Nat → AV} {H : AH} {T : Tbl} : runR T fn (.code (.reg d4_0) :: K) t H = regR T fn K (aops (callR T) [
  ⟨(some 2), none, (.val (.c (.b false)))⟩] t H) := runR_reg'
def d4_1 : List AOper := [
  ⟨(some 23), none, (.val (.t 0))⟩,
  ⟨(some 24), none, (.call 11 [(.t 23)])⟩]
theorem r4_1 {fn : AFun} {K : List AItem} {t : Nat → AV} {H : AH} {T : Tbl} : runR T fn (.code (.reg d4_1) :: K) t H = regR T fn K (aops (callR T) [
  ⟨(some 23), none, (.val (.t 0))⟩,
  ⟨(some 24), none, (.call 11 [(.t 23)])⟩] t H) := runR_reg'
def d4_2 : List AOper := [
  ⟨(some 25), none, (.call 7 [])⟩,
  ⟨(some 2), none, (.val (.t 25))⟩]
theorem r4_2 {fn : AFun} {K : List AItem} {t : Nat → AV} {H : AH} {T : Tbl} : runR T fn (.code (.reg d4_2) :: K) t H = regR T fn K (aops (callR T) [
  ⟨(some 25), none, (.call 7 [])⟩,
  ⟨(some 2), none, (.val (.t 25))⟩] t H) := runR_reg'
def d4_3 : List AOper := [
  ⟨(some 3), none, (.alloc [(.sl none 0 0 true 0)])⟩]
theorem r4_3 {fn : AFun} {K : List AItem} {t : Nat → AV} {H : AH} {T : Tbl} : runR T fn (.code (.reg d4_3) :: K) t H = regR T fn K (aops (callR T) [
  ⟨(some 3), none, (.alloc [(.sl none 0 0 true 0)])⟩] t H) := runR_reg'
def d4_4 : List AOper := [
  ⟨(some 4), none, (.val (.c (.sl none 0 0 true 0)))⟩]
theorem r4_4 {fn : AFun} {K : List AItem} {t : Nat → AV} {H : AH} {T : Tbl} : runR T fn (.code (.reg d4_4) :: K) t H = regR T fn K (aops (callR T) [
  ⟨(some 4), none, (.val (.c (.sl none 0 0 true 0)))⟩] t H) := runR_reg'
def d4_5 : List AOper := [
  ⟨(some 26), none, (.val (.t 0))⟩,
  ⟨(some 27), none, (.call 12 [(.t 26)])⟩,
  ⟨(some 28), none, (.len (.t 27))⟩,
  ⟨(some 29), none, (.val (.c (.i .i64 0)))⟩]
theorem r4_5 {fn : AFun} {K : List AItem} {t : Nat → AV} {H : AH} {T : Tbl} : runR T fn (.code (.reg d4_5) :: K) t H = regR T fn K (aops (callR T) [
  ⟨(some 26), none, (.val (.t 0))⟩,
  ⟨(some 27), none, (.call 12 [(.t 26)])⟩,
  ⟨(some 28), none, (.len (.t 27))⟩,
  ⟨(some 29), none, (.val (.c (.i .i64 0)))⟩] t H) := runR_reg'
def d4_6 : List AOper := [
  ⟨(some 30), none, (.bin .lss (.t 29) (.t 28))⟩]
theorem r4_6 {fn : AFun} {K : List AItem} {t : Nat → AV} {H : AH} {T : Tbl} : runR T fn (.code (.reg d4_6) :: K) t H = regR T fn K (aops (callR T) [
  ⟨(some 30), none, (.bin .lss (.t 29) (.t 28))⟩] t H) := runR_reg'
def d4_7 : List AOper := [
  ⟨(some 31), none, (.ia 3 (.t 27) (.t 29))⟩,
  ⟨(some 32), none, (.ld (some 3) (.t 31))⟩,
  ⟨(some 6), none, (.alloc [(.i .u8 0), (.i .i64 0), (.sl none 0 0 true 0)])⟩,
  ⟨none, none, (.st 3 (.t 6) (.t 32))⟩]
theorem r4_7 {fn : AFun} {K : List AItem} {t : Nat → AV} {H : AH} {T : Tbl} : runR T fn (.code (.reg d4_7) :: K) t H = regR T fn K (aops (callR T) [
  ⟨(some 31), none, (.ia 3 (.t 27) (.t 29))⟩,
  ⟨(some 32), none, (.ld (some 3) (.t 31))⟩,
  ⟨(some 6), none, (.alloc [(.i .u8 0), (.i .i64 0), (.sl none 0 0 true 0)])⟩,
  ⟨none, none, (.st 3 (.t 6) (.t 32))⟩] t H) := runR_reg'
def d4_8 : List AOper := [
  ⟨(some 7), none, (.val (.c (.b false)))⟩]
theorem r4_8 {fn : AFun} {K : List AItem} {t : Nat → AV} {H : AH} {T : Tbl} : runR T fn (.code (.reg d4_8) :: K) t H = regR T fn K (aops (callR T) [
  ⟨(some 7), none, (.val (.c (.b false)))⟩] t H) := runR_reg'
def d4_9 : List AOper := [
  ⟨(some 33), none, (.fa 0 (.t 6))⟩,
  ⟨(some 34), none, (.ld none (.t 33))⟩,
  ⟨(some 35), none, (.bin .rem (.t 34) (.c (.i .u8 4)))⟩]
theorem r4_9 {fn : AFun} {K : List AItem} {t : Nat → AV} {H : AH} {T : Tbl} : runR T fn (.code (.reg d4_9) :: K) t H = regR T fn K (aops (callR T) [
  ⟨(some 33), none, (.fa 0 (.t 6))⟩,
  ⟨(some 34), none, (.ld none (.t 33))⟩,
  ⟨(some 35), none, (.bin .rem (.t 34) (.c (.i .u8 4)))⟩] t H) := runR_reg'
def d4_10 : List AOper := [
  ⟨(some 56), none, (.bin .eql (.t 35) (.c (.i .u8 0)))⟩,
  ⟨(some 55), none, (.val (.t 56))⟩]
theorem r4_10 {fn : AFun} {K : List AItem} {t : Nat → AV} {H : AH} {T : Tbl} : runR T fn (.code (.reg d4_10) :: K) t H = regR T fn K (aops (callR T) [
  ⟨(some 56), none, (.bin .eql (.t 35) (.c (.i .u8 0)))⟩,
  ⟨(some 55), none, (.val (.t 56))⟩] t H) := runR_reg'
def d4_11 : List AOper := [
  ⟨(some 58), none, (.ld (some 1) (.t 3))⟩,
  ⟨(some 59), none, (.fa 1 (.t 6))⟩,
  ⟨(some 60), none, (.ld none (.t 59))⟩,
  ⟨(some 61), none, (.call 8 [(.t 58), (.t 60)])⟩,
  ⟨(some 57), none, (.val (.t 61))⟩,
  ⟨(some 62), none, (.ext (.t 57) 0)⟩,
  ⟨(some 63), none, (.ext (.t 57) 1)⟩,
  ⟨(some 8), none, (.alloc [(.sl none 0 0 true 0)])⟩,
  ⟨none, none, (.st 1 (.t 8) (.t 62))⟩,
  ⟨(some 9), none, (.val (.t 63))⟩]
theorem r4_11 {fn : AFun} {K : List AItem} {t : Nat → AV} {H : AH} {T : Tbl} : runR T fn (.code (.reg d4_11) :: K) t H = regR T fn K (aops (callR T) [
  ⟨(some 58), none, (.ld (some 1) (.t 3))⟩,
  ⟨(some 59), none, (.fa 1 (.t 6))⟩,
  ⟨(some 60), none, (.ld none (.t 59))⟩,
  ⟨(some 61), none, (.call 8 [(.t 58), (.t 60)])⟩,
  ⟨(some 57), none, (.val (.t 61))⟩,
  ⟨(some 62), none, (.ext (.t 57) 0)⟩,
  ⟨(some 63), none, (.ext (.t 57) 1)⟩,
  ⟨(some 8), none, (.alloc [(.sl none 0 0 true 0)])⟩,
  ⟨none, none, (.st 1 (.t 8) (.t 62))⟩,
  ⟨(some 9), none, (.val (.t 63))⟩] t H) := runR_reg'
def d4_12 : List AOper := [
  ⟨(some 65), none, (.val (.t 4))⟩,
  ⟨(some 66), none, (.fa 1 (.t 6))⟩,
  ⟨(some 67), none, (.ld none (.t 66))⟩,
  ⟨(some 68), none, (.call 13 [(.t 65), (.t 67)])⟩,
  ⟨(some 64), none, (.val (.t 68))⟩,
  ⟨(some 69), none, (.ext (.t 64) 0)⟩,
  ⟨(some 70), none, (.ext (.t 64) 1)⟩,
  ⟨(some 10), none, (.val (.t 69))⟩,
  ⟨(some 11), none, (.val (.t 70))⟩]
theorem r4_12 {fn : AFun} {K : List AItem} {t : Nat → AV} {H : AH} {T : Tbl} : runR T fn (.code (.reg d4_12) :: K) t H = regR T fn K (aops (callR T) [
  ⟨(some 65), none, (.val (.t 4))⟩,
  ⟨(some 66), none, (.fa 1 (.t 6))⟩,
  ⟨(some 67), none, (.ld none (.t 66))⟩,
  ⟨(some 68), none, (.call 13 [(.t 65), (.t 67)])⟩,
  ⟨(some 64), none, (.val (.t 68))⟩,
  ⟨(some 69), none, (.ext (.t 64) 0)⟩,
  ⟨(some 70), none, (.ext (.t 64) 1)⟩,
  ⟨(some 10), none, (.val (.t 69))⟩,
  ⟨(some 11), none, (.val (.t 70))⟩] t H) := runR_reg'
def d4_13 : List AOper := [
  ⟨(some 71), none, (.ld (some 1) (.t 8))⟩,
  ⟨(some 72), none, (.val (.t 10))⟩,
  ⟨(some 73), none, (.val (.t 9))⟩,
  ⟨(some 74), none, (.val (.t 11))⟩,
  ⟨(some 75), none, (.eqb false (.t 73) (.t 74))⟩,
  ⟨none, none, (.st 1 (.t 3) (.t 71))⟩,
  ⟨(some 4), none, (.val (.t 72))⟩,
  ⟨(some 7), none, (.val (.t 75))⟩]
theorem r4_13 {fn : AFun} {K : List AItem} {t : Nat → AV} {H : AH} {T : Tbl} : runR T fn (.code (.reg d4_13) :: K) t H = regR T fn K (aops (callR T) [
  ⟨(some 71), none, (.ld (some 1) (.t 8))⟩,
  ⟨(some 72), none, (.val (.t 10))⟩,
  ⟨(some 73), none, (.val (.t 9))⟩,
  ⟨(some 74), none, (.val (.t 11))⟩,
  ⟨(some 75), none, (.eqb false (.t 73) (.t 74))⟩,
  ⟨none, none, (.st 1 (.t 3) (.t 71))⟩,
  ⟨(some 4), none, (.val (.t 72))⟩,
  ⟨(some 7), none, (.val (.t 75))⟩] t H) := runR_reg'
def d4_14 : List AOper := [
  ⟨(some 77), none, (.bin .eql (.t 35) (.c (.i .u8 1)))⟩,
  ⟨(some 76), none, (.val (.t 77))⟩]
theorem r4_14 {fn : AFun} {K : List AItem} {t : Nat → AV} {H : AH} {T : Tbl} : runR T fn (.code (.reg d4_14) :: K) t H = regR T fn K (aops (callR T) [
  ⟨(some 77), none, (.bin .eql (.t 35) (.c (.i .u8 1)))⟩,
  ⟨(some 76), none, (.val (.t 77))⟩] t H) := runR_reg'
def d4_15 : List AOper := [
  ⟨(some 79), none, (.ld (some 1) (.t 3))⟩,
  ⟨(some 80), none, (.fa 2 (.t 6))⟩,
  ⟨(some 81), none, (.ld none (.t 80))⟩,
  ⟨(some 82), none, (.call 14 [(.t 79), (.t 81)])⟩,
  ⟨(some 78), none, (.val (.t 82))⟩,
  ⟨(some 83), none, (.ext (.t 78) 0)⟩,
  ⟨(some 84), none, (.ext (.t 78) 1)⟩,
  ⟨(some 12), none, (.alloc [(.sl none 0 0 true 0)])⟩,
  ⟨none, none, (.st 1 (.t 12) (.t 83))⟩,
  ⟨(some 13), none, (.val (.t 84))⟩]
theorem r4_15 {fn : AFun} {K : List AItem} {t : Nat → AV} {H : AH} {T : Tbl} : runR T fn (.code (.reg d4_15) :: K) t H = regR T fn K (aops (callR T) [
  ⟨(some 79), none, (.ld (some 1) (.t 3))⟩,
  ⟨(some 80), none, (.fa 2 (.t 6))⟩,
  ⟨(some 81), none, (.ld none (.t 80))⟩,
  ⟨(some 82), none, (.call 14 [(.t 79), (.t 81)])⟩,
  ⟨(some 78), none, (.val (.t 82))⟩,
  ⟨(some 83), none, (.ext (.t 78) 0)⟩,
  ⟨(some 84), none, (.ext (.t 78) 1)⟩,
  ⟨(some 12), none, (.alloc [(.sl none 0 0 true 0)])⟩,
  ⟨none, none, (.st 1 (.t 12) (.t 83))⟩,
  ⟨(some 13), none, (.val (.t 84))⟩] t H) := runR_reg'
def d4_16 : List AOper := [
  ⟨(some 86), none, (.val (.t 4))⟩,
  ⟨(some 87), none, (.fa 2 (.t 6))⟩,
  ⟨(some 88), none, (.ld none (.t 87))⟩,
  ⟨(some 89), none, (.call 15 [(.t 86), (.t 88)])⟩,
  ⟨(some 85), none, (.val (.t 89))⟩,
  ⟨(some 90), none, (.ext (.t 85) 0)⟩,
  ⟨(some 91), none, (.ext (.t 85) 1)⟩,
  ⟨(some 14), none, (.val (.t 90))⟩,
  ⟨(some 15), none, (.val (.t 91))⟩]
theorem r4_16 {fn : AFun} {K : List AItem} {t : Nat → AV} {H : AH} {T : Tbl} : runR T fn (.code (.reg d4_16) :: K) t H = regR T fn K (aops (callR T) [
  ⟨(some 86), none, (.val (.t 4))⟩,
  ⟨(some 87), none, (.fa 2 (.t 6))⟩,
  ⟨(some 88), none, (.ld none (.t 87))⟩,
  ⟨(some 89), none, (.call 15 [(.t 86), (.t 88)])⟩,
  ⟨(some 85), none, (.val (.t 89))⟩,
  ⟨(some 90), none, (.ext (.t 85) 0)⟩,
  ⟨(some 91), none, (.ext (.t 85) 1)⟩,
  ⟨(some 14), none, (.val (.t 90))⟩,
  ⟨(some 15), none, (.val (.t 91))⟩] t H) := runR_reg'
def d4_17 : List AOper := [
  ⟨(some 92), none, (.ld (some 1) (.t 12))⟩,
  ⟨(some 93), none, (.val (.t 14))⟩,
  ⟨(some 94), none, (.val (.t 13))⟩,
  ⟨(some 95), none, (.val (.t 15))⟩,
  ⟨(some 96), none, (.bin .eql (.t 94) (.t 95))⟩,
  ⟨none, none, (.st 1 (.t 3) (.t 92))⟩,
  ⟨(some 4), none, (.val (.t 93))⟩,
  ⟨(some 7), none, (.val (.t 96))⟩]
theorem r4_17 {fn : AFun} {K : List AItem} {t : Nat → AV} {H : AH} {T : Tbl} : runR T fn (.code (.reg d4_17) :: K) t H = regR T fn K (aops (callR T) [
  ⟨(some 92), none, (.ld (some 1) (.t 12))⟩,
  ⟨(some 93), none, (.val (.t 14))⟩,
  ⟨(some 94), none, (.val (.t 13))⟩,
  ⟨(some 95), none, (.val (.t 15))⟩,
  ⟨(some 96), none, (.bin .eql (.t 94) (.t 95))⟩,
  ⟨none, none, (.st 1 (.t 3) (.t 92))⟩,
  ⟨(some 4), none, (.val (.t 93))⟩,
  ⟨(some 7), none, (.val (.t 96))⟩] t H) := runR_reg'
def d4_18 : List AOper := [
  ⟨(some 98), none, (.bin .eql (.t 35) (.c (.i .u8 2)))⟩,
  ⟨(some 97), none, (.val (.t 98))⟩]
theorem r4_18 {fn : AFun} {K : List AItem} {t : Nat → AV} {H : AH} {T : Tbl} : runR T fn (.code (.reg d4_18) :: K) t H = regR T fn K (aops (callR T) [
  ⟨(some 98), none, (.bin .eql (.t 35) (.c (.i .u8 2)))⟩,
  ⟨(some 97), none, (.val (.t 98))⟩] t H) := runR_reg'
def d4_19 : List AOper := [
  ⟨(some 100), none, (.ld (some 1) (.t 3))⟩,
  ⟨(some 101), none, (.call 9 [(.t 100)])⟩,
  ⟨(some 99), none, (.val (.t 101))⟩,
  ⟨(some 102), none, (.ext (.t 99) 0)⟩,
  ⟨(some 103), none, (.ext (.t 99) 1)⟩,
  ⟨(some 104), none, (.ext (.t 99) 2)⟩,
  ⟨(some 17), none, (.alloc [(.sl none 0 0 true 0)])⟩,
  ⟨(some 16), none, (.val (.t 102))⟩,
  ⟨none, none, (.st 1 (.t 17) (.t 103))⟩,
  ⟨(some 18), none, (.val (.t 104))⟩]
theorem r4_19 {fn : AFun} {K : List AItem} {t : Nat → AV} {H : AH} {T : Tbl} : runR T fn (.code (.reg d4_19) :: K) t H = regR T fn K (aops (callR T) [
  ⟨(some 100), none, (.ld (some 1) (.t 3))⟩,
  ⟨(some 101), none, (.call 9 [(.t 100)])⟩,
  ⟨(some 99), none, (.val (.t 101))⟩,
  ⟨(some 102), none, (.ext (.t 99) 0)⟩,
  ⟨(some 103), none, (.ext (.t 99) 1)⟩,
  ⟨(some 104), none, (.ext (.t 99) 2)⟩,
  ⟨(some 17), none, (.alloc [(.sl none 0 0 true 0)])⟩,
  ⟨(some 16), none, (.val (.t 102))⟩,
  ⟨none, none, (.st 1 (.t 17) (.t 103))⟩,
  ⟨(some 18), none, (.val (.t 104))⟩] t H) := runR_reg'
def d4_20 : List AOper := [
  ⟨(some 105), none, (.val (.t 18))⟩,
  ⟨(some 106), none, (.val (.t 4))⟩,
  ⟨(some 107), none, (.len (.t 106))⟩,
  ⟨(some 108), none, (.bin .gtr (.t 107) (.c (.i .i64 0)))⟩,
  ⟨(some 109), none, (.eqb false (.t 105) (.t 108))⟩,
  ⟨(some 110), none, (.val (.t 109))⟩,
  ⟨(some 111), (some (110, true)), (.val (.t 18))⟩,
  ⟨(some 112), (some (110, true)), (.un .not (.t 111))⟩,
  ⟨(some 113), (some (110, true)), (.val (.t 112))⟩,
  ⟨(some 114), (some (113, true)), (.val (.t 16))⟩,
  ⟨(some 115), (some (113, true)), (.bin .eql (.t 114) (.c (.i .i64 (-1))))⟩,
  ⟨(some 116), (some (110, true)), (.pick (.t 113) (.t 115) (.c (.b false)))⟩,
  ⟨(some 117), (some (110, true)), (.val (.t 116))⟩,
  ⟨(some 118), (some (117, false)), (.val (.t 18))⟩,
  ⟨(some 119), (some (117, false)), (.val (.t 118))⟩,
  ⟨(some 120), (some (119, true)), (.val (.t 16))⟩,
  ⟨(some 121), (some (119, true)), (.val (.t 4))⟩,
  ⟨(some 122), (some (119, true)), (.ia 1 (.t 121) (.c (.i .i64 0)))⟩,
  ⟨(some 123), (some (119, true)), (.ld none (.t 122))⟩,
  ⟨(some 124), (some (119, true)), (.bin .eql (.t 120) (.t 123))⟩,
  ⟨(some 125), (some (117, false)), (.pick (.t 119) (.t 124) (.c (.b false)))⟩,
  ⟨(some 126), (some (110, true)), (.pick (.t 117) (.c (.b true)) (.t 125))⟩,
  ⟨(some 127), none, (.pick (.t 110) (.t 126) (.c (.b false)))⟩,
  ⟨(some 7), none, (.val (.t 127))⟩]
theorem r4_20 {fn : AFun} {K : List AItem} {t : Nat → AV} {H : AH} {T : Tbl} : runR T fn (.code (.reg d4_20) :: K) t H = regR T fn K (aops (callR T) [
  ⟨(some 105), none, (.val (.t 18))⟩,
  ⟨(some 106), none, (.val (.t 4))⟩,
  ⟨(some 107), none, (.len (.t 106))⟩,
  ⟨(some 108), none, (.bin .gtr (.t 107) (.c (.i .i64 0)))⟩,
  ⟨(some 109), none, (.eqb false (.t 105) (.t 108))⟩,
  ⟨(some 110), none, (.val (.t 109))⟩,
  ⟨(some 111), (some (110, true)), (.val (.t 18))⟩,
  ⟨(some 112), (some (110, true)), (.un .not (.t 111))⟩,
  ⟨(some 113), (some (110, true)), (.val (.t 112))⟩,
  ⟨(some 114), (some (113, true)), (.val (.t 16))⟩,
  ⟨(some 115), (some (113, true)), (.bin .eql (.t 114) (.c (.i .i64 (-1))))⟩,
  ⟨(some 116), (some (110, true)), (.pick (.t 113) (.t 115) (.c (.b false)))⟩,
  ⟨(some 117), (some (110, true)), (.val (.t 116))⟩,
  ⟨(some 118), (some (117, false)), (.val (.t 18))⟩,
  ⟨(some 119), (some (117, false)), (.val (.t 118))⟩,
  ⟨(some 120), (some (119, true)), (.val (.t 16))⟩,
  ⟨(some 121), (some (119, true)), (.val (.t 4))⟩,
  ⟨(some 122), (some (119, true)), (.ia 1 (.t 121) (.c (.i .i64 0)))⟩,
  ⟨(some 123), (some (119, true)), (.ld none (.t 122))⟩,
  ⟨(some 124), (some (119, true)), (.bin .eql (.t 120) (.t 123))⟩,
  ⟨(some 125), (some (117, false)), (.pick (.t 119) (.t 124) (.c (.b false)))⟩,
  ⟨(some 126), (some (110, true)), (.pick (.t 117) (.c (.b true)) (.t 125))⟩,
  ⟨(some 127), none, (.pick (.t 110) (.t 126) (.c (.b false)))⟩,
  ⟨(some 7), none, (.val (.t 127))⟩] t H) := runR_reg'
def d4_21 : List AOper := [
  ⟨(some 128), none, (.ld (some 1) (.t 17))⟩,
  ⟨none, none, (.st 1 (.t 3) (.t 128))⟩]
theorem r4_21 {fn : AFun} {K : List AItem} {t : Nat → AV} {H : AH} {T : Tbl} : runR T fn (.code (.reg d4_21) :: K) t H = regR T fn K (aops (callR T) [
  ⟨(some 128), none, (.ld (some 1) (.t 17))⟩,
  ⟨none, none, (.st 1 (.t 3) (.t 128))⟩] t H) := runR_reg'
def d4_22 : List AOper := [
  ⟨(some 129), none, (.val (.t 4))⟩,
  ⟨(some 130), none, (.len (.t 129))⟩,
  ⟨(some 131), none, (.bin .gtr (.t 130) (.c (.i .i64 0)))⟩]
theorem r4_22 {fn : AFun} {K : List AItem} {t : Nat → AV} {H : AH} {T : Tbl} : runR T fn (.code (.reg d4_22) :: K) t H = regR T fn K (aops (callR T) [
  ⟨(some 129), none, (.val (.t 4))⟩,
  ⟨(some 130), none, (.len (.t 129))⟩,
  ⟨(some 131), none, (.bin .gtr (.t 130) (.c (.i .i64 0)))⟩] t H) := runR_reg'
def d4_23 : List AOper := [
  ⟨(some 132), none, (.val (.t 4))⟩,
  ⟨(some 133), none, (.sls 1 (.t 132) (some (.c (.i .i64 1))) none none)⟩,
  ⟨(some 4), none, (.val (.t 133))⟩]
theorem r4_23 {fn : AFun} {K : List AItem} {t : Nat → AV} {H : AH} {T : Tbl} : runR T fn (.code (.reg d4_23) :: K) t H = regR T fn K (aops (callR T) [
  ⟨(some 132), none, (.val (.t 4))⟩,
  ⟨(some 133), none, (.sls 1 (.t 132) (some (.c (.i .i64 1))) none none)⟩,
  ⟨(some 4), none, (.val (.t 133))⟩] t H) := runR_reg'
def d4_24 : List AOper := [
  ⟨(some 37), none, (.ld (some 1) (.t 3))⟩,
  ⟨(some 38), none, (.fa 1 (.t 6))⟩,
  ⟨(some 39), none, (.ld none (.t 38))⟩,
  ⟨(some 40), none, (.call 16 [(.t 37), (.t 39)])⟩,
  ⟨(some 36), none, (.val (.t 40))⟩,
  ⟨(some 41), none, (.ext (.t 36) 0)⟩,
  ⟨(some 42), none, (.ext (.t 36) 1)⟩,
  ⟨(some 19), none, (.alloc [(.sl none 0 0 true 0)])⟩,
  ⟨none, none, (.st 1 (.t 19) (.t 41))⟩,
  ⟨(some 20), none, (.val (.t 42))⟩]
theorem r4_24 {fn : AFun} {K : List AItem} {t : Nat → AV} {H : AH} {T : Tbl} : runR T fn (.code (.reg d4_24) :: K) t H = regR T fn K (aops (callR T) [
  ⟨(some 37), none, (.ld (some 1) (.t 3))⟩,
  ⟨(some 38), none, (.fa 1 (.t 6))⟩,
  ⟨(some 39), none, (.ld none (.t 38))⟩,
  ⟨(some 40), none, (.call 16 [(.t 37), (.t 39)])⟩,
  ⟨(some 36), none, (.val (.t 40))⟩,
  ⟨(some 41), none, (.ext (.t 36) 0)⟩,
  ⟨(some 42), none, (.ext (.t 36) 1)⟩,
  ⟨(some 19), none, (.alloc [(.sl none 0 0 true 0)])⟩,
  ⟨none, none, (.st 1 (.t 19) (.t 41))⟩,
  ⟨(some 20), none, (.val (.t 42))⟩] t H) := runR_reg'
def d4_25 : List AOper := [
  ⟨(some 44), none, (.val (.t 4))⟩,
  ⟨(some 45), none, (.fa 1 (.t 6))⟩,
  ⟨(some 46), none, (.ld none (.t 45))⟩,
  ⟨(some 47), none, (.call 17 [(.t 44), (.t 46)])⟩,
  ⟨(some 43), none, (.val (.t 47))⟩,
  ⟨(some 48), none, (.ext (.t 43) 0)⟩,
  ⟨(some 49), none, (.ext (.t 43) 1)⟩,
  ⟨(some 21), none, (.val (.t 48))⟩,
  ⟨(some 22), none, (.val (.t 49))⟩]
theorem r4_25 {fn : AFun} {K : List AItem} {t : Nat → AV} {H : AH} {T : Tbl} : runR T fn (.code (.reg d4_25) :: K) t H = regR T fn K (aops (callR T) [
  ⟨(some 44), none, (.val (.t 4))⟩,
  ⟨(some 45), none, (.fa 1 (.t 6))⟩,
  ⟨(some 46), none, (.ld none (.t 45))⟩,
  ⟨(some 47), none, (.call 17 [(.t 44), (.t 46)])⟩,
  ⟨(some 43), none, (.val (.t 47))⟩,
  ⟨(some 48), none, (.ext (.t 43) 0)⟩,
  ⟨(some 49), none, (.ext (.t 43) 1)⟩,
  ⟨(some 21), none, (.val (.t 48))⟩,
  ⟨(some 22), none, (.val (.t 49))⟩] t H) := runR_reg'
def d4_26 : List AOper := [
  ⟨(some 50), none, (.ld (some 1) (.t 19))⟩,
  ⟨(some 51), none, (.val (.t 21))⟩,
  ⟨(some 52), none, (.val (.t 20))⟩,
  ⟨(some 53), none, (.val (.t 22))⟩,
  ⟨(some 54), none, (.eqb false (.t 52) (.t 53))⟩,
  ⟨none, none, (.st 1 (.t 3) (.t 50))⟩,
  ⟨(some 4), none, (.val (.t 51))⟩,
  ⟨(some 7), none, (.val (.t 54))⟩]
theorem r4_26 {fn : AFun} {K : List AItem} {t : Nat → AV} {H : AH} {T : Tbl} : runR T fn (.code (.reg d4_26) :: K) t H = regR T fn K (aops (callR T) [
  ⟨(some 50), none, (.ld (some 1) (.t 19))⟩,
  ⟨(some 51), none, (.val (.t 21))⟩,
  ⟨(some 52), none, (.val (.t 20))⟩,
  ⟨(some 53), none, (.val (.t 22))⟩,
  ⟨(some 54), none, (.eqb false (.t 52) (.t 53))⟩,
  ⟨none, none, (.st 1 (.t 3) (.t 50))⟩,
  ⟨(some 4), none, (.val (.t 51))⟩,
  ⟨(some 7), none, (.val (.t 54))⟩] t H) := runR_reg'
def d4_27 : List (AOper × List Nat) := [
  (⟨(some 134), none, (.val (.t 7))⟩, []),
  (⟨(some 135), none, (.un .not (.t 134))⟩, []),
  (⟨(some 136), none, (.val (.t 135))⟩, []),
  (⟨(some 137), (some (136, false)), (.ld (some 1) (.t 3))⟩, [1]),
  (⟨(some 138), (some (136, false)), (.call 19 [(.t 137)])⟩, []),
  (⟨(some 139), (some (136, false)), (.val (.t 4))⟩, []),
  (⟨(some 140), (some (136, false)), (.call 18 [(.t 138), (.t 139)])⟩, []),
  (⟨(some 141), (some (136, false)), (.un .not (.t 140))⟩, []),
  (⟨(some 142), none, (.pick (.t 136) (.c (.b true)) (.t 141))⟩, []),
  (⟨(some 143), none, (.val (.t 142))⟩, []),
  (⟨(some 144), (some (143, false)), (.ld (some 1) (.t 3))⟩, [1]),
  (⟨(some 145), (some (143, false)), (.call 10 [(.t 144)])⟩, []),
  (⟨(some 146), (some (143, false)), (.val (.t 4))⟩, []),
  (⟨(some 147), (some (143, false)), (.len (.t 146))⟩, []),
  (⟨(some 148), (some (143, false)), (.bin .neq (.t 145) (.t 147))⟩, []),
  (⟨(some 149), none, (.pick (.t 143) (.c (.b true)) (.t 148))⟩, []),
  (⟨(some 150), none, (.val (.t 149))⟩, []),
  (⟨(some 151), (some (150, false)), (.ld (some 1) (.t 3))⟩, [1]),
  (⟨(some 152), (some (150, false)), (.fa 1 (.t 6))⟩, []),
  (⟨(some 153), (some (150, false)), (.ld none (.t 152))⟩, [1]),
  (⟨(some 154), (some (150, false)), (.call 20 [(.t 151), (.t 153)])⟩, []),
  (⟨(some 155), (some (150, false)), (.val (.t 4))⟩, []),
  (⟨(some 156), (some (150, false)), (.fa 1 (.t 6))⟩, []),
  (⟨(some 157), (some (150, false)), (.ld none (.t 156))⟩, [2]),
  (⟨(some 158), (some (150, false)), (.call 21 [(.t 155), (.t 157)])⟩, []),
  (⟨(some 159), (some (150, false)), (.eqb true (.t 154) (.t 158))⟩, []),
  (⟨(some 160), none, (.pick (.t 150) (.c (.b true)) (.t 159))⟩, [])]
theorem r4_27 {fn : AFun} {K : List AItem} {t : Nat → AV} {H : AH} {T : Tbl} : runR T fn (.code (.drw d4_27) :: K) t H = regR T fn K (adrn (callR T) [
  (⟨(some 134), none, (.val (.t 7))⟩, []),
  (⟨(some 135), none, (.un .not (.t 134))⟩, []),
  (⟨(some 136), none, (.val (.t 135))⟩, []),
  (⟨(some 137), (some (136, false)), (.ld (some 1) (.t 3))⟩, [1]),
  (⟨(some 138), (some (136, false)), (.call 19 [(.t 137)])⟩, []),
  (⟨(some 139), (some (136, false)), (.val (.t 4))⟩, []),
  (⟨(some 140), (some (136, false)), (.call 18 [(.t 138), (.t 139)])⟩, []),
  (⟨(some 141), (some (136, false)), (.un .not (.t 140))⟩, []),
  (⟨(some 142), none, (.pick (.t 136) (.c (.b true)) (.t 141))⟩, []),
  (⟨(some 143), none, (.val (.t 142))⟩, []),
  (⟨(some 144), (some (143, false)), (.ld (some 1) (.t 3))⟩, [1]),
  (⟨(some 145), (some (143, false)), (.call 10 [(.t 144)])⟩, []),
  (⟨(some 146), (some (143, false)), (.val (.t 4))⟩, []),
  (⟨(some 147), (some (143, false)), (.len (.t 146))⟩, []),
  (⟨(some 148), (some (143, false)), (.bin .neq (.t 145) (.t 147))⟩, []),
  (⟨(some 149), none, (.pick (.t 143) (.c (.b true)) (.t 148))⟩, []),
  (⟨(some 150), none, (.val (.t 149))⟩, []),
  (⟨(some 151), (some (150, false)), (.ld (some 1) (.t 3))⟩, [1]),
  (⟨(some 152), (some (150, false)), (.fa 1 (.t 6))⟩, []),
  (⟨(some 153), (some (150, false)), (.ld none (.t 152))⟩, [1]),
  (⟨(some 154), (some (150, false)), (.call 20 [(.t 151), (.t 153)])⟩, []),
  (⟨(some 155), (some (150, false)), (.val (.t 4))⟩, []),
  (⟨(some 156), (some (150, false)), (.fa 1 (.t 6))⟩, []),
  (⟨(some 157), (some (150, false)), (.ld none (.t 156))⟩, [2]),
  (⟨(some 158), (some (150, false)), (.call 21 [(.t 155), (.t 157)])⟩, []),
  (⟨(some 159), (some (150, false)), (.eqb true (.t 154) (.t 158))⟩, []),
  (⟨(some 160), none, (.pick (.t 150) (.c (.b true)) (.t 159))⟩, [])] t H [H]) := runR_free rfl
def d4_28 : List AOper := [
  ⟨(some 2), none, (.val (.c (.b false)))⟩]
theorem r4_28 {fn : AFun} {K : List AItem} {t : Nat → AV} {H : AH} {T : Tbl} : runR T fn (.code (.reg d4_28) :: K) t H = regR T fn K (aops (callR T) [
  ⟨(some 2), none, (.val (.c (.b false)))⟩] t H) := runR_reg'
def d4_29 : List AOper := [
  ⟨(some 161), none, (.bin .add (.t 29) (.c (.i .i64 1)))⟩,
  ⟨(some 29), none, (.val (.t 161))⟩]
theorem r4_29 {fn : AFun} {K : List AItem} {t : Nat → AV} {H : AH} {T : Tbl} : runR T fn (.code (.reg d4_29) :: K) t H = regR T fn K (aops (callR T) [
  ⟨(some 161), none, (.bin .add (.t 29) (.c (.i .i64 1)))⟩,
  ⟨(some 29), none, (.val (.t 161))⟩] t H) := runR_reg'
def l4_30 : ACode := (.seq (.reg d4_6) (.seq (.cond (.t 30) .skip (.exit 0)) (.seq (.block 1 (.seq (.reg d4_7) (.seq (.reg d4_8) (.seq (.seq (.reg d4_9) (.block 2 (.seq (.reg d4_10) (.cond (.t 55) (.seq (.reg d4_11) (.seq (.reg d4_12) (.reg d4_13))) (.seq (.reg d4_14) (.cond (.t 76) (.seq (.reg d4_15) (.seq (.reg d4_16) (.reg d4_17))) (.seq (.reg d4_18) (.cond (.t 97) (.seq (.reg d4_19) (.seq (.reg d4_20) (.seq (.reg d4_21) (.seq (.reg d4_22) (.cond (.t 131) (.reg d4_23) .skip))))) (.seq (.reg d4_24) (.seq (.reg d4_25) (.reg d4_26))))))))))) (.seq (.drw d4_27) (.cond (.t 160) (.seq (.reg d4_28) .ret) .skip)))))) (.reg d4_29))))
def d4_31 : List AOper := [
  ⟨(some 162), none, (.call 7 [])⟩,
  ⟨(some 2), none, (.val (.t 162))⟩]
theorem r4_31 {fn : AFun} {K : List AItem} {t : Nat → AV} {H : AH} {T : Tbl} : runR T fn (.code (.reg d4_31) :: K) t H = regR T fn K (aops (callR T) [
  ⟨(some 162), none, (.call 7 [])⟩,
  ⟨(some 2), none, (.val (.t 162))⟩] t H) := runR_reg'
def a4 : AFun := ⟨163, [(.tmp 2)], (.seq (.reg d4_0) (.seq (.seq (.reg d4_1) (.cond (.t 24) (.seq (.reg d4_2) .ret) .skip)) (.seq (.reg d4_3) (.seq (.reg d4_4) (.seq (.seq (.reg d4_5) (.block 0 (.loop l4_30))) (.seq (.reg d4_31) .ret))))))⟩
theorem a4_ok : cfun Try.prog 4 = some a4 := by kernel_rfl
/-- futtock/futtocklaw12.QueueStays -/
def d5_0 : List AOper := [
  ⟨(some 2), none, (.val (.c (.b false)))⟩]
theorem r5_0 {fn : AFun} {K : List AItem} {t : Nat → AV} {H : AH} {T : Tbl} : runR T fn (.code (.reg d5_0) :: K) t H = regR T fn K (aops (callR T) [
  ⟨(some 2), none, (.val (.c (.b false)))⟩] t H) := runR_reg'
def d5_1 : List AOper := [
  ⟨(some 22), none, (.val (.t 0))⟩,
  ⟨(some 23), none, (.call 11 [(.t 22)])⟩]
theorem r5_1 {fn : AFun} {K : List AItem} {t : Nat → AV} {H : AH} {T : Tbl} : runR T fn (.code (.reg d5_1) :: K) t H = regR T fn K (aops (callR T) [
  ⟨(some 22), none, (.val (.t 0))⟩,
  ⟨(some 23), none, (.call 11 [(.t 22)])⟩] t H) := runR_reg'
def d5_2 : List AOper := [
  ⟨(some 24), none, (.call 7 [])⟩,
  ⟨(some 2), none, (.val (.t 24))⟩]
theorem r5_2 {fn : AFun} {K : List AItem} {t : Nat → AV} {H : AH} {T : Tbl} : runR T fn (.code (.reg d5_2) :: K) t H = regR T fn K (aops (callR T) [
  ⟨(some 24), none, (.call 7 [])⟩,
  ⟨(some 2), none, (.val (.t 24))⟩] t H) := runR_reg'
def d5_3 : List AOper := [
  ⟨(some 3), none, (.val (.c (.sl none 0 0 true 0)))⟩]
theorem r5_3 {fn : AFun} {K : List AItem} {t : Nat → AV} {H : AH} {T : Tbl} : runR T fn (.code (.reg d5_3) :: K) t H = regR T fn K (aops (callR T) [
  ⟨(some 3), none, (.val (.c (.sl none 0 0 true 0)))⟩] t H) := runR_reg'
def d5_4 : List AOper := [
  ⟨(some 4), none, (.val (.c (.sl none 0 0 true 0)))⟩]
theorem r5_4 {fn : AFun} {K : List AItem} {t : Nat → AV} {H : AH} {T : Tbl} : runR T fn (.code (.reg d5_4) :: K) t H = regR T fn K (aops (callR T) [
  ⟨(some 4), none, (.val (.c (.sl none 0 0 true 0)))⟩] t H) := runR_reg'
def d5_5 : List AOper := [
  ⟨(some 5), none, (.alloc [(.sl none 0 0 true 0)])⟩]
theorem r5_5 {fn : AFun} {K : List AItem} {t : Nat → AV} {H : AH} {T : Tbl} : runR T fn (.code (.reg d5_5) :: K) t H = regR T fn K (aops (callR T) [
  ⟨(some 5), none, (.alloc [(.sl none 0 0 true 0)])⟩] t H) := runR_reg'
def d5_6 : List AOper := [
  ⟨(some 25), none, (.val (.t 0))⟩,
  ⟨(some 26), none, (.call 12 [(.t 25)])⟩,
  ⟨(some 27), none, (.len (.t 26))⟩,
  ⟨(some 28), none, (.val (.c (.i .i64 0)))⟩]
theorem r5_6 {fn : AFun} {K : List AItem} {t : Nat → AV} {H : AH} {T : Tbl} : runR T fn (.code (.reg d5_6) :: K) t H = regR T fn K (aops (callR T) [
  ⟨(some 25), none, (.val (.t 0))⟩,
  ⟨(some 26), none, (.call 12 [(.t 25)])⟩,
  ⟨(some 27), none, (.len (.t 26))⟩,
  ⟨(some 28), none, (.val (.c (.i .i64 0)))⟩] t H) := runR_reg'
def d5_7 : List AOper := [
  ⟨(some 29), none, (.bin .lss (.t 28) (.t 27))⟩]
theorem r5_7 {fn : AFun} {K : List AItem} {t : Nat → AV} {H : AH} {T : Tbl} : runR T fn (.code (.reg d5_7) :: K) t H = regR T fn K (aops (callR T) [
  ⟨(some 29), none, (.bin .lss (.t 28) (.t 27))⟩] t H) := runR_reg'
def d5_8 : List AOper := [
  ⟨(some 30), none, (.ia 3 (.t 26) (.t 28))⟩,
  ⟨(some 31), none, (.ld (some 3) (.t 30))⟩,
  ⟨(some 7), none, (.alloc [(.i .u8 0), (.i .i64 0), (.sl none 0 0 true 0)])⟩,
  ⟨none, none, (.st 3 (.t 7) (.t 31))⟩]
theorem r5_8 {fn : AFun} {K : List AItem} {t : Nat → AV} {H : AH} {T : Tbl} : runR T fn (.code (.reg d5_8) :: K) t H = regR T fn K (aops (callR T) [
  ⟨(some 30), none, (.ia 3 (.t 26) (.t 28))⟩,
  ⟨(some 31), none, (.ld (some 3) (.t 30))⟩,
  ⟨(some 7), none, (.alloc [(.i .u8 0), (.i .i64 0), (.sl none 0 0 true 0)])⟩,
  ⟨none, none, (.st 3 (.t 7) (.t 31))⟩] t H) := runR_reg'
def d5_9 : List AOper := [
  ⟨(some 33), none, (.ld (some 1) (.t 5))⟩,
  ⟨(some 34), none, (.fa 1 (.t 7))⟩,
  ⟨(some 35), none, (.ld none (.t 34))⟩,
  ⟨(some 36), none, (.call 8 [(.t 33), (.t 35)])⟩,
  ⟨(some 32), none, (.val (.t 36))⟩,
  ⟨(some 37), none, (.ext (.t 32) 0)⟩,
  ⟨(some 38), none, (.ext (.t 32) 1)⟩,
  ⟨(some 8), none, (.alloc [(.sl none 0 0 true 0)])⟩,
  ⟨none, none, (.st 1 (.t 8) (.t 37))⟩,
  ⟨(some 9), none, (.val (.t 38))⟩]
theorem r5_9 {fn : AFun} {K : List AItem} {t : Nat → AV} {H : AH} {T : Tbl} : runR T fn (.code (.reg d5_9) :: K) t H = regR T fn K (aops (callR T) [
  ⟨(some 33), none, (.ld (some 1) (.t 5))⟩,
  ⟨(some 34), none, (.fa 1 (.t 7))⟩,
  ⟨(some 35), none, (.ld none (.t 34))⟩,
  ⟨(some 36), none, (.call 8 [(.t 33), (.t 35)])⟩,
  ⟨(some 32), none, (.val (.t 36))⟩,
  ⟨(some 37), none, (.ext (.t 32) 0)⟩,
  ⟨(some 38), none, (.ext (.t 32) 1)⟩,
  ⟨(some 8), none, (.alloc [(.sl none 0 0 true 0)])⟩,
  ⟨none, none, (.st 1 (.t 8) (.t 37))⟩,
  ⟨(some 9), none, (.val (.t 38))⟩] t H) := runR_reg'
def d5_10 : List AOper := [
  ⟨(some 40), none, (.ld (some 1) (.t 5))⟩,
  ⟨(some 41), none, (.fa 2 (.t 7))⟩,
  ⟨(some 42), none, (.ld none (.t 41))⟩,
  ⟨(some 43), none, (.call 14 [(.t 40), (.t 42)])⟩,
  ⟨(some 39), none, (.val (.t 43))⟩,
  ⟨(some 44), none, (.ext (.t 39) 0)⟩,
  ⟨(some 45), none, (.ext (.t 39) 1)⟩,
  ⟨(some 10), none, (.alloc [(.sl none 0 0 true 0)])⟩,
  ⟨none, none, (.st 1 (.t 10) (.t 44))⟩,
  ⟨(some 11), none, (.val (.t 45))⟩]
theorem r5_10 {fn : AFun} {K : List AItem} {t : Nat → AV} {H : AH} {T : Tbl} : runR T fn (.code (.reg d5_10) :: K) t H = regR T fn K (aops (callR T) [
  ⟨(some 40), none, (.ld (some 1) (.t 5))⟩,
  ⟨(some 41), none, (.fa 2 (.t 7))⟩,
  ⟨(some 42), none, (.ld none (.t 41))⟩,
  ⟨(some 43), none, (.call 14 [(.t 40), (.t 42)])⟩,
  ⟨(some 39), none, (.val (.t 43))⟩,
  ⟨(some 44), none, (.ext (.t 39) 0)⟩,
  ⟨(some 45), none, (.ext (.t 39) 1)⟩,
  ⟨(some 10), none, (.alloc [(.sl none 0 0 true 0)])⟩,
  ⟨none, none, (.st 1 (.t 10) (.t 44))⟩,
  ⟨(some 11), none, (.val (.t 45))⟩] t H) := runR_reg'
def d5_11 : List AOper := [
  ⟨(some 47), none, (.ld (some 1) (.t 5))⟩,
  ⟨(some 48), none, (.call 9 [(.t 47)])⟩,
  ⟨(some 46), none, (.val (.t 48))⟩,
  ⟨(some 49), none, (.ext (.t 46) 0)⟩,
  ⟨(some 50), none, (.ext (.t 46) 1)⟩,
  ⟨(some 51), none, (.ext (.t 46) 2)⟩,
  ⟨(some 13), none, (.alloc [(.sl none 0 0 true 0)])⟩,
  ⟨(some 12), none, (.val (.t 49))⟩,
  ⟨none, none, (.st 1 (.t 13) (.t 50))⟩,
  ⟨(some 14), none, (.val (.t 51))⟩]
theorem r5_11 {fn : AFun} {K : List AItem} {t : Nat → AV} {H : AH} {T : Tbl} : runR T fn (.code (.reg d5_11) :: K) t H = regR T fn K (aops (callR T) [
  ⟨(some 47), none, (.ld (some 1) (.t 5))⟩,
  ⟨(some 48), none, (.call 9 [(.t 47)])⟩,
  ⟨(some 46), none, (.val (.t 48))⟩,
  ⟨(some 49), none, (.ext (.t 46) 0)⟩,
  ⟨(some 50), none, (.ext (.t 46) 1)⟩,
  ⟨(some 51), none, (.ext (.t 46) 2)⟩,
  ⟨(some 13), none, (.alloc [(.sl none 0 0 true 0)])⟩,
  ⟨(some 12), none, (.val (.t 49))⟩,
  ⟨none, none, (.st 1 (.t 13) (.t 50))⟩,
  ⟨(some 14), none, (.val (.t 51))⟩] t H) := runR_reg'
def d5_12 : List AOper := [
  ⟨(some 53), none, (.ld (some 1) (.t 5))⟩,
  ⟨(some 54), none, (.fa 1 (.t 7))⟩,
  ⟨(some 55), none, (.ld none (.t 54))⟩,
  ⟨(some 56), none, (.call 16 [(.t 53), (.t 55)])⟩,
  ⟨(some 52), none, (.val (.t 56))⟩,
  ⟨(some 57), none, (.ext (.t 52) 0)⟩,
  ⟨(some 58), none, (.ext (.t 52) 1)⟩,
  ⟨(some 15), none, (.alloc [(.sl none 0 0 true 0)])⟩,
  ⟨none, none, (.st 1 (.t 15) (.t 57))⟩,
  ⟨(some 16), none, (.val (.t 58))⟩]
theorem r5_12 {fn : AFun} {K : List AItem} {t : Nat → AV} {H : AH} {T : Tbl} : runR T fn (.code (.reg d5_12) :: K) t H = regR T fn K (aops (callR T) [
  ⟨(some 53), none, (.ld (some 1) (.t 5))⟩,
  ⟨(some 54), none, (.fa 1 (.t 7))⟩,
  ⟨(some 55), none, (.ld none (.t 54))⟩,
  ⟨(some 56), none, (.call 16 [(.t 53), (.t 55)])⟩,
  ⟨(some 52), none, (.val (.t 56))⟩,
  ⟨(some 57), none, (.ext (.t 52) 0)⟩,
  ⟨(some 58), none, (.ext (.t 52) 1)⟩,
  ⟨(some 15), none, (.alloc [(.sl none 0 0 true 0)])⟩,
  ⟨none, none, (.st 1 (.t 15) (.t 57))⟩,
  ⟨(some 16), none, (.val (.t 58))⟩] t H) := runR_reg'
def d5_13 : List AOper := [
  ⟨(some 59), none, (.ld (some 1) (.t 8))⟩,
  ⟨(some 60), none, (.ld (some 1) (.t 10))⟩,
  ⟨(some 61), none, (.ld (some 1) (.t 13))⟩,
  ⟨(some 62), none, (.ld (some 1) (.t 15))⟩,
  ⟨(some 63), none, (.bsl [(.sl none 0 0 true 0)] 4 [(0, 1, (.t 59)), (1, 1, (.t 60)), (2, 1, (.t 61)), (3, 1, (.t 62))])⟩,
  ⟨(some 64), none, (.fa 0 (.t 7))⟩,
  ⟨(some 65), none, (.ld none (.t 64))⟩,
  ⟨(some 66), none, (.bin .rem (.t 65) (.c (.i .u8 4)))⟩,
  ⟨(some 67), none, (.ia 1 (.t 63) (.t 66))⟩,
  ⟨(some 68), none, (.ld (some 1) (.t 67))⟩,
  ⟨none, none, (.st 1 (.t 5) (.t 68))⟩]
theorem r5_13 {fn : AFun} {K : List AItem} {t : Nat → AV} {H : AH} {T : Tbl} : runR T fn (.code (.reg d5_13) :: K) t H = regR T fn K (aops (callR T) [
  ⟨(some 59), none, (.ld (some 1) (.t 8))⟩,
  ⟨(some 60), none, (.ld (some 1) (.t 10))⟩,
  ⟨(some 61), none, (.ld (some 1) (.t 13))⟩,
  ⟨(some 62), none, (.ld (some 1) (.t 15))⟩,
  ⟨(some 63), none, (.bsl [(.sl none 0 0 true 0)] 4 [(0, 1, (.t 59)), (1, 1, (.t 60)), (2, 1, (.t 61)), (3, 1, (.t 62))])⟩,
  ⟨(some 64), none, (.fa 0 (.t 7))⟩,
  ⟨(some 65), none, (.ld none (.t 64))⟩,
  ⟨(some 66), none, (.bin .rem (.t 65) (.c (.i .u8 4)))⟩,
  ⟨(some 67), none, (.ia 1 (.t 63) (.t 66))⟩,
  ⟨(some 68), none, (.ld (some 1) (.t 67))⟩,
  ⟨none, none, (.st 1 (.t 5) (.t 68))⟩] t H) := runR_reg'
def d5_14 : List AOper := [
  ⟨(some 69), none, (.ld (some 1) (.t 8))⟩,
  ⟨(some 70), none, (.ld (some 1) (.t 10))⟩,
  ⟨(some 71), none, (.ld (some 1) (.t 13))⟩,
  ⟨(some 72), none, (.ld (some 1) (.t 15))⟩,
  ⟨(some 73), none, (.bsl [(.sl none 0 0 true 0)] 4 [(0, 1, (.t 69)), (1, 1, (.t 70)), (2, 1, (.t 71)), (3, 1, (.t 72))])⟩,
  ⟨(some 74), none, (.len (.t 73))⟩,
  ⟨(some 75), none, (.val (.c (.i .i64 0)))⟩]
theorem r5_14 {fn : AFun} {K : List AItem} {t : Nat → AV} {H : AH} {T : Tbl} : runR T fn (.code (.reg d5_14) :: K) t H = regR T fn K (aops (callR T) [
  ⟨(some 69), none, (.ld (some 1) (.t 8))⟩,
  ⟨(some 70), none, (.ld (some 1) (.t 10))⟩,
  ⟨(some 71), none, (.ld (some 1) (.t 13))⟩,
  ⟨(some 72), none, (.ld (some 1) (.t 15))⟩,
  ⟨(some 73), none, (.bsl [(.sl none 0 0 true 0)] 4 [(0, 1, (.t 69)), (1, 1, (.t 70)), (2, 1, (.t 71)), (3, 1, (.t 72))])⟩,
  ⟨(some 74), none, (.len (.t 73))⟩,
  ⟨(some 75), none, (.val (.c (.i .i64 0)))⟩] t H) := runR_reg'
def d5_15 : List AOper := [
  ⟨(some 76), none, (.bin .lss (.t 75) (.t 74))⟩]
theorem r5_15 {fn : AFun} {K : List AItem} {t : Nat → AV} {H : AH} {T : Tbl} : runR T fn (.code (.reg d5_15) :: K) t H = regR T fn K (aops (callR T) [
  ⟨(some 76), none, (.bin .lss (.t 75) (.t 74))⟩] t H) := runR_reg'
def d5_16 : List AOper := [
  ⟨(some 77), none, (.ia 1 (.t 73) (.t 75))⟩,
  ⟨(some 78), none, (.ld (some 1) (.t 77))⟩,
  ⟨(some 18), none, (.alloc [(.sl none 0 0 true 0)])⟩,
  ⟨none, none, (.st 1 (.t 18) (.t 78))⟩]
theorem r5_16 {fn : AFun} {K : List AItem} {t : Nat → AV} {H : AH} {T : Tbl} : runR T fn (.code (.reg d5_16) :: K) t H = regR T fn K (aops (callR T) [
  ⟨(some 77), none, (.ia 1 (.t 73) (.t 75))⟩,
  ⟨(some 78), none, (.ld (some 1) (.t 77))⟩,
  ⟨(some 18), none, (.alloc [(.sl none 0 0 true 0)])⟩,
  ⟨none, none, (.st 1 (.t 18) (.t 78))⟩] t H) := runR_reg'
def d5_17 : List AOper := [
  ⟨(some 79), none, (.val (.t 3))⟩,
  ⟨(some 80), none, (.ld (some 1) (.t 18))⟩,
  ⟨(some 81), none, (.bsl [(.sl none 0 0 true 0)] 1 [(0, 1, (.t 80))])⟩,
  ⟨(some 82), none, (.app [(.sl none 0 0 true 0)] 24 (.t 79) (.t 81))⟩,
  ⟨(some 3), none, (.val (.t 82))⟩]
theorem r5_17 {fn : AFun} {K : List AItem} {t : Nat → AV} {H : AH} {T : Tbl} : runR T fn (.code (.reg d5_17) :: K) t H = regR T fn K (aops (callR T) [
  ⟨(some 79), none, (.val (.t 3))⟩,
  ⟨(some 80), none, (.ld (some 1) (.t 18))⟩,
  ⟨(some 81), none, (.bsl [(.sl none 0 0 true 0)] 1 [(0, 1, (.t 80))])⟩,
  ⟨(some 82), none, (.app [(.sl none 0 0 true 0)] 24 (.t 79) (.t 81))⟩,
  ⟨(some 3), none, (.val (.t 82))⟩] t H) := runR_reg'
def d5_18 : List AOper := [
  ⟨(some 83), none, (.val (.t 4))⟩,
  ⟨(some 84), none, (.ld (some 1) (.t 18))⟩,
  ⟨(some 85), none, (.call 19 [(.t 84)])⟩,
  ⟨(some 86), none, (.bsl [(.sl none 0 0 true 0)] 1 [(0, 1, (.t 85))])⟩,
  ⟨(some 87), none, (.app [(.sl none 0 0 true 0)] 24 (.t 83) (.t 86))⟩,
  ⟨(some 4), none, (.val (.t 87))⟩]
theorem r5_18 {fn : AFun} {K : List AItem} {t : Nat → AV} {H : AH} {T : Tbl} : runR T fn (.code (.reg d5_18) :: K) t H = regR T fn K (aops (callR T) [
  ⟨(some 83), none, (.val (.t 4))⟩,
  ⟨(some 84), none, (.ld (some 1) (.t 18))⟩,
  ⟨(some 85), none, (.call 19 [(.t 84)])⟩,
  ⟨(some 86), none, (.bsl [(.sl none 0 0 true 0)] 1 [(0, 1, (.t 85))])⟩,
  ⟨(some 87), none, (.app [(.sl none 0 0 true 0)] 24 (.t 83) (.t 86))⟩,
  ⟨(some 4), none, (.val (.t 87))⟩] t H) := runR_reg'
def d5_19 : List AOper := [
  ⟨(some 88), none, (.bin .add (.t 75) (.c (.i .i64 1)))⟩,
  ⟨(some 75), none, (.val (.t 88))⟩]
theorem r5_19 {fn : AFun} {K : List AItem} {t : Nat → AV} {H : AH} {T : Tbl} : runR T fn (.code (.reg d5_19) :: K) t H = regR T fn K (aops (callR T) [
  ⟨(some 88), none, (.bin .add (.t 75) (.c (.i .i64 1)))⟩,
  ⟨(some 75), none, (.val (.t 88))⟩] t H) := runR_reg'
def l5_20 : ACode := (.seq (.reg d5_15) (.seq (.cond (.t 76) .skip (.exit 2)) (.seq (.block 3 (.seq (.reg d5_16) (.seq (.reg d5_17) (.reg d5_18)))) (.reg d5_19))))
def d5_21 : List AOper := [
  ⟨(some 89), none, (.val (.t 3))⟩,
  ⟨(some 90), none, (.len (.t 89))⟩,
  ⟨(some 19), none, (.val (.t 90))⟩]
theorem r5_21 {fn : AFun} {K : List AItem} {t : Nat → AV} {H : AH} {T : Tbl} : runR T fn (.code (.reg d5_21) :: K) t H = regR T fn K (aops (callR T) [
  ⟨(some 89), none, (.val (.t 3))⟩,
  ⟨(some 90), none, (.len (.t 89))⟩,
  ⟨(some 19), none, (.val (.t 90))⟩] t H) := runR_reg'
def d5_22 : List AOper := [
  ⟨(some 91), none, (.val (.t 19))⟩,
  ⟨(some 92), none, (.bin .gtr (.t 91) (.c (.i .i64 60)))⟩]
theorem r5_22 {fn : AFun} {K : List AItem} {t : Nat → AV} {H : AH} {T : Tbl} : runR T fn (.code (.reg d5_22) :: K) t H = regR T fn K (aops (callR T) [
  ⟨(some 91), none, (.val (.t 19))⟩,
  ⟨(some 92), none, (.bin .gtr (.t 91) (.c (.i .i64 60)))⟩] t H) := runR_reg'
def d5_23 : List (AOper × List Nat) := [
  (⟨(some 93), none, (.val (.t 3))⟩, []),
  (⟨(some 94), none, (.val (.t 19))⟩, []),
  (⟨(some 95), none, (.bin .sub (.t 94) (.c (.i .i64 60)))⟩, []),
  (⟨(some 96), none, (.sls 1 (.t 93) (some (.t 95)) none none)⟩, []),
  (⟨(some 97), none, (.val (.t 4))⟩, []),
  (⟨(some 98), none, (.val (.t 19))⟩, []),
  (⟨(some 99), none, (.bin .sub (.t 98) (.c (.i .i64 60)))⟩, []),
  (⟨(some 100), none, (.sls 1 (.t 97) (some (.t 99)) none none)⟩, []),
  (⟨(some 3), none, (.val (.t 96))⟩, []),
  (⟨(some 4), none, (.val (.t 100))⟩, [])]
theorem r5_23 {fn : AFun} {K : List AItem} {t : Nat → AV} {H : AH} {T : Tbl} : runR T fn (.code (.drw d5_23) :: K) t H = regR T fn K (aops (callR T) [
  ⟨(some 93), none, (.val (.t 3))⟩,
  ⟨(some 94), none, (.val (.t 19))⟩,
  ⟨(some 95), none, (.bin .sub (.t 94) (.c (.i .i64 60)))⟩,
  ⟨(some 96), none, (.sls 1 (.t 93) (some (.t 95)) none none)⟩,
  ⟨(some 97), none, (.val (.t 4))⟩,
  ⟨(some 98), none, (.val (.t 19))⟩,
  ⟨(some 99), none, (.bin .sub (.t 98) (.c (.i .i64 60)))⟩,
  ⟨(some 100), none, (.sls 1 (.t 97) (some (.t 99)) none none)⟩,
  ⟨(some 3), none, (.val (.t 96))⟩,
  ⟨(some 4), none, (.val (.t 100))⟩] t H) := runR_plain rfl
def d5_24 : List AOper := [
  ⟨(some 101), none, (.bin .add (.t 28) (.c (.i .i64 1)))⟩,
  ⟨(some 28), none, (.val (.t 101))⟩]
theorem r5_24 {fn : AFun} {K : List AItem} {t : Nat → AV} {H : AH} {T : Tbl} : runR T fn (.code (.reg d5_24) :: K) t H = regR T fn K (aops (callR T) [
  ⟨(some 101), none, (.bin .add (.t 28) (.c (.i .i64 1)))⟩,
  ⟨(some 28), none, (.val (.t 101))⟩] t H) := runR_reg'
def l5_25 : ACode := (.seq (.reg d5_7) (.seq (.cond (.t 29) .skip (.exit 0)) (.seq (.block 1 (.seq (.reg d5_8) (.seq (.reg d5_9) (.seq (.reg d5_10) (.seq (.reg d5_11) (.seq (.reg d5_12) (.seq (.reg d5_13) (.seq (.seq (.reg d5_14) (.block 2 (.loop l5_20))) (.seq (.reg d5_21) (.seq (.reg d5_22) (.cond (.t 92) (.drw d5_23) .skip))))))))))) (.reg d5_24))))
def d5_26 : List AOper := [
  ⟨(some 102), none, (.val (.t 3))⟩,
  ⟨(some 103), none, (.len (.t 102))⟩,
  ⟨(some 104), none, (.val (.c (.i .i64 0)))⟩]
theorem r5_26 {fn : AFun} {K : List AItem} {t : Nat → AV} {H : AH} {T : Tbl} : runR T fn (.code (.reg d5_26) :: K) t H = regR T fn K (aops (callR T) [
  ⟨(some 102), none, (.val (.t 3))⟩,
  ⟨(some 103), none, (.len (.t 102))⟩,
  ⟨(some 104), none, (.val (.c (.i .i64 0)))⟩] t H) := runR_reg'
def d5_27 : List AOper := [
  ⟨(some 105), none, (.bin .lss (.t 104) (.t 103))⟩]
theorem r5_27 {fn : AFun} {K : List AItem} {t : Nat → AV} {H : AH} {T : Tbl} : runR T fn (.code (.reg d5_27) :: K) t H = regR T fn K (aops (callR T) [
  ⟨(some 105), none, (.bin .lss (.t 104) (.t 103))⟩] t H) := runR_reg'
def d5_28 : List AOper := [
  ⟨(some 106), none, (.val (.t 104))⟩,
  ⟨(some 107), none, (.ia 1 (.t 102) (.t 104))⟩,
  ⟨(some 108), none, (.ld (some 1) (.t 107))⟩,
  ⟨(some 21), none, (.alloc [(.sl none 0 0 true 0)])⟩,
  ⟨(some 20), none, (.val (.t 106))⟩,
  ⟨none, none, (.st 1 (.t 21) (.t 108))⟩]
theorem r5_28 {fn : AFun} {K : List AItem} {t : Nat → AV} {H : AH} {T : Tbl} : runR T fn (.code (.reg d5_28) :: K) t H = regR T fn K (aops (callR T) [
  ⟨(some 106), none, (.val (.t 104))⟩,
  ⟨(some 107), none, (.ia 1 (.t 102) (.t 104))⟩,
  ⟨(some 108), none, (.ld (some 1) (.t 107))⟩,
  ⟨(some 21), none, (.alloc [(.sl none 0 0 true 0)])⟩,
  ⟨(some 20), none, (.val (.t 106))⟩,
  ⟨none, none, (.st 1 (.t 21) (.t 108))⟩] t H) := runR_reg'
def d5_29 : List (AOper × List Nat) := [
  (⟨(some 109), none, (.val (.t 20))⟩, []),
  (⟨(some 110), none, (.val (.t 4))⟩, []),
  (⟨(some 111), none, (.len (.t 110))⟩, []),
  (⟨(some 112), none, (.bin .geq (.t 109) (.t 111))⟩, []),
  (⟨(some 113), none, (.val (.t 112))⟩, []),
  (⟨(some 114), (some (113, false)), (.ld (some 1) (.t 21))⟩, [1]),
  (⟨(some 115), (some (113, false)), (.call 19 [(.t 114)])⟩, []),
  (⟨(some 116), (some (113, false)), (.val (.t 4))⟩, []),
  (⟨(some 117), (some (113, false)), (.val (.t 20))⟩, []),
  (⟨(some 118), (some (113, false)), (.ia 1 (.t 116) (.t 117))⟩, []),
  (⟨(some 119), (some (113, false)), (.ld none (.t 118))⟩, [2]),
  (⟨(some 120), (some (113, false)), (.call 18 [(.t 115), (.t 119)])⟩, []),
  (⟨(some 121), (some (113, false)), (.un .not (.t 120))⟩, []),
  (⟨(some 122), none, (.pick (.t 113) (.c (.b true)) (.t 121))⟩, [])]
theorem r5_29 {fn : AFun} {K : List AItem} {t : Nat → AV} {H : AH} {T : Tbl} : runR T fn (.code (.drw d5_29) :: K) t H = regR T fn K (adrn (callR T) [
  (⟨(some 109), none, (.val (.t 20))⟩, []),
  (⟨(some 110), none, (.val (.t 4))⟩, []),
  (⟨(some 111), none, (.len (.t 110))⟩, []),
  (⟨(some 112), none, (.bin .geq (.t 109) (.t 111))⟩, []),
  (⟨(some 113), none, (.val (.t 112))⟩, []),
  (⟨(some 114), (some (113, false)), (.ld (some 1) (.t 21))⟩, [1]),
  (⟨(some 115), (some (113, false)), (.call 19 [(.t 114)])⟩, []),
  (⟨(some 116), (some (113, false)), (.val (.t 4))⟩, []),
  (⟨(some 117), (some (113, false)), (.val (.t 20))⟩, []),
  (⟨(some 118), (some (113, false)), (.ia 1 (.t 116) (.t 117))⟩, []),
  (⟨(some 119), (some (113, false)), (.ld none (.t 118))⟩, [2]),
  (⟨(some 120), (some (113, false)), (.call 18 [(.t 115), (.t 119)])⟩, []),
  (⟨(some 121), (some (113, false)), (.un .not (.t 120))⟩, []),
  (⟨(some 122), none, (.pick (.t 113) (.c (.b true)) (.t 121))⟩, [])] t H [H]) := runR_free rfl
def d5_30 : List AOper := [
  ⟨(some 2), none, (.val (.c (.b false)))⟩]
theorem r5_30 {fn : AFun} {K : List AItem} {t : Nat → AV} {H : AH} {T : Tbl} : runR T fn (.code (.reg d5_30) :: K) t H = regR T fn K (aops (callR T) [
  ⟨(some 2), none, (.val (.c (.b false)))⟩] t H) := runR_reg'
def d5_31 : List AOper := [
  ⟨(some 123), none, (.bin .add (.t 104) (.c (.i .i64 1)))⟩,
  ⟨(some 104), none, (.val (.t 123))⟩]
theorem r5_31 {fn : AFun} {K : List AItem} {t : Nat → AV} {H : AH} {T : Tbl} : runR T fn (.code (.reg d5_31) :: K) t H = regR T fn K (aops (callR T) [
  ⟨(some 123), none, (.bin .add (.t 104) (.c (.i .i64 1)))⟩,
  ⟨(some 104), none, (.val (.t 123))⟩] t H) := runR_reg'
def l5_32 : ACode := (.seq (.reg d5_27) (.seq (.cond (.t 105) .skip (.exit 4)) (.seq (.block 5 (.seq (.reg d5_28) (.seq (.drw d5_29) (.cond (.t 122) (.seq (.reg d5_30) .ret) .skip)))) (.reg d5_31))))
def d5_33 : List AOper := [
  ⟨(some 124), none, (.call 7 [])⟩,
  ⟨(some 2), none, (.val (.t 124))⟩]
theorem r5_33 {fn : AFun} {K : List AItem} {t : Nat → AV} {H : AH} {T : Tbl} : runR T fn (.code (.reg d5_33) :: K) t H = regR T fn K (aops (callR T) [
  ⟨(some 124), none, (.call 7 [])⟩,
  ⟨(some 2), none, (.val (.t 124))⟩] t H) := runR_reg'
def a5 : AFun := ⟨125, [(.tmp 2)], (.seq (.reg d5_0) (.seq (.seq (.reg d5_1) (.cond (.t 23) (.seq (.reg d5_2) .ret) .skip)) (.seq (.reg d5_3) (.seq (.reg d5_4) (.seq (.reg d5_5) (.seq (.seq (.reg d5_6) (.block 0 (.loop l5_25))) (.seq (.seq (.reg d5_26) (.block 4 (.loop l5_32))) (.seq (.reg d5_33) .ret))))))))⟩
theorem a5_ok : cfun Try.prog 5 = some a5 := by kernel_rfl
/-- futtock/futtocklaw12.QueueDrains -/
def d6_0 : List AOper := [
  ⟨(some 6), none, (.val (.c (.b false)))⟩]
theorem r6_0 {fn : AFun} {K : List AItem} {t : Nat → AV} {H : AH} {T : Tbl} : runR T fn (.code (.reg d6_0) :: K) t H = regR T fn K (aops (callR T) [
  ⟨(some 6), none, (.val (.c (.b false)))⟩] t H) := runR_reg'
def d6_1 : List AOper := [
  ⟨(some 23), none, (.val (.t 0))⟩,
  ⟨(some 24), none, (.len (.t 23))⟩,
  ⟨(some 25), none, (.bin .gtr (.t 24) (.c (.i .i64 100)))⟩,
  ⟨(some 26), none, (.val (.t 25))⟩,
  ⟨(some 27), (some (26, false)), (.val (.t 1))⟩,
  ⟨(some 28), (some (26, false)), (.len (.t 27))⟩,
  ⟨(some 29), (some (26, false)), (.bin .gtr (.t 28) (.c (.i .i64 100)))⟩,
  ⟨(some 30), none, (.pick (.t 26) (.c (.b true)) (.t 29))⟩]
theorem r6_1 {fn : AFun} {K : List AItem} {t : Nat → AV} {H : AH} {T : Tbl} : runR T fn (.code (.reg d6_1) :: K) t H = regR T fn K (aops (callR T) [
  ⟨(some 23), none, (.val (.t 0))⟩,
  ⟨(some 24), none, (.len (.t 23))⟩,
  ⟨(some 25), none, (.bin .gtr (.t 24) (.c (.i .i64 100)))⟩,
  ⟨(some 26), none, (.val (.t 25))⟩,
  ⟨(some 27), (some (26, false)), (.val (.t 1))⟩,
  ⟨(some 28), (some (26, false)), (.len (.t 27))⟩,
  ⟨(some 29), (some (26, false)), (.bin .gtr (.t 28) (.c (.i .i64 100)))⟩,
  ⟨(some 30), none, (.pick (.t 26) (.c (.b true)) (.t 29))⟩] t H) := runR_reg'
def d6_2 : List AOper := [
  ⟨(some 31), none, (.call 7 [])⟩,
  ⟨(some 6), none, (.val (.t 31))⟩]
theorem r6_2 {fn : AFun} {K : List AItem} {t : Nat → AV} {H : AH} {T : Tbl} : runR T fn (.code (.reg d6_2) :: K) t H = regR T fn K (aops (callR T) [
  ⟨(some 31), none, (.call 7 [])⟩,
  ⟨(some 6), none, (.val (.t 31))⟩] t H) := runR_reg'
def d6_3 : List AOper := [
  ⟨(some 7), none, (.alloc [(.sl none 0 0 true 0)])⟩]
theorem r6_3 {fn : AFun} {K : List AItem} {t : Nat → AV} {H : AH} {T : Tbl} : runR T fn (.code (.reg d6_3) :: K) t H = regR T fn K (aops (callR T) [
  ⟨(some 7), none, (.alloc [(.sl none 0 0 true 0)])⟩] t H) := runR_reg'
def d6_4 : List AOper := [
  ⟨(some 32), none, (.val (.t 0))⟩,
  ⟨(some 33), none, (.len (.t 32))⟩,
  ⟨(some 34), none, (.val (.c (.i .i64 0)))⟩]
theorem r6_4 {fn : AFun} {K : List AItem} {t : Nat → AV} {H : AH} {T : Tbl} : runR T fn (.code (.reg d6_4) :: K) t H = regR T fn K (aops (callR T) [
  ⟨(some 32), none, (.val (.t 0))⟩,
  ⟨(some 33), none, (.len (.t 32))⟩,
  ⟨(some 34), none, (.val (.c (.i .i64 0)))⟩] t H) := runR_reg'
def d6_5 : List AOper := [
  ⟨(some 35), none, (.bin .lss (.t 34) (.t 33))⟩]
theorem r6_5 {fn : AFun} {K : List AItem} {t : Nat → AV} {H : AH} {T : Tbl} : runR T fn (.code (.reg d6_5) :: K) t H = regR T fn K (aops (callR T) [
  ⟨(some 35), none, (.bin .lss (.t 34) (.t 33))⟩] t H) := runR_reg'
def d6_6 : List AOper := [
  ⟨(some 36), none, (.ia 1 (.t 32) (.t 34))⟩,
  ⟨(some 37), none, (.ld none (.t 36))⟩,
  ⟨(some 9), none, (.val (.t 37))⟩]
theorem r6_6 {fn : AFun} {K : List AItem} {t : Nat → AV} {H : AH} {T : Tbl} : runR T fn (.code (.reg d6_6) :: K) t H = regR T fn K (aops (callR T) [
  ⟨(some 36), none, (.ia 1 (.t 32) (.t 34))⟩,
  ⟨(some 37), none, (.ld none (.t 36))⟩,
  ⟨(some 9), none, (.val (.t 37))⟩] t H) := runR_reg'
def d6_7 : List AOper := [
  ⟨(some 39), none, (.ld (some 1) (.t 7))⟩,
  ⟨(some 40), none, (.val (.t 9))⟩,
  ⟨(some 41), none, (.call 8 [(.t 39), (.t 40)])⟩,
  ⟨(some 38), none, (.val (.t 41))⟩,
  ⟨(some 42), none, (.ext (.t 38) 0)⟩,
  ⟨(some 43), none, (.ext (.t 38) 1)⟩,
  ⟨none, none, (.st 1 (.t 7) (.t 42))⟩]
theorem r6_7 {fn : AFun} {K : List AItem} {t : Nat → AV} {H : AH} {T : Tbl} : runR T fn (.code (.reg d6_7) :: K) t H = regR T fn K (aops (callR T) [
  ⟨(some 39), none, (.ld (some 1) (.t 7))⟩,
  ⟨(some 40), none, (.val (.t 9))⟩,
  ⟨(some 41), none, (.call 8 [(.t 39), (.t 40)])⟩,
  ⟨(some 38), none, (.val (.t 41))⟩,
  ⟨(some 42), none, (.ext (.t 38) 0)⟩,
  ⟨(some 43), none, (.ext (.t 38) 1)⟩,
  ⟨none, none, (.st 1 (.t 7) (.t 42))⟩] t H) := runR_reg'
def d6_8 : List AOper := [
  ⟨(some 44), none, (.bin .add (.t 34) (.c (.i .i64 1)))⟩,
  ⟨(some 34), none, (.val (.t 44))⟩]
theorem r6_8 {fn : AFun} {K : List AItem} {t : Nat → AV} {H : AH} {T : Tbl} : runR T fn (.code (.reg d6_8) :: K) t H = regR T fn K (aops (callR T) [
  ⟨(some 44), none, (.bin .add (.t 34) (.c (.i .i64 1)))⟩,
  ⟨(some 34), none, (.val (.t 44))⟩] t H) := runR_reg'
def l6_9 : ACode := (.seq (.reg d6_5) (.seq (.cond (.t 35) .skip (.exit 0)) (.seq (.block 1 (.seq (.reg d6_6) (.reg d6_7))) (.reg d6_8))))
def d6_10 : List AOper := [
  ⟨(some 46), none, (.ld (some 1) (.t 7))⟩,
  ⟨(some 47), none, (.val (.t 1))⟩,
  ⟨(some 48), none, (.call 14 [(.t 46), (.t 47)])⟩,
  ⟨(some 45), none, (.val (.t 48))⟩,
  ⟨(some 49), none, (.ext (.t 45) 0)⟩,
  ⟨(some 50), none, (.ext (.t 45) 1)⟩,
  ⟨(some 10), none, (.alloc [(.sl none 0 0 true 0)])⟩,
  ⟨none, none, (.st 1 (.t 10) (.t 49))⟩,
  ⟨(some 11), none, (.val (.t 50))⟩]
theorem r6_10 {fn : AFun} {K : List AItem} {t : Nat → AV} {H : AH} {T : Tbl} : runR T fn (.code (.reg d6_10) :: K) t H = regR T fn K (aops (callR T) [
  ⟨(some 46), none, (.ld (some 1) (.t 7))⟩,
  ⟨(some 47), none, (.val (.t 1))⟩,
  ⟨(some 48), none, (.call 14 [(.t 46), (.t 47)])⟩,
  ⟨(some 45), none, (.val (.t 48))⟩,
  ⟨(some 49), none, (.ext (.t 45) 0)⟩,
  ⟨(some 50), none, (.ext (.t 45) 1)⟩,
  ⟨(some 10), none, (.alloc [(.sl none 0 0 true 0)])⟩,
  ⟨none, none, (.st 1 (.t 10) (.t 49))⟩,
  ⟨(some 11), none, (.val (.t 50))⟩] t H) := runR_reg'
def d6_11 : List AOper := [
  ⟨(some 51), none, (.ld (some 1) (.t 7))⟩,
  ⟨(some 12), none, (.alloc [(.sl none 0 0 true 0)])⟩,
  ⟨none, none, (.st 1 (.t 12) (.t 51))⟩,
  ⟨(some 13), none, (.val (.c (.i .i64 0)))⟩]
theorem r6_11 {fn : AFun} {K : List AItem} {t : Nat → AV} {H : AH} {T : Tbl} : runR T fn (.code (.reg d6_11) :: K) t H = regR T fn K (aops (callR T) [
  ⟨(some 51), none, (.ld (some 1) (.t 7))⟩,
  ⟨(some 12), none, (.alloc [(.sl none 0 0 true 0)])⟩,
  ⟨none, none, (.st 1 (.t 12) (.t 51))⟩,
  ⟨(some 13), none, (.val (.c (.i .i64 0)))⟩] t H) := runR_reg'
def d6_12 : List AOper := [
  ⟨(some 52), none, (.val (.t 1))⟩,
  ⟨(some 53), none, (.len (.t 52))⟩,
  ⟨(some 54), none, (.val (.c (.i .i64 0)))⟩]
theorem r6_12 {fn : AFun} {K : List AItem} {t : Nat → AV} {H : AH} {T : Tbl} : runR T fn (.code (.reg d6_12) :: K) t H = regR T fn K (aops (callR T) [
  ⟨(some 52), none, (.val (.t 1))⟩,
  ⟨(some 53), none, (.len (.t 52))⟩,
  ⟨(some 54), none, (.val (.c (.i .i64 0)))⟩] t H) := runR_reg'
def d6_13 : List AOper := [
  ⟨(some 55), none, (.bin .lss (.t 54) (.t 53))⟩]
theorem r6_13 {fn : AFun} {K : List AItem} {t : Nat → AV} {H : AH} {T : Tbl} : runR T fn (.code (.reg d6_13) :: K) t H = regR T fn K (aops (callR T) [
  ⟨(some 55), none, (.bin .lss (.t 54) (.t 53))⟩] t H) := runR_reg'
def d6_14 : List AOper := [
  ⟨(some 56), none, (.val (.t 54))⟩,
  ⟨(some 14), none, (.val (.t 56))⟩]
theorem r6_14 {fn : AFun} {K : List AItem} {t : Nat → AV} {H : AH} {T : Tbl} : runR T fn (.code (.reg d6_14) :: K) t H = regR T fn K (aops (callR T) [
  ⟨(some 56), none, (.val (.t 54))⟩,
  ⟨(some 14), none, (.val (.t 56))⟩] t H) := runR_reg'
def d6_15 : List (AOper × List Nat) := [
  (⟨(some 58), none, (.ld (some 1) (.t 12))⟩, [1]),
  (⟨(some 59), none, (.val (.t 1))⟩, []),
  (⟨(some 60), none, (.val (.t 1))⟩, []),
  (⟨(some 61), none, (.len (.t 60))⟩, []),
  (⟨(some 62), none, (.bin .sub (.t 61) (.c (.i .i64 1)))⟩, []),
  (⟨(some 63), none, (.val (.t 14))⟩, []),
  (⟨(some 64), none, (.bin .sub (.t 62) (.t 63))⟩, []),
  (⟨(some 65), none, (.ia 1 (.t 59) (.t 64))⟩, []),
  (⟨(some 66), none, (.ld none (.t 65))⟩, [1]),
  (⟨(some 67), none, (.call 8 [(.t 58), (.t 66)])⟩, []),
  (⟨(some 57), none, (.val (.t 67))⟩, []),
  (⟨(some 68), none, (.ext (.t 57) 0)⟩, []),
  (⟨(some 69), none, (.ext (.t 57) 1)⟩, []),
  (⟨(some 15), none, (.alloc [(.sl none 0 0 true 0)])⟩, []),
  (⟨none, none, (.st 1 (.t 15) (.t 68))⟩, []),
  (⟨(some 16), none, (.val (.t 69))⟩, [])]
theorem r6_15 {fn : AFun} {K : List AItem} {t : Nat → AV} {H : AH} {T : Tbl} : runR T fn (.code (.drw d6_15) :: K) t H = regR T fn K (aops (callR T) [
  ⟨(some 58), none, (.ld (some 1) (.t 12))⟩,
  ⟨(some 59), none, (.val (.t 1))⟩,
  ⟨(some 60), none, (.val (.t 1))⟩,
  ⟨(some 61), none, (.len (.t 60))⟩,
  ⟨(some 62), none, (.bin .sub (.t 61) (.c (.i .i64 1)))⟩,
  ⟨(some 63), none, (.val (.t 14))⟩,
  ⟨(some 64), none, (.bin .sub (.t 62) (.t 63))⟩,
  ⟨(some 65), none, (.ia 1 (.t 59) (.t 64))⟩,
  ⟨(some 66), none, (.ld none (.t 65))⟩,
  ⟨(some 67), none, (.call 8 [(.t 58), (.t 66)])⟩,
  ⟨(some 57), none, (.val (.t 67))⟩,
  ⟨(some 68), none, (.ext (.t 57) 0)⟩,
  ⟨(some 69), none, (.ext (.t 57) 1)⟩,
  ⟨(some 15), none, (.alloc [(.sl none 0 0 true 0)])⟩,
  ⟨none, none, (.st 1 (.t 15) (.t 68))⟩,
  ⟨(some 16), none, (.val (.t 69))⟩] t H) := runR_plain rfl
def d6_16 : List AOper := [
  ⟨(some 70), none, (.ld (some 1) (.t 15))⟩,
  ⟨none, none, (.st 1 (.t 12) (.t 70))⟩]
theorem r6_16 {fn : AFun} {K : List AItem} {t : Nat → AV} {H : AH} {T : Tbl} : runR T fn (.code (.reg d6_16) :: K) t H = regR T fn K (aops (callR T) [
  ⟨(some 70), none, (.ld (some 1) (.t 15))⟩,
  ⟨none, none, (.st 1 (.t 12) (.t 70))⟩] t H) := runR_reg'
def d6_17 : List AOper := [
  ⟨(some 71), none, (.val (.t 16))⟩]
theorem r6_17 {fn : AFun} {K : List AItem} {t : Nat → AV} {H : AH} {T : Tbl} : runR T fn (.code (.reg d6_17) :: K) t H = regR T fn K (aops (callR T) [
  ⟨(some 71), none, (.val (.t 16))⟩] t H) := runR_reg'
def d6_18 : List AOper := [
  ⟨(some 72), none, (.val (.t 13))⟩,
  ⟨(some 73), none, (.bin .add (.t 72) (.c (.i .i64 1)))⟩,
  ⟨(some 13), none, (.val (.t 73))⟩]
theorem r6_18 {fn : AFun} {K : List AItem} {t : Nat → AV} {H : AH} {T : Tbl} : runR T fn (.code (.reg d6_18) :: K) t H = regR T fn K (aops (callR T) [
  ⟨(some 72), none, (.val (.t 13))⟩,
  ⟨(some 73), none, (.bin .add (.t 72) (.c (.i .i64 1)))⟩,
  ⟨(some 13), none, (.val (.t 73))⟩] t H) := runR_reg'
def d6_19 : List AOper := [
  ⟨(some 74), none, (.bin .add (.t 54) (.c (.i .i64 1)))⟩,
  ⟨(some 54), none, (.val (.t 74))⟩]
theorem r6_19 {fn : AFun} {K : List AItem} {t : Nat → AV} {H : AH} {T : Tbl} : runR T fn (.code (.reg d6_19) :: K) t H = regR T fn K (aops (callR T) [
  ⟨(some 74), none, (.bin .add (.t 54) (.c (.i .i64 1)))⟩,
  ⟨(some 54), none, (.val (.t 74))⟩] t H) := runR_reg'
def l6_20 : ACode := (.seq (.reg d6_13) (.seq (.cond (.t 55) .skip (.exit 2)) (.seq (.block 3 (.seq (.reg d6_14) (.seq (.drw d6_15) (.seq (.reg d6_16) (.seq (.reg d6_17) (.cond (.t 71) (.reg d6_18) .skip)))))) (.reg d6_19))))
def d6_21 : List AOper := [
  ⟨(some 76), none, (.ld (some 1) (.t 10))⟩,
  ⟨(some 77), none, (.val (.t 2))⟩,
  ⟨(some 78), none, (.call 16 [(.t 76), (.t 77)])⟩,
  ⟨(some 75), none, (.val (.t 78))⟩,
  ⟨(some 79), none, (.ext (.t 75) 0)⟩,
  ⟨(some 80), none, (.ext (.t 75) 1)⟩,
  ⟨(some 17), none, (.alloc [(.sl none 0 0 true 0)])⟩,
  ⟨none, none, (.st 1 (.t 17) (.t 79))⟩,
  ⟨(some 18), none, (.val (.t 80))⟩]
theorem r6_21 {fn : AFun} {K : List AItem} {t : Nat → AV} {H : AH} {T : Tbl} : runR T fn (.code (.reg d6_21) :: K) t H = regR T fn K (aops (callR T) [
  ⟨(some 76), none, (.ld (some 1) (.t 10))⟩,
  ⟨(some 77), none, (.val (.t 2))⟩,
  ⟨(some 78), none, (.call 16 [(.t 76), (.t 77)])⟩,
  ⟨(some 75), none, (.val (.t 78))⟩,
  ⟨(some 79), none, (.ext (.t 75) 0)⟩,
  ⟨(some 80), none, (.ext (.t 75) 1)⟩,
  ⟨(some 17), none, (.alloc [(.sl none 0 0 true 0)])⟩,
  ⟨none, none, (.st 1 (.t 17) (.t 79))⟩,
  ⟨(some 18), none, (.val (.t 80))⟩] t H) := runR_reg'
def d6_22 : List AOper := [
  ⟨(some 81), none, .mkm⟩,
  ⟨(some 19), none, (.val (.t 81))⟩]
theorem r6_22 {fn : AFun} {K : List AItem} {t : Nat → AV} {H : AH} {T : Tbl} : runR T fn (.code (.reg d6_22) :: K) t H = regR T fn K (aops (callR T) [
  ⟨(some 81), none, .mkm⟩,
  ⟨(some 19), none, (.val (.t 81))⟩] t H) := runR_reg'
def d6_23 : List AOper := [
  ⟨(some 82), none, (.ld (some 1) (.t 10))⟩,
  ⟨(some 83), none, (.call 19 [(.t 82)])⟩,
  ⟨(some 84), none, (.len (.t 83))⟩,
  ⟨(some 85), none, (.val (.c (.i .i64 0)))⟩]
theorem r6_23 {fn : AFun} {K : List AItem} {t : Nat → AV} {H : AH} {T : Tbl} : runR T fn (.code (.reg d6_23) :: K) t H = regR T fn K (aops (callR T) [
  ⟨(some 82), none, (.ld (some 1) (.t 10))⟩,
  ⟨(some 83), none, (.call 19 [(.t 82)])⟩,
  ⟨(some 84), none, (.len (.t 83))⟩,
  ⟨(some 85), none, (.val (.c (.i .i64 0)))⟩] t H) := runR_reg'
def d6_24 : List AOper := [
  ⟨(some 86), none, (.bin .lss (.t 85) (.t 84))⟩]
theorem r6_24 {fn : AFun} {K : List AItem} {t : Nat → AV} {H : AH} {T : Tbl} : runR T fn (.code (.reg d6_24) :: K) t H = regR T fn K (aops (callR T) [
  ⟨(some 86), none, (.bin .lss (.t 85) (.t 84))⟩] t H) := runR_reg'
def d6_25 : List AOper := [
  ⟨(some 87), none, (.ia 1 (.t 83) (.t 85))⟩,
  ⟨(some 88), none, (.ld none (.t 87))⟩,
  ⟨(some 21), none, (.val (.t 88))⟩]
theorem r6_25 {fn : AFun} {K : List AItem} {t : Nat → AV} {H : AH} {T : Tbl} : runR T fn (.code (.reg d6_25) :: K) t H = regR T fn K (aops (callR T) [
  ⟨(some 87), none, (.ia 1 (.t 83) (.t 85))⟩,
  ⟨(some 88), none, (.ld none (.t 87))⟩,
  ⟨(some 21), none, (.val (.t 88))⟩] t H) := runR_reg'
def d6_26 : List AOper := [
  ⟨(some 89), none, (.val (.t 19))⟩,
  ⟨(some 90), none, (.val (.t 21))⟩,
  ⟨(some 91), none, (.lk [0] (.b false) (.t 89) (.t 90) false)⟩]
theorem r6_26 {fn : AFun} {K : List AItem} {t : Nat → AV} {H : AH} {T : Tbl} : runR T fn (.code (.reg d6_26) :: K) t H = regR T fn K (aops (callR T) [
  ⟨(some 89), none, (.val (.t 19))⟩,
  ⟨(some 90), none, (.val (.t 21))⟩,
  ⟨(some 91), none, (.lk [0] (.b false) (.t 89) (.t 90) false)⟩] t H) := runR_reg'
def d6_27 : List AOper := [
  ⟨(some 6), none, (.val (.c (.b false)))⟩]
theorem r6_27 {fn : AFun} {K : List AItem} {t : Nat → AV} {H : AH} {T : Tbl} : runR T fn (.code (.reg d6_27) :: K) t H = regR T fn K (aops (callR T) [
  ⟨(some 6), none, (.val (.c (.b false)))⟩] t H) := runR_reg'
def d6_28 : List AOper := [
  ⟨(some 92), none, (.val (.t 19))⟩,
  ⟨(some 93), none, (.val (.t 21))⟩,
  ⟨none, none, (.mu [0] (.t 92) (.t 93) (.c (.b true)))⟩]
theorem r6_28 {fn : AFun} {K : List AItem} {t : Nat → AV} {H : AH} {T : Tbl} : runR T fn (.code (.reg d6_28) :: K) t H = regR T fn K (aops (callR T) [
  ⟨(some 92), none, (.val (.t 19))⟩,
  ⟨(some 93), none, (.val (.t 21))⟩,
  ⟨none, none, (.mu [0] (.t 92) (.t 93) (.c (.b true)))⟩] t H) := runR_reg'
def d6_29 : List AOper := [
  ⟨(some 94), none, (.bin .add (.t 85) (.c (.i .i64 1)))⟩,
  ⟨(some 85), none, (.val (.t 94))⟩]
theorem r6_29 {fn : AFun} {K : List AItem} {t : Nat → AV} {H : AH} {T : Tbl} : runR T fn (.code (.reg d6_29) :: K) t H = regR T fn K (aops (callR T) [
  ⟨(some 94), none, (.bin .add (.t 85) (.c (.i .i64 1)))⟩,
  ⟨(some 85), none, (.val (.t 94))⟩] t H) := runR_reg'
def l6_30 : ACode := (.seq (.reg d6_24) (.seq (.cond (.t 86) .skip (.exit 4)) (.seq (.block 5 (.seq (.reg d6_25) (.seq (.seq (.reg d6_26) (.cond (.t 91) (.seq (.reg d6_27) .ret) .skip)) (.reg d6_28)))) (.reg d6_29))))
def d6_31 : List AOper := [
  ⟨(some 22), none, (.val (.c (.i .i64 0)))⟩]
theorem r6_31 {fn : AFun} {K : List AItem} {t : Nat → AV} {H : AH} {T : Tbl} : runR T fn (.code (.reg d6_31) :: K) t H = regR T fn K (aops (callR T) [
  ⟨(some 22), none, (.val (.c (.i .i64 0)))⟩] t H) := runR_reg'
def d6_32 : List AOper := [
  ⟨(some 95), none, (.val (.t 18))⟩]
theorem r6_32 {fn : AFun} {K : List AItem} {t : Nat → AV} {H : AH} {T : Tbl} : runR T fn (.code (.reg d6_32) :: K) t H = regR T fn K (aops (callR T) [
  ⟨(some 95), none, (.val (.t 18))⟩] t H) := runR_reg'
def d6_33 : List AOper := [
  ⟨(some 22), none, (.val (.c (.i .i64 1)))⟩]
theorem r6_33 {fn : AFun} {K : List AItem} {t : Nat → AV} {H : AH} {T : Tbl} : runR T fn (.code (.reg d6_33) :: K) t H = regR T fn K (aops (callR T) [
  ⟨(some 22), none, (.val (.c (.i .i64 1)))⟩] t H) := runR_reg'
def d6_34 : List (AOper × List Nat) := [
  (⟨(some 96), none, (.ld (some 1) (.t 10))⟩, [1]),
  (⟨(some 97), none, (.call 19 [(.t 96)])⟩, []),
  (⟨(some 98), none, (.ld (some 1) (.t 12))⟩, [2]),
  (⟨(some 99), none, (.call 19 [(.t 98)])⟩, []),
  (⟨(some 100), none, (.call 18 [(.t 97), (.t 99)])⟩, []),
  (⟨(some 101), none, (.val (.t 100))⟩, []),
  (⟨(some 102), (some (101, true)), (.val (.t 11))⟩, []),
  (⟨(some 103), (some (101, true)), (.val (.t 13))⟩, []),
  (⟨(some 104), (some (101, true)), (.bin .eql (.t 102) (.t 103))⟩, []),
  (⟨(some 105), none, (.pick (.t 101) (.t 104) (.c (.b false)))⟩, []),
  (⟨(some 106), none, (.val (.t 105))⟩, []),
  (⟨(some 107), (some (106, true)), (.ld (some 1) (.t 10))⟩, [1]),
  (⟨(some 108), (some (106, true)), (.call 10 [(.t 107)])⟩, []),
  (⟨(some 109), (some (106, true)), (.ld (some 1) (.t 7))⟩, [2]),
  (⟨(some 110), (some (106, true)), (.call 10 [(.t 109)])⟩, []),
  (⟨(some 111), (some (106, true)), (.val (.t 11))⟩, []),
  (⟨(some 112), (some (106, true)), (.bin .add (.t 110) (.t 111))⟩, []),
  (⟨(some 113), (some (106, true)), (.bin .eql (.t 108) (.t 112))⟩, []),
  (⟨(some 114), none, (.pick (.t 106) (.t 113) (.c (.b false)))⟩, []),
  (⟨(some 115), none, (.val (.t 114))⟩, []),
  (⟨(some 116), (some (115, true)), (.val (.t 18))⟩, []),
  (⟨(some 117), (some (115, true)), (.ld (some 1) (.t 10))⟩, [1]),
  (⟨(some 118), (some (115, true)), (.val (.t 2))⟩, []),
  (⟨(some 119), (some (115, true)), (.call 20 [(.t 117), (.t 118)])⟩, []),
  (⟨(some 120), (some (115, true)), (.eqb false (.t 116) (.t 119))⟩, []),
  (⟨(some 121), none, (.pick (.t 115) (.t 120) (.c (.b false)))⟩, []),
  (⟨(some 122), none, (.val (.t 121))⟩, []),
  (⟨(some 123), (some (122, true)), (.ld (some 1) (.t 17))⟩, [1]),
  (⟨(some 124), (some (122, true)), (.val (.t 2))⟩, []),
  (⟨(some 125), (some (122, true)), (.call 20 [(.t 123), (.t 124)])⟩, []),
  (⟨(some 126), (some (122, true)), (.un .not (.t 125))⟩, []),
  (⟨(some 127), none, (.pick (.t 122) (.t 126) (.c (.b false)))⟩, []),
  (⟨(some 128), none, (.val (.t 127))⟩, []),
  (⟨(some 129), (some (128, true)), (.ld (some 1) (.t 17))⟩, [1]),
  (⟨(some 130), (some (128, true)), (.call 10 [(.t 129)])⟩, []),
  (⟨(some 131), (some (128, true)), (.ld (some 1) (.t 10))⟩, [2]),
  (⟨(some 132), (some (128, true)), (.call 10 [(.t 131)])⟩, []),
  (⟨(some 133), (some (128, true)), (.val (.t 22))⟩, []),
  (⟨(some 134), (some (128, true)), (.bin .sub (.t 132) (.t 133))⟩, []),
  (⟨(some 135), (some (128, true)), (.bin .eql (.t 130) (.t 134))⟩, []),
  (⟨(some 136), none, (.pick (.t 128) (.t 135) (.c (.b false)))⟩, []),
  (⟨(some 137), none, (.val (.t 136))⟩, []),
  (⟨(some 138), (some (137, true)), (.call 7 [])⟩, []),
  (⟨(some 139), none, (.pick (.t 137) (.t 138) (.c (.b false)))⟩, []),
  (⟨(some 6), none, (.val (.t 139))⟩, [])]
theorem r6_34 {fn : AFun} {K : List AItem} {t : Nat → AV} {H : AH} {T : Tbl} : runR T fn (.code (.drw d6_34) :: K) t H = regR T fn K (adrn (callR T) [
  (⟨(some 96), none, (.ld (some 1) (.t 10))⟩, [1]),
  (⟨(some 97), none, (.call 19 [(.t 96)])⟩, []),
  (⟨(some 98), none, (.ld (some 1) (.t 12))⟩, [2]),
  (⟨(some 99), none, (.call 19 [(.t 98)])⟩, []),
  (⟨(some 100), none, (.call 18 [(.t 97), (.t 99)])⟩, []),
  (⟨(some 101), none, (.val (.t 100))⟩, []),
  (⟨(some 102), (some (101, true)), (.val (.t 11))⟩, []),
  (⟨(some 103), (some (101, true)), (.val (.t 13))⟩, []),
  (⟨(some 104), (some (101, true)), (.bin .eql (.t 102) (.t 103))⟩, []),
  (⟨(some 105), none, (.pick (.t 101) (.t 104) (.c (.b false)))⟩, []),
  (⟨(some 106), none, (.val (.t 105))⟩, []),
  (⟨(some 107), (some (106, true)), (.ld (some 1) (.t 10))⟩, [1]),
  (⟨(some 108), (some (106, true)), (.call 10 [(.t 107)])⟩, []),
  (⟨(some 109), (some (106, true)), (.ld (some 1) (.t 7))⟩, [2]),
  (⟨(some 110), (some (106, true)), (.call 10 [(.t 109)])⟩, []),
  (⟨(some 111), (some (106, true)), (.val (.t 11))⟩, []),
  (⟨(some 112), (some (106, true)), (.bin .add (.t 110) (.t 111))⟩, []),
  (⟨(some 113), (some (106, true)), (.bin .eql (.t 108) (.t 112))⟩, []),
  (⟨(some 114), none, (.pick (.t 106) (.t 113) (.c (.b false)))⟩, []),
  (⟨(some 115), none, (.val (.t 114))⟩, []),
  (⟨(some 116), (some (115, true)), (.val (.t 18))⟩, []),
  (⟨(some 117), (some (115, true)), (.ld (some 1) (.t 10))⟩, [1]),
  (⟨(some 118), (some (115, true)), (.val (.t 2))⟩, []),
  (⟨(some 119), (some (115, true)), (.call 20 [(.t 117), (.t 118)])⟩, []),
  (⟨(some 120), (some (115, true)), (.eqb false (.t 116) (.t 119))⟩, []),
  (⟨(some 121), none, (.pick (.t 115) (.t 120) (.c (.b false)))⟩, []),
  (⟨(some 122), none, (.val (.t 121))⟩, []),
  (⟨(some 123), (some (122, true)), (.ld (some 1) (.t 17))⟩, [1]),
  (⟨(some 124), (some (122, true)), (.val (.t 2))⟩, []),
  (⟨(some 125), (some (122, true)), (.call 20 [(.t 123), (.t 124)])⟩, []),
  (⟨(some 126), (some (122, true)), (.un .not (.t 125))⟩, []),
  (⟨(some 127), none, (.pick (.t 122) (.t 126) (.c (.b false)))⟩, []),
  (⟨(some 128), none, (.val (.t 127))⟩, []),
  (⟨(some 129), (some (128, true)), (.ld (some 1) (.t 17))⟩, [1]),
  (⟨(some 130), (some (128, true)), (.call 10 [(.t 129)])⟩, []),
  (⟨(some 131), (some (128, true)), (.ld (some 1) (.t 10))⟩, [2]),
  (⟨(some 132), (some (128, true)), (.call 10 [(.t 131)])⟩, []),
  (⟨(some 133), (some (128, true)), (.val (.t 22))⟩, []),
  (⟨(some 134), (some (128, true)), (.bin .sub (.t 132) (.t 133))⟩, []),
  (⟨(some 135), (some (128, true)), (.bin .eql (.t 130) (.t 134))⟩, []),
  (⟨(some 136), none, (.pick (.t 128) (.t 135) (.c (.b false)))⟩, []),
  (⟨(some 137), none, (.val (.t 136))⟩, []),
  (⟨(some 138), (some (137, true)), (.call 7 [])⟩, []),
  (⟨(some 139), none, (.pick (.t 137) (.t 138) (.c (.b false)))⟩, []),
  (⟨(some 6), none, (.val (.t 139))⟩, [])] t H [H]) := runR_free rfl
def a6 : AFun := ⟨140, [(.tmp 6)], (.seq (.reg d6_0) (.seq (.seq (.reg d6_1) (.cond (.t 30) (.seq (.reg d6_2) .ret) .skip)) (.seq (.reg d6_3) (.seq (.seq (.reg d6_4) (.block 0 (.loop l6_9))) (.seq (.reg d6_10) (.seq (.reg d6_11) (.seq (.seq (.reg d6_12) (.block 2 (.loop l6_20))) (.seq (.reg d6_21) (.seq (.reg d6_22) (.seq (.seq (.reg d6_23) (.block 4 (.loop l6_30))) (.seq (.reg d6_31) (.seq (.seq (.reg d6_32) (.cond (.t 95) (.reg d6_33) .skip)) (.seq (.drw d6_34) .ret)))))))))))))⟩
theorem a6_ok : cfun Try.prog 6 = some a6 := by kernel_rfl
/-- futtock/futtocklaw12.alive -/
def d7_0 : List AOper := [
  ⟨(some 0), none, (.val (.c (.b false)))⟩]
theorem r7_0 {fn : AFun} {K : List AItem} {t : Nat → AV} {H : AH} {T : Tbl} : runR T fn (.code (.reg d7_0) :: K) t H = regR T fn K (aops (callR T) [
  ⟨(some 0), none, (.val (.c (.b false)))⟩] t H) := runR_reg'
def d7_1 : List AOper := [
  ⟨(some 7), none, (.build [(.sl none 0 0 true 0)] [])⟩,
  ⟨(some 8), none, (.bsl [(.i .i64 0)] 3 [(0, 1, (.c (.i .i64 3))), (1, 1, (.c (.i .i64 2))), (2, 1, (.c (.i .i64 1)))])⟩,
  ⟨(some 9), none, (.call 14 [(.t 7), (.t 8)])⟩,
  ⟨(some 6), none, (.val (.t 9))⟩,
  ⟨(some 10), none, (.ext (.t 6) 0)⟩,
  ⟨(some 11), none, (.ext (.t 6) 1)⟩,
  ⟨(some 1), none, (.alloc [(.sl none 0 0 true 0)])⟩,
  ⟨none, none, (.st 1 (.t 1) (.t 10))⟩,
  ⟨(some 2), none, (.val (.t 11))⟩]
theorem r7_1 {fn : AFun} {K : List AItem} {t : Nat → AV} {H : AH} {T : Tbl} : runR T fn (.code (.reg d7_1) :: K) t H = regR T fn K (aops (callR T) [
  ⟨(some 7), none, (.build [(.sl none 0 0 true 0)] [])⟩,
  ⟨(some 8), none, (.bsl [(.i .i64 0)] 3 [(0, 1, (.c (.i .i64 3))), (1, 1, (.c (.i .i64 2))), (2, 1, (.c (.i .i64 1)))])⟩,
  ⟨(some 9), none, (.call 14 [(.t 7), (.t 8)])⟩,
  ⟨(some 6), none, (.val (.t 9))⟩,
  ⟨(some 10), none, (.ext (.t 6) 0)⟩,
  ⟨(some 11), none, (.ext (.t 6) 1)⟩,
  ⟨(some 1), none, (.alloc [(.sl none 0 0 true 0)])⟩,
  ⟨none, none, (.st 1 (.t 1) (.t 10))⟩,
  ⟨(some 2), none, (.val (.t 11))⟩] t H) := runR_reg'
def d7_2 : List AOper := [
  ⟨(some 13), none, (.ld (some 1) (.t 1))⟩,
  ⟨(some 14), none, (.call 9 [(.t 13)])⟩,
  ⟨(some 12), none, (.val (.t 14))⟩,
  ⟨(some 15), none, (.ext (.t 12) 0)⟩,
  ⟨(some 16), none, (.ext (.t 12) 1)⟩,
  ⟨(some 17), none, (.ext (.t 12) 2)⟩,
  ⟨(some 4), none, (.alloc [(.sl none 0 0 true 0)])⟩,
  ⟨(some 3), none, (.val (.t 15))⟩,
  ⟨none, none, (.st 1 (.t 4) (.t 16))⟩,
  ⟨(some 5), none, (.val (.t 17))⟩]
theorem r7_2 {fn : AFun} {K : List AItem} {t : Nat → AV} {H : AH} {T : Tbl} : runR T fn (.code (.reg d7_2) :: K) t H = regR T fn K (aops (callR T) [
  ⟨(some 13), none, (.ld (some 1) (.t 1))⟩,
  ⟨(some 14), none, (.call 9 [(.t 13)])⟩,
  ⟨(some 12), none, (.val (.t 14))⟩,
  ⟨(some 15), none, (.ext (.t 12) 0)⟩,
  ⟨(some 16), none, (.ext (.t 12) 1)⟩,
  ⟨(some 17), none, (.ext (.t 12) 2)⟩,
  ⟨(some 4), none, (.alloc [(.sl none 0 0 true 0)])⟩,
  ⟨(some 3), none, (.val (.t 15))⟩,
  ⟨none, none, (.st 1 (.t 4) (.t 16))⟩,
  ⟨(some 5), none, (.val (.t 17))⟩] t H) := runR_reg'
def d7_3 : List AOper := [
  ⟨(some 18), none, (.val (.t 2))⟩,
  ⟨(some 19), none, (.bin .eql (.t 18) (.c (.i .i64 3)))⟩,
  ⟨(some 20), none, (.val (.t 19))⟩,
  ⟨(some 21), (some (20, true)), (.val (.t 3))⟩,
  ⟨(some 22), (some (20, true)), (.bin .eql (.t 21) (.c (.i .i64 1)))⟩,
  ⟨(some 23), none, (.pick (.t 20) (.t 22) (.c (.b false)))⟩,
  ⟨(some 24), none, (.val (.t 23))⟩,
  ⟨(some 25), (some (24, true)), (.val (.t 5))⟩,
  ⟨(some 26), none, (.pick (.t 24) (.t 25) (.c (.b false)))⟩,
  ⟨(some 27), none, (.val (.t 26))⟩,
  ⟨(some 28), (some (27, true)), (.ld (some 1) (.t 4))⟩,
  ⟨(some 29), (some (27, true)), (.call 10 [(.t 28)])⟩,
  ⟨(some 30), (some (27, true)), (.bin .eql (.t 29) (.c (.i .i64 2)))⟩,
  ⟨(some 31), none, (.pick (.t 27) (.t 30) (.c (.b false)))⟩,
  ⟨(some 32), none, (.val (.t 31))⟩,
  ⟨(some 33), (some (32, true)), (.ld (some 1) (.t 1))⟩,
  ⟨(some 34), (some (32, true)), (.call 10 [(.t 33)])⟩,
  ⟨(some 35), (some (32, true)), (.bin .eql (.t 34) (.c (.i .i64 3)))⟩,
  ⟨(some 36), none, (.pick (.t 32) (.t 35) (.c (.b false)))⟩,
  ⟨(some 0), none, (.val (.t 36))⟩]
theorem r7_3 {fn : AFun} {K : List AItem} {t : Nat → AV} {H : AH} {T : Tbl} : runR T fn (.code (.reg d7_3) :: K) t H = regR T fn K (aops (callR T) [
  ⟨(some 18), none, (.val (.t 2))⟩,
  ⟨(some 19), none, (.bin .eql (.t 18) (.c (.i .i64 3)))⟩,
  ⟨(some 20), none, (.val (.t 19))⟩,
  ⟨(some 21), (some (20, true)), (.val (.t 3))⟩,
  ⟨(some 22), (some (20, true)), (.bin .eql (.t 21) (.c (.i .i64 1)))⟩,
  ⟨(some 23), none, (.pick (.t 20) (.t 22) (.c (.b false)))⟩,
  ⟨(some 24), none, (.val (.t 23))⟩,
  ⟨(some 25), (some (24, true)), (.val (.t 5))⟩,
  ⟨(some 26), none, (.pick (.t 24) (.t 25) (.c (.b false)))⟩,
  ⟨(some 27), none, (.val (.t 26))⟩,
  ⟨(some 28), (some (27, true)), (.ld (some 1) (.t 4))⟩,
  ⟨(some 29), (some (27, true)), (.call 10 [(.t 28)])⟩,
  ⟨(some 30), (some (27, true)), (.bin .eql (.t 29) (.c (.i .i64 2)))⟩,
  ⟨(some 31), none, (.pick (.t 27) (.t 30) (.c (.b false)))⟩,
  ⟨(some 32), none, (.val (.t 31))⟩,
  ⟨(some 33), (some (32, true)), (.ld (some 1) (.t 1))⟩,
  ⟨(some 34), (some (32, true)), (.call 10 [(.t 33)])⟩,
  ⟨(some 35), (some (32, true)), (.bin .eql (.t 34) (.c (.i .i64 3)))⟩,
  ⟨(some 36), none, (.pick (.t 32) (.t 35) (.c (.b false)))⟩,
  ⟨(some 0), none, (.val (.t 36))⟩] t H) := runR_reg'
def a7 : AFun := ⟨37, [(.tmp 0)], (.seq (.reg d7_0) (.seq (.reg d7_1) (.seq (.reg d7_2) (.seq (.reg d7_3) .ret))))⟩
theorem a7_ok : cfun Try.prog 7 = some a7 := by kernel_rfl
/-- (futtock/queue.Queue).Append -/
def d8_0 : List AOper := [
  ⟨(some 2), none, (.box (.t 0))⟩,
  ⟨(some 4), none, (.alloc [(.sl none 0 0 true 0)])⟩,
  ⟨(some 5), none, (.val (.c (.b false)))⟩]
theorem r8_0 {fn : AFun} {K : List AItem} {t : Nat → AV} {H : AH} {T : Tbl} : runR T fn (.code (.reg d8_0) :: K) t H = regR T fn K (aops (callR T) [
  ⟨(some 2), none, (.box (.t 0))⟩,
  ⟨(some 4), none, (.alloc [(.sl none 0 0 true 0)])⟩,
  ⟨(some 5), none, (.val (.c (.b false)))⟩] t H) := runR_reg'
def d8_1 : List AOper := [
  ⟨(some 7), none, (.val (.t 1))⟩,
  ⟨(some 8), none, (.bin .lss (.t 7) (.c (.i .i64 0)))⟩,
  ⟨(some 9), none, (.val (.t 8))⟩,
  ⟨(some 10), (some (9, false)), (.val (.t 1))⟩,
  ⟨(some 11), (some (9, false)), (.bin .gtr (.t 10) (.c (.i .i64 65534)))⟩,
  ⟨(some 12), none, (.pick (.t 9) (.c (.b true)) (.t 11))⟩,
  ⟨(some 13), none, (.val (.t 12))⟩,
  ⟨(some 14), (some (13, false)), (.ld (some 1) (.t 2))⟩,
  ⟨(some 15), (some (13, false)), (.val (.t 1))⟩,
  ⟨(some 16), (some (13, false)), (.call 20 [(.t 14), (.t 15)])⟩,
  ⟨(some 17), none, (.pick (.t 13) (.c (.b true)) (.t 16))⟩]
theorem r8_1 {fn : AFun} {K : List AItem} {t : Nat → AV} {H : AH} {T : Tbl} : runR T fn (.code (.reg d8_1) :: K) t H = regR T fn K (aops (callR T) [
  ⟨(some 7), none, (.val (.t 1))⟩,
  ⟨(some 8), none, (.bin .lss (.t 7) (.c (.i .i64 0)))⟩,
  ⟨(some 9), none, (.val (.t 8))⟩,
  ⟨(some 10), (some (9, false)), (.val (.t 1))⟩,
  ⟨(some 11), (some (9, false)), (.bin .gtr (.t 10) (.c (.i .i64 65534)))⟩,
  ⟨(some 12), none, (.pick (.t 9) (.c (.b true)) (.t 11))⟩,
  ⟨(some 13), none, (.val (.t 12))⟩,
  ⟨(some 14), (some (13, false)), (.ld (some 1) (.t 2))⟩,
  ⟨(some 15), (some (13, false)), (.val (.t 1))⟩,
  ⟨(some 16), (some (13, false)), (.call 20 [(.t 14), (.t 15)])⟩,
  ⟨(some 17), none, (.pick (.t 13) (.c (.b true)) (.t 16))⟩] t H) := runR_reg'
def d8_2 : List AOper := [
  ⟨(some 18), none, (.ld (some 1) (.t 2))⟩,
  ⟨none, none, (.st 1 (.t 4) (.t 18))⟩,
  ⟨(some 5), none, (.val (.c (.b false)))⟩]
theorem r8_2 {fn : AFun} {K : List AItem} {t : Nat → AV} {H : AH} {T : Tbl} : runR T fn (.code (.reg d8_2) :: K) t H = regR T fn K (aops (callR T) [
  ⟨(some 18), none, (.ld (some 1) (.t 2))⟩,
  ⟨none, none, (.st 1 (.t 4) (.t 18))⟩,
  ⟨(some 5), none, (.val (.c (.b false)))⟩] t H) := runR_reg'
def d8_3 : List AOper := [
  ⟨(some 19), none, (.fa 0 (.t 2))⟩,
  ⟨(some 20), none, (.ld none (.t 19))⟩,
  ⟨(some 21), none, (.len (.t 20))⟩,
  ⟨(some 6), none, (.val (.t 21))⟩]
theorem r8_3 {fn : AFun} {K : List AItem} {t : Nat → AV} {H : AH} {T : Tbl} : runR T fn (.code (.reg d8_3) :: K) t H = regR T fn K (aops (callR T) [
  ⟨(some 19), none, (.fa 0 (.t 2))⟩,
  ⟨(some 20), none, (.ld none (.t 19))⟩,
  ⟨(some 21), none, (.len (.t 20))⟩,
  ⟨(some 6), none, (.val (.t 21))⟩] t H) := runR_reg'
def d8_4 : List AOper := [
  ⟨(some 22), none, (.fa 0 (.t 2))⟩,
  ⟨(some 23), none, (.ld none (.t 22))⟩,
  ⟨(some 24), none, (.val (.t 6))⟩,
  ⟨(some 25), none, (.val (.t 6))⟩,
  ⟨(some 26), none, (.sls 1 (.t 23) none (some (.t 24)) (some (.t 25)))⟩,
  ⟨(some 27), none, (.val (.t 1))⟩,
  ⟨(some 28), none, (.bsl [(.i .i64 0)] 1 [(0, 1, (.t 27))])⟩,
  ⟨(some 29), none, (.app [(.i .i64 0)] 8 (.t 26) (.t 28))⟩,
  ⟨(some 30), none, (.build [(.sl none 0 0 true 0)] [(0, 1, (.t 29))])⟩,
  ⟨none, none, (.st 1 (.t 4) (.t 30))⟩,
  ⟨(some 5), none, (.val (.c (.b true)))⟩]
theorem r8_4 {fn : AFun} {K : List AItem} {t : Nat → AV} {H : AH} {T : Tbl} : runR T fn (.code (.reg d8_4) :: K) t H = regR T fn K (aops (callR T) [
  ⟨(some 22), none, (.fa 0 (.t 2))⟩,
  ⟨(some 23), none, (.ld none (.t 22))⟩,
  ⟨(some 24), none, (.val (.t 6))⟩,
  ⟨(some 25), none, (.val (.t 6))⟩,
  ⟨(some 26), none, (.sls 1 (.t 23) none (some (.t 24)) (some (.t 25)))⟩,
  ⟨(some 27), none, (.val (.t 1))⟩,
  ⟨(some 28), none, (.bsl [(.i .i64 0)] 1 [(0, 1, (.t 27))])⟩,
  ⟨(some 29), none, (.app [(.i .i64 0)] 8 (.t 26) (.t 28))⟩,
  ⟨(some 30), none, (.build [(.sl none 0 0 true 0)] [(0, 1, (.t 29))])⟩,
  ⟨none, none, (.st 1 (.t 4) (.t 30))⟩,
  ⟨(some 5), none, (.val (.c (.b true)))⟩] t H) := runR_reg'
def a8 : AFun := ⟨31, [(.cell 4 (some 1)), (.tmp 5)], (.seq (.reg d8_0) (.seq (.seq (.reg d8_1) (.cond (.t 17) (.seq (.reg d8_2) .ret) .skip)) (.seq (.reg d8_3) (.seq (.reg d8_4) .ret))))⟩
theorem a8_ok : cfun Try.prog 8 = some a8 := by kernel_rfl
/-- (futtock/queue.Queue).Pop -/
def d9_0 : List AOper := [
  ⟨(some 1), none, (.box (.t 0))⟩,
  ⟨(some 2), none, (.val (.c (.i .i64 0)))⟩,
  ⟨(some 3), none, (.alloc [(.sl none 0 0 true 0)])⟩,
  ⟨(some 4), none, (.val (.c (.b false)))⟩]
theorem r9_0 {fn : AFun} {K : List AItem} {t : Nat → AV} {H : AH} {T : Tbl} : runR T fn (.code (.reg d9_0) :: K) t H = regR T fn K (aops (callR T) [
  ⟨(some 1), none, (.box (.t 0))⟩,
  ⟨(some 2), none, (.val (.c (.i .i64 0)))⟩,
  ⟨(some 3), none, (.alloc [(.sl none 0 0 true 0)])⟩,
  ⟨(some 4), none, (.val (.c (.b false)))⟩] t H) := runR_reg'
def d9_1 : List AOper := [
  ⟨(some 5), none, (.fa 0 (.t 1))⟩,
  ⟨(some 6), none, (.ld none (.t 5))⟩,
  ⟨(some 7), none, (.len (.t 6))⟩,
  ⟨(some 8), none, (.bin .eql (.t 7) (.c (.i .i64 0)))⟩]
theorem r9_1 {fn : AFun} {K : List AItem} {t : Nat → AV} {H : AH} {T : Tbl} : runR T fn (.code (.reg d9_1) :: K) t H = regR T fn K (aops (callR T) [
  ⟨(some 5), none, (.fa 0 (.t 1))⟩,
  ⟨(some 6), none, (.ld none (.t 5))⟩,
  ⟨(some 7), none, (.len (.t 6))⟩,
  ⟨(some 8), none, (.bin .eql (.t 7) (.c (.i .i64 0)))⟩] t H) := runR_reg'
def d9_2 : List (AOper × List Nat) := [
  (⟨(some 9), none, (.ld (some 1) (.t 1))⟩, [1]),
  (⟨(some 2), none, (.val (.c (.i .i64 (-1))))⟩, []),
  (⟨none, none, (.st 1 (.t 3) (.t 9))⟩, []),
  (⟨(some 4), none, (.val (.c (.b false)))⟩, [])]
theorem r9_2 {fn : AFun} {K : List AItem} {t : Nat → AV} {H : AH} {T : Tbl} : runR T fn (.code (.drw d9_2) :: K) t H = regR T fn K (aops (callR T) [
  ⟨(some 9), none, (.ld (some 1) (.t 1))⟩,
  ⟨(some 2), none, (.val (.c (.i .i64 (-1))))⟩,
  ⟨none, none, (.st 1 (.t 3) (.t 9))⟩,
  ⟨(some 4), none, (.val (.c (.b false)))⟩] t H) := runR_plain rfl
def d9_3 : List (AOper × List Nat) := [
  (⟨(some 10), none, (.fa 0 (.t 1))⟩, []),
  (⟨(some 11), none, (.ld none (.t 10))⟩, [1]),
  (⟨(some 12), none, (.ia 1 (.t 11) (.c (.i .i64 0)))⟩, []),
  (⟨(some 13), none, (.ld none (.t 12))⟩, [1]),
  (⟨(some 14), none, (.fa 0 (.t 1))⟩, []),
  (⟨(some 15), none, (.ld none (.t 14))⟩, [1]),
  (⟨(some 16), none, (.sls 1 (.t 15) (some (.c (.i .i64 1))) none none)⟩, []),
  (⟨(some 17), none, (.build [(.sl none 0 0 true 0)] [(0, 1, (.t 16))])⟩, []),
  (⟨(some 2), none, (.val (.t 13))⟩, []),
  (⟨none, none, (.st 1 (.t 3) (.t 17))⟩, []),
  (⟨(some 4), none, (.val (.c (.b true)))⟩, [])]
theorem r9_3 {fn : AFun} {K : List AItem} {t : Nat → AV} {H : AH} {T : Tbl} : runR T fn (.code (.drw d9_3) :: K) t H = regR T fn K (aops (callR T) [
  ⟨(some 10), none, (.fa 0 (.t 1))⟩,
  ⟨(some 11), none, (.ld none (.t 10))⟩,
  ⟨(some 12), none, (.ia 1 (.t 11) (.c (.i .i64 0)))⟩,
  ⟨(some 13), none, (.ld none (.t 12))⟩,
  ⟨(some 14), none, (.fa 0 (.t 1))⟩,
  ⟨(some 15), none, (.ld none (.t 14))⟩,
  ⟨(some 16), none, (.sls 1 (.t 15) (some (.c (.i .i64 1))) none none)⟩,
  ⟨(some 17), none, (.build [(.sl none 0 0 true 0)] [(0, 1, (.t 16))])⟩,
  ⟨(some 2), none, (.val (.t 13))⟩,
  ⟨none, none, (.st 1 (.t 3) (.t 17))⟩,
  ⟨(some 4), none, (.val (.c (.b true)))⟩] t H) := runR_plain rfl
def a9 : AFun := ⟨18, [(.tmp 2), (.cell 3 (some 1)), (.tmp 4)], (.seq (.reg d9_0) (.seq (.seq (.reg d9_1) (.cond (.t 8) (.seq (.drw d9_2) .ret) .skip)) (.seq (.drw d9_3) .ret)))⟩
theorem a9_ok : cfun Try.prog 9 = some a9 := by kernel_rfl
/-- (futtock/queue.Queue).Len -/
def d10_0 : List AOper := [
  ⟨(some 1), none, (.box (.t 0))⟩,
  ⟨(some 2), none, (.val (.c (.i .i64 0)))⟩]
theorem r10_0 {fn : AFun} {K : List AItem} {t : Nat → AV} {H : AH} {T : Tbl} : runR T fn (.code (.reg d10_0) :: K) t H = regR T fn K (aops (callR T) [
  ⟨(some 1), none, (.box (.t 0))⟩,
  ⟨(some 2), none, (.val (.c (.i .i64 0)))⟩] t H) := runR_reg'
def d10_1 : List AOper := [
  ⟨(some 3), none, (.fa 0 (.t 1))⟩,
  ⟨(some 4), none, (.ld none (.t 3))⟩,
  ⟨(some 5), none, (.len (.t 4))⟩,
  ⟨(some 2), none, (.val (.t 5))⟩]
theorem r10_1 {fn : AFun} {K : List AItem} {t : Nat → AV} {H : AH} {T : Tbl} : runR T fn (.code (.reg d10_1) :: K) t H = regR T fn K (aops (callR T) [
  ⟨(some 3), none, (.fa 0 (.t 1))⟩,
  ⟨(some 4), none, (.ld none (.t 3))⟩,
  ⟨(some 5), none, (.len (.t 4))⟩,
  ⟨(some 2), none, (.val (.t 5))⟩] t H) := runR_reg'
def a10 : AFun := ⟨6, [(.tmp 2)], (.seq (.reg d10_0) (.seq (.reg d10_1) .ret))⟩
theorem a10_ok : cfun Try.prog 10 = some a10 := by kernel_rfl
/-- futtock/futtocklaw12.far -/
def d11_0 : List AOper := [
  ⟨(some 2), none, (.val (.c (.b false)))⟩]
theorem r11_0 {fn : AFun} {K : List AItem} {t : Nat → AV} {H : AH} {T : Tbl} : runR T fn (.code (.reg d11_0) :: K) t H = regR T fn K (aops (callR T) [
  ⟨(some 2), none, (.val (.c (.b false)))⟩] t H) := runR_reg'
def d11_1 : List AOper := [
  ⟨(some 3), none, (.val (.c (.i .i64 0)))⟩]
theorem r11_1 {fn : AFun} {K : List AItem} {t : Nat → AV} {H : AH} {T : Tbl} : runR T fn (.code (.reg d11_1) :: K) t H = regR T fn K (aops (callR T) [
  ⟨(some 3), none, (.val (.c (.i .i64 0)))⟩] t H) := runR_reg'
def d11_2 : List AOper := [
  ⟨(some 6), none, (.val (.t 0))⟩,
  ⟨(some 7), none, (.call 12 [(.t 6)])⟩,
  ⟨(some 8), none, (.len (.t 7))⟩,
  ⟨(some 9), none, (.val (.c (.i .i64 0)))⟩]
theorem r11_2 {fn : AFun} {K : List AItem} {t : Nat → AV} {H : AH} {T : Tbl} : runR T fn (.code (.reg d11_2) :: K) t H = regR T fn K (aops (callR T) [
  ⟨(some 6), none, (.val (.t 0))⟩,
  ⟨(some 7), none, (.call 12 [(.t 6)])⟩,
  ⟨(some 8), none, (.len (.t 7))⟩,
  ⟨(some 9), none, (.val (.c (.i .i64 0)))⟩] t H) := runR_reg'
def d11_3 : List AOper := [
  ⟨(some 10), none, (.bin .lss (.t 9) (.t 8))⟩]
theorem r11_3 {fn : AFun} {K : List AItem} {t : Nat → AV} {H : AH} {T : Tbl} : runR T fn (.code (.reg d11_3) :: K) t H = regR T fn K (aops (callR T) [
  ⟨(some 10), none, (.bin .lss (.t 9) (.t 8))⟩] t H) := runR_reg'
def d11_4 : List AOper := [
  ⟨(some 11), none, (.ia 3 (.t 7) (.t 9))⟩,
  ⟨(some 12), none, (.ld (some 3) (.t 11))⟩,
  ⟨(some 5), none, (.alloc [(.i .u8 0), (.i .i64 0), (.sl none 0 0 true 0)])⟩,
  ⟨none, none, (.st 3 (.t 5) (.t 12))⟩]
theorem r11_4 {fn : AFun} {K : List AItem} {t : Nat → AV} {H : AH} {T : Tbl} : runR T fn (.code (.reg d11_4) :: K) t H = regR T fn K (aops (callR T) [
  ⟨(some 11), none, (.ia 3 (.t 7) (.t 9))⟩,
  ⟨(some 12), none, (.ld (some 3) (.t 11))⟩,
  ⟨(some 5), none, (.alloc [(.i .u8 0), (.i .i64 0), (.sl none 0 0 true 0)])⟩,
  ⟨none, none, (.st 3 (.t 5) (.t 12))⟩] t H) := runR_reg'
def d11_5 : List AOper := [
  ⟨(some 13), none, (.val (.t 3))⟩,
  ⟨(some 14), none, (.fa 2 (.t 5))⟩,
  ⟨(some 15), none, (.ld none (.t 14))⟩,
  ⟨(some 16), none, (.len (.t 15))⟩,
  ⟨(some 17), none, (.mm false [(.t 16), (.c (.i .i64 10000))])⟩,
  ⟨(some 18), none, (.bin .add (.t 13) (.t 17))⟩,
  ⟨(some 3), none, (.val (.t 18))⟩]
theorem r11_5 {fn : AFun} {K : List AItem} {t : Nat → AV} {H : AH} {T : Tbl} : runR T fn (.code (.reg d11_5) :: K) t H = regR T fn K (aops (callR T) [
  ⟨(some 13), none, (.val (.t 3))⟩,
  ⟨(some 14), none, (.fa 2 (.t 5))⟩,
  ⟨(some 15), none, (.ld none (.t 14))⟩,
  ⟨(some 16), none, (.len (.t 15))⟩,
  ⟨(some 17), none, (.mm false [(.t 16), (.c (.i .i64 10000))])⟩,
  ⟨(some 18), none, (.bin .add (.t 13) (.t 17))⟩,
  ⟨(some 3), none, (.val (.t 18))⟩] t H) := runR_reg'
def d11_6 : List AOper := [
  ⟨(some 19), none, (.bin .add (.t 9) (.c (.i .i64 1)))⟩,
  ⟨(some 9), none, (.val (.t 19))⟩]
theorem r11_6 {fn : AFun} {K : List AItem} {t : Nat → AV} {H : AH} {T : Tbl} : runR T fn (.code (.reg d11_6) :: K) t H = regR T fn K (aops (callR T) [
  ⟨(some 19), none, (.bin .add (.t 9) (.c (.i .i64 1)))⟩,
  ⟨(some 9), none, (.val (.t 19))⟩] t H) := runR_reg'
def l11_7 : ACode := (.seq (.reg d11_3) (.seq (.cond (.t 10) .skip (.exit 0)) (.seq (.block 1 (.seq (.reg d11_4) (.reg d11_5))) (.reg d11_6))))
def d11_8 : List AOper := [
  ⟨(some 20), none, (.val (.t 3))⟩,
  ⟨(some 21), none, (.bin .gtr (.t 20) (.c (.i .i64 500)))⟩,
  ⟨(some 2), none, (.val (.t 21))⟩]
theorem r11_8 {fn : AFun} {K : List AItem} {t : Nat → AV} {H : AH} {T : Tbl} : runR T fn (.code (.reg d11_8) :: K) t H = regR T fn K (aops (callR T) [
  ⟨(some 20), none, (.val (.t 3))⟩,
  ⟨(some 21), none, (.bin .gtr (.t 20) (.c (.i .i64 500)))⟩,
  ⟨(some 2), none, (.val (.t 21))⟩] t H) := runR_reg'
def a11 : AFun := ⟨22, [(.tmp 2)], (.seq (.reg d11_0) (.seq (.reg d11_1) (.seq (.seq (.reg d11_2) (.block 0 (.loop l11_7))) (.seq (.reg d11_8) .ret))))⟩
theorem a11_ok : cfun Try.prog 11 = some a11 := by kernel_rfl
/-- futtock/futtocklaw12.short -/
def d12_0 : List AOper := [
  ⟨(some 2), none, (.val (.c (.sl none 0 0 true 0)))⟩]
theorem r12_0 {fn : AFun} {K : List AItem} {t : Nat → AV} {H : AH} {T : Tbl} : runR T fn (.code (.reg d12_0) :: K) t H = regR T fn K (aops (callR T) [
  ⟨(some 2), none, (.val (.c (.sl none 0 0 true 0)))⟩] t H) := runR_reg'
def d12_1 : List AOper := [
  ⟨(some 3), none, (.val (.t 0))⟩,
  ⟨(some 4), none, (.val (.t 0))⟩,
  ⟨(some 5), none, (.len (.t 4))⟩,
  ⟨(some 6), none, (.mm false [(.t 5), (.c (.i .i64 100))])⟩,
  ⟨(some 7), none, (.sls 3 (.t 3) none (some (.t 6)) none)⟩,
  ⟨(some 2), none, (.val (.t 7))⟩]
theorem r12_1 {fn : AFun} {K : List AItem} {t : Nat → AV} {H : AH} {T : Tbl} : runR T fn (.code (.reg d12_1) :: K) t H = regR T fn K (aops (callR T) [
  ⟨(some 3), none, (.val (.t 0))⟩,
  ⟨(some 4), none, (.val (.t 0))⟩,
  ⟨(some 5), none, (.len (.t 4))⟩,
  ⟨(some 6), none, (.mm false [(.t 5), (.c (.i .i64 100))])⟩,
  ⟨(some 7), none, (.sls 3 (.t 3) none (some (.t 6)) none)⟩,
  ⟨(some 2), none, (.val (.t 7))⟩] t H) := runR_reg'
def a12 : AFun := ⟨8, [(.tmp 2)], (.seq (.reg d12_0) (.seq (.reg d12_1) .ret))⟩
theorem a12_ok : cfun Try.prog 12 = some a12 := by kernel_rfl
/-- futtock/futtockref12.Append -/
def d13_0 : List AOper := [
  ⟨(some 4), none, (.val (.c (.sl none 0 0 true 0)))⟩,
  ⟨(some 5), none, (.val (.c (.b false)))⟩]
theorem r13_0 {fn : AFun} {K : List AItem} {t : Nat → AV} {H : AH} {T : Tbl} : runR T fn (.code (.reg d13_0) :: K) t H = regR T fn K (aops (callR T) [
  ⟨(some 4), none, (.val (.c (.sl none 0 0 true 0)))⟩,
  ⟨(some 5), none, (.val (.c (.b false)))⟩] t H) := runR_reg'
def d13_1 : List AOper := [
  ⟨(some 6), none, (.val (.t 1))⟩,
  ⟨(some 7), none, (.bin .lss (.t 6) (.c (.i .i64 0)))⟩,
  ⟨(some 8), none, (.val (.t 7))⟩,
  ⟨(some 9), (some (8, false)), (.val (.t 1))⟩,
  ⟨(some 10), (some (8, false)), (.bin .gtr (.t 9) (.c (.i .i64 65534)))⟩,
  ⟨(some 11), none, (.pick (.t 8) (.c (.b true)) (.t 10))⟩,
  ⟨(some 12), none, (.val (.t 11))⟩,
  ⟨(some 13), (some (12, false)), (.val (.t 0))⟩,
  ⟨(some 14), (some (12, false)), (.val (.t 1))⟩,
  ⟨(some 15), (some (12, false)), (.call 21 [(.t 13), (.t 14)])⟩,
  ⟨(some 16), none, (.pick (.t 12) (.c (.b true)) (.t 15))⟩]
theorem r13_1 {fn : AFun} {K : List AItem} {t : Nat → AV} {H : AH} {T : Tbl} : runR T fn (.code (.reg d13_1) :: K) t H = regR T fn K (aops (callR T) [
  ⟨(some 6), none, (.val (.t 1))⟩,
  ⟨(some 7), none, (.bin .lss (.t 6) (.c (.i .i64 0)))⟩,
  ⟨(some 8), none, (.val (.t 7))⟩,
  ⟨(some 9), (some (8, false)), (.val (.t 1))⟩,
  ⟨(some 10), (some (8, false)), (.bin .gtr (.t 9) (.c (.i .i64 65534)))⟩,
  ⟨(some 11), none, (.pick (.t 8) (.c (.b true)) (.t 10))⟩,
  ⟨(some 12), none, (.val (.t 11))⟩,
  ⟨(some 13), (some (12, false)), (.val (.t 0))⟩,
  ⟨(some 14), (some (12, false)), (.val (.t 1))⟩,
  ⟨(some 15), (some (12, false)), (.call 21 [(.t 13), (.t 14)])⟩,
  ⟨(some 16), none, (.pick (.t 12) (.c (.b true)) (.t 15))⟩] t H) := runR_reg'
def d13_2 : List AOper := [
  ⟨(some 17), none, (.val (.t 0))⟩,
  ⟨(some 4), none, (.val (.t 17))⟩,
  ⟨(some 5), none, (.val (.c (.b false)))⟩]
theorem r13_2 {fn : AFun} {K : List AItem} {t : Nat → AV} {H : AH} {T : Tbl} : runR T fn (.code (.reg d13_2) :: K) t H = regR T fn K (aops (callR T) [
  ⟨(some 17), none, (.val (.t 0))⟩,
  ⟨(some 4), none, (.val (.t 17))⟩,
  ⟨(some 5), none, (.val (.c (.b false)))⟩] t H) := runR_reg'
def d13_3 : List AOper := [
  ⟨(some 18), none, (.val (.t 0))⟩,
  ⟨(some 19), none, (.app [(.i .i64 0)] 8 (.c (.sl none 0 0 true 0)) (.t 18))⟩,
  ⟨(some 20), none, (.val (.t 1))⟩,
  ⟨(some 21), none, (.bsl [(.i .i64 0)] 1 [(0, 1, (.t 20))])⟩,
  ⟨(some 22), none, (.app [(.i .i64 0)] 8 (.t 19) (.t 21))⟩,
  ⟨(some 4), none, (.val (.t 22))⟩,
  ⟨(some 5), none, (.val (.c (.b true)))⟩]
theorem r13_3 {fn : AFun} {K : List AItem} {t : Nat → AV} {H : AH} {T : Tbl} : runR T fn (.code (.reg d13_3) :: K) t H = regR T fn K (aops (callR T) [
  ⟨(some 18), none, (.val (.t 0))⟩,
  ⟨(some 19), none, (.app [(.i .i64 0)] 8 (.c (.sl none 0 0 true 0)) (.t 18))⟩,
  ⟨(some 20), none, (.val (.t 1))⟩,
  ⟨(some 21), none, (.bsl [(.i .i64 0)] 1 [(0, 1, (.t 20))])⟩,
  ⟨(some 22), none, (.app [(.i .i64 0)] 8 (.t 19) (.t 21))⟩,
  ⟨(some 4), none, (.val (.t 22))⟩,
  ⟨(some 5), none, (.val (.c (.b true)))⟩] t H) := runR_reg'
def a13 : AFun := ⟨23, [(.tmp 4), (.tmp 5)], (.seq (.reg d13_0) (.seq (.seq (.reg d13_1) (.cond (.t 16) (.seq (.reg d13_2) .ret) .skip)) (.seq (.reg d13_3) .ret)))⟩
theorem a13_ok : cfun Try.prog 13 = some a13 := by kernel_rfl
/-- (futtock/queue.Queue).Drain -/
def d14_0 : List AOper := [
  ⟨(some 2), none, (.box (.t 0))⟩,
  ⟨(some 4), none, (.alloc [(.sl none 0 0 true 0)])⟩,
  ⟨(some 5), none, (.val (.c (.i .i64 0)))⟩]
theorem r14_0 {fn : AFun} {K : List AItem} {t : Nat → AV} {H : AH} {T : Tbl} : runR T fn (.code (.reg d14_0) :: K) t H = regR T fn K (aops (callR T) [
  ⟨(some 2), none, (.box (.t 0))⟩,
  ⟨(some 4), none, (.alloc [(.sl none 0 0 true 0)])⟩,
  ⟨(some 5), none, (.val (.c (.i .i64 0)))⟩] t H) := runR_reg'
def d14_1 : List AOper := [
  ⟨(some 6), none, (.alloc [(.i .i64 0)])⟩,
  ⟨none, none, (.st 1 (.t 6) (.c (.i .i64 0)))⟩]
theorem r14_1 {fn : AFun} {K : List AItem} {t : Nat → AV} {H : AH} {T : Tbl} : runR T fn (.code (.reg d14_1) :: K) t H = regR T fn K (aops (callR T) [
  ⟨(some 6), none, (.alloc [(.i .i64 0)])⟩,
  ⟨none, none, (.st 1 (.t 6) (.c (.i .i64 0)))⟩] t H) := runR_reg'
def d14_2 : List AOper := [
  ⟨(some 11), none, (.val (.t 1))⟩,
  ⟨(some 12), none, (.call 22 [(.t 11)])⟩]
theorem r14_2 {fn : AFun} {K : List AItem} {t : Nat → AV} {H : AH} {T : Tbl} : runR T fn (.code (.reg d14_2) :: K) t H = regR T fn K (aops (callR T) [
  ⟨(some 11), none, (.val (.t 1))⟩,
  ⟨(some 12), none, (.call 22 [(.t 11)])⟩] t H) := runR_reg'
def d14_3 : List AOper := [
  ⟨(some 8), none, (.val (.t 14))⟩]
theorem r14_3 {fn : AFun} {K : List AItem} {t : Nat → AV} {H : AH} {T : Tbl} : runR T fn (.code (.reg d14_3) :: K) t H = regR T fn K (aops (callR T) [
  ⟨(some 8), none, (.val (.t 14))⟩] t H) := runR_reg'
def d14_4 : List AOper := [
  ⟨(some 16), none, (.ld (some 1) (.t 2))⟩,
  ⟨(some 17), none, (.val (.t 8))⟩,
  ⟨(some 18), none, (.call 8 [(.t 16), (.t 17)])⟩,
  ⟨(some 15), none, (.val (.t 18))⟩,
  ⟨(some 19), none, (.ext (.t 15) 0)⟩,
  ⟨(some 20), none, (.ext (.t 15) 1)⟩,
  ⟨(some 9), none, (.alloc [(.sl none 0 0 true 0)])⟩,
  ⟨none, none, (.st 1 (.t 9) (.t 19))⟩,
  ⟨(some 10), none, (.val (.t 20))⟩]
theorem r14_4 {fn : AFun} {K : List AItem} {t : Nat → AV} {H : AH} {T : Tbl} : runR T fn (.code (.reg d14_4) :: K) t H = regR T fn K (aops (callR T) [
  ⟨(some 16), none, (.ld (some 1) (.t 2))⟩,
  ⟨(some 17), none, (.val (.t 8))⟩,
  ⟨(some 18), none, (.call 8 [(.t 16), (.t 17)])⟩,
  ⟨(some 15), none, (.val (.t 18))⟩,
  ⟨(some 19), none, (.ext (.t 15) 0)⟩,
  ⟨(some 20), none, (.ext (.t 15) 1)⟩,
  ⟨(some 9), none, (.alloc [(.sl none 0 0 true 0)])⟩,
  ⟨none, none, (.st 1 (.t 9) (.t 19))⟩,
  ⟨(some 10), none, (.val (.t 20))⟩] t H) := runR_reg'
def d14_5 : List AOper := [
  ⟨(some 21), none, (.ld (some 1) (.t 9))⟩,
  ⟨none, none, (.st 1 (.t 2) (.t 21))⟩]
theorem r14_5 {fn : AFun} {K : List AItem} {t : Nat → AV} {H : AH} {T : Tbl} : runR T fn (.code (.reg d14_5) :: K) t H = regR T fn K (aops (callR T) [
  ⟨(some 21), none, (.ld (some 1) (.t 9))⟩,
  ⟨none, none, (.st 1 (.t 2) (.t 21))⟩] t H) := runR_reg'
def d14_6 : List AOper := [
  ⟨(some 22), none, (.val (.t 10))⟩]
theorem r14_6 {fn : AFun} {K : List AItem} {t : Nat → AV} {H : AH} {T : Tbl} : runR T fn (.code (.reg d14_6) :: K) t H = regR T fn K (aops (callR T) [
  ⟨(some 22), none, (.val (.t 10))⟩] t H) := runR_reg'
def d14_7 : List AOper := [
  ⟨(some 23), none, (.ld none (.t 6))⟩,
  ⟨(some 24), none, (.bin .add (.t 23) (.c (.i .i64 1)))⟩,
  ⟨none, none, (.st 1 (.t 6) (.t 24))⟩]
theorem r14_7 {fn : AFun} {K : List AItem} {t : Nat → AV} {H : AH} {T : Tbl} : runR T fn (.code (.reg d14_7) :: K) t H = regR T fn K (aops (callR T) [
  ⟨(some 23), none, (.ld none (.t 6))⟩,
  ⟨(some 24), none, (.bin .add (.t 23) (.c (.i .i64 1)))⟩,
  ⟨none, none, (.st 1 (.t 6) (.t 24))⟩] t H) := runR_reg'
def f14_8a : ACode := (.reg d14_3)
def f14_8b : ACode := (.block 1 (.seq (.reg d14_4) (.seq (.reg d14_5) (.seq (.reg d14_6) (.cond (.t 22) (.reg d14_7) .skip)))))
def d14_9 : List (AOper × List Nat) := [
  (⟨(some 25), none, (.ld (some 1) (.t 2))⟩, [1]),
  (⟨(some 26), none, (.ld none (.t 6))⟩, [1]),
  (⟨none, none, (.st 1 (.t 4) (.t 25))⟩, [0]),
  (⟨(some 5), none, (.val (.t 26))⟩, [])]
theorem r14_9 {fn : AFun} {K : List AItem} {t : Nat → AV} {H : AH} {T : Tbl} : runR T fn (.code (.drw d14_9) :: K) t H = regR T fn K (adrw (callR T) [
  (⟨(some 25), none, (.ld (some 1) (.t 2))⟩, [1]),
  (⟨(some 26), none, (.ld none (.t 6))⟩, [1]),
  (⟨none, none, (.st 1 (.t 4) (.t 25))⟩, [0]),
  (⟨(some 5), none, (.val (.t 26))⟩, [])] t H [H] []) := runR_drw'
def a14 : AFun := ⟨27, [(.cell 4 (some 1)), (.tmp 5)], (.seq (.reg d14_0) (.seq (.reg d14_1) (.seq (.seq (.reg d14_2) (.block 0 (.rf (.t 12) [13, 14] f14_8a f14_8b))) (.seq (.drw d14_9) .ret))))⟩
theorem a14_ok : cfun Try.prog 14 = some a14 := by kernel_rfl
/-- futtock/futtockref12.Drain -/
def d15_0 : List AOper := [
  ⟨(some 4), none, (.val (.c (.sl none 0 0 true 0)))⟩,
  ⟨(some 5), none, (.val (.c (.i .i64 0)))⟩]
theorem r15_0 {fn : AFun} {K : List AItem} {t : Nat → AV} {H : AH} {T : Tbl} : runR T fn (.code (.reg d15_0) :: K) t H = regR T fn K (aops (callR T) [
  ⟨(some 4), none, (.val (.c (.sl none 0 0 true 0)))⟩,
  ⟨(some 5), none, (.val (.c (.i .i64 0)))⟩] t H) := runR_reg'
def d15_1 : List AOper := [
  ⟨(some 6), none, (.val (.c (.i .i64 0)))⟩]
theorem r15_1 {fn : AFun} {K : List AItem} {t : Nat → AV} {H : AH} {T : Tbl} : runR T fn (.code (.reg d15_1) :: K) t H = regR T fn K (aops (callR T) [
  ⟨(some 6), none, (.val (.c (.i .i64 0)))⟩] t H) := runR_reg'
def d15_2 : List AOper := [
  ⟨(some 10), none, (.val (.t 1))⟩,
  ⟨(some 11), none, (.len (.t 10))⟩,
  ⟨(some 12), none, (.bin .sub (.t 11) (.c (.i .i64 1)))⟩,
  ⟨(some 7), none, (.val (.t 12))⟩]
theorem r15_2 {fn : AFun} {K : List AItem} {t : Nat → AV} {H : AH} {T : Tbl} : runR T fn (.code (.reg d15_2) :: K) t H = regR T fn K (aops (callR T) [
  ⟨(some 10), none, (.val (.t 1))⟩,
  ⟨(some 11), none, (.len (.t 10))⟩,
  ⟨(some 12), none, (.bin .sub (.t 11) (.c (.i .i64 1)))⟩,
  ⟨(some 7), none, (.val (.t 12))⟩] t H) := runR_reg'
def d15_3 : List AOper := [
  ⟨(some 13), none, (.val (.t 7))⟩,
  ⟨(some 14), none, (.bin .geq (.t 13) (.c (.i .i64 0)))⟩]
theorem r15_3 {fn : AFun} {K : List AItem} {t : Nat → AV} {H : AH} {T : Tbl} : runR T fn (.code (.reg d15_3) :: K) t H = regR T fn K (aops (callR T) [
  ⟨(some 13), none, (.val (.t 7))⟩,
  ⟨(some 14), none, (.bin .geq (.t 13) (.c (.i .i64 0)))⟩] t H) := runR_reg'
def d15_4 : List AOper := [
  ⟨(some 18), none, (.val (.t 0))⟩,
  ⟨(some 19), none, (.val (.t 1))⟩,
  ⟨(some 20), none, (.val (.t 7))⟩,
  ⟨(some 21), none, (.ia 1 (.t 19) (.t 20))⟩,
  ⟨(some 22), none, (.ld none (.t 21))⟩,
  ⟨(some 23), none, (.call 13 [(.t 18), (.t 22)])⟩,
  ⟨(some 17), none, (.val (.t 23))⟩,
  ⟨(some 24), none, (.ext (.t 17) 0)⟩,
  ⟨(some 25), none, (.ext (.t 17) 1)⟩,
  ⟨(some 8), none, (.val (.t 24))⟩,
  ⟨(some 9), none, (.val (.t 25))⟩]
theorem r15_4 {fn : AFun} {K : List AItem} {t : Nat → AV} {H : AH} {T : Tbl} : runR T fn (.code (.reg d15_4) :: K) t H = regR T fn K (aops (callR T) [
  ⟨(some 18), none, (.val (.t 0))⟩,
  ⟨(some 19), none, (.val (.t 1))⟩,
  ⟨(some 20), none, (.val (.t 7))⟩,
  ⟨(some 21), none, (.ia 1 (.t 19) (.t 20))⟩,
  ⟨(some 22), none, (.ld none (.t 21))⟩,
  ⟨(some 23), none, (.call 13 [(.t 18), (.t 22)])⟩,
  ⟨(some 17), none, (.val (.t 23))⟩,
  ⟨(some 24), none, (.ext (.t 17) 0)⟩,
  ⟨(some 25), none, (.ext (.t 17) 1)⟩,
  ⟨(some 8), none, (.val (.t 24))⟩,
  ⟨(some 9), none, (.val (.t 25))⟩] t H) := runR_reg'
def d15_5 : List AOper := [
  ⟨(some 26), none, (.val (.t 8))⟩,
  ⟨(some 0), none, (.val (.t 26))⟩]
theorem r15_5 {fn : AFun} {K : List AItem} {t : Nat → AV} {H : AH} {T : Tbl} : runR T fn (.code (.reg d15_5) :: K) t H = regR T fn K (aops (callR T) [
  ⟨(some 26), none, (.val (.t 8))⟩,
  ⟨(some 0), none, (.val (.t 26))⟩] t H) := runR_reg'
def d15_6 : List AOper := [
  ⟨(some 27), none, (.val (.t 9))⟩]
theorem r15_6 {fn : AFun} {K : List AItem} {t : Nat → AV} {H : AH} {T : Tbl} : runR T fn (.code (.reg d15_6) :: K) t H = regR T fn K (aops (callR T) [
  ⟨(some 27), none, (.val (.t 9))⟩] t H) := runR_reg'
def d15_7 : List AOper := [
  ⟨(some 28), none, (.val (.t 6))⟩,
  ⟨(some 29), none, (.bin .add (.t 28) (.c (.i .i64 1)))⟩,
  ⟨(some 6), none, (.val (.t 29))⟩]
theorem r15_7 {fn : AFun} {K : List AItem} {t : Nat → AV} {H : AH} {T : Tbl} : runR T fn (.code (.reg d15_7) :: K) t H = regR T fn K (aops (callR T) [
  ⟨(some 28), none, (.val (.t 6))⟩,
  ⟨(some 29), none, (.bin .add (.t 28) (.c (.i .i64 1)))⟩,
  ⟨(some 6), none, (.val (.t 29))⟩] t H) := runR_reg'
def d15_8 : List AOper := [
  ⟨(some 15), none, (.val (.t 7))⟩,
  ⟨(some 16), none, (.bin .sub (.t 15) (.c (.i .i64 1)))⟩,
  ⟨(some 7), none, (.val (.t 16))⟩]
theorem r15_8 {fn : AFun} {K : List AItem} {t : Nat → AV} {H : AH} {T : Tbl} : runR T fn (.code (.reg d15_8) :: K) t H = regR T fn K (aops (callR T) [
  ⟨(some 15), none, (.val (.t 7))⟩,
  ⟨(some 16), none, (.bin .sub (.t 15) (.c (.i .i64 1)))⟩,
  ⟨(some 7), none, (.val (.t 16))⟩] t H) := runR_reg'
def l15_9 : ACode := (.seq (.seq (.reg d15_3) (.cond (.t 14) .skip (.exit 0))) (.seq (.block 1 (.seq (.reg d15_4) (.seq (.reg d15_5) (.seq (.reg d15_6) (.cond (.t 27) (.reg d15_7) .skip))))) (.reg d15_8)))
def d15_10 : List AOper := [
  ⟨(some 30), none, (.val (.t 0))⟩,
  ⟨(some 31), none, (.val (.t 6))⟩,
  ⟨(some 4), none, (.val (.t 30))⟩,
  ⟨(some 5), none, (.val (.t 31))⟩]
theorem r15_10 {fn : AFun} {K : List AItem} {t : Nat → AV} {H : AH} {T : Tbl} : runR T fn (.code (.reg d15_10) :: K) t H = regR T fn K (aops (callR T) [
  ⟨(some 30), none, (.val (.t 0))⟩,
  ⟨(some 31), none, (.val (.t 6))⟩,
  ⟨(some 4), none, (.val (.t 30))⟩,
  ⟨(some 5), none, (.val (.t 31))⟩] t H) := runR_reg'
def a15 : AFun := ⟨32, [(.tmp 4), (.tmp 5)], (.seq (.reg d15_0) (.seq (.reg d15_1) (.seq (.seq (.reg d15_2) (.block 0 (.loop l15_9))) (.seq (.reg d15_10) .ret))))⟩
theorem a15_ok : cfun Try.prog 15 = some a15 := by kernel_rfl
/-- (futtock/queue.Queue).Remove -/
def d16_0 : List AOper := [
  ⟨(some 2), none, (.box (.t 0))⟩,
  ⟨(some 4), none, (.alloc [(.sl none 0 0 true 0)])⟩,
  ⟨(some 5), none, (.val (.c (.b false)))⟩]
theorem r16_0 {fn : AFun} {K : List AItem} {t : Nat → AV} {H : AH} {T : Tbl} : runR T fn (.code (.reg d16_0) :: K) t H = regR T fn K (aops (callR T) [
  ⟨(some 2), none, (.box (.t 0))⟩,
  ⟨(some 4), none, (.alloc [(.sl none 0 0 true 0)])⟩,
  ⟨(some 5), none, (.val (.c (.b false)))⟩] t H) := runR_reg'
def d16_1 : List AOper := [
  ⟨(some 7), none, (.fa 0 (.t 2))⟩,
  ⟨(some 8), none, (.ld none (.t 7))⟩,
  ⟨(some 9), none, (.val (.t 1))⟩,
  ⟨(some 10), none, (.call 23 [(.t 8), (.t 9)])⟩,
  ⟨(some 6), none, (.val (.t 10))⟩]
theorem r16_1 {fn : AFun} {K : List AItem} {t : Nat → AV} {H : AH} {T : Tbl} : runR T fn (.code (.reg d16_1) :: K) t H = regR T fn K (aops (callR T) [
  ⟨(some 7), none, (.fa 0 (.t 2))⟩,
  ⟨(some 8), none, (.ld none (.t 7))⟩,
  ⟨(some 9), none, (.val (.t 1))⟩,
  ⟨(some 10), none, (.call 23 [(.t 8), (.t 9)])⟩,
  ⟨(some 6), none, (.val (.t 10))⟩] t H) := runR_reg'
def d16_2 : List AOper := [
  ⟨(some 11), none, (.val (.t 6))⟩,
  ⟨(some 12), none, (.bin .lss (.t 11) (.c (.i .i64 0)))⟩]
theorem r16_2 {fn : AFun} {K : List AItem} {t : Nat → AV} {H : AH} {T : Tbl} : runR T fn (.code (.reg d16_2) :: K) t H = regR T fn K (aops (callR T) [
  ⟨(some 11), none, (.val (.t 6))⟩,
  ⟨(some 12), none, (.bin .lss (.t 11) (.c (.i .i64 0)))⟩] t H) := runR_reg'
def d16_3 : List AOper := [
  ⟨(some 13), none, (.ld (some 1) (.t 2))⟩,
  ⟨none, none, (.st 1 (.t 4) (.t 13))⟩,
  ⟨(some 5), none, (.val (.c (.b false)))⟩]
theorem r16_3 {fn : AFun} {K : List AItem} {t : Nat → AV} {H : AH} {T : Tbl} : runR T fn (.code (.reg d16_3) :: K) t H = regR T fn K (aops (callR T) [
  ⟨(some 13), none, (.ld (some 1) (.t 2))⟩,
  ⟨none, none, (.st 1 (.t 4) (.t 13))⟩,
  ⟨(some 5), none, (.val (.c (.b false)))⟩] t H) := runR_reg'
def d16_4 : List (AOper × List Nat) := [
  (⟨(some 14), none, (.fa 0 (.t 2))⟩, []),
  (⟨(some 15), none, (.ld none (.t 14))⟩, [1]),
  (⟨(some 16), none, (.val (.t 6))⟩, []),
  (⟨(some 17), none, (.sls 1 (.t 15) none (some (.t 16)) none)⟩, []),
  (⟨(some 18), none, (.fa 0 (.t 2))⟩, []),
  (⟨(some 19), none, (.ld none (.t 18))⟩, [1]),
  (⟨(some 20), none, (.val (.t 6))⟩, []),
  (⟨(some 21), none, (.bin .add (.t 20) (.c (.i .i64 1)))⟩, []),
  (⟨(some 22), none, (.sls 1 (.t 19) (some (.t 21)) none none)⟩, []),
  (⟨(some 23), none, (.bsl [(.sl none 0 0 true 0)] 2 [(0, 1, (.t 17)), (1, 1, (.t 22))])⟩, []),
  (⟨(some 24), none, (.call 24 [(.t 23)])⟩, []),
  (⟨(some 25), none, (.build [(.sl none 0 0 true 0)] [(0, 1, (.t 24))])⟩, []),
  (⟨none, none, (.st 1 (.t 4) (.t 25))⟩, []),
  (⟨(some 5), none, (.val (.c (.b true)))⟩, [])]
theorem r16_4 {fn : AFun} {K : List AItem} {t : Nat → AV} {H : AH} {T : Tbl} : runR T fn (.code (.drw d16_4) :: K) t H = regR T fn K (aops (callR T) [
  ⟨(some 14), none, (.fa 0 (.t 2))⟩,
  ⟨(some 15), none, (.ld none (.t 14))⟩,
  ⟨(some 16), none, (.val (.t 6))⟩,
  ⟨(some 17), none, (.sls 1 (.t 15) none (some (.t 16)) none)⟩,
  ⟨(some 18), none, (.fa 0 (.t 2))⟩,
  ⟨(some 19), none, (.ld none (.t 18))⟩,
  ⟨(some 20), none, (.val (.t 6))⟩,
  ⟨(some 21), none, (.bin .add (.t 20) (.c (.i .i64 1)))⟩,
  ⟨(some 22), none, (.sls 1 (.t 19) (some (.t 21)) none none)⟩,
  ⟨(some 23), none, (.bsl [(.sl none 0 0 true 0)] 2 [(0, 1, (.t 17)), (1, 1, (.t 22))])⟩,
  ⟨(some 24), none, (.call 24 [(.t 23)])⟩,
  ⟨(some 25), none, (.build [(.sl none 0 0 true 0)] [(0, 1, (.t 24))])⟩,
  ⟨none, none, (.st 1 (.t 4) (.t 25))⟩,
  ⟨(some 5), none, (.val (.c (.b true)))⟩] t H) := runR_plain rfl
def a16 : AFun := ⟨26, [(.cell 4 (some 1)), (.tmp 5)], (.seq (.reg d16_0) (.seq (.reg d16_1) (.seq (.seq (.reg d16_2) (.cond (.t 12) (.seq (.reg d16_3) .ret) .skip)) (.seq (.drw d16_4) .ret))))⟩
theorem a16_ok : cfun Try.prog 16 = some a16 := by kernel_rfl
/-- futtock/futtockref12.Remove -/
def d17_0 : List AOper := [
  ⟨(some 4), none, (.val (.c (.sl none 0 0 true 0)))⟩,
  ⟨(some 5), none, (.val (.c (.b false)))⟩]
theorem r17_0 {fn : AFun} {K : List AItem} {t : Nat → AV} {H : AH} {T : Tbl} : runR T fn (.code (.reg d17_0) :: K) t H = regR T fn K (aops (callR T) [
  ⟨(some 4), none, (.val (.c (.sl none 0 0 true 0)))⟩,
  ⟨(some 5), none, (.val (.c (.b false)))⟩] t H) := runR_reg'
def d17_1 : List AOper := [
  ⟨(some 6), none, (.val (.c (.sl none 0 0 true 0)))⟩]
theorem r17_1 {fn : AFun} {K : List AItem} {t : Nat → AV} {H : AH} {T : Tbl} : runR T fn (.code (.reg d17_1) :: K) t H = regR T fn K (aops (callR T) [
  ⟨(some 6), none, (.val (.c (.sl none 0 0 true 0)))⟩] t H) := runR_reg'
def d17_2 : List AOper := [
  ⟨(some 7), none, (.val (.c (.i .i64 0)))⟩]
theorem r17_2 {fn : AFun} {K : List AItem} {t : Nat → AV} {H : AH} {T : Tbl} : runR T fn (.code (.reg d17_2) :: K) t H = regR T fn K (aops (callR T) [
  ⟨(some 7), none, (.val (.c (.i .i64 0)))⟩] t H) := runR_reg'
def d17_3 : List AOper := [
  ⟨(some 8), none, (.val (.t 7))⟩,
  ⟨(some 9), none, (.val (.t 0))⟩,
  ⟨(some 10), none, (.len (.t 9))⟩,
  ⟨(some 11), none, (.bin .lss (.t 8) (.t 10))⟩]
theorem r17_3 {fn : AFun} {K : List AItem} {t : Nat → AV} {H : AH} {T : Tbl} : runR T fn (.code (.reg d17_3) :: K) t H = regR T fn K (aops (callR T) [
  ⟨(some 8), none, (.val (.t 7))⟩,
  ⟨(some 9), none, (.val (.t 0))⟩,
  ⟨(some 10), none, (.len (.t 9))⟩,
  ⟨(some 11), none, (.bin .lss (.t 8) (.t 10))⟩] t H) := runR_reg'
def d17_4 : List AOper := [
  ⟨(some 14), none, (.val (.t 0))⟩,
  ⟨(some 15), none, (.val (.t 7))⟩,
  ⟨(some 16), none, (.ia 1 (.t 14) (.t 15))⟩,
  ⟨(some 17), none, (.ld none (.t 16))⟩,
  ⟨(some 18), none, (.val (.t 1))⟩,
  ⟨(some 19), none, (.bin .neq (.t 17) (.t 18))⟩]
theorem r17_4 {fn : AFun} {K : List AItem} {t : Nat → AV} {H : AH} {T : Tbl} : runR T fn (.code (.reg d17_4) :: K) t H = regR T fn K (aops (callR T) [
  ⟨(some 14), none, (.val (.t 0))⟩,
  ⟨(some 15), none, (.val (.t 7))⟩,
  ⟨(some 16), none, (.ia 1 (.t 14) (.t 15))⟩,
  ⟨(some 17), none, (.ld none (.t 16))⟩,
  ⟨(some 18), none, (.val (.t 1))⟩,
  ⟨(some 19), none, (.bin .neq (.t 17) (.t 18))⟩] t H) := runR_reg'
def d17_5 : List AOper := [
  ⟨(some 20), none, (.val (.t 6))⟩,
  ⟨(some 21), none, (.val (.t 0))⟩,
  ⟨(some 22), none, (.val (.t 7))⟩,
  ⟨(some 23), none, (.ia 1 (.t 21) (.t 22))⟩,
  ⟨(some 24), none, (.ld none (.t 23))⟩,
  ⟨(some 25), none, (.bsl [(.i .i64 0)] 1 [(0, 1, (.t 24))])⟩,
  ⟨(some 26), none, (.app [(.i .i64 0)] 8 (.t 20) (.t 25))⟩,
  ⟨(some 6), none, (.val (.t 26))⟩]
theorem r17_5 {fn : AFun} {K : List AItem} {t : Nat → AV} {H : AH} {T : Tbl} : runR T fn (.code (.reg d17_5) :: K) t H = regR T fn K (aops (callR T) [
  ⟨(some 20), none, (.val (.t 6))⟩,
  ⟨(some 21), none, (.val (.t 0))⟩,
  ⟨(some 22), none, (.val (.t 7))⟩,
  ⟨(some 23), none, (.ia 1 (.t 21) (.t 22))⟩,
  ⟨(some 24), none, (.ld none (.t 23))⟩,
  ⟨(some 25), none, (.bsl [(.i .i64 0)] 1 [(0, 1, (.t 24))])⟩,
  ⟨(some 26), none, (.app [(.i .i64 0)] 8 (.t 20) (.t 25))⟩,
  ⟨(some 6), none, (.val (.t 26))⟩] t H) := runR_reg'
def d17_6 : List AOper := [
  ⟨(some 12), none, (.val (.t 7))⟩,
  ⟨(some 13), none, (.bin .add (.t 12) (.c (.i .i64 1)))⟩,
  ⟨(some 7), none, (.val (.t 13))⟩]
theorem r17_6 {fn : AFun} {K : List AItem} {t : Nat → AV} {H : AH} {T : Tbl} : runR T fn (.code (.reg d17_6) :: K) t H = regR T fn K (aops (callR T) [
  ⟨(some 12), none, (.val (.t 7))⟩,
  ⟨(some 13), none, (.bin .add (.t 12) (.c (.i .i64 1)))⟩,
  ⟨(some 7), none, (.val (.t 13))⟩] t H) := runR_reg'
def l17_7 : ACode := (.seq (.seq (.reg d17_3) (.cond (.t 11) .skip (.exit 0))) (.seq (.block 1 (.seq (.reg d17_4) (.cond (.t 19) (.reg d17_5) .skip))) (.reg d17_6)))
def d17_8 : List AOper := [
  ⟨(some 27), none, (.val (.t 6))⟩,
  ⟨(some 28), none, (.val (.t 6))⟩,
  ⟨(some 29), none, (.len (.t 28))⟩,
  ⟨(some 30), none, (.val (.t 0))⟩,
  ⟨(some 31), none, (.len (.t 30))⟩,
  ⟨(some 32), none, (.bin .lss (.t 29) (.t 31))⟩,
  ⟨(some 4), none, (.val (.t 27))⟩,
  ⟨(some 5), none, (.val (.t 32))⟩]
theorem r17_8 {fn : AFun} {K : List AItem} {t : Nat → AV} {H : AH} {T : Tbl} : runR T fn (.code (.reg d17_8) :: K) t H = regR T fn K (aops (callR T) [
  ⟨(some 27), none, (.val (.t 6))⟩,
  ⟨(some 28), none, (.val (.t 6))⟩,
  ⟨(some 29), none, (.len (.t 28))⟩,
  ⟨(some 30), none, (.val (.t 0))⟩,
  ⟨(some 31), none, (.len (.t 30))⟩,
  ⟨(some 32), none, (.bin .lss (.t 29) (.t 31))⟩,
  ⟨(some 4), none, (.val (.t 27))⟩,
  ⟨(some 5), none, (.val (.t 32))⟩] t H) := runR_reg'
def a17 : AFun := ⟨33, [(.tmp 4), (.tmp 5)], (.seq (.reg d17_0) (.seq (.reg d17_1) (.seq (.seq (.reg d17_2) (.block 0 (.loop l17_7))) (.seq (.reg d17_8) .ret))))⟩
theorem a17_ok : cfun Try.prog 17 = some a17 := by kernel_rfl
/-- futtock/futtocklaw12.same -/
def d18_0 : List AOper := [
  ⟨(some 4), none, (.val (.c (.b false)))⟩]
theorem r18_0 {fn : AFun} {K : List AItem} {t : Nat → AV} {H : AH} {T : Tbl} : runR T fn (.code (.reg d18_0) :: K) t H = regR T fn K (aops (callR T) [
  ⟨(some 4), none, (.val (.c (.b false)))⟩] t H) := runR_reg'
def d18_1 : List AOper := [
  ⟨(some 6), none, (.val (.t 0))⟩,
  ⟨(some 7), none, (.len (.t 6))⟩,
  ⟨(some 8), none, (.val (.t 1))⟩,
  ⟨(some 9), none, (.len (.t 8))⟩,
  ⟨(some 10), none, (.bin .neq (.t 7) (.t 9))⟩]
theorem r18_1 {fn : AFun} {K : List AItem} {t : Nat → AV} {H : AH} {T : Tbl} : runR T fn (.code (.reg d18_1) :: K) t H = regR T fn K (aops (callR T) [
  ⟨(some 6), none, (.val (.t 0))⟩,
  ⟨(some 7), none, (.len (.t 6))⟩,
  ⟨(some 8), none, (.val (.t 1))⟩,
  ⟨(some 9), none, (.len (.t 8))⟩,
  ⟨(some 10), none, (.bin .neq (.t 7) (.t 9))⟩] t H) := runR_reg'
def d18_2 : List AOper := [
  ⟨(some 4), none, (.val (.c (.b false)))⟩]
theorem r18_2 {fn : AFun} {K : List AItem} {t : Nat → AV} {H : AH} {T : Tbl} : runR T fn (.code (.reg d18_2) :: K) t H = regR T fn K (aops (callR T) [
  ⟨(some 4), none, (.val (.c (.b false)))⟩] t H) := runR_reg'
def d18_3 : List AOper := [
  ⟨(some 11), none, (.val (.t 0))⟩,
  ⟨(some 12), none, (.len (.t 11))⟩,
  ⟨(some 13), none, (.val (.c (.i .i64 0)))⟩]
theorem r18_3 {fn : AFun} {K : List AItem} {t : Nat → AV} {H : AH} {T : Tbl} : runR T fn (.code (.reg d18_3) :: K) t H = regR T fn K (aops (callR T) [
  ⟨(some 11), none, (.val (.t 0))⟩,
  ⟨(some 12), none, (.len (.t 11))⟩,
  ⟨(some 13), none, (.val (.c (.i .i64 0)))⟩] t H) := runR_reg'
def d18_4 : List AOper := [
  ⟨(some 14), none, (.bin .lss (.t 13) (.t 12))⟩]
theorem r18_4 {fn : AFun} {K : List AItem} {t : Nat → AV} {H : AH} {T : Tbl} : runR T fn (.code (.reg d18_4) :: K) t H = regR T fn K (aops (callR T) [
  ⟨(some 14), none, (.bin .lss (.t 13) (.t 12))⟩] t H) := runR_reg'
def d18_5 : List AOper := [
  ⟨(some 15), none, (.val (.t 13))⟩,
  ⟨(some 5), none, (.val (.t 15))⟩]
theorem r18_5 {fn : AFun} {K : List AItem} {t : Nat → AV} {H : AH} {T : Tbl} : runR T fn (.code (.reg d18_5) :: K) t H = regR T fn K (aops (callR T) [
  ⟨(some 15), none, (.val (.t 13))⟩,
  ⟨(some 5), none, (.val (.t 15))⟩] t H) := runR_reg'
def d18_6 : List (AOper × List Nat) := [
  (⟨(some 16), none, (.val (.t 0))⟩, []),
  (⟨(some 17), none, (.val (.t 5))⟩, []),
  (⟨(some 18), none, (.ia 1 (.t 16) (.t 17))⟩, []),
  (⟨(some 19), none, (.ld none (.t 18))⟩, [1]),
  (⟨(some 20), none, (.val (.t 1))⟩, []),
  (⟨(some 21), none, (.val (.t 5))⟩, []),
  (⟨(some 22), none, (.ia 1 (.t 20) (.t 21))⟩, []),
  (⟨(some 23), none, (.ld none (.t 22))⟩, [1]),
  (⟨(some 24), none, (.bin .neq (.t 19) (.t 23))⟩, [])]
theorem r18_6 {fn : AFun} {K : List AItem} {t : Nat → AV} {H : AH} {T : Tbl} : runR T fn (.code (.drw d18_6) :: K) t H = regR T fn K (aops (callR T) [
  ⟨(some 16), none, (.val (.t 0))⟩,
  ⟨(some 17), none, (.val (.t 5))⟩,
  ⟨(some 18), none, (.ia 1 (.t 16) (.t 17))⟩,
  ⟨(some 19), none, (.ld none (.t 18))⟩,
  ⟨(some 20), none, (.val (.t 1))⟩,
  ⟨(some 21), none, (.val (.t 5))⟩,
  ⟨(some 22), none, (.ia 1 (.t 20) (.t 21))⟩,
  ⟨(some 23), none, (.ld none (.t 22))⟩,
  ⟨(some 24), none, (.bin .neq (.t 19) (.t 23))⟩] t H) := runR_plain rfl
def d18_7 : List AOper := [
  ⟨(some 4), none, (.val (.c (.b false)))⟩]
theorem r18_7 {fn : AFun} {K : List AItem} {t : Nat → AV} {H : AH} {T : Tbl} : runR T fn (.code (.reg d18_7) :: K) t H = regR T fn K (aops (callR T) [
  ⟨(some 4), none, (.val (.c (.b false)))⟩] t H) := runR_reg'
def d18_8 : List AOper := [
  ⟨(some 25), none, (.bin .add (.t 13) (.c (.i .i64 1)))⟩,
  ⟨(some 13), none, (.val (.t 25))⟩]
theorem r18_8 {fn : AFun} {K : List AItem} {t : Nat → AV} {H : AH} {T : Tbl} : runR T fn (.code (.reg d18_8) :: K) t H = regR T fn K (aops (callR T) [
  ⟨(some 25), none, (.bin .add (.t 13) (.c (.i .i64 1)))⟩,
  ⟨(some 13), none, (.val (.t 25))⟩] t H) := runR_reg'
def l18_9 : ACode := (.seq (.reg d18_4) (.seq (.cond (.t 14) .skip (.exit 0)) (.seq (.block 1 (.seq (.reg d18_5) (.seq (.drw d18_6) (.cond (.t 24) (.seq (.reg d18_7) .ret) .skip)))) (.reg d18_8))))
def d18_10 : List AOper := [
  ⟨(some 4), none, (.val (.c (.b true)))⟩]
theorem r18_10 {fn : AFun} {K : List AItem} {t : Nat → AV} {H : AH} {T : Tbl} : runR T fn (.code (.reg d18_10) :: K) t H = regR T fn K (aops (callR T) [
  ⟨(some 4), none, (.val (.c (.b true)))⟩] t H) := runR_reg'
def a18 : AFun := ⟨26, [(.tmp 4)], (.seq (.reg d18_0) (.seq (.seq (.reg d18_1) (.cond (.t 10) (.seq (.reg d18_2) .ret) .skip)) (.seq (.seq (.reg d18_3) (.block 0 (.loop l18_9))) (.seq (.reg d18_10) .ret))))⟩
theorem a18_ok : cfun Try.prog 18 = some a18 := by kernel_rfl
/-- (futtock/queue.Queue).All -/
def d19_0 : List AOper := [
  ⟨(some 1), none, (.box (.t 0))⟩,
  ⟨(some 2), none, (.val (.c (.sl none 0 0 true 0)))⟩]
theorem r19_0 {fn : AFun} {K : List AItem} {t : Nat → AV} {H : AH} {T : Tbl} : runR T fn (.code (.reg d19_0) :: K) t H = regR T fn K (aops (callR T) [
  ⟨(some 1), none, (.box (.t 0))⟩,
  ⟨(some 2), none, (.val (.c (.sl none 0 0 true 0)))⟩] t H) := runR_reg'
def d19_1 : List AOper := [
  ⟨(some 3), none, (.fa 0 (.t 1))⟩,
  ⟨(some 4), none, (.ld none (.t 3))⟩,
  ⟨(some 5), none, (.call 25 [(.t 4)])⟩,
  ⟨(some 2), none, (.val (.t 5))⟩]
theorem r19_1 {fn : AFun} {K : List AItem} {t : Nat → AV} {H : AH} {T : Tbl} : runR T fn (.code (.reg d19_1) :: K) t H = regR T fn K (aops (callR T) [
  ⟨(some 3), none, (.fa 0 (.t 1))⟩,
  ⟨(some 4), none, (.ld none (.t 3))⟩,
  ⟨(some 5), none, (.call 25 [(.t 4)])⟩,
  ⟨(some 2), none, (.val (.t 5))⟩] t H) := runR_reg'
def a19 : AFun := ⟨6, [(.tmp 2)], (.seq (.reg d19_0) (.seq (.reg d19_1) .ret))⟩
theorem a19_ok : cfun Try.prog 19 = some a19 := by kernel_rfl
/-- (futtock/queue.Queue).Has -/
def d20_0 : List AOper := [
  ⟨(some 2), none, (.box (.t 0))⟩,
  ⟨(some 4), none, (.val (.c (.b false)))⟩]
theorem r20_0 {fn : AFun} {K : List AItem} {t : Nat → AV} {H : AH} {T : Tbl} : runR T fn (.code (.reg d20_0) :: K) t H = regR T fn K (aops (callR T) [
  ⟨(some 2), none, (.box (.t 0))⟩,
  ⟨(some 4), none, (.val (.c (.b false)))⟩] t H) := runR_reg'
def d20_1 : List AOper := [
  ⟨(some 5), none, (.fa 0 (.t 2))⟩,
  ⟨(some 6), none, (.ld none (.t 5))⟩,
  ⟨(some 7), none, (.val (.t 1))⟩,
  ⟨(some 8), none, (.call 26 [(.t 6), (.t 7)])⟩,
  ⟨(some 4), none, (.val (.t 8))⟩]
theorem r20_1 {fn : AFun} {K : List AItem} {t : Nat → AV} {H : AH} {T : Tbl} : runR T fn (.code (.reg d20_1) :: K) t H = regR T fn K (aops (callR T) [
  ⟨(some 5), none, (.fa 0 (.t 2))⟩,
  ⟨(some 6), none, (.ld none (.t 5))⟩,
  ⟨(some 7), none, (.val (.t 1))⟩,
  ⟨(some 8), none, (.call 26 [(.t 6), (.t 7)])⟩,
  ⟨(some 4), none, (.val (.t 8))⟩] t H) := runR_reg'
def a20 : AFun := ⟨9, [(.tmp 4)], (.seq (.reg d20_0) (.seq (.reg d20_1) .ret))⟩
theorem a20_ok : cfun Try.prog 20 = some a20 := by kernel_rfl
/-- futtock/futtockref12.Has -/
def d21_0 : List AOper := [
  ⟨(some 4), none, (.val (.c (.b false)))⟩]
theorem r21_0 {fn : AFun} {K : List AItem} {t : Nat → AV} {H : AH} {T : Tbl} : runR T fn (.code (.reg d21_0) :: K) t H = regR T fn K (aops (callR T) [
  ⟨(some 4), none, (.val (.c (.b false)))⟩] t H) := runR_reg'
def d21_1 : List AOper := [
  ⟨(some 5), none, (.val (.c (.i .i64 0)))⟩]
theorem r21_1 {fn : AFun} {K : List AItem} {t : Nat → AV} {H : AH} {T : Tbl} : runR T fn (.code (.reg d21_1) :: K) t H = regR T fn K (aops (callR T) [
  ⟨(some 5), none, (.val (.c (.i .i64 0)))⟩] t H) := runR_reg'
def d21_2 : List AOper := [
  ⟨(some 6), none, (.val (.t 5))⟩,
  ⟨(some 7), none, (.val (.t 0))⟩,
  ⟨(some 8), none, (.len (.t 7))⟩,
  ⟨(some 9), none, (.bin .lss (.t 6) (.t 8))⟩]
theorem r21_2 {fn : AFun} {K : List AItem} {t : Nat → AV} {H : AH} {T : Tbl} : runR T fn (.code (.reg d21_2) :: K) t H = regR T fn K (aops (callR T) [
  ⟨(some 6), none, (.val (.t 5))⟩,
  ⟨(some 7), none, (.val (.t 0))⟩,
  ⟨(some 8), none, (.len (.t 7))⟩,
  ⟨(some 9), none, (.bin .lss (.t 6) (.t 8))⟩] t H) := runR_reg'
def d21_3 : List AOper := [
  ⟨(some 12), none, (.val (.t 0))⟩,
  ⟨(some 13), none, (.val (.t 5))⟩,
  ⟨(some 14), none, (.ia 1 (.t 12) (.t 13))⟩,
  ⟨(some 15), none, (.ld none (.t 14))⟩,
  ⟨(some 16), none, (.val (.t 1))⟩,
  ⟨(some 17), none, (.bin .eql (.t 15) (.t 16))⟩]
theorem r21_3 {fn : AFun} {K : List AItem} {t : Nat → AV} {H : AH} {T : Tbl} : runR T fn (.code (.reg d21_3) :: K) t H = regR T fn K (aops (callR T) [
  ⟨(some 12), none, (.val (.t 0))⟩,
  ⟨(some 13), none, (.val (.t 5))⟩,
  ⟨(some 14), none, (.ia 1 (.t 12) (.t 13))⟩,
  ⟨(some 15), none, (.ld none (.t 14))⟩,
  ⟨(some 16), none, (.val (.t 1))⟩,
  ⟨(some 17), none, (.bin .eql (.t 15) (.t 16))⟩] t H) := runR_reg'
def d21_4 : List AOper := [
  ⟨(some 4), none, (.val (.c (.b true)))⟩]
theorem r21_4 {fn : AFun} {K : List AItem} {t : Nat → AV} {H : AH} {T : Tbl} : runR T fn (.code (.reg d21_4) :: K) t H = regR T fn K (aops (callR T) [
  ⟨(some 4), none, (.val (.c (.b true)))⟩] t H) := runR_reg'
def d21_5 : List AOper := [
  ⟨(some 10), none, (.val (.t 5))⟩,
  ⟨(some 11), none, (.bin .add (.t 10) (.c (.i .i64 1)))⟩,
  ⟨(some 5), none, (.val (.t 11))⟩]
theorem r21_5 {fn : AFun} {K : List AItem} {t : Nat → AV} {H : AH} {T : Tbl} : runR T fn (.code (.reg d21_5) :: K) t H = regR T fn K (aops (callR T) [
  ⟨(some 10), none, (.val (.t 5))⟩,
  ⟨(some 11), none, (.bin .add (.t 10) (.c (.i .i64 1)))⟩,
  ⟨(some 5), none, (.val (.t 11))⟩] t H) := runR_reg'
def l21_6 : ACode := (.seq (.seq (.reg d21_2) (.cond (.t 9) .skip (.exit 0))) (.seq (.block 1 (.seq (.reg d21_3) (.cond (.t 17) (.seq (.reg d21_4) .ret) .skip))) (.reg d21_5)))
def d21_7 : List AOper := [
  ⟨(some 4), none, (.val (.c (.b false)))⟩]
theorem r21_7 {fn : AFun} {K : List AItem} {t : Nat → AV} {H : AH} {T : Tbl} : runR T fn (.code (.reg d21_7) :: K) t H = regR T fn K (aops (callR T) [
  ⟨(some 4), none, (.val (.c (.b false)))⟩] t H) := runR_reg'
def a21 : AFun := ⟨18, [(.tmp 4)], (.seq (.reg d21_0) (.seq (.seq (.reg d21_1) (.block 0 (.loop l21_6))) (.seq (.reg d21_7) .ret)))⟩
theorem a21_ok : cfun Try.prog 21 = some a21 := by kernel_rfl
/-- slices.Backward[[]int,int] -/
def d22_0 : List AOper := [
  ⟨(some 1), none, (.box (.t 0))⟩,
  ⟨(some 2), none, (.val (.c .nf))⟩]
theorem r22_0 {fn : AFun} {K : List AItem} {t : Nat → AV} {H : AH} {T : Tbl} : runR T fn (.code (.reg d22_0) :: K) t H = regR T fn K (aops (callR T) [
  ⟨(some 1), none, (.box (.t 0))⟩,
  ⟨(some 2), none, (.val (.c .nf))⟩] t H) := runR_reg'
def d22_1 : List AOper := [
  ⟨(some 3), none, (.mkf (.func 27) [] [(.t 1)])⟩,
  ⟨(some 2), none, (.val (.t 3))⟩]
theorem r22_1 {fn : AFun} {K : List AItem} {t : Nat → AV} {H : AH} {T : Tbl} : runR T fn (.code (.reg d22_1) :: K) t H = regR T fn K (aops (callR T) [
  ⟨(some 3), none, (.mkf (.func 27) [] [(.t 1)])⟩,
  ⟨(some 2), none, (.val (.t 3))⟩] t H) := runR_reg'
def a22 : AFun := ⟨4, [(.tmp 2)], (.seq (.reg d22_0) (.seq (.reg d22_1) .ret))⟩
theorem a22_ok : cfun Try.prog 22 = some a22 := by kernel_rfl
/-- slices.Index[[]int,int] -/
def d23_0 : List AOper := [
  ⟨(some 4), none, (.val (.c (.i .i64 0)))⟩]
theorem r23_0 {fn : AFun} {K : List AItem} {t : Nat → AV} {H : AH} {T : Tbl} : runR T fn (.code (.reg d23_0) :: K) t H = regR T fn K (aops (callR T) [
  ⟨(some 4), none, (.val (.c (.i .i64 0)))⟩] t H) := runR_reg'
def d23_1 : List AOper := [
  ⟨(some 6), none, (.val (.t 0))⟩,
  ⟨(some 7), none, (.len (.t 6))⟩,
  ⟨(some 8), none, (.val (.c (.i .i64 0)))⟩]
theorem r23_1 {fn : AFun} {K : List AItem} {t : Nat → AV} {H : AH} {T : Tbl} : runR T fn (.code (.reg d23_1) :: K) t H = regR T fn K (aops (callR T) [
  ⟨(some 6), none, (.val (.t 0))⟩,
  ⟨(some 7), none, (.len (.t 6))⟩,
  ⟨(some 8), none, (.val (.c (.i .i64 0)))⟩] t H) := runR_reg'
def d23_2 : List AOper := [
  ⟨(some 9), none, (.bin .lss (.t 8) (.t 7))⟩]
theorem r23_2 {fn : AFun} {K : List AItem} {t : Nat → AV} {H : AH} {T : Tbl} : runR T fn (.code (.reg d23_2) :: K) t H = regR T fn K (aops (callR T) [
  ⟨(some 9), none, (.bin .lss (.t 8) (.t 7))⟩] t H) := runR_reg'
def d23_3 : List AOper := [
  ⟨(some 10), none, (.val (.t 8))⟩,
  ⟨(some 5), none, (.val (.t 10))⟩]
theorem r23_3 {fn : AFun} {K : List AItem} {t : Nat → AV} {H : AH} {T : Tbl} : runR T fn (.code (.reg d23_3) :: K) t H = regR T fn K (aops (callR T) [
  ⟨(some 10), none, (.val (.t 8))⟩,
  ⟨(some 5), none, (.val (.t 10))⟩] t H) := runR_reg'
def d23_4 : List AOper := [
  ⟨(some 11), none, (.val (.t 1))⟩,
  ⟨(some 12), none, (.val (.t 0))⟩,
  ⟨(some 13), none, (.val (.t 5))⟩,
  ⟨(some 14), none, (.ia 1 (.t 12) (.t 13))⟩,
  ⟨(some 15), none, (.ld none (.t 14))⟩,
  ⟨(some 16), none, (.bin .eql (.t 11) (.t 15))⟩]
theorem r23_4 {fn : AFun} {K : List AItem} {t : Nat → AV} {H : AH} {T : Tbl} : runR T fn (.code (.reg d23_4) :: K) t H = regR T fn K (aops (callR T) [
  ⟨(some 11), none, (.val (.t 1))⟩,
  ⟨(some 12), none, (.val (.t 0))⟩,
  ⟨(some 13), none, (.val (.t 5))⟩,
  ⟨(some 14), none, (.ia 1 (.t 12) (.t 13))⟩,
  ⟨(some 15), none, (.ld none (.t 14))⟩,
  ⟨(some 16), none, (.bin .eql (.t 11) (.t 15))⟩] t H) := runR_reg'
def d23_5 : List AOper := [
  ⟨(some 17), none, (.val (.t 5))⟩,
  ⟨(some 4), none, (.val (.t 17))⟩]
theorem r23_5 {fn : AFun} {K : List AItem} {t : Nat → AV} {H : AH} {T : Tbl} : runR T fn (.code (.reg d23_5) :: K) t H = regR T fn K (aops (callR T) [
  ⟨(some 17), none, (.val (.t 5))⟩,
  ⟨(some 4), none, (.val (.t 17))⟩] t H) := runR_reg'
def d23_6 : List AOper := [
  ⟨(some 18), none, (.bin .add (.t 8) (.c (.i .i64 1)))⟩,
  ⟨(some 8), none, (.val (.t 18))⟩]
theorem r23_6 {fn : AFun} {K : List AItem} {t : Nat → AV} {H : AH} {T : Tbl} : runR T fn (.code (.reg d23_6) :: K) t H = regR T fn K (aops (callR T) [
  ⟨(some 18), none, (.bin .add (.t 8) (.c (.i .i64 1)))⟩,
  ⟨(some 8), none, (.val (.t 18))⟩] t H) := runR_reg'
def l23_7 : ACode := (.seq (.reg d23_2) (.seq (.cond (.t 9) .skip (.exit 0)) (.seq (.block 1 (.seq (.reg d23_3) (.seq (.reg d23_4) (.cond (.t 16) (.seq (.reg d23_5) .ret) .skip)))) (.reg d23_6))))
def d23_8 : List AOper := [
  ⟨(some 4), none, (.val (.c (.i .i64 (-1))))⟩]
theorem r23_8 {fn : AFun} {K : List AItem} {t : Nat → AV} {H : AH} {T : Tbl} : runR T fn (.code (.reg d23_8) :: K) t H = regR T fn K (aops (callR T) [
  ⟨(some 4), none, (.val (.c (.i .i64 (-1))))⟩] t H) := runR_reg'
def a23 : AFun := ⟨19, [(.tmp 4)], (.seq (.reg d23_0) (.seq (.seq (.reg d23_1) (.block 0 (.loop l23_7))) (.seq (.reg d23_8) .ret)))⟩
theorem a23_ok : cfun Try.prog 23 = some a23 := by kernel_rfl
/-- slices.Concat[[]int,int] -/
def d24_0 : List AOper := [
  ⟨(some 2), none, (.val (.c (.sl none 0 0 true 0)))⟩]
theorem r24_0 {fn : AFun} {K : List AItem} {t : Nat → AV} {H : AH} {T : Tbl} : runR T fn (.code (.reg d24_0) :: K) t H = regR T fn K (aops (callR T) [
  ⟨(some 2), none, (.val (.c (.sl none 0 0 true 0)))⟩] t H) := runR_reg'
def d24_1 : List AOper := [
  ⟨(some 3), none, (.val (.c (.i .i64 0)))⟩]
theorem r24_1 {fn : AFun} {K : List AItem} {t : Nat → AV} {H : AH} {T : Tbl} : runR T fn (.code (.reg d24_1) :: K) t H = regR T fn K (aops (callR T) [
  ⟨(some 3), none, (.val (.c (.i .i64 0)))⟩] t H) := runR_reg'
def d24_2 : List AOper := [
  ⟨(some 9), none, (.val (.t 0))⟩,
  ⟨(some 10), none, (.len (.t 9))⟩,
  ⟨(some 11), none, (.val (.c (.i .i64 0)))⟩]
theorem r24_2 {fn : AFun} {K : List AItem} {t : Nat → AV} {H : AH} {T : Tbl} : runR T fn (.code (.reg d24_2) :: K) t H = regR T fn K (aops (callR T) [
  ⟨(some 9), none, (.val (.t 0))⟩,
  ⟨(some 10), none, (.len (.t 9))⟩,
  ⟨(some 11), none, (.val (.c (.i .i64 0)))⟩] t H) := runR_reg'
def d24_3 : List AOper := [
  ⟨(some 12), none, (.bin .lss (.t 11) (.t 10))⟩]
theorem r24_3 {fn : AFun} {K : List AItem} {t : Nat → AV} {H : AH} {T : Tbl} : runR T fn (.code (.reg d24_3) :: K) t H = regR T fn K (aops (callR T) [
  ⟨(some 12), none, (.bin .lss (.t 11) (.t 10))⟩] t H) := runR_reg'
def d24_4 : List AOper := [
  ⟨(some 13), none, (.ia 1 (.t 9) (.t 11))⟩,
  ⟨(some 14), none, (.ld none (.t 13))⟩,
  ⟨(some 5), none, (.val (.t 14))⟩]
theorem r24_4 {fn : AFun} {K : List AItem} {t : Nat → AV} {H : AH} {T : Tbl} : runR T fn (.code (.reg d24_4) :: K) t H = regR T fn K (aops (callR T) [
  ⟨(some 13), none, (.ia 1 (.t 9) (.t 11))⟩,
  ⟨(some 14), none, (.ld none (.t 13))⟩,
  ⟨(some 5), none, (.val (.t 14))⟩] t H) := runR_reg'
def d24_5 : List AOper := [
  ⟨(some 15), none, (.val (.t 3))⟩,
  ⟨(some 16), none, (.val (.t 5))⟩,
  ⟨(some 17), none, (.len (.t 16))⟩,
  ⟨(some 18), none, (.bin .add (.t 15) (.t 17))⟩,
  ⟨(some 3), none, (.val (.t 18))⟩]
theorem r24_5 {fn : AFun} {K : List AItem} {t : Nat → AV} {H : AH} {T : Tbl} : runR T fn (.code (.reg d24_5) :: K) t H = regR T fn K (aops (callR T) [
  ⟨(some 15), none, (.val (.t 3))⟩,
  ⟨(some 16), none, (.val (.t 5))⟩,
  ⟨(some 17), none, (.len (.t 16))⟩,
  ⟨(some 18), none, (.bin .add (.t 15) (.t 17))⟩,
  ⟨(some 3), none, (.val (.t 18))⟩] t H) := runR_reg'
def d24_6 : List AOper := [
  ⟨(some 19), none, (.val (.t 3))⟩,
  ⟨(some 20), none, (.bin .lss (.t 19) (.c (.i .i64 0)))⟩]
theorem r24_6 {fn : AFun} {K : List AItem} {t : Nat → AV} {H : AH} {T : Tbl} : runR T fn (.code (.reg d24_6) :: K) t H = regR T fn K (aops (callR T) [
  ⟨(some 19), none, (.val (.t 3))⟩,
  ⟨(some 20), none, (.bin .lss (.t 19) (.c (.i .i64 0)))⟩] t H) := runR_reg'
def d24_7 : List AOper := [
  ⟨(some 21), none, (.mki 9 (.c (.s ⟨#[108, 101, 110, 32, 111, 117, 116, 32, 111, 102, 32, 114, 97, 110, 103, 101]⟩)))⟩,
  ⟨none, none, (.dead [(.t 21)])⟩]
theorem r24_7 {fn : AFun} {K : List AItem} {t : Nat → AV} {H : AH} {T : Tbl} : runR T fn (.code (.reg d24_7) :: K) t H = regR T fn K (aops (callR T) [
  ⟨(some 21), none, (.mki 9 (.c (.s ⟨#[108, 101, 110, 32, 111, 117, 116, 32, 111, 102, 32, 114, 97, 110, 103, 101]⟩)))⟩,
  ⟨none, none, (.dead [(.t 21)])⟩] t H) := runR_reg'
def d24_8 : List AOper := [
  ⟨(some 22), none, (.bin .add (.t 11) (.c (.i .i64 1)))⟩,
  ⟨(some 11), none, (.val (.t 22))⟩]
theorem r24_8 {fn : AFun} {K : List AItem} {t : Nat → AV} {H : AH} {T : Tbl} : runR T fn (.code (.reg d24_8) :: K) t H = regR T fn K (aops (callR T) [
  ⟨(some 22), none, (.bin .add (.t 11) (.c (.i .i64 1)))⟩,
  ⟨(some 11), none, (.val (.t 22))⟩] t H) := runR_reg'
def l24_9 : ACode := (.seq (.reg d24_3) (.seq (.cond (.t 12) .skip (.exit 0)) (.seq (.block 1 (.seq (.reg d24_4) (.seq (.reg d24_5) (.seq (.reg d24_6) (.cond (.t 20) (.reg d24_7) .skip))))) (.reg d24_8))))
def d24_10 : List AOper := [
  ⟨(some 23), none, (.val (.t 3))⟩,
  ⟨(some 24), none, (.call 28 [(.c (.sl none 0 0 true 0)), (.t 23)])⟩,
  ⟨(some 6), none, (.val (.t 24))⟩]
theorem r24_10 {fn : AFun} {K : List AItem} {t : Nat → AV} {H : AH} {T : Tbl} : runR T fn (.code (.reg d24_10) :: K) t H = regR T fn K (aops (callR T) [
  ⟨(some 23), none, (.val (.t 3))⟩,
  ⟨(some 24), none, (.call 28 [(.c (.sl none 0 0 true 0)), (.t 23)])⟩,
  ⟨(some 6), none, (.val (.t 24))⟩] t H) := runR_reg'
def d24_11 : List AOper := [
  ⟨(some 25), none, (.val (.t 0))⟩,
  ⟨(some 26), none, (.len (.t 25))⟩,
  ⟨(some 27), none, (.val (.c (.i .i64 0)))⟩]
theorem r24_11 {fn : AFun} {K : List AItem} {t : Nat → AV} {H : AH} {T : Tbl} : runR T fn (.code (.reg d24_11) :: K) t H = regR T fn K (aops (callR T) [
  ⟨(some 25), none, (.val (.t 0))⟩,
  ⟨(some 26), none, (.len (.t 25))⟩,
  ⟨(some 27), none, (.val (.c (.i .i64 0)))⟩] t H) := runR_reg'
def d24_12 : List AOper := [
  ⟨(some 28), none, (.bin .lss (.t 27) (.t 26))⟩]
theorem r24_12 {fn : AFun} {K : List AItem} {t : Nat → AV} {H : AH} {T : Tbl} : runR T fn (.code (.reg d24_12) :: K) t H = regR T fn K (aops (callR T) [
  ⟨(some 28), none, (.bin .lss (.t 27) (.t 26))⟩] t H) := runR_reg'
def d24_13 : List AOper := [
  ⟨(some 29), none, (.ia 1 (.t 25) (.t 27))⟩,
  ⟨(some 30), none, (.ld none (.t 29))⟩,
  ⟨(some 8), none, (.val (.t 30))⟩]
theorem r24_13 {fn : AFun} {K : List AItem} {t : Nat → AV} {H : AH} {T : Tbl} : runR T fn (.code (.reg d24_13) :: K) t H = regR T fn K (aops (callR T) [
  ⟨(some 29), none, (.ia 1 (.t 25) (.t 27))⟩,
  ⟨(some 30), none, (.ld none (.t 29))⟩,
  ⟨(some 8), none, (.val (.t 30))⟩] t H) := runR_reg'
def d24_14 : List AOper := [
  ⟨(some 31), none, (.val (.t 6))⟩,
  ⟨(some 32), none, (.val (.t 8))⟩,
  ⟨(some 33), none, (.app [(.i .i64 0)] 8 (.t 31) (.t 32))⟩,
  ⟨(some 6), none, (.val (.t 33))⟩]
theorem r24_14 {fn : AFun} {K : List AItem} {t : Nat → AV} {H : AH} {T : Tbl} : runR T fn (.code (.reg d24_14) :: K) t H = regR T fn K (aops (callR T) [
  ⟨(some 31), none, (.val (.t 6))⟩,
  ⟨(some 32), none, (.val (.t 8))⟩,
  ⟨(some 33), none, (.app [(.i .i64 0)] 8 (.t 31) (.t 32))⟩,
  ⟨(some 6), none, (.val (.t 33))⟩] t H) := runR_reg'
def d24_15 : List AOper := [
  ⟨(some 34), none, (.bin .add (.t 27) (.c (.i .i64 1)))⟩,
  ⟨(some 27), none, (.val (.t 34))⟩]
theorem r24_15 {fn : AFun} {K : List AItem} {t : Nat → AV} {H : AH} {T : Tbl} : runR T fn (.code (.reg d24_15) :: K) t H = regR T fn K (aops (callR T) [
  ⟨(some 34), none, (.bin .add (.t 27) (.c (.i .i64 1)))⟩,
  ⟨(some 27), none, (.val (.t 34))⟩] t H) := runR_reg'
def l24_16 : ACode := (.seq (.reg d24_12) (.seq (.cond (.t 28) .skip (.exit 2)) (.seq (.block 3 (.seq (.reg d24_13) (.reg d24_14))) (.reg d24_15))))
def d24_17 : List AOper := [
  ⟨(some 35), none, (.val (.t 6))⟩,
  ⟨(some 2), none, (.val (.t 35))⟩]
theorem r24_17 {fn : AFun} {K : List AItem} {t : Nat → AV} {H : AH} {T : Tbl} : runR T fn (.code (.reg d24_17) :: K) t H = regR T fn K (aops (callR T) [
  ⟨(some 35), none, (.val (.t 6))⟩,
  ⟨(some 2), none, (.val (.t 35))⟩] t H) := runR_reg'
def a24 : AFun := ⟨36, [(.tmp 2)], (.seq (.reg d24_0) (.seq (.reg d24_1) (.seq (.seq (.reg d24_2) (.block 0 (.loop l24_9))) (.seq (.reg d24_10) (.seq (.seq (.reg d24_11) (.block 2 (.loop l24_16))) (.seq (.reg d24_17) .ret))))))⟩
theorem a24_ok : cfun Try.prog 24 = some a24 := by kernel_rfl
/-- slices.Clone[[]int,int] -/
def d25_0 : List AOper := [
  ⟨(some 2), none, (.val (.c (.sl none 0 0 true 0)))⟩]
theorem r25_0 {fn : AFun} {K : List AItem} {t : Nat → AV} {H : AH} {T : Tbl} : runR T fn (.code (.reg d25_0) :: K) t H = regR T fn K (aops (callR T) [
  ⟨(some 2), none, (.val (.c (.sl none 0 0 true 0)))⟩] t H) := runR_reg'
def d25_1 : List AOper := [
  ⟨(some 3), none, (.val (.t 0))⟩,
  ⟨(some 4), none, (.eqn 1 false (.t 3) (.c (.sl none 0 0 true 0)))⟩]
theorem r25_1 {fn : AFun} {K : List AItem} {t : Nat → AV} {H : AH} {T : Tbl} : runR T fn (.code (.reg d25_1) :: K) t H = regR T fn K (aops (callR T) [
  ⟨(some 3), none, (.val (.t 0))⟩,
  ⟨(some 4), none, (.eqn 1 false (.t 3) (.c (.sl none 0 0 true 0)))⟩] t H) := runR_reg'
def d25_2 : List AOper := [
  ⟨(some 2), none, (.val (.c (.sl none 0 0 true 0)))⟩]
theorem r25_2 {fn : AFun} {K : List AItem} {t : Nat → AV} {H : AH} {T : Tbl} : runR T fn (.code (.reg d25_2) :: K) t H = regR T fn K (aops (callR T) [
  ⟨(some 2), none, (.val (.c (.sl none 0 0 true 0)))⟩] t H) := runR_reg'
def d25_3 : List AOper := [
  ⟨(some 5), none, (.bsl [(.i .i64 0)] 0 [])⟩,
  ⟨(some 6), none, (.val (.t 0))⟩,
  ⟨(some 7), none, (.app [(.i .i64 0)] 8 (.t 5) (.t 6))⟩,
  ⟨(some 2), none, (.val (.t 7))⟩]
theorem r25_3 {fn : AFun} {K : List AItem} {t : Nat → AV} {H : AH} {T : Tbl} : runR T fn (.code (.reg d25_3) :: K) t H = regR T fn K (aops (callR T) [
  ⟨(some 5), none, (.bsl [(.i .i64 0)] 0 [])⟩,
  ⟨(some 6), none, (.val (.t 0))⟩,
  ⟨(some 7), none, (.app [(.i .i64 0)] 8 (.t 5) (.t 6))⟩,
  ⟨(some 2), none, (.val (.t 7))⟩] t H) := runR_reg'
def a25 : AFun := ⟨8, [(.tmp 2)], (.seq (.reg d25_0) (.seq (.seq (.reg d25_1) (.cond (.t 4) (.seq (.reg d25_2) .ret) .skip)) (.seq (.reg d25_3) .ret)))⟩
theorem a25_ok : cfun Try.prog 25 = some a25 := by kernel_rfl
/-- slices.Contains[[]int,int] -/
def d26_0 : List AOper := [
  ⟨(some 4), none, (.val (.c (.b false)))⟩]
theorem r26_0 {fn : AFun} {K : List AItem} {t : Nat → AV} {H : AH} {T : Tbl} : runR T fn (.code (.reg d26_0) :: K) t H = regR T fn K (aops (callR T) [
  ⟨(some 4), none, (.val (.c (.b false)))⟩] t H) := runR_reg'
def d26_1 : List AOper := [
  ⟨(some 5), none, (.val (.t 0))⟩,
  ⟨(some 6), none, (.val (.t 1))⟩,
  ⟨(some 7), none, (.call 23 [(.t 5), (.t 6)])⟩,
  ⟨(some 8), none, (.bin .geq (.t 7) (.c (.i .i64 0)))⟩,
  ⟨(some 4), none, (.val (.t 8))⟩]
theorem r26_1 {fn : AFun} {K : List AItem} {t : Nat → AV} {H : AH} {T : Tbl} : runR T fn (.code (.reg d26_1) :: K) t H = regR T fn K (aops (callR T) [
  ⟨(some 5), none, (.val (.t 0))⟩,
  ⟨(some 6), none, (.val (.t 1))⟩,
  ⟨(some 7), none, (.call 23 [(.t 5), (.t 6)])⟩,
  ⟨(some 8), none, (.bin .geq (.t 7) (.c (.i .i64 0)))⟩,
  ⟨(some 4), none, (.val (.t 8))⟩] t H) := runR_reg'
def a26 : AFun := ⟨9, [(.tmp 4)], (.seq (.reg d26_0) (.seq (.reg d26_1) .ret))⟩
theorem a26_ok : cfun Try.prog 26 = some a26 := by kernel_rfl
/-- slices.Backward[[]int,int]$1 -/
def d27_0 : List AOper := [
  ⟨(some 4), none, (.ld none (.t 1))⟩,
  ⟨(some 5), none, (.len (.t 4))⟩,
  ⟨(some 6), none, (.bin .sub (.t 5) (.c (.i .i64 1)))⟩,
  ⟨(some 3), none, (.val (.t 6))⟩]
theorem r27_0 {fn : AFun} {K : List AItem} {t : Nat → AV} {H : AH} {T : Tbl} : runR T fn (.code (.reg d27_0) :: K) t H = regR T fn K (aops (callR T) [
  ⟨(some 4), none, (.ld none (.t 1))⟩,
  ⟨(some 5), none, (.len (.t 4))⟩,
  ⟨(some 6), none, (.bin .sub (.t 5) (.c (.i .i64 1)))⟩,
  ⟨(some 3), none, (.val (.t 6))⟩] t H) := runR_reg'
def d27_1 : List AOper := [
  ⟨(some 7), none, (.val (.t 3))⟩,
  ⟨(some 8), none, (.bin .geq (.t 7) (.c (.i .i64 0)))⟩]
theorem r27_1 {fn : AFun} {K : List AItem} {t : Nat → AV} {H : AH} {T : Tbl} : runR T fn (.code (.reg d27_1) :: K) t H = regR T fn K (aops (callR T) [
  ⟨(some 7), none, (.val (.t 3))⟩,
  ⟨(some 8), none, (.bin .geq (.t 7) (.c (.i .i64 0)))⟩] t H) := runR_reg'
def d27_2 : List AOper := [
  ⟨(some 11), none, (.val (.t 0))⟩,
  ⟨(some 12), none, (.val (.t 3))⟩,
  ⟨(some 13), none, (.ld none (.t 1))⟩,
  ⟨(some 14), none, (.val (.t 3))⟩,
  ⟨(some 15), none, (.ia 1 (.t 13) (.t 14))⟩,
  ⟨(some 16), none, (.ld none (.t 15))⟩,
  ⟨(some 17), none, (.callv (.t 11) [(.t 12), (.t 16)])⟩,
  ⟨(some 18), none, (.un .not (.t 17))⟩]
theorem r27_2 {fn : AFun} {K : List AItem} {t : Nat → AV} {H : AH} {T : Tbl} : runR T fn (.code (.reg d27_2) :: K) t H = regR T fn K (aops (callR T) [
  ⟨(some 11), none, (.val (.t 0))⟩,
  ⟨(some 12), none, (.val (.t 3))⟩,
  ⟨(some 13), none, (.ld none (.t 1))⟩,
  ⟨(some 14), none, (.val (.t 3))⟩,
  ⟨(some 15), none, (.ia 1 (.t 13) (.t 14))⟩,
  ⟨(some 16), none, (.ld none (.t 15))⟩,
  ⟨(some 17), none, (.callv (.t 11) [(.t 12), (.t 16)])⟩,
  ⟨(some 18), none, (.un .not (.t 17))⟩] t H) := runR_reg'
def d27_3 : List AOper := [
  ⟨(some 9), none, (.val (.t 3))⟩,
  ⟨(some 10), none, (.bin .sub (.t 9) (.c (.i .i64 1)))⟩,
  ⟨(some 3), none, (.val (.t 10))⟩]
theorem r27_3 {fn : AFun} {K : List AItem} {t : Nat → AV} {H : AH} {T : Tbl} : runR T fn (.code (.reg d27_3) :: K) t H = regR T fn K (aops (callR T) [
  ⟨(some 9), none, (.val (.t 3))⟩,
  ⟨(some 10), none, (.bin .sub (.t 9) (.c (.i .i64 1)))⟩,
  ⟨(some 3), none, (.val (.t 10))⟩] t H) := runR_reg'
def l27_4 : ACode := (.seq (.seq (.reg d27_1) (.cond (.t 8) .skip (.exit 0))) (.seq (.block 1 (.seq (.reg d27_2) (.cond (.t 18) .ret .skip))) (.reg d27_3)))
def a27 : AFun := ⟨19, [], (.seq (.reg d27_0) (.block 0 (.loop l27_4)))⟩
theorem a27_ok : cfun Try.prog 27 = some a27 := by kernel_rfl
/-- slices.Grow[[]int,int] -/
def d28_0 : List AOper := [
  ⟨(some 4), none, (.val (.c (.sl none 0 0 true 0)))⟩]
theorem r28_0 {fn : AFun} {K : List AItem} {t : Nat → AV} {H : AH} {T : Tbl} : runR T fn (.code (.reg d28_0) :: K) t H = regR T fn K (aops (callR T) [
  ⟨(some 4), none, (.val (.c (.sl none 0 0 true 0)))⟩] t H) := runR_reg'
def d28_1 : List AOper := [
  ⟨(some 5), none, (.val (.t 1))⟩,
  ⟨(some 6), none, (.bin .lss (.t 5) (.c (.i .i64 0)))⟩]
theorem r28_1 {fn : AFun} {K : List AItem} {t : Nat → AV} {H : AH} {T : Tbl} : runR T fn (.code (.reg d28_1) :: K) t H = regR T fn K (aops (callR T) [
  ⟨(some 5), none, (.val (.t 1))⟩,
  ⟨(some 6), none, (.bin .lss (.t 5) (.c (.i .i64 0)))⟩] t H) := runR_reg'
def d28_2 : List AOper := [
  ⟨(some 7), none, (.mki 9 (.c (.s ⟨#[99, 97, 110, 110, 111, 116, 32, 98, 101, 32, 110, 101, 103, 97, 116, 105, 118, 101]⟩)))⟩,
  ⟨none, none, (.dead [(.t 7)])⟩]
theorem r28_2 {fn : AFun} {K : List AItem} {t : Nat → AV} {H : AH} {T : Tbl} : runR T fn (.code (.reg d28_2) :: K) t H = regR T fn K (aops (callR T) [
  ⟨(some 7), none, (.mki 9 (.c (.s ⟨#[99, 97, 110, 110, 111, 116, 32, 98, 101, 32, 110, 101, 103, 97, 116, 105, 118, 101]⟩)))⟩,
  ⟨none, none, (.dead [(.t 7)])⟩] t H) := runR_reg'
def d28_3 : List AOper := [
  ⟨(some 8), none, (.val (.t 1))⟩,
  ⟨(some 9), none, (.val (.t 0))⟩,
  ⟨(some 10), none, (.cap (.t 9))⟩,
  ⟨(some 11), none, (.val (.t 0))⟩,
  ⟨(some 12), none, (.len (.t 11))⟩,
  ⟨(some 13), none, (.bin .sub (.t 10) (.t 12))⟩,
  ⟨(some 14), none, (.bin .sub (.t 8) (.t 13))⟩,
  ⟨(some 1), none, (.val (.t 14))⟩]
theorem r28_3 {fn : AFun} {K : List AItem} {t : Nat → AV} {H : AH} {T : Tbl} : runR T fn (.code (.reg d28_3) :: K) t H = regR T fn K (aops (callR T) [
  ⟨(some 8), none, (.val (.t 1))⟩,
  ⟨(some 9), none, (.val (.t 0))⟩,
  ⟨(some 10), none, (.cap (.t 9))⟩,
  ⟨(some 11), none, (.val (.t 0))⟩,
  ⟨(some 12), none, (.len (.t 11))⟩,
  ⟨(some 13), none, (.bin .sub (.t 10) (.t 12))⟩,
  ⟨(some 14), none, (.bin .sub (.t 8) (.t 13))⟩,
  ⟨(some 1), none, (.val (.t 14))⟩] t H) := runR_reg'
def d28_4 : List AOper := [
  ⟨(some 15), none, (.val (.t 1))⟩,
  ⟨(some 16), none, (.bin .gtr (.t 15) (.c (.i .i64 0)))⟩]
theorem r28_4 {fn : AFun} {K : List AItem} {t : Nat → AV} {H : AH} {T : Tbl} : runR T fn (.code (.reg d28_4) :: K) t H = regR T fn K (aops (callR T) [
  ⟨(some 15), none, (.val (.t 1))⟩,
  ⟨(some 16), none, (.bin .gtr (.t 15) (.c (.i .i64 0)))⟩] t H) := runR_reg'
def d28_5 : List AOper := [
  ⟨(some 17), none, (.val (.t 0))⟩,
  ⟨(some 18), none, (.val (.t 0))⟩,
  ⟨(some 19), none, (.cap (.t 18))⟩,
  ⟨(some 20), none, (.sls 1 (.t 17) none (some (.t 19)) none)⟩,
  ⟨(some 21), none, (.val (.t 1))⟩,
  ⟨(some 22), none, (.apm [(.i .i64 0)] 8 (.t 20) (.t 21))⟩,
  ⟨(some 23), none, (.val (.t 0))⟩,
  ⟨(some 24), none, (.len (.t 23))⟩,
  ⟨(some 25), none, (.sls 1 (.t 22) none (some (.t 24)) none)⟩,
  ⟨(some 0), none, (.val (.t 25))⟩]
theorem r28_5 {fn : AFun} {K : List AItem} {t : Nat → AV} {H : AH} {T : Tbl} : runR T fn (.code (.reg d28_5) :: K) t H = regR T fn K (aops (callR T) [
  ⟨(some 17), none, (.val (.t 0))⟩,
  ⟨(some 18), none, (.val (.t 0))⟩,
  ⟨(some 19), none, (.cap (.t 18))⟩,
  ⟨(some 20), none, (.sls 1 (.t 17) none (some (.t 19)) none)⟩,
  ⟨(some 21), none, (.val (.t 1))⟩,
  ⟨(some 22), none, (.apm [(.i .i64 0)] 8 (.t 20) (.t 21))⟩,
  ⟨(some 23), none, (.val (.t 0))⟩,
  ⟨(some 24), none, (.len (.t 23))⟩,
  ⟨(some 25), none, (.sls 1 (.t 22) none (some (.t 24)) none)⟩,
  ⟨(some 0), none, (.val (.t 25))⟩] t H) := runR_reg'
def d28_6 : List AOper := [
  ⟨(some 26), none, (.val (.t 0))⟩,
  ⟨(some 4), none, (.val (.t 26))⟩]
theorem r28_6 {fn : AFun} {K : List AItem} {t : Nat → AV} {H : AH} {T : Tbl} : runR T fn (.code (.reg d28_6) :: K) t H = regR T fn K (aops (callR T) [
  ⟨(some 26), none, (.val (.t 0))⟩,
  ⟨(some 4), none, (.val (.t 26))⟩] t H) := runR_reg'
def a28 : AFun := ⟨27, [(.tmp 4)], (.seq (.reg d28_0) (.seq (.seq (.reg d28_1) (.cond (.t 6) (.reg d28_2) .skip)) (.seq (.seq (.reg d28_3) (.seq (.reg d28_4) (.cond (.t 16) (.reg d28_5) .skip))) (.seq (.reg d28_6) .ret))))⟩
theorem a28_ok : cfun Try.prog 28 = some a28 := by kernel_rfl
/-- All of them. -/
def tblE : FuncId → Option AFun
  | 3 => some a3
  | 4 => some a4
  | 5 => some a5
  | 6 => some a6
  | 7 => some a7
  | 8 => some a8
  | 9 => some a9
  | 10 => some a10
  | 11 => some a11
  | 12 => some a12
  | 13 => some a13
  | 14 => some a14
  | 15 => some a15
  | 16 => some a16
  | 17 => some a17
  | 18 => some a18
  | 19 => some a19
  | 20 => some a20
  | 21 => some a21
  | 22 => some a22
  | 23 => some a23
  | 24 => some a24
  | 25 => some a25
  | 26 => some a26
  | 27 => some a27
  | 28 => some a28
  | _ => none
/-- Those that the plain machine runs. -/
def tblF : FuncId → Option AFun
  | 3 => some a3
  | 4 => some a4
  | 5 => some a5
  | 6 => some a6
  | 7 => some a7
  | 8 => some a8
  | 9 => some a9
  | 10 => some a10
  | 11 => some a11
  | 12 => some a12
  | 13 => some a13
  | 15 => some a15
  | 16 => some a16
  | 17 => some a17
  | 18 => some a18
  | 19 => some a19
  | 20 => some a20
  | 21 => some a21
  | 22 => some a22
  | 23 => some a23
  | 24 => some a24
  | 25 => some a25
  | 26 => some a26
  | 27 => some a27
  | 28 => some a28
  | _ => none
structure Prm where
  p : PrimF
  up : ∀ f a H v H', p f a H = some (v, H') → H.n ≤ H'.n
def tblP (q : Prm) : Tbl := ⟨tblF, q.p, q.up⟩
theorem tbl3 {q : Prm} : (tblP q).f 3 = some a3 := rfl
theorem c3 {q : Prm} {x0 : AV} {H : AH} : callR (tblP q) 3 [x0] H = runR (tblP q) a3 [.code a3.body] (ainit [x0]) H := callR_of tbl3 (Nat.le_of_ble_eq_true rfl)
theorem b3 : a3.body = (.seq (.reg d3_0) (.seq (.seq (.reg d3_1) (.cond (.t 17) (.seq (.reg d3_2) .ret) .skip)) (.seq (.reg d3_3) (.seq (.reg d3_4) (.seq (.reg d3_5) (.seq (.seq (.reg d3_6) (.block 0 (.loop l3_17))) (.seq (.seq (.reg d3_18) (.block 2 (.loop l3_26))) (.seq (.reg d3_27) .ret)))))))) := rfl
theorem s3 : a3.res = [(.tmp 2)] := rfl
theorem tbl4 {q : Prm} : (tblP q).f 4 = some a4 := rfl
theorem c4 {q : Prm} {x0 : AV} {H : AH} : callR (tblP q) 4 [x0] H = runR (tblP q) a4 [.code a4.body] (ainit [x0]) H := callR_of tbl4 (Nat.le_of_ble_eq_true rfl)
theorem b4 : a4.body = (.seq (.reg d4_0) (.seq (.seq (.reg d4_1) (.cond (.t 24) (.seq (.reg d4_2) .ret) .skip)) (.seq (.reg d4_3) (.seq (.reg d4_4) (.seq (.seq (.reg d4_5) (.block 0 (.loop l4_30))) (.seq (.reg d4_31) .ret)))))) := rfl
theorem s4 : a4.res = [(.tmp 2)] := rfl
theorem tbl5 {q : Prm} : (tblP q).f 5 = some a5 := rfl
theorem c5 {q : Prm} {x0 : AV} {H : AH} : callR (tblP q) 5 [x0] H = runR (tblP q) a5 [.code a5.body] (ainit [x0]) H := callR_of tbl5 (Nat.le_of_ble_eq_true rfl)
theorem b5 : a5.body = (.seq (.reg d5_0) (.seq (.seq (.reg d5_1) (.cond (.t 23) (.seq (.reg d5_2) .ret) .skip)) (.seq (.reg d5_3) (.seq (.reg d5_4) (.seq (.reg d5_5) (.seq (.seq (.reg d5_6) (.block 0 (.loop l5_25))) (.seq (.seq (.reg d5_26) (.block 4 (.loop l5_32))) (.seq (.reg d5_33) .ret)))))))) := rfl
theorem s5 : a5.res = [(.tmp 2)] := rfl
theorem tbl6 {q : Prm} : (tblP q).f 6 = some a6 := rfl
theorem c6 {q : Prm} {x0 x1 x2 : AV} {H : AH} : callR (tblP q) 6 [x0, x1, x2] H = runR (tblP q) a6 [.code a6.body] (ainit [x0, x1, x2]) H := callR_of tbl6 (Nat.le_of_ble_eq_true rfl)
theorem b6 : a6.body = (.seq (.reg d6_0) (.seq (.seq (.reg d6_1) (.cond (.t 30) (.seq (.reg d6_2) .ret) .skip)) (.seq (.reg d6_3) (.seq (.seq (.reg d6_4) (.block 0 (.loop l6_9))) (.seq (.reg d6_10) (.seq (.reg d6_11) (.seq (.seq (.reg d6_12) (.block 2 (.loop l6_20))) (.seq (.reg d6_21) (.seq (.reg d6_22) (.seq (.seq (.reg d6_23) (.block 4 (.loop l6_30))) (.seq (.reg d6_31) (.seq (.seq (.reg d6_32) (.cond (.t 95) (.reg d6_33) .skip)) (.seq (.drw d6_34) .ret))))))))))))) := rfl
theorem s6 : a6.res = [(.tmp 6)] := rfl
theorem tbl7 {q : Prm} : (tblP q).f 7 = some a7 := rfl
theorem c7 {q : Prm} {H : AH} : callR (tblP q) 7 [] H = runR (tblP q) a7 [.code a7.body] (ainit []) H := callR_of tbl7 (Nat.le_of_ble_eq_true rfl)
theorem b7 : a7.body = (.seq (.reg d7_0) (.seq (.reg d7_1) (.seq (.reg d7_2) (.seq (.reg d7_3) .ret)))) := rfl
theorem s7 : a7.res = [(.tmp 0)] := rfl
theorem tbl8 {q : Prm} : (tblP q).f 8 = some a8 := rfl
theorem c8 {q : Prm} {x0 x1 : AV} {H : AH} : callR (tblP q) 8 [x0, x1] H = runR (tblP q) a8 [.code a8.body] (ainit [x0, x1]) H := callR_of tbl8 (Nat.le_of_ble_eq_true rfl)
theorem b8 : a8.body = (.seq (.reg d8_0) (.seq (.seq (.reg d8_1) (.cond (.t 17) (.seq (.reg d8_2) .ret) .skip)) (.seq (.reg d8_3) (.seq (.reg d8_4) .ret)))) := rfl
theorem s8 : a8.res = [(.cell 4 (some 1)), (.tmp 5)] := rfl
theorem tbl9 {q : Prm} : (tblP q).f 9 = some a9 := rfl
theorem c9 {q : Prm} {x0 : AV} {H : AH} : callR (tblP q) 9 [x0] H = runR (tblP q) a9 [.code a9.body] (ainit [x0]) H := callR_of tbl9 (Nat.le_of_ble_eq_true rfl)
theorem b9 : a9.body = (.seq (.reg d9_0) (.seq (.seq (.reg d9_1) (.cond (.t 8) (.seq (.drw d9_2) .ret) .skip)) (.seq (.drw d9_3) .ret))) := rfl
theorem s9 : a9.res = [(.tmp 2), (.cell 3 (some 1)), (.tmp 4)] := rfl
theorem tbl10 {q : Prm} : (tblP q).f 10 = some a10 := rfl
theorem c10 {q : Prm} {x0 : AV} {H : AH} : callR (tblP q) 10 [x0] H = runR (tblP q) a10 [.code a10.body] (ainit [x0]) H := callR_of tbl10 (Nat.le_of_ble_eq_true rfl)
theorem b10 : a10.body = (.seq (.reg d10_0) (.seq (.reg d10_1) .ret)) := rfl
theorem s10 : a10.res = [(.tmp 2)] := rfl
theorem tbl11 {q : Prm} : (tblP q).f 11 = some a11 := rfl
theorem c11 {q : Prm} {x0 : AV} {H : AH} : callR (tblP q) 11 [x0] H = runR (tblP q) a11 [.code a11.body] (ainit [x0]) H := callR_of tbl11 (Nat.le_of_ble_eq_true rfl)
theorem b11 : a11.body = (.seq (.reg d11_0) (.seq (.reg d11_1) (.seq (.seq (.reg d11_2) (.block 0 (.loop l11_7))) (.seq (.reg d11_8) .ret)))) := rfl
theorem s11 : a11.res = [(.tmp 2)] := rfl
theorem tbl12 {q : Prm} : (tblP q).f 12 = some a12 := rfl
theorem c12 {q : Prm} {x0 : AV} {H : AH} : callR (tblP q) 12 [x0] H = runR (tblP q) a12 [.code a12.body] (ainit [x0]) H := callR_of tbl12 (Nat.le_of_ble_eq_true rfl)
theorem b12 : a12.body = (.seq (.reg d12_0) (.seq (.reg d12_1) .ret)) := rfl
theorem s12 : a12.res = [(.tmp 2)] := rfl
theorem tbl13 {q : Prm} : (tblP q).f 13 = some a13 := rfl
theorem c13 {q : Prm} {x0 x1 : AV} {H : AH} : callR (tblP q) 13 [x0, x1] H = runR (tblP q) a13 [.code a13.body] (ainit [x0, x1]) H := callR_of tbl13 (Nat.le_of_ble_eq_true rfl)
theorem b13 : a13.body = (.seq (.reg d13_0) (.seq (.seq (.reg d13_1) (.cond (.t 16) (.seq (.reg d13_2) .ret) .skip)) (.seq (.reg d13_3) .ret))) := rfl
theorem s13 : a13.res = [(.tmp 4), (.tmp 5)] := rfl
theorem b14 : a14.body = (.seq (.reg d14_0) (.seq (.reg d14_1) (.seq (.seq (.reg d14_2) (.block 0 (.rf (.t 12) [13, 14] f14_8a f14_8b))) (.seq (.drw d14_9) .ret)))) := rfl
theorem s14 : a14.res = [(.cell 4 (some 1)), (.tmp 5)] := rfl
theorem tbl15 {q : Prm} : (tblP q).f 15 = some a15 := rfl
theorem c15 {q : Prm} {x0 x1 : AV} {H : AH} : callR (tblP q) 15 [x0, x1] H = runR (tblP q) a15 [.code a15.body] (ainit [x0, x1]) H := callR_of tbl15 (Nat.le_of_ble_eq_true rfl)
theorem b15 : a15.body = (.seq (.reg d15_0) (.seq (.reg d15_1) (.seq (.seq (.reg d15_2) (.block 0 (.loop l15_9))) (.seq (.reg d15_10) .ret)))) := rfl
theorem s15 : a15.res = [(.tmp 4), (.tmp 5)] := rfl
theorem tbl16 {q : Prm} : (tblP q).f 16 = some a16 := rfl
theorem c16 {q : Prm} {x0 x1 : AV} {H : AH} : callR (tblP q) 16 [x0, x1] H = runR (tblP q) a16 [.code a16.body] (ainit [x0, x1]) H := callR_of tbl16 (Nat.le_of_ble_eq_true rfl)
theorem b16 : a16.body = (.seq (.reg d16_0) (.seq (.reg d16_1) (.seq (.seq (.reg d16_2) (.cond (.t 12) (.seq (.reg d16_3) .ret) .skip)) (.seq (.drw d16_4) .ret)))) := rfl
theorem s16 : a16.res = [(.cell 4 (some 1)), (.tmp 5)] := rfl
theorem tbl17 {q : Prm} : (tblP q).f 17 = some a17 := rfl
theorem c17 {q : Prm} {x0 x1 : AV} {H : AH} : callR (tblP q) 17 [x0, x1] H = runR (tblP q) a17 [.code a17.body] (ainit [x0, x1]) H := callR_of tbl17 (Nat.le_of_ble_eq_true rfl)
theorem b17 : a17.body = (.seq (.reg d17_0) (.seq (.reg d17_1) (.seq (.seq (.reg d17_2) (.block 0 (.loop l17_7))) (.seq (.reg d17_8) .ret)))) := rfl
theorem s17 : a17.res = [(.tmp 4), (.tmp 5)] := rfl
theorem tbl18 {q : Prm} : (tblP q).f 18 = some a18 := rfl
theorem c18 {q : Prm} {x0 x1 : AV} {H : AH} : callR (tblP q) 18 [x0, x1] H = runR (tblP q) a18 [.code a18.body] (ainit [x0, x1]) H := callR_of tbl18 (Nat.le_of_ble_eq_true rfl)
theorem b18 : a18.body = (.seq (.reg d18_0) (.seq (.seq (.reg d18_1) (.cond (.t 10) (.seq (.reg d18_2) .ret) .skip)) (.seq (.seq (.reg d18_3) (.block 0 (.loop l18_9))) (.seq (.reg d18_10) .ret)))) := rfl
theorem s18 : a18.res = [(.tmp 4)] := rfl
theorem tbl19 {q : Prm} : (tblP q).f 19 = some a19 := rfl
theorem c19 {q : Prm} {x0 : AV} {H : AH} : callR (tblP q) 19 [x0] H = runR (tblP q) a19 [.code a19.body] (ainit [x0]) H := callR_of tbl19 (Nat.le_of_ble_eq_true rfl)
theorem b19 : a19.body = (.seq (.reg d19_0) (.seq (.reg d19_1) .ret)) := rfl
theorem s19 : a19.res = [(.tmp 2)] := rfl
theorem tbl20 {q : Prm} : (tblP q).f 20 = some a20 := rfl
theorem c20 {q : Prm} {x0 x1 : AV} {H : AH} : callR (tblP q) 20 [x0, x1] H = runR (tblP q) a20 [.code a20.body] (ainit [x0, x1]) H := callR_of tbl20 (Nat.le_of_ble_eq_true rfl)
theorem b20 : a20.body = (.seq (.reg d20_0) (.seq (.reg d20_1) .ret)) := rfl
theorem s20 : a20.res = [(.tmp 4)] := rfl
theorem tbl21 {q : Prm} : (tblP q).f 21 = some a21 := rfl
theorem c21 {q : Prm} {x0 x1 : AV} {H : AH} : callR (tblP q) 21 [x0, x1] H = runR (tblP q) a21 [.code a21.body] (ainit [x0, x1]) H := callR_of tbl21 (Nat.le_of_ble_eq_true rfl)
theorem b21 : a21.body = (.seq (.reg d21_0) (.seq (.seq (.reg d21_1) (.block 0 (.loop l21_6))) (.seq (.reg d21_7) .ret))) := rfl
theorem s21 : a21.res = [(.tmp 4)] := rfl
theorem tbl22 {q : Prm} : (tblP q).f 22 = some a22 := rfl
theorem c22 {q : Prm} {x0 : AV} {H : AH} : callR (tblP q) 22 [x0] H = runR (tblP q) a22 [.code a22.body] (ainit [x0]) H := callR_of tbl22 (Nat.le_of_ble_eq_true rfl)
theorem b22 : a22.body = (.seq (.reg d22_0) (.seq (.reg d22_1) .ret)) := rfl
theorem s22 : a22.res = [(.tmp 2)] := rfl
theorem tbl23 {q : Prm} : (tblP q).f 23 = some a23 := rfl
theorem c23 {q : Prm} {x0 x1 : AV} {H : AH} : callR (tblP q) 23 [x0, x1] H = runR (tblP q) a23 [.code a23.body] (ainit [x0, x1]) H := callR_of tbl23 (Nat.le_of_ble_eq_true rfl)
theorem b23 : a23.body = (.seq (.reg d23_0) (.seq (.seq (.reg d23_1) (.block 0 (.loop l23_7))) (.seq (.reg d23_8) .ret))) := rfl
theorem s23 : a23.res = [(.tmp 4)] := rfl
theorem tbl24 {q : Prm} : (tblP q).f 24 = some a24 := rfl
theorem c24 {q : Prm} {x0 : AV} {H : AH} : callR (tblP q) 24 [x0] H = runR (tblP q) a24 [.code a24.body] (ainit [x0]) H := callR_of tbl24 (Nat.le_of_ble_eq_true rfl)
theorem b24 : a24.body = (.seq (.reg d24_0) (.seq (.reg d24_1) (.seq (.seq (.reg d24_2) (.block 0 (.loop l24_9))) (.seq (.reg d24_10) (.seq (.seq (.reg d24_11) (.block 2 (.loop l24_16))) (.seq (.reg d24_17) .ret)))))) := rfl
theorem s24 : a24.res = [(.tmp 2)] := rfl
theorem tbl25 {q : Prm} : (tblP q).f 25 = some a25 := rfl
theorem c25 {q : Prm} {x0 : AV} {H : AH} : callR (tblP q) 25 [x0] H = runR (tblP q) a25 [.code a25.body] (ainit [x0]) H := callR_of tbl25 (Nat.le_of_ble_eq_true rfl)
theorem b25 : a25.body = (.seq (.reg d25_0) (.seq (.seq (.reg d25_1) (.cond (.t 4) (.seq (.reg d25_2) .ret) .skip)) (.seq (.reg d25_3) .ret))) := rfl
theorem s25 : a25.res = [(.tmp 2)] := rfl
theorem tbl26 {q : Prm} : (tblP q).f 26 = some a26 := rfl
theorem c26 {q : Prm} {x0 x1 : AV} {H : AH} : callR (tblP q) 26 [x0, x1] H = runR (tblP q) a26 [.code a26.body] (ainit [x0, x1]) H := callR_of tbl26 (Nat.le_of_ble_eq_true rfl)
theorem b26 : a26.body = (.seq (.reg d26_0) (.seq (.reg d26_1) .ret)) := rfl
theorem s26 : a26.res = [(.tmp 4)] := rfl
theorem tbl27 {q : Prm} : (tblP q).f 27 = some a27 := rfl
theorem c27 {q : Prm} {x0 x1 : AV} {H : AH} : callR (tblP q) 27 [x0, x1] H = runR (tblP q) a27 [.code a27.body] (ainit [x0, x1]) H := callR_of tbl27 (Nat.le_of_ble_eq_true rfl)
theorem b27 : a27.body = (.seq (.reg d27_0) (.block 0 (.loop l27_4))) := rfl
theorem s27 : a27.res = [] := rfl
theorem tbl28 {q : Prm} : (tblP q).f 28 = some a28 := rfl
theorem c28 {q : Prm} {x0 x1 : AV} {H : AH} : callR (tblP q) 28 [x0, x1] H = runR (tblP q) a28 [.code a28.body] (ainit [x0, x1]) H := callR_of tbl28 (Nat.le_of_ble_eq_true rfl)
theorem b28 : a28.body = (.seq (.reg d28_0) (.seq (.seq (.reg d28_1) (.cond (.t 6) (.reg d28_2) .skip)) (.seq (.seq (.reg d28_3) (.seq (.reg d28_4) (.cond (.t 16) (.reg d28_5) .skip))) (.seq (.reg d28_6) .ret)))) := rfl
theorem s28 : a28.res = [(.tmp 4)] := rfl
theorem tblE_ok : ∀ f a, tblE f = some a → cfun Try.prog f = some a := by
  intro f a h
  unfold tblE at h
  split at h
  · cases h; exact a3_ok
  · cases h; exact a4_ok
  · cases h; exact a5_ok
  · cases h; exact a6_ok
  · cases h; exact a7_ok
  · cases h; exact a8_ok
  · cases h; exact a9_ok
  · cases h; exact a10_ok
  · cases h; exact a11_ok
  · cases h; exact a12_ok
  · cases h; exact a13_ok
  · cases h; exact a14_ok
  · cases h; exact a15_ok
  · cases h; exact a16_ok
  · cases h; exact a17_ok
  · cases h; exact a18_ok
  · cases h; exact a19_ok
  · cases h; exact a20_ok
  · cases h; exact a21_ok
  · cases h; exact a22_ok
  · cases h; exact a23_ok
  · cases h; exact a24_ok
  · cases h; exact a25_ok
  · cases h; exact a26_ok
  · cases h; exact a27_ok
  · cases h; exact a28_ok
  · cases h
theorem tblF_ok : ∀ f a, tblF f = some a → cfun Try.prog f = some a := by
  intro f a h
  unfold tblF at h
  split at h
  · cases h; exact a3_ok
  · cases h; exact a4_ok
  · cases h; exact a5_ok
  · cases h; exact a6_ok
  · cases h; exact a7_ok
  · cases h; exact a8_ok
  · cases h; exact a9_ok
  · cases h; exact a10_ok
  · cases h; exact a11_ok
  · cases h; exact a12_ok
  · cases h; exact a13_ok
  · cases h; exact a15_ok
  · cases h; exact a16_ok
  · cases h; exact a17_ok
  · cases h; exact a18_ok
  · cases h; exact a19_ok
  · cases h; exact a20_ok
  · cases h; exact a21_ok
  · cases h; exact a22_ok
  · cases h; exact a23_ok
  · cases h; exact a24_ok
  · cases h; exact a25_ok
  · cases h; exact a26_ok
  · cases h; exact a27_ok
  · cases h; exact a28_ok
  · cases h
end Go.Proofs.Ytihglokmlpaigaa.Abs
