/- The functions that the laws of this seat reach, in the plain machine's form, and that they are the loaded ones. Printed by a program of this seat's own (gencode.py). No condition of its own. -/
import Derived.Test.YthcibbfljcfheaaCode1
import Derived.Test.YthcibbfljcfheaaProg
import Derived.Test.YthcibbfljcfheaaAbs3
import Derived.Test.YthcibbfljcfheaaEval
import Derived.KernelRfl
namespace Go.Proofs.Ythcibbfljcfheaa.Abs
set_option linter.unusedVariables false
set_option maxRecDepth 100000
/-- (*futtock/futtockref10.Table).Flush -/
def d19_0 : List AOper := [
  ⟨(some 4), none, (.val (.c (.i .i64 0)))⟩]
theorem r19_0 {fn : AFun} {K : List AItem} {t : Nat → AV} {H : AH} {T : Tbl} : runR T fn (.code (.reg d19_0) :: K) t H = regR T fn K (aops (callR T) [
  ⟨(some 4), none, (.val (.c (.i .i64 0)))⟩] t H) := runR_reg'
def d19_1 : List AOper := [
  ⟨(some 7), none, (.val (.t 0))⟩,
  ⟨(some 8), none, (.val (.t 1))⟩,
  ⟨(some 9), none, (.call 31 [(.t 7), (.t 8)])⟩,
  ⟨(some 5), none, (.val (.t 9))⟩]
theorem r19_1 {fn : AFun} {K : List AItem} {t : Nat → AV} {H : AH} {T : Tbl} : runR T fn (.code (.reg d19_1) :: K) t H = regR T fn K (aops (callR T) [
  ⟨(some 7), none, (.val (.t 0))⟩,
  ⟨(some 8), none, (.val (.t 1))⟩,
  ⟨(some 9), none, (.call 31 [(.t 7), (.t 8)])⟩,
  ⟨(some 5), none, (.val (.t 9))⟩] t H) := runR_reg'
def d19_2 : List AOper := [
  ⟨(some 6), none, (.val (.c (.i .i64 0)))⟩]
theorem r19_2 {fn : AFun} {K : List AItem} {t : Nat → AV} {H : AH} {T : Tbl} : runR T fn (.code (.reg d19_2) :: K) t H = regR T fn K (aops (callR T) [
  ⟨(some 6), none, (.val (.c (.i .i64 0)))⟩] t H) := runR_reg'
def d19_3 : List AOper := [
  ⟨(some 10), none, (.val (.t 6))⟩,
  ⟨(some 11), none, (.val (.t 5))⟩,
  ⟨(some 12), none, (.len (.t 11))⟩,
  ⟨(some 13), none, (.bin .lss (.t 10) (.t 12))⟩]
theorem r19_3 {fn : AFun} {K : List AItem} {t : Nat → AV} {H : AH} {T : Tbl} : runR T fn (.code (.reg d19_3) :: K) t H = regR T fn K (aops (callR T) [
  ⟨(some 10), none, (.val (.t 6))⟩,
  ⟨(some 11), none, (.val (.t 5))⟩,
  ⟨(some 12), none, (.len (.t 11))⟩,
  ⟨(some 13), none, (.bin .lss (.t 10) (.t 12))⟩] t H) := runR_reg'
def d19_4 : List (AOper × List Nat) := [
  (⟨(some 16), none, (.val (.t 0))⟩, []),
  (⟨(some 17), none, (.nilc (.t 16))⟩, []),
  (⟨(some 18), none, (.fa 2 (.t 17))⟩, []),
  (⟨(some 19), none, (.ld none (.t 18))⟩, [1]),
  (⟨(some 20), none, (.val (.t 5))⟩, []),
  (⟨(some 21), none, (.val (.t 6))⟩, []),
  (⟨(some 22), none, (.ia 1 (.t 20) (.t 21))⟩, []),
  (⟨(some 23), none, (.ld none (.t 22))⟩, [1]),
  (⟨(some 24), none, (.ia 4 (.t 19) (.t 23))⟩, []),
  (⟨(some 25), none, (.fa 0 (.t 24))⟩, []),
  (⟨none, none, (.st 1 (.t 25) (.c (.i .i64 2)))⟩, [])]
theorem r19_4 {fn : AFun} {K : List AItem} {t : Nat → AV} {H : AH} {T : Tbl} : runR T fn (.code (.drw d19_4) :: K) t H = regR T fn K (aops (callR T) [
  ⟨(some 16), none, (.val (.t 0))⟩,
  ⟨(some 17), none, (.nilc (.t 16))⟩,
  ⟨(some 18), none, (.fa 2 (.t 17))⟩,
  ⟨(some 19), none, (.ld none (.t 18))⟩,
  ⟨(some 20), none, (.val (.t 5))⟩,
  ⟨(some 21), none, (.val (.t 6))⟩,
  ⟨(some 22), none, (.ia 1 (.t 20) (.t 21))⟩,
  ⟨(some 23), none, (.ld none (.t 22))⟩,
  ⟨(some 24), none, (.ia 4 (.t 19) (.t 23))⟩,
  ⟨(some 25), none, (.fa 0 (.t 24))⟩,
  ⟨none, none, (.st 1 (.t 25) (.c (.i .i64 2)))⟩] t H) := runR_plain rfl
def d19_5 : List AOper := [
  ⟨(some 14), none, (.val (.t 6))⟩,
  ⟨(some 15), none, (.bin .add (.t 14) (.c (.i .i64 1)))⟩,
  ⟨(some 6), none, (.val (.t 15))⟩]
theorem r19_5 {fn : AFun} {K : List AItem} {t : Nat → AV} {H : AH} {T : Tbl} : runR T fn (.code (.reg d19_5) :: K) t H = regR T fn K (aops (callR T) [
  ⟨(some 14), none, (.val (.t 6))⟩,
  ⟨(some 15), none, (.bin .add (.t 14) (.c (.i .i64 1)))⟩,
  ⟨(some 6), none, (.val (.t 15))⟩] t H) := runR_reg'
def l19_6 : ACode := (.seq (.seq (.reg d19_3) (.cond (.t 13) .skip (.exit 0))) (.seq (.block 1 (.drw d19_4)) (.reg d19_5)))
def d19_7 : List AOper := [
  ⟨(some 26), none, (.val (.t 5))⟩,
  ⟨(some 27), none, (.len (.t 26))⟩,
  ⟨(some 4), none, (.val (.t 27))⟩]
theorem r19_7 {fn : AFun} {K : List AItem} {t : Nat → AV} {H : AH} {T : Tbl} : runR T fn (.code (.reg d19_7) :: K) t H = regR T fn K (aops (callR T) [
  ⟨(some 26), none, (.val (.t 5))⟩,
  ⟨(some 27), none, (.len (.t 26))⟩,
  ⟨(some 4), none, (.val (.t 27))⟩] t H) := runR_reg'
def a19 : AFun := ⟨28, [(.tmp 4)], (.seq (.reg d19_0) (.seq (.reg d19_1) (.seq (.seq (.reg d19_2) (.block 0 (.loop l19_6))) (.seq (.reg d19_7) .ret))))⟩
theorem a19_ok : cfun Try.prog 19 = some a19 := by kernel_rfl
/-- (*futtock/futtockref10.Table).Take -/
def d20_0 : List AOper := [
  ⟨(some 4), none, (.val (.c (.i .i64 0)))⟩,
  ⟨(some 5), none, (.val (.c (.i .u32 0)))⟩,
  ⟨(some 6), none, (.val (.c (.i .i64 0)))⟩]
theorem r20_0 {fn : AFun} {K : List AItem} {t : Nat → AV} {H : AH} {T : Tbl} : runR T fn (.code (.reg d20_0) :: K) t H = regR T fn K (aops (callR T) [
  ⟨(some 4), none, (.val (.c (.i .i64 0)))⟩,
  ⟨(some 5), none, (.val (.c (.i .u32 0)))⟩,
  ⟨(some 6), none, (.val (.c (.i .i64 0)))⟩] t H) := runR_reg'
def d20_1 : List AOper := [
  ⟨(some 10), none, (.val (.t 1))⟩,
  ⟨(some 11), none, (.call 30 [(.t 10)])⟩,
  ⟨(some 12), none, (.un .not (.t 11))⟩]
theorem r20_1 {fn : AFun} {K : List AItem} {t : Nat → AV} {H : AH} {T : Tbl} : runR T fn (.code (.reg d20_1) :: K) t H = regR T fn K (aops (callR T) [
  ⟨(some 10), none, (.val (.t 1))⟩,
  ⟨(some 11), none, (.call 30 [(.t 10)])⟩,
  ⟨(some 12), none, (.un .not (.t 11))⟩] t H) := runR_reg'
def d20_2 : List AOper := [
  ⟨(some 4), none, (.val (.c (.i .i64 0)))⟩,
  ⟨(some 5), none, (.val (.c (.i .u32 0)))⟩,
  ⟨(some 6), none, (.val (.c (.i .i64 1)))⟩]
theorem r20_2 {fn : AFun} {K : List AItem} {t : Nat → AV} {H : AH} {T : Tbl} : runR T fn (.code (.reg d20_2) :: K) t H = regR T fn K (aops (callR T) [
  ⟨(some 4), none, (.val (.c (.i .i64 0)))⟩,
  ⟨(some 5), none, (.val (.c (.i .u32 0)))⟩,
  ⟨(some 6), none, (.val (.c (.i .i64 1)))⟩] t H) := runR_reg'
def d20_3 : List AOper := [
  ⟨(some 7), none, (.val (.c (.i .i64 (-1))))⟩]
theorem r20_3 {fn : AFun} {K : List AItem} {t : Nat → AV} {H : AH} {T : Tbl} : runR T fn (.code (.reg d20_3) :: K) t H = regR T fn K (aops (callR T) [
  ⟨(some 7), none, (.val (.c (.i .i64 (-1))))⟩] t H) := runR_reg'
def d20_4 : List AOper := [
  ⟨(some 13), none, (.val (.t 0))⟩,
  ⟨(some 14), none, (.val (.t 1))⟩,
  ⟨(some 15), none, (.call 31 [(.t 13), (.t 14)])⟩,
  ⟨(some 8), none, (.val (.t 15))⟩]
theorem r20_4 {fn : AFun} {K : List AItem} {t : Nat → AV} {H : AH} {T : Tbl} : runR T fn (.code (.reg d20_4) :: K) t H = regR T fn K (aops (callR T) [
  ⟨(some 13), none, (.val (.t 0))⟩,
  ⟨(some 14), none, (.val (.t 1))⟩,
  ⟨(some 15), none, (.call 31 [(.t 13), (.t 14)])⟩,
  ⟨(some 8), none, (.val (.t 15))⟩] t H) := runR_reg'
def d20_5 : List AOper := [
  ⟨(some 16), none, (.val (.t 8))⟩,
  ⟨(some 17), none, (.len (.t 16))⟩,
  ⟨(some 18), none, (.bin .gtr (.t 17) (.c (.i .i64 0)))⟩]
theorem r20_5 {fn : AFun} {K : List AItem} {t : Nat → AV} {H : AH} {T : Tbl} : runR T fn (.code (.reg d20_5) :: K) t H = regR T fn K (aops (callR T) [
  ⟨(some 16), none, (.val (.t 8))⟩,
  ⟨(some 17), none, (.len (.t 16))⟩,
  ⟨(some 18), none, (.bin .gtr (.t 17) (.c (.i .i64 0)))⟩] t H) := runR_reg'
def d20_6 : List AOper := [
  ⟨(some 19), none, (.val (.t 8))⟩,
  ⟨(some 20), none, (.val (.t 8))⟩,
  ⟨(some 21), none, (.len (.t 20))⟩,
  ⟨(some 22), none, (.bin .sub (.t 21) (.c (.i .i64 1)))⟩,
  ⟨(some 23), none, (.ia 1 (.t 19) (.t 22))⟩,
  ⟨(some 24), none, (.ld none (.t 23))⟩,
  ⟨(some 7), none, (.val (.t 24))⟩]
theorem r20_6 {fn : AFun} {K : List AItem} {t : Nat → AV} {H : AH} {T : Tbl} : runR T fn (.code (.reg d20_6) :: K) t H = regR T fn K (aops (callR T) [
  ⟨(some 19), none, (.val (.t 8))⟩,
  ⟨(some 20), none, (.val (.t 8))⟩,
  ⟨(some 21), none, (.len (.t 20))⟩,
  ⟨(some 22), none, (.bin .sub (.t 21) (.c (.i .i64 1)))⟩,
  ⟨(some 23), none, (.ia 1 (.t 19) (.t 22))⟩,
  ⟨(some 24), none, (.ld none (.t 23))⟩,
  ⟨(some 7), none, (.val (.t 24))⟩] t H) := runR_reg'
def d20_7 : List AOper := [
  ⟨(some 25), none, (.val (.t 7))⟩,
  ⟨(some 26), none, (.bin .lss (.t 25) (.c (.i .i64 0)))⟩]
theorem r20_7 {fn : AFun} {K : List AItem} {t : Nat → AV} {H : AH} {T : Tbl} : runR T fn (.code (.reg d20_7) :: K) t H = regR T fn K (aops (callR T) [
  ⟨(some 25), none, (.val (.t 7))⟩,
  ⟨(some 26), none, (.bin .lss (.t 25) (.c (.i .i64 0)))⟩] t H) := runR_reg'
def d20_8 : List AOper := [
  ⟨(some 27), none, (.val (.t 0))⟩,
  ⟨(some 28), none, (.call 32 [(.t 27), (.c (.i .i64 2))])⟩,
  ⟨(some 7), none, (.val (.t 28))⟩]
theorem r20_8 {fn : AFun} {K : List AItem} {t : Nat → AV} {H : AH} {T : Tbl} : runR T fn (.code (.reg d20_8) :: K) t H = regR T fn K (aops (callR T) [
  ⟨(some 27), none, (.val (.t 0))⟩,
  ⟨(some 28), none, (.call 32 [(.t 27), (.c (.i .i64 2))])⟩,
  ⟨(some 7), none, (.val (.t 28))⟩] t H) := runR_reg'
def d20_9 : List AOper := [
  ⟨(some 29), none, (.val (.t 7))⟩,
  ⟨(some 30), none, (.bin .lss (.t 29) (.c (.i .i64 0)))⟩]
theorem r20_9 {fn : AFun} {K : List AItem} {t : Nat → AV} {H : AH} {T : Tbl} : runR T fn (.code (.reg d20_9) :: K) t H = regR T fn K (aops (callR T) [
  ⟨(some 29), none, (.val (.t 7))⟩,
  ⟨(some 30), none, (.bin .lss (.t 29) (.c (.i .i64 0)))⟩] t H) := runR_reg'
def d20_10 : List AOper := [
  ⟨(some 31), none, (.val (.t 0))⟩,
  ⟨(some 32), none, (.call 32 [(.t 31), (.c (.i .i64 0))])⟩,
  ⟨(some 7), none, (.val (.t 32))⟩]
theorem r20_10 {fn : AFun} {K : List AItem} {t : Nat → AV} {H : AH} {T : Tbl} : runR T fn (.code (.reg d20_10) :: K) t H = regR T fn K (aops (callR T) [
  ⟨(some 31), none, (.val (.t 0))⟩,
  ⟨(some 32), none, (.call 32 [(.t 31), (.c (.i .i64 0))])⟩,
  ⟨(some 7), none, (.val (.t 32))⟩] t H) := runR_reg'
def d20_11 : List AOper := [
  ⟨(some 9), none, (.val (.c (.i .i64 0)))⟩]
theorem r20_11 {fn : AFun} {K : List AItem} {t : Nat → AV} {H : AH} {T : Tbl} : runR T fn (.code (.reg d20_11) :: K) t H = regR T fn K (aops (callR T) [
  ⟨(some 9), none, (.val (.c (.i .i64 0)))⟩] t H) := runR_reg'
def d20_12 : List AOper := [
  ⟨(some 33), none, (.val (.t 7))⟩,
  ⟨(some 34), none, (.bin .geq (.t 33) (.c (.i .i64 0)))⟩,
  ⟨(some 35), none, (.val (.t 34))⟩,
  ⟨(some 36), (some (35, true)), (.val (.t 9))⟩,
  ⟨(some 37), (some (35, true)), (.val (.t 0))⟩,
  ⟨(some 38), (some (35, true)), (.nilc (.t 37))⟩,
  ⟨(some 39), (some (35, true)), (.fa 0 (.t 38))⟩,
  ⟨(some 40), (some (35, true)), (.ld none (.t 39))⟩,
  ⟨(some 41), (some (35, true)), (.bin .lss (.t 36) (.t 40))⟩,
  ⟨(some 42), none, (.pick (.t 35) (.t 41) (.c (.b false)))⟩,
  ⟨(some 43), none, (.val (.t 42))⟩,
  ⟨(some 44), (some (43, true)), (.val (.t 7))⟩,
  ⟨(some 45), (some (43, true)), (.val (.t 9))⟩,
  ⟨(some 46), (some (43, true)), (.bin .add (.t 44) (.t 45))⟩,
  ⟨(some 47), (some (43, true)), (.val (.t 0))⟩,
  ⟨(some 48), (some (43, true)), (.nilc (.t 47))⟩,
  ⟨(some 49), (some (43, true)), (.fa 2 (.t 48))⟩,
  ⟨(some 50), (some (43, true)), (.ld none (.t 49))⟩,
  ⟨(some 51), (some (43, true)), (.len (.t 50))⟩,
  ⟨(some 52), (some (43, true)), (.bin .lss (.t 46) (.t 51))⟩,
  ⟨(some 53), none, (.pick (.t 43) (.t 52) (.c (.b false)))⟩]
theorem r20_12 {fn : AFun} {K : List AItem} {t : Nat → AV} {H : AH} {T : Tbl} : runR T fn (.code (.reg d20_12) :: K) t H = regR T fn K (aops (callR T) [
  ⟨(some 33), none, (.val (.t 7))⟩,
  ⟨(some 34), none, (.bin .geq (.t 33) (.c (.i .i64 0)))⟩,
  ⟨(some 35), none, (.val (.t 34))⟩,
  ⟨(some 36), (some (35, true)), (.val (.t 9))⟩,
  ⟨(some 37), (some (35, true)), (.val (.t 0))⟩,
  ⟨(some 38), (some (35, true)), (.nilc (.t 37))⟩,
  ⟨(some 39), (some (35, true)), (.fa 0 (.t 38))⟩,
  ⟨(some 40), (some (35, true)), (.ld none (.t 39))⟩,
  ⟨(some 41), (some (35, true)), (.bin .lss (.t 36) (.t 40))⟩,
  ⟨(some 42), none, (.pick (.t 35) (.t 41) (.c (.b false)))⟩,
  ⟨(some 43), none, (.val (.t 42))⟩,
  ⟨(some 44), (some (43, true)), (.val (.t 7))⟩,
  ⟨(some 45), (some (43, true)), (.val (.t 9))⟩,
  ⟨(some 46), (some (43, true)), (.bin .add (.t 44) (.t 45))⟩,
  ⟨(some 47), (some (43, true)), (.val (.t 0))⟩,
  ⟨(some 48), (some (43, true)), (.nilc (.t 47))⟩,
  ⟨(some 49), (some (43, true)), (.fa 2 (.t 48))⟩,
  ⟨(some 50), (some (43, true)), (.ld none (.t 49))⟩,
  ⟨(some 51), (some (43, true)), (.len (.t 50))⟩,
  ⟨(some 52), (some (43, true)), (.bin .lss (.t 46) (.t 51))⟩,
  ⟨(some 53), none, (.pick (.t 43) (.t 52) (.c (.b false)))⟩] t H) := runR_reg'
def d20_13 : List AOper := [
  ⟨(some 56), none, (.val (.t 0))⟩,
  ⟨(some 57), none, (.nilc (.t 56))⟩,
  ⟨(some 58), none, (.fa 2 (.t 57))⟩,
  ⟨(some 59), none, (.ld none (.t 58))⟩,
  ⟨(some 60), none, (.val (.t 7))⟩,
  ⟨(some 61), none, (.val (.t 9))⟩,
  ⟨(some 62), none, (.bin .add (.t 60) (.t 61))⟩,
  ⟨(some 63), none, (.ia 4 (.t 59) (.t 62))⟩,
  ⟨(some 64), none, (.fa 0 (.t 63))⟩,
  ⟨none, none, (.st 1 (.t 64) (.c (.i .i64 2)))⟩]
theorem r20_13 {fn : AFun} {K : List AItem} {t : Nat → AV} {H : AH} {T : Tbl} : runR T fn (.code (.reg d20_13) :: K) t H = regR T fn K (aops (callR T) [
  ⟨(some 56), none, (.val (.t 0))⟩,
  ⟨(some 57), none, (.nilc (.t 56))⟩,
  ⟨(some 58), none, (.fa 2 (.t 57))⟩,
  ⟨(some 59), none, (.ld none (.t 58))⟩,
  ⟨(some 60), none, (.val (.t 7))⟩,
  ⟨(some 61), none, (.val (.t 9))⟩,
  ⟨(some 62), none, (.bin .add (.t 60) (.t 61))⟩,
  ⟨(some 63), none, (.ia 4 (.t 59) (.t 62))⟩,
  ⟨(some 64), none, (.fa 0 (.t 63))⟩,
  ⟨none, none, (.st 1 (.t 64) (.c (.i .i64 2)))⟩] t H) := runR_reg'
def d20_14 : List AOper := [
  ⟨(some 54), none, (.val (.t 9))⟩,
  ⟨(some 55), none, (.bin .add (.t 54) (.c (.i .i64 1)))⟩,
  ⟨(some 9), none, (.val (.t 55))⟩]
theorem r20_14 {fn : AFun} {K : List AItem} {t : Nat → AV} {H : AH} {T : Tbl} : runR T fn (.code (.reg d20_14) :: K) t H = regR T fn K (aops (callR T) [
  ⟨(some 54), none, (.val (.t 9))⟩,
  ⟨(some 55), none, (.bin .add (.t 54) (.c (.i .i64 1)))⟩,
  ⟨(some 9), none, (.val (.t 55))⟩] t H) := runR_reg'
def l20_15 : ACode := (.seq (.seq (.reg d20_12) (.cond (.t 53) .skip (.exit 0))) (.seq (.block 1 (.reg d20_13)) (.reg d20_14)))
def d20_16 : List AOper := [
  ⟨(some 65), none, (.val (.t 7))⟩,
  ⟨(some 66), none, (.bin .lss (.t 65) (.c (.i .i64 0)))⟩]
theorem r20_16 {fn : AFun} {K : List AItem} {t : Nat → AV} {H : AH} {T : Tbl} : runR T fn (.code (.reg d20_16) :: K) t H = regR T fn K (aops (callR T) [
  ⟨(some 65), none, (.val (.t 7))⟩,
  ⟨(some 66), none, (.bin .lss (.t 65) (.c (.i .i64 0)))⟩] t H) := runR_reg'
def d20_17 : List AOper := [
  ⟨(some 4), none, (.val (.c (.i .i64 0)))⟩,
  ⟨(some 5), none, (.val (.c (.i .u32 0)))⟩,
  ⟨(some 6), none, (.val (.c (.i .i64 11)))⟩]
theorem r20_17 {fn : AFun} {K : List AItem} {t : Nat → AV} {H : AH} {T : Tbl} : runR T fn (.code (.reg d20_17) :: K) t H = regR T fn K (aops (callR T) [
  ⟨(some 4), none, (.val (.c (.i .i64 0)))⟩,
  ⟨(some 5), none, (.val (.c (.i .u32 0)))⟩,
  ⟨(some 6), none, (.val (.c (.i .i64 11)))⟩] t H) := runR_reg'
def d20_18 : List AOper := [
  ⟨(some 67), none, (.val (.t 0))⟩,
  ⟨(some 68), none, (.nilc (.t 67))⟩,
  ⟨(some 69), none, (.fa 2 (.t 68))⟩,
  ⟨(some 70), none, (.ld none (.t 69))⟩,
  ⟨(some 71), none, (.val (.t 7))⟩,
  ⟨(some 72), none, (.ia 4 (.t 70) (.t 71))⟩,
  ⟨(some 73), none, (.fa 0 (.t 72))⟩,
  ⟨none, none, (.st 1 (.t 73) (.c (.i .i64 1)))⟩]
theorem r20_18 {fn : AFun} {K : List AItem} {t : Nat → AV} {H : AH} {T : Tbl} : runR T fn (.code (.reg d20_18) :: K) t H = regR T fn K (aops (callR T) [
  ⟨(some 67), none, (.val (.t 0))⟩,
  ⟨(some 68), none, (.nilc (.t 67))⟩,
  ⟨(some 69), none, (.fa 2 (.t 68))⟩,
  ⟨(some 70), none, (.ld none (.t 69))⟩,
  ⟨(some 71), none, (.val (.t 7))⟩,
  ⟨(some 72), none, (.ia 4 (.t 70) (.t 71))⟩,
  ⟨(some 73), none, (.fa 0 (.t 72))⟩,
  ⟨none, none, (.st 1 (.t 73) (.c (.i .i64 1)))⟩] t H) := runR_reg'
def d20_19 : List (AOper × List Nat) := [
  (⟨(some 74), none, (.val (.t 7))⟩, []),
  (⟨(some 75), none, (.val (.t 0))⟩, []),
  (⟨(some 76), none, (.nilc (.t 75))⟩, []),
  (⟨(some 77), none, (.fa 2 (.t 76))⟩, []),
  (⟨(some 78), none, (.ld none (.t 77))⟩, [1]),
  (⟨(some 79), none, (.val (.t 7))⟩, []),
  (⟨(some 80), none, (.ia 4 (.t 78) (.t 79))⟩, []),
  (⟨(some 81), none, (.fa 3 (.t 80))⟩, []),
  (⟨(some 82), none, (.ld none (.t 81))⟩, [1]),
  (⟨(some 4), none, (.val (.t 74))⟩, []),
  (⟨(some 5), none, (.val (.t 82))⟩, []),
  (⟨(some 6), none, (.val (.c (.i .i64 0)))⟩, [])]
theorem r20_19 {fn : AFun} {K : List AItem} {t : Nat → AV} {H : AH} {T : Tbl} : runR T fn (.code (.drw d20_19) :: K) t H = regR T fn K (aops (callR T) [
  ⟨(some 74), none, (.val (.t 7))⟩,
  ⟨(some 75), none, (.val (.t 0))⟩,
  ⟨(some 76), none, (.nilc (.t 75))⟩,
  ⟨(some 77), none, (.fa 2 (.t 76))⟩,
  ⟨(some 78), none, (.ld none (.t 77))⟩,
  ⟨(some 79), none, (.val (.t 7))⟩,
  ⟨(some 80), none, (.ia 4 (.t 78) (.t 79))⟩,
  ⟨(some 81), none, (.fa 3 (.t 80))⟩,
  ⟨(some 82), none, (.ld none (.t 81))⟩,
  ⟨(some 4), none, (.val (.t 74))⟩,
  ⟨(some 5), none, (.val (.t 82))⟩,
  ⟨(some 6), none, (.val (.c (.i .i64 0)))⟩] t H) := runR_plain rfl
def a20 : AFun := ⟨83, [(.tmp 4), (.tmp 5), (.tmp 6)], (.seq (.reg d20_0) (.seq (.seq (.reg d20_1) (.cond (.t 12) (.seq (.reg d20_2) .ret) .skip)) (.seq (.reg d20_3) (.seq (.seq (.reg d20_4) (.seq (.reg d20_5) (.cond (.t 18) (.reg d20_6) .skip))) (.seq (.seq (.reg d20_7) (.cond (.t 26) (.reg d20_8) .skip)) (.seq (.seq (.reg d20_9) (.cond (.t 30) (.seq (.reg d20_10) (.seq (.reg d20_11) (.block 0 (.loop l20_15)))) .skip)) (.seq (.seq (.reg d20_16) (.cond (.t 66) (.seq (.reg d20_17) .ret) .skip)) (.seq (.reg d20_18) (.seq (.drw d20_19) .ret)))))))))⟩
theorem a20_ok : cfun Try.prog 20 = some a20 := by kernel_rfl
/-- futtock/futtocklaw10.told -/
def d21_0 : List AOper := [
  ⟨(some 5), none, (.box (.t 2))⟩,
  ⟨(some 6), none, (.val (.c (.b false)))⟩]
theorem r21_0 {fn : AFun} {K : List AItem} {t : Nat → AV} {H : AH} {T : Tbl} : runR T fn (.code (.reg d21_0) :: K) t H = regR T fn K (aops (callR T) [
  ⟨(some 5), none, (.box (.t 2))⟩,
  ⟨(some 6), none, (.val (.c (.b false)))⟩] t H) := runR_reg'
def d21_1 : List AOper := [
  ⟨(some 7), none, (.val (.c (.sl none 0 0 true 0)))⟩]
theorem r21_1 {fn : AFun} {K : List AItem} {t : Nat → AV} {H : AH} {T : Tbl} : runR T fn (.code (.reg d21_1) :: K) t H = regR T fn K (aops (callR T) [
  ⟨(some 7), none, (.val (.c (.sl none 0 0 true 0)))⟩] t H) := runR_reg'
def d21_2 : List AOper := [
  ⟨(some 14), none, (.val (.t 1))⟩,
  ⟨(some 15), none, (.nilc (.t 14))⟩,
  ⟨(some 16), none, (.fa 2 (.t 15))⟩,
  ⟨(some 17), none, (.ld none (.t 16))⟩,
  ⟨(some 18), none, (.len (.t 17))⟩,
  ⟨(some 19), none, (.val (.c (.i .i64 0)))⟩]
theorem r21_2 {fn : AFun} {K : List AItem} {t : Nat → AV} {H : AH} {T : Tbl} : runR T fn (.code (.reg d21_2) :: K) t H = regR T fn K (aops (callR T) [
  ⟨(some 14), none, (.val (.t 1))⟩,
  ⟨(some 15), none, (.nilc (.t 14))⟩,
  ⟨(some 16), none, (.fa 2 (.t 15))⟩,
  ⟨(some 17), none, (.ld none (.t 16))⟩,
  ⟨(some 18), none, (.len (.t 17))⟩,
  ⟨(some 19), none, (.val (.c (.i .i64 0)))⟩] t H) := runR_reg'
def d21_3 : List AOper := [
  ⟨(some 20), none, (.bin .lss (.t 19) (.t 18))⟩]
theorem r21_3 {fn : AFun} {K : List AItem} {t : Nat → AV} {H : AH} {T : Tbl} : runR T fn (.code (.reg d21_3) :: K) t H = regR T fn K (aops (callR T) [
  ⟨(some 20), none, (.bin .lss (.t 19) (.t 18))⟩] t H) := runR_reg'
def d21_4 : List AOper := [
  ⟨(some 21), none, (.val (.t 19))⟩,
  ⟨(some 22), none, (.ia 4 (.t 17) (.t 19))⟩,
  ⟨(some 23), none, (.ld (some 4) (.t 22))⟩,
  ⟨(some 9), none, (.alloc [(.i .i64 0), (.i .i64 0), (.i .i64 0), (.i .u32 0)])⟩,
  ⟨(some 8), none, (.val (.t 21))⟩,
  ⟨none, none, (.st 4 (.t 9) (.t 23))⟩]
theorem r21_4 {fn : AFun} {K : List AItem} {t : Nat → AV} {H : AH} {T : Tbl} : runR T fn (.code (.reg d21_4) :: K) t H = regR T fn K (aops (callR T) [
  ⟨(some 21), none, (.val (.t 19))⟩,
  ⟨(some 22), none, (.ia 4 (.t 17) (.t 19))⟩,
  ⟨(some 23), none, (.ld (some 4) (.t 22))⟩,
  ⟨(some 9), none, (.alloc [(.i .i64 0), (.i .i64 0), (.i .i64 0), (.i .u32 0)])⟩,
  ⟨(some 8), none, (.val (.t 21))⟩,
  ⟨none, none, (.st 4 (.t 9) (.t 23))⟩] t H) := runR_reg'
def d21_5 : List AOper := [
  ⟨(some 25), none, (.val (.t 0))⟩,
  ⟨(some 26), none, (.val (.t 8))⟩,
  ⟨(some 27), none, (.call 22 [(.t 25), (.t 26)])⟩,
  ⟨(some 24), none, (.val (.t 27))⟩,
  ⟨(some 28), none, (.ext (.t 24) 0)⟩,
  ⟨(some 29), none, (.ext (.t 24) 1)⟩,
  ⟨(some 10), none, (.val (.t 28))⟩,
  ⟨(some 11), none, (.val (.t 29))⟩]
theorem r21_5 {fn : AFun} {K : List AItem} {t : Nat → AV} {H : AH} {T : Tbl} : runR T fn (.code (.reg d21_5) :: K) t H = regR T fn K (aops (callR T) [
  ⟨(some 25), none, (.val (.t 0))⟩,
  ⟨(some 26), none, (.val (.t 8))⟩,
  ⟨(some 27), none, (.call 22 [(.t 25), (.t 26)])⟩,
  ⟨(some 24), none, (.val (.t 27))⟩,
  ⟨(some 28), none, (.ext (.t 24) 0)⟩,
  ⟨(some 29), none, (.ext (.t 24) 1)⟩,
  ⟨(some 10), none, (.val (.t 28))⟩,
  ⟨(some 11), none, (.val (.t 29))⟩] t H) := runR_reg'
def d21_6 : List (AOper × List Nat) := [
  (⟨(some 30), none, (.val (.t 0))⟩, []),
  (⟨(some 31), none, (.val (.t 8))⟩, []),
  (⟨(some 32), none, (.call 14 [(.t 30), (.t 31)])⟩, []),
  (⟨(some 33), none, (.fa 0 (.t 9))⟩, []),
  (⟨(some 34), none, (.ld none (.t 33))⟩, [2]),
  (⟨(some 35), none, (.bin .eql (.t 34) (.c (.i .i64 1)))⟩, []),
  (⟨(some 36), none, (.eqb true (.t 32) (.t 35))⟩, []),
  (⟨(some 37), none, (.val (.t 36))⟩, []),
  (⟨(some 38), (some (37, false)), (.val (.t 0))⟩, []),
  (⟨(some 39), (some (37, false)), (.val (.t 8))⟩, []),
  (⟨(some 40), (some (37, false)), (.fa 3 (.t 9))⟩, []),
  (⟨(some 41), (some (37, false)), (.ld none (.t 40))⟩, [1]),
  (⟨(some 42), (some (37, false)), (.call 23 [(.t 38), (.t 39), (.t 41)])⟩, []),
  (⟨(some 43), (some (37, false)), (.fa 0 (.t 9))⟩, []),
  (⟨(some 44), (some (37, false)), (.ld none (.t 43))⟩, [2]),
  (⟨(some 45), (some (37, false)), (.bin .eql (.t 44) (.c (.i .i64 1)))⟩, []),
  (⟨(some 46), (some (37, false)), (.eqb true (.t 42) (.t 45))⟩, []),
  (⟨(some 47), none, (.pick (.t 37) (.c (.b true)) (.t 46))⟩, []),
  (⟨(some 48), none, (.val (.t 47))⟩, []),
  (⟨(some 49), (some (48, false)), (.val (.t 10))⟩, []),
  (⟨(some 50), (some (48, false)), (.fa 3 (.t 9))⟩, []),
  (⟨(some 51), (some (48, false)), (.ld none (.t 50))⟩, [1]),
  (⟨(some 52), (some (48, false)), (.bin .neq (.t 49) (.t 51))⟩, []),
  (⟨(some 53), none, (.pick (.t 48) (.c (.b true)) (.t 52))⟩, []),
  (⟨(some 54), none, (.val (.t 53))⟩, []),
  (⟨(some 55), (some (54, false)), (.val (.t 11))⟩, []),
  (⟨(some 56), (some (54, false)), (.bin .neq (.t 55) (.c (.i .i64 0)))⟩, []),
  (⟨(some 57), none, (.pick (.t 54) (.c (.b true)) (.t 56))⟩, [])]
theorem r21_6 {fn : AFun} {K : List AItem} {t : Nat → AV} {H : AH} {T : Tbl} : runR T fn (.code (.drw d21_6) :: K) t H = regR T fn K (adrn (callR T) [
  (⟨(some 30), none, (.val (.t 0))⟩, []),
  (⟨(some 31), none, (.val (.t 8))⟩, []),
  (⟨(some 32), none, (.call 14 [(.t 30), (.t 31)])⟩, []),
  (⟨(some 33), none, (.fa 0 (.t 9))⟩, []),
  (⟨(some 34), none, (.ld none (.t 33))⟩, [2]),
  (⟨(some 35), none, (.bin .eql (.t 34) (.c (.i .i64 1)))⟩, []),
  (⟨(some 36), none, (.eqb true (.t 32) (.t 35))⟩, []),
  (⟨(some 37), none, (.val (.t 36))⟩, []),
  (⟨(some 38), (some (37, false)), (.val (.t 0))⟩, []),
  (⟨(some 39), (some (37, false)), (.val (.t 8))⟩, []),
  (⟨(some 40), (some (37, false)), (.fa 3 (.t 9))⟩, []),
  (⟨(some 41), (some (37, false)), (.ld none (.t 40))⟩, [1]),
  (⟨(some 42), (some (37, false)), (.call 23 [(.t 38), (.t 39), (.t 41)])⟩, []),
  (⟨(some 43), (some (37, false)), (.fa 0 (.t 9))⟩, []),
  (⟨(some 44), (some (37, false)), (.ld none (.t 43))⟩, [2]),
  (⟨(some 45), (some (37, false)), (.bin .eql (.t 44) (.c (.i .i64 1)))⟩, []),
  (⟨(some 46), (some (37, false)), (.eqb true (.t 42) (.t 45))⟩, []),
  (⟨(some 47), none, (.pick (.t 37) (.c (.b true)) (.t 46))⟩, []),
  (⟨(some 48), none, (.val (.t 47))⟩, []),
  (⟨(some 49), (some (48, false)), (.val (.t 10))⟩, []),
  (⟨(some 50), (some (48, false)), (.fa 3 (.t 9))⟩, []),
  (⟨(some 51), (some (48, false)), (.ld none (.t 50))⟩, [1]),
  (⟨(some 52), (some (48, false)), (.bin .neq (.t 49) (.t 51))⟩, []),
  (⟨(some 53), none, (.pick (.t 48) (.c (.b true)) (.t 52))⟩, []),
  (⟨(some 54), none, (.val (.t 53))⟩, []),
  (⟨(some 55), (some (54, false)), (.val (.t 11))⟩, []),
  (⟨(some 56), (some (54, false)), (.bin .neq (.t 55) (.c (.i .i64 0)))⟩, []),
  (⟨(some 57), none, (.pick (.t 54) (.c (.b true)) (.t 56))⟩, [])] t H [H]) := runR_free rfl
def d21_7 : List AOper := [
  ⟨(some 6), none, (.val (.c (.b false)))⟩]
theorem r21_7 {fn : AFun} {K : List AItem} {t : Nat → AV} {H : AH} {T : Tbl} : runR T fn (.code (.reg d21_7) :: K) t H = regR T fn K (aops (callR T) [
  ⟨(some 6), none, (.val (.c (.b false)))⟩] t H) := runR_reg'
def d21_8 : List AOper := [
  ⟨(some 58), none, (.fa 0 (.t 9))⟩,
  ⟨(some 59), none, (.ld none (.t 58))⟩,
  ⟨(some 60), none, (.bin .eql (.t 59) (.c (.i .i64 1)))⟩]
theorem r21_8 {fn : AFun} {K : List AItem} {t : Nat → AV} {H : AH} {T : Tbl} : runR T fn (.code (.reg d21_8) :: K) t H = regR T fn K (aops (callR T) [
  ⟨(some 58), none, (.fa 0 (.t 9))⟩,
  ⟨(some 59), none, (.ld none (.t 58))⟩,
  ⟨(some 60), none, (.bin .eql (.t 59) (.c (.i .i64 1)))⟩] t H) := runR_reg'
def d21_9 : List AOper := [
  ⟨(some 61), none, (.val (.t 7))⟩,
  ⟨(some 62), none, (.val (.t 8))⟩,
  ⟨(some 63), none, (.bsl [(.i .i64 0)] 1 [(0, 1, (.t 62))])⟩,
  ⟨(some 64), none, (.app [(.i .i64 0)] 8 (.t 61) (.t 63))⟩,
  ⟨(some 7), none, (.val (.t 64))⟩]
theorem r21_9 {fn : AFun} {K : List AItem} {t : Nat → AV} {H : AH} {T : Tbl} : runR T fn (.code (.reg d21_9) :: K) t H = regR T fn K (aops (callR T) [
  ⟨(some 61), none, (.val (.t 7))⟩,
  ⟨(some 62), none, (.val (.t 8))⟩,
  ⟨(some 63), none, (.bsl [(.i .i64 0)] 1 [(0, 1, (.t 62))])⟩,
  ⟨(some 64), none, (.app [(.i .i64 0)] 8 (.t 61) (.t 63))⟩,
  ⟨(some 7), none, (.val (.t 64))⟩] t H) := runR_reg'
def d21_10 : List AOper := [
  ⟨(some 65), none, (.bin .add (.t 19) (.c (.i .i64 1)))⟩,
  ⟨(some 19), none, (.val (.t 65))⟩]
theorem r21_10 {fn : AFun} {K : List AItem} {t : Nat → AV} {H : AH} {T : Tbl} : runR T fn (.code (.reg d21_10) :: K) t H = regR T fn K (aops (callR T) [
  ⟨(some 65), none, (.bin .add (.t 19) (.c (.i .i64 1)))⟩,
  ⟨(some 19), none, (.val (.t 65))⟩] t H) := runR_reg'
def l21_11 : ACode := (.seq (.reg d21_3) (.seq (.cond (.t 20) .skip (.exit 0)) (.seq (.block 1 (.seq (.reg d21_4) (.seq (.reg d21_5) (.seq (.seq (.drw d21_6) (.cond (.t 57) (.seq (.reg d21_7) .ret) .skip)) (.seq (.reg d21_8) (.cond (.t 60) (.reg d21_9) .skip)))))) (.reg d21_10))))
def d21_12 : List AOper := [
  ⟨(some 67), none, (.val (.t 0))⟩,
  ⟨(some 68), none, (.val (.t 1))⟩,
  ⟨(some 69), none, (.nilc (.t 68))⟩,
  ⟨(some 70), none, (.fa 2 (.t 69))⟩,
  ⟨(some 71), none, (.ld none (.t 70))⟩,
  ⟨(some 72), none, (.len (.t 71))⟩,
  ⟨(some 73), none, (.call 22 [(.t 67), (.t 72)])⟩,
  ⟨(some 66), none, (.val (.t 73))⟩,
  ⟨(some 74), none, (.ext (.t 66) 0)⟩,
  ⟨(some 75), none, (.ext (.t 66) 1)⟩,
  ⟨(some 12), none, (.val (.t 74))⟩,
  ⟨(some 13), none, (.val (.t 75))⟩]
theorem r21_12 {fn : AFun} {K : List AItem} {t : Nat → AV} {H : AH} {T : Tbl} : runR T fn (.code (.reg d21_12) :: K) t H = regR T fn K (aops (callR T) [
  ⟨(some 67), none, (.val (.t 0))⟩,
  ⟨(some 68), none, (.val (.t 1))⟩,
  ⟨(some 69), none, (.nilc (.t 68))⟩,
  ⟨(some 70), none, (.fa 2 (.t 69))⟩,
  ⟨(some 71), none, (.ld none (.t 70))⟩,
  ⟨(some 72), none, (.len (.t 71))⟩,
  ⟨(some 73), none, (.call 22 [(.t 67), (.t 72)])⟩,
  ⟨(some 66), none, (.val (.t 73))⟩,
  ⟨(some 74), none, (.ext (.t 66) 0)⟩,
  ⟨(some 75), none, (.ext (.t 66) 1)⟩,
  ⟨(some 12), none, (.val (.t 74))⟩,
  ⟨(some 13), none, (.val (.t 75))⟩] t H) := runR_reg'
def d21_13 : List (AOper × List Nat) := [
  (⟨(some 76), none, (.val (.t 0))⟩, []),
  (⟨(some 77), none, (.call 12 [(.t 76)])⟩, []),
  (⟨(some 78), none, (.val (.t 7))⟩, []),
  (⟨(some 79), none, (.call 33 [(.t 77), (.t 78)])⟩, []),
  (⟨(some 80), none, (.val (.t 79))⟩, []),
  (⟨(some 81), (some (80, true)), (.val (.t 0))⟩, []),
  (⟨(some 82), (some (80, true)), (.fa 1 (.t 5))⟩, []),
  (⟨(some 83), (some (80, true)), (.ld none (.t 82))⟩, [1]),
  (⟨(some 84), (some (80, true)), (.call 13 [(.t 81), (.t 83)])⟩, []),
  (⟨(some 85), (some (80, true)), (.val (.t 1))⟩, []),
  (⟨(some 86), (some (80, true)), (.fa 1 (.t 5))⟩, []),
  (⟨(some 87), (some (80, true)), (.ld none (.t 86))⟩, [2]),
  (⟨(some 88), (some (80, true)), (.call 31 [(.t 85), (.t 87)])⟩, []),
  (⟨(some 89), (some (80, true)), (.call 33 [(.t 84), (.t 88)])⟩, []),
  (⟨(some 90), none, (.pick (.t 80) (.t 89) (.c (.b false)))⟩, []),
  (⟨(some 91), none, (.val (.t 90))⟩, []),
  (⟨(some 92), (some (91, true)), (.val (.t 0))⟩, []),
  (⟨(some 93), (some (91, true)), (.call 16 [(.t 92)])⟩, []),
  (⟨(some 94), (some (91, true)), (.val (.t 1))⟩, []),
  (⟨(some 95), (some (91, true)), (.call 34 [(.t 94), (.c (.i .i64 2))])⟩, []),
  (⟨(some 96), (some (91, true)), (.val (.t 1))⟩, []),
  (⟨(some 97), (some (91, true)), (.call 34 [(.t 96), (.c (.i .i64 3))])⟩, []),
  (⟨(some 98), (some (91, true)), (.bin .add (.t 95) (.t 97))⟩, []),
  (⟨(some 99), (some (91, true)), (.val (.t 1))⟩, []),
  (⟨(some 100), (some (91, true)), (.call 34 [(.t 99), (.c (.i .i64 0))])⟩, []),
  (⟨(some 101), (some (91, true)), (.bin .add (.t 98) (.t 100))⟩, []),
  (⟨(some 102), (some (91, true)), (.bin .eql (.t 93) (.t 101))⟩, []),
  (⟨(some 103), none, (.pick (.t 91) (.t 102) (.c (.b false)))⟩, []),
  (⟨(some 104), none, (.val (.t 103))⟩, []),
  (⟨(some 105), (some (104, true)), (.val (.t 13))⟩, []),
  (⟨(some 106), (some (104, true)), (.bin .eql (.t 105) (.c (.i .i64 1)))⟩, []),
  (⟨(some 107), none, (.pick (.t 104) (.t 106) (.c (.b false)))⟩, []),
  (⟨(some 108), none, (.val (.t 107))⟩, []),
  (⟨(some 109), (some (108, true)), (.val (.t 0))⟩, []),
  (⟨(some 110), (some (108, true)), (.call 14 [(.t 109), (.c (.i .i64 (-1)))])⟩, []),
  (⟨(some 111), (some (108, true)), (.un .not (.t 110))⟩, []),
  (⟨(some 112), none, (.pick (.t 108) (.t 111) (.c (.b false)))⟩, []),
  (⟨(some 6), none, (.val (.t 112))⟩, [])]
theorem r21_13 {fn : AFun} {K : List AItem} {t : Nat → AV} {H : AH} {T : Tbl} : runR T fn (.code (.drw d21_13) :: K) t H = regR T fn K (adrn (callR T) [
  (⟨(some 76), none, (.val (.t 0))⟩, []),
  (⟨(some 77), none, (.call 12 [(.t 76)])⟩, []),
  (⟨(some 78), none, (.val (.t 7))⟩, []),
  (⟨(some 79), none, (.call 33 [(.t 77), (.t 78)])⟩, []),
  (⟨(some 80), none, (.val (.t 79))⟩, []),
  (⟨(some 81), (some (80, true)), (.val (.t 0))⟩, []),
  (⟨(some 82), (some (80, true)), (.fa 1 (.t 5))⟩, []),
  (⟨(some 83), (some (80, true)), (.ld none (.t 82))⟩, [1]),
  (⟨(some 84), (some (80, true)), (.call 13 [(.t 81), (.t 83)])⟩, []),
  (⟨(some 85), (some (80, true)), (.val (.t 1))⟩, []),
  (⟨(some 86), (some (80, true)), (.fa 1 (.t 5))⟩, []),
  (⟨(some 87), (some (80, true)), (.ld none (.t 86))⟩, [2]),
  (⟨(some 88), (some (80, true)), (.call 31 [(.t 85), (.t 87)])⟩, []),
  (⟨(some 89), (some (80, true)), (.call 33 [(.t 84), (.t 88)])⟩, []),
  (⟨(some 90), none, (.pick (.t 80) (.t 89) (.c (.b false)))⟩, []),
  (⟨(some 91), none, (.val (.t 90))⟩, []),
  (⟨(some 92), (some (91, true)), (.val (.t 0))⟩, []),
  (⟨(some 93), (some (91, true)), (.call 16 [(.t 92)])⟩, []),
  (⟨(some 94), (some (91, true)), (.val (.t 1))⟩, []),
  (⟨(some 95), (some (91, true)), (.call 34 [(.t 94), (.c (.i .i64 2))])⟩, []),
  (⟨(some 96), (some (91, true)), (.val (.t 1))⟩, []),
  (⟨(some 97), (some (91, true)), (.call 34 [(.t 96), (.c (.i .i64 3))])⟩, []),
  (⟨(some 98), (some (91, true)), (.bin .add (.t 95) (.t 97))⟩, []),
  (⟨(some 99), (some (91, true)), (.val (.t 1))⟩, []),
  (⟨(some 100), (some (91, true)), (.call 34 [(.t 99), (.c (.i .i64 0))])⟩, []),
  (⟨(some 101), (some (91, true)), (.bin .add (.t 98) (.t 100))⟩, []),
  (⟨(some 102), (some (91, true)), (.bin .eql (.t 93) (.t 101))⟩, []),
  (⟨(some 103), none, (.pick (.t 91) (.t 102) (.c (.b false)))⟩, []),
  (⟨(some 104), none, (.val (.t 103))⟩, []),
  (⟨(some 105), (some (104, true)), (.val (.t 13))⟩, []),
  (⟨(some 106), (some (104, true)), (.bin .eql (.t 105) (.c (.i .i64 1)))⟩, []),
  (⟨(some 107), none, (.pick (.t 104) (.t 106) (.c (.b false)))⟩, []),
  (⟨(some 108), none, (.val (.t 107))⟩, []),
  (⟨(some 109), (some (108, true)), (.val (.t 0))⟩, []),
  (⟨(some 110), (some (108, true)), (.call 14 [(.t 109), (.c (.i .i64 (-1)))])⟩, []),
  (⟨(some 111), (some (108, true)), (.un .not (.t 110))⟩, []),
  (⟨(some 112), none, (.pick (.t 108) (.t 111) (.c (.b false)))⟩, []),
  (⟨(some 6), none, (.val (.t 112))⟩, [])] t H [H]) := runR_free rfl
def a21 : AFun := ⟨113, [(.tmp 6)], (.seq (.reg d21_0) (.seq (.reg d21_1) (.seq (.seq (.reg d21_2) (.block 0 (.loop l21_11))) (.seq (.reg d21_12) (.seq (.drw d21_13) .ret)))))⟩
theorem a21_ok : cfun Try.prog 21 = some a21 := by kernel_rfl
/-- (*futtock/slots.Table).Gen -/
def d22_0 : List AOper := [
  ⟨(some 4), none, (.val (.c (.i .u32 0)))⟩,
  ⟨(some 5), none, (.val (.c (.i .i64 0)))⟩]
theorem r22_0 {fn : AFun} {K : List AItem} {t : Nat → AV} {H : AH} {T : Tbl} : runR T fn (.code (.reg d22_0) :: K) t H = regR T fn K (aops (callR T) [
  ⟨(some 4), none, (.val (.c (.i .u32 0)))⟩,
  ⟨(some 5), none, (.val (.c (.i .i64 0)))⟩] t H) := runR_reg'
def d22_1 : List AOper := [
  ⟨(some 7), none, (.val (.t 0))⟩,
  ⟨(some 8), none, (.call 25 [(.t 7)])⟩,
  ⟨(some 9), none, (.un .not (.t 8))⟩,
  ⟨(some 6), none, (.val (.t 9))⟩]
theorem r22_1 {fn : AFun} {K : List AItem} {t : Nat → AV} {H : AH} {T : Tbl} : runR T fn (.code (.reg d22_1) :: K) t H = regR T fn K (aops (callR T) [
  ⟨(some 7), none, (.val (.t 0))⟩,
  ⟨(some 8), none, (.call 25 [(.t 7)])⟩,
  ⟨(some 9), none, (.un .not (.t 8))⟩,
  ⟨(some 6), none, (.val (.t 9))⟩] t H) := runR_reg'
def d22_2 : List AOper := [
  ⟨(some 4), none, (.val (.c (.i .u32 0)))⟩,
  ⟨(some 5), none, (.val (.c (.i .i64 2)))⟩]
theorem r22_2 {fn : AFun} {K : List AItem} {t : Nat → AV} {H : AH} {T : Tbl} : runR T fn (.code (.reg d22_2) :: K) t H = regR T fn K (aops (callR T) [
  ⟨(some 4), none, (.val (.c (.i .u32 0)))⟩,
  ⟨(some 5), none, (.val (.c (.i .i64 2)))⟩] t H) := runR_reg'
def d22_3 : List AOper := [
  ⟨(some 11), none, (.val (.t 1))⟩,
  ⟨(some 12), none, (.bin .lss (.t 11) (.c (.i .i64 0)))⟩,
  ⟨(some 13), none, (.val (.t 12))⟩,
  ⟨(some 14), (some (13, false)), (.val (.t 1))⟩,
  ⟨(some 15), (some (13, false)), (.val (.t 0))⟩,
  ⟨(some 16), (some (13, false)), (.nilc (.t 15))⟩,
  ⟨(some 17), (some (13, false)), (.fa 0 (.t 16))⟩,
  ⟨(some 18), (some (13, false)), (.ld none (.t 17))⟩,
  ⟨(some 19), (some (13, false)), (.bin .geq (.t 14) (.t 18))⟩,
  ⟨(some 20), none, (.pick (.t 13) (.c (.b true)) (.t 19))⟩,
  ⟨(some 10), none, (.val (.t 20))⟩]
theorem r22_3 {fn : AFun} {K : List AItem} {t : Nat → AV} {H : AH} {T : Tbl} : runR T fn (.code (.reg d22_3) :: K) t H = regR T fn K (aops (callR T) [
  ⟨(some 11), none, (.val (.t 1))⟩,
  ⟨(some 12), none, (.bin .lss (.t 11) (.c (.i .i64 0)))⟩,
  ⟨(some 13), none, (.val (.t 12))⟩,
  ⟨(some 14), (some (13, false)), (.val (.t 1))⟩,
  ⟨(some 15), (some (13, false)), (.val (.t 0))⟩,
  ⟨(some 16), (some (13, false)), (.nilc (.t 15))⟩,
  ⟨(some 17), (some (13, false)), (.fa 0 (.t 16))⟩,
  ⟨(some 18), (some (13, false)), (.ld none (.t 17))⟩,
  ⟨(some 19), (some (13, false)), (.bin .geq (.t 14) (.t 18))⟩,
  ⟨(some 20), none, (.pick (.t 13) (.c (.b true)) (.t 19))⟩,
  ⟨(some 10), none, (.val (.t 20))⟩] t H) := runR_reg'
def d22_4 : List AOper := [
  ⟨(some 4), none, (.val (.c (.i .u32 0)))⟩,
  ⟨(some 5), none, (.val (.c (.i .i64 1)))⟩]
theorem r22_4 {fn : AFun} {K : List AItem} {t : Nat → AV} {H : AH} {T : Tbl} : runR T fn (.code (.reg d22_4) :: K) t H = regR T fn K (aops (callR T) [
  ⟨(some 4), none, (.val (.c (.i .u32 0)))⟩,
  ⟨(some 5), none, (.val (.c (.i .i64 1)))⟩] t H) := runR_reg'
def d22_5 : List AOper := [
  ⟨(some 22), none, (.val (.t 1))⟩,
  ⟨(some 23), none, (.val (.t 0))⟩,
  ⟨(some 24), none, (.nilc (.t 23))⟩,
  ⟨(some 25), none, (.fa 2 (.t 24))⟩,
  ⟨(some 26), none, (.ld none (.t 25))⟩,
  ⟨(some 27), none, (.len (.t 26))⟩,
  ⟨(some 28), none, (.bin .geq (.t 22) (.t 27))⟩,
  ⟨(some 21), none, (.val (.t 28))⟩]
theorem r22_5 {fn : AFun} {K : List AItem} {t : Nat → AV} {H : AH} {T : Tbl} : runR T fn (.code (.reg d22_5) :: K) t H = regR T fn K (aops (callR T) [
  ⟨(some 22), none, (.val (.t 1))⟩,
  ⟨(some 23), none, (.val (.t 0))⟩,
  ⟨(some 24), none, (.nilc (.t 23))⟩,
  ⟨(some 25), none, (.fa 2 (.t 24))⟩,
  ⟨(some 26), none, (.ld none (.t 25))⟩,
  ⟨(some 27), none, (.len (.t 26))⟩,
  ⟨(some 28), none, (.bin .geq (.t 22) (.t 27))⟩,
  ⟨(some 21), none, (.val (.t 28))⟩] t H) := runR_reg'
def d22_6 : List AOper := [
  ⟨(some 4), none, (.val (.c (.i .u32 0)))⟩,
  ⟨(some 5), none, (.val (.c (.i .i64 0)))⟩]
theorem r22_6 {fn : AFun} {K : List AItem} {t : Nat → AV} {H : AH} {T : Tbl} : runR T fn (.code (.reg d22_6) :: K) t H = regR T fn K (aops (callR T) [
  ⟨(some 4), none, (.val (.c (.i .u32 0)))⟩,
  ⟨(some 5), none, (.val (.c (.i .i64 0)))⟩] t H) := runR_reg'
def d22_7 : List AOper := [
  ⟨(some 29), none, (.val (.t 0))⟩,
  ⟨(some 30), none, (.nilc (.t 29))⟩,
  ⟨(some 31), none, (.fa 2 (.t 30))⟩,
  ⟨(some 32), none, (.ld none (.t 31))⟩,
  ⟨(some 33), none, (.val (.t 1))⟩,
  ⟨(some 34), none, (.ia 2 (.t 32) (.t 33))⟩,
  ⟨(some 35), none, (.fa 1 (.t 34))⟩,
  ⟨(some 36), none, (.ld none (.t 35))⟩,
  ⟨(some 4), none, (.val (.t 36))⟩,
  ⟨(some 5), none, (.val (.c (.i .i64 0)))⟩]
theorem r22_7 {fn : AFun} {K : List AItem} {t : Nat → AV} {H : AH} {T : Tbl} : runR T fn (.code (.reg d22_7) :: K) t H = regR T fn K (aops (callR T) [
  ⟨(some 29), none, (.val (.t 0))⟩,
  ⟨(some 30), none, (.nilc (.t 29))⟩,
  ⟨(some 31), none, (.fa 2 (.t 30))⟩,
  ⟨(some 32), none, (.ld none (.t 31))⟩,
  ⟨(some 33), none, (.val (.t 1))⟩,
  ⟨(some 34), none, (.ia 2 (.t 32) (.t 33))⟩,
  ⟨(some 35), none, (.fa 1 (.t 34))⟩,
  ⟨(some 36), none, (.ld none (.t 35))⟩,
  ⟨(some 4), none, (.val (.t 36))⟩,
  ⟨(some 5), none, (.val (.c (.i .i64 0)))⟩] t H) := runR_reg'
def a22 : AFun := ⟨37, [(.tmp 4), (.tmp 5)], (.seq (.reg d22_0) (.seq (.block 0 (.seq (.reg d22_1) (.cond (.t 6) (.seq (.reg d22_2) .ret) (.seq (.reg d22_3) (.cond (.t 10) (.seq (.reg d22_4) .ret) (.seq (.reg d22_5) (.cond (.t 21) (.seq (.reg d22_6) .ret) .skip))))))) (.seq (.reg d22_7) .ret)))⟩
theorem a22_ok : cfun Try.prog 22 = some a22 := by kernel_rfl
/-- (*futtock/slots.Table).Check -/
def d23_0 : List AOper := [
  ⟨(some 6), none, (.val (.c (.b false)))⟩]
theorem r23_0 {fn : AFun} {K : List AItem} {t : Nat → AV} {H : AH} {T : Tbl} : runR T fn (.code (.reg d23_0) :: K) t H = regR T fn K (aops (callR T) [
  ⟨(some 6), none, (.val (.c (.b false)))⟩] t H) := runR_reg'
def d23_1 : List AOper := [
  ⟨(some 7), none, (.val (.t 0))⟩,
  ⟨(some 8), none, (.val (.t 1))⟩,
  ⟨(some 9), none, (.call 14 [(.t 7), (.t 8)])⟩,
  ⟨(some 10), none, (.val (.t 9))⟩,
  ⟨(some 11), (some (10, true)), (.val (.t 0))⟩,
  ⟨(some 12), (some (10, true)), (.nilc (.t 11))⟩,
  ⟨(some 13), (some (10, true)), (.fa 2 (.t 12))⟩,
  ⟨(some 14), (some (10, true)), (.ld none (.t 13))⟩,
  ⟨(some 15), (some (10, true)), (.val (.t 1))⟩,
  ⟨(some 16), (some (10, true)), (.ia 2 (.t 14) (.t 15))⟩,
  ⟨(some 17), (some (10, true)), (.fa 1 (.t 16))⟩,
  ⟨(some 18), (some (10, true)), (.ld none (.t 17))⟩,
  ⟨(some 19), (some (10, true)), (.val (.t 2))⟩,
  ⟨(some 20), (some (10, true)), (.bin .eql (.t 18) (.t 19))⟩,
  ⟨(some 21), none, (.pick (.t 10) (.t 20) (.c (.b false)))⟩,
  ⟨(some 6), none, (.val (.t 21))⟩]
theorem r23_1 {fn : AFun} {K : List AItem} {t : Nat → AV} {H : AH} {T : Tbl} : runR T fn (.code (.reg d23_1) :: K) t H = regR T fn K (aops (callR T) [
  ⟨(some 7), none, (.val (.t 0))⟩,
  ⟨(some 8), none, (.val (.t 1))⟩,
  ⟨(some 9), none, (.call 14 [(.t 7), (.t 8)])⟩,
  ⟨(some 10), none, (.val (.t 9))⟩,
  ⟨(some 11), (some (10, true)), (.val (.t 0))⟩,
  ⟨(some 12), (some (10, true)), (.nilc (.t 11))⟩,
  ⟨(some 13), (some (10, true)), (.fa 2 (.t 12))⟩,
  ⟨(some 14), (some (10, true)), (.ld none (.t 13))⟩,
  ⟨(some 15), (some (10, true)), (.val (.t 1))⟩,
  ⟨(some 16), (some (10, true)), (.ia 2 (.t 14) (.t 15))⟩,
  ⟨(some 17), (some (10, true)), (.fa 1 (.t 16))⟩,
  ⟨(some 18), (some (10, true)), (.ld none (.t 17))⟩,
  ⟨(some 19), (some (10, true)), (.val (.t 2))⟩,
  ⟨(some 20), (some (10, true)), (.bin .eql (.t 18) (.t 19))⟩,
  ⟨(some 21), none, (.pick (.t 10) (.t 20) (.c (.b false)))⟩,
  ⟨(some 6), none, (.val (.t 21))⟩] t H) := runR_reg'
def a23 : AFun := ⟨22, [(.tmp 6)], (.seq (.reg d23_0) (.seq (.reg d23_1) .ret))⟩
theorem a23_ok : cfun Try.prog 23 = some a23 := by kernel_rfl
/-- (*futtock/slots.Table).Made -/
def d24_0 : List AOper := [
  ⟨(some 2), none, (.val (.c (.i .i64 0)))⟩]
theorem r24_0 {fn : AFun} {K : List AItem} {t : Nat → AV} {H : AH} {T : Tbl} : runR T fn (.code (.reg d24_0) :: K) t H = regR T fn K (aops (callR T) [
  ⟨(some 2), none, (.val (.c (.i .i64 0)))⟩] t H) := runR_reg'
def d24_1 : List AOper := [
  ⟨(some 3), none, (.val (.t 0))⟩,
  ⟨(some 4), none, (.call 25 [(.t 3)])⟩,
  ⟨(some 5), none, (.un .not (.t 4))⟩]
theorem r24_1 {fn : AFun} {K : List AItem} {t : Nat → AV} {H : AH} {T : Tbl} : runR T fn (.code (.reg d24_1) :: K) t H = regR T fn K (aops (callR T) [
  ⟨(some 3), none, (.val (.t 0))⟩,
  ⟨(some 4), none, (.call 25 [(.t 3)])⟩,
  ⟨(some 5), none, (.un .not (.t 4))⟩] t H) := runR_reg'
def d24_2 : List AOper := [
  ⟨(some 2), none, (.val (.c (.i .i64 0)))⟩]
theorem r24_2 {fn : AFun} {K : List AItem} {t : Nat → AV} {H : AH} {T : Tbl} : runR T fn (.code (.reg d24_2) :: K) t H = regR T fn K (aops (callR T) [
  ⟨(some 2), none, (.val (.c (.i .i64 0)))⟩] t H) := runR_reg'
def d24_3 : List (AOper × List Nat) := [
  (⟨(some 6), none, (.val (.t 0))⟩, []),
  (⟨(some 7), none, (.nilc (.t 6))⟩, []),
  (⟨(some 8), none, (.fa 2 (.t 7))⟩, []),
  (⟨(some 9), none, (.ld none (.t 8))⟩, [1]),
  (⟨(some 10), none, (.len (.t 9))⟩, []),
  (⟨(some 11), none, (.val (.t 0))⟩, []),
  (⟨(some 12), none, (.nilc (.t 11))⟩, []),
  (⟨(some 13), none, (.fa 1 (.t 12))⟩, []),
  (⟨(some 14), none, (.ld none (.t 13))⟩, [1]),
  (⟨(some 15), none, (.bin .add (.t 10) (.t 14))⟩, []),
  (⟨(some 16), none, (.bin .sub (.t 15) (.c (.i .i64 1)))⟩, []),
  (⟨(some 17), none, (.val (.t 0))⟩, []),
  (⟨(some 18), none, (.nilc (.t 17))⟩, []),
  (⟨(some 19), none, (.fa 1 (.t 18))⟩, []),
  (⟨(some 20), none, (.ld none (.t 19))⟩, [1]),
  (⟨(some 21), none, (.bin .quo (.t 16) (.t 20))⟩, []),
  (⟨(some 2), none, (.val (.t 21))⟩, [])]
theorem r24_3 {fn : AFun} {K : List AItem} {t : Nat → AV} {H : AH} {T : Tbl} : runR T fn (.code (.drw d24_3) :: K) t H = regR T fn K (aops (callR T) [
  ⟨(some 6), none, (.val (.t 0))⟩,
  ⟨(some 7), none, (.nilc (.t 6))⟩,
  ⟨(some 8), none, (.fa 2 (.t 7))⟩,
  ⟨(some 9), none, (.ld none (.t 8))⟩,
  ⟨(some 10), none, (.len (.t 9))⟩,
  ⟨(some 11), none, (.val (.t 0))⟩,
  ⟨(some 12), none, (.nilc (.t 11))⟩,
  ⟨(some 13), none, (.fa 1 (.t 12))⟩,
  ⟨(some 14), none, (.ld none (.t 13))⟩,
  ⟨(some 15), none, (.bin .add (.t 10) (.t 14))⟩,
  ⟨(some 16), none, (.bin .sub (.t 15) (.c (.i .i64 1)))⟩,
  ⟨(some 17), none, (.val (.t 0))⟩,
  ⟨(some 18), none, (.nilc (.t 17))⟩,
  ⟨(some 19), none, (.fa 1 (.t 18))⟩,
  ⟨(some 20), none, (.ld none (.t 19))⟩,
  ⟨(some 21), none, (.bin .quo (.t 16) (.t 20))⟩,
  ⟨(some 2), none, (.val (.t 21))⟩] t H) := runR_plain rfl
def a24 : AFun := ⟨22, [(.tmp 2)], (.seq (.reg d24_0) (.seq (.seq (.reg d24_1) (.cond (.t 5) (.seq (.reg d24_2) .ret) .skip)) (.seq (.drw d24_3) .ret)))⟩
theorem a24_ok : cfun Try.prog 24 = some a24 := by kernel_rfl
/-- (*futtock/slots.Table).ok -/
def d25_0 : List AOper := [
  ⟨(some 2), none, (.val (.c (.b false)))⟩]
theorem r25_0 {fn : AFun} {K : List AItem} {t : Nat → AV} {H : AH} {T : Tbl} : runR T fn (.code (.reg d25_0) :: K) t H = regR T fn K (aops (callR T) [
  ⟨(some 2), none, (.val (.c (.b false)))⟩] t H) := runR_reg'
def d25_1 : List AOper := [
  ⟨(some 3), none, (.val (.t 0))⟩,
  ⟨(some 4), none, (.eqn 0 true (.t 3) (.c (.p none)))⟩,
  ⟨(some 5), none, (.val (.t 4))⟩,
  ⟨(some 6), (some (5, true)), (.val (.t 0))⟩,
  ⟨(some 7), (some (5, true)), (.nilc (.t 6))⟩,
  ⟨(some 8), (some (5, true)), (.fa 0 (.t 7))⟩,
  ⟨(some 9), (some (5, true)), (.ld none (.t 8))⟩,
  ⟨(some 10), (some (5, true)), (.bin .gtr (.t 9) (.c (.i .i64 0)))⟩,
  ⟨(some 11), none, (.pick (.t 5) (.t 10) (.c (.b false)))⟩,
  ⟨(some 2), none, (.val (.t 11))⟩]
theorem r25_1 {fn : AFun} {K : List AItem} {t : Nat → AV} {H : AH} {T : Tbl} : runR T fn (.code (.reg d25_1) :: K) t H = regR T fn K (aops (callR T) [
  ⟨(some 3), none, (.val (.t 0))⟩,
  ⟨(some 4), none, (.eqn 0 true (.t 3) (.c (.p none)))⟩,
  ⟨(some 5), none, (.val (.t 4))⟩,
  ⟨(some 6), (some (5, true)), (.val (.t 0))⟩,
  ⟨(some 7), (some (5, true)), (.nilc (.t 6))⟩,
  ⟨(some 8), (some (5, true)), (.fa 0 (.t 7))⟩,
  ⟨(some 9), (some (5, true)), (.ld none (.t 8))⟩,
  ⟨(some 10), (some (5, true)), (.bin .gtr (.t 9) (.c (.i .i64 0)))⟩,
  ⟨(some 11), none, (.pick (.t 5) (.t 10) (.c (.b false)))⟩,
  ⟨(some 2), none, (.val (.t 11))⟩] t H) := runR_reg'
def a25 : AFun := ⟨12, [(.tmp 2)], (.seq (.reg d25_0) (.seq (.reg d25_1) .ret))⟩
theorem a25_ok : cfun Try.prog 25 = some a25 := by kernel_rfl
/-- futtock/slots.isThread -/
def d26_0 : List AOper := [
  ⟨(some 2), none, (.val (.c (.b false)))⟩]
theorem r26_0 {fn : AFun} {K : List AItem} {t : Nat → AV} {H : AH} {T : Tbl} : runR T fn (.code (.reg d26_0) :: K) t H = regR T fn K (aops (callR T) [
  ⟨(some 2), none, (.val (.c (.b false)))⟩] t H) := runR_reg'
def d26_1 : List AOper := [
  ⟨(some 3), none, (.val (.t 0))⟩,
  ⟨(some 4), none, (.bin .geq (.t 3) (.c (.i .i64 0)))⟩,
  ⟨(some 5), none, (.val (.t 4))⟩,
  ⟨(some 6), (some (5, true)), (.val (.t 0))⟩,
  ⟨(some 7), (some (5, true)), (.bin .lss (.t 6) (.c (.i .i64 256)))⟩,
  ⟨(some 8), none, (.pick (.t 5) (.t 7) (.c (.b false)))⟩,
  ⟨(some 2), none, (.val (.t 8))⟩]
theorem r26_1 {fn : AFun} {K : List AItem} {t : Nat → AV} {H : AH} {T : Tbl} : runR T fn (.code (.reg d26_1) :: K) t H = regR T fn K (aops (callR T) [
  ⟨(some 3), none, (.val (.t 0))⟩,
  ⟨(some 4), none, (.bin .geq (.t 3) (.c (.i .i64 0)))⟩,
  ⟨(some 5), none, (.val (.t 4))⟩,
  ⟨(some 6), (some (5, true)), (.val (.t 0))⟩,
  ⟨(some 7), (some (5, true)), (.bin .lss (.t 6) (.c (.i .i64 256)))⟩,
  ⟨(some 8), none, (.pick (.t 5) (.t 7) (.c (.b false)))⟩,
  ⟨(some 2), none, (.val (.t 8))⟩] t H) := runR_reg'
def a26 : AFun := ⟨9, [(.tmp 2)], (.seq (.reg d26_0) (.seq (.reg d26_1) .ret))⟩
theorem a26_ok : cfun Try.prog 26 = some a26 := by kernel_rfl
/-- (*futtock/slots.Table).share -/
def d27_0 : List AOper := [
  ⟨(some 7), none, (.val (.t 0))⟩,
  ⟨(some 8), none, (.nilc (.t 7))⟩,
  ⟨(some 9), none, (.fa 3 (.t 8))⟩,
  ⟨(some 10), none, (.ld none (.t 9))⟩,
  ⟨(some 11), none, (.val (.t 1))⟩,
  ⟨(some 12), none, (.call 35 [(.t 10), (.t 11)])⟩,
  ⟨(some 6), none, (.val (.t 12))⟩,
  ⟨(some 13), none, (.ext (.t 6) 0)⟩,
  ⟨(some 14), none, (.ext (.t 6) 1)⟩,
  ⟨(some 4), none, (.val (.t 13))⟩,
  ⟨(some 5), none, (.val (.t 14))⟩]
theorem r27_0 {fn : AFun} {K : List AItem} {t : Nat → AV} {H : AH} {T : Tbl} : runR T fn (.code (.reg d27_0) :: K) t H = regR T fn K (aops (callR T) [
  ⟨(some 7), none, (.val (.t 0))⟩,
  ⟨(some 8), none, (.nilc (.t 7))⟩,
  ⟨(some 9), none, (.fa 3 (.t 8))⟩,
  ⟨(some 10), none, (.ld none (.t 9))⟩,
  ⟨(some 11), none, (.val (.t 1))⟩,
  ⟨(some 12), none, (.call 35 [(.t 10), (.t 11)])⟩,
  ⟨(some 6), none, (.val (.t 12))⟩,
  ⟨(some 13), none, (.ext (.t 6) 0)⟩,
  ⟨(some 14), none, (.ext (.t 6) 1)⟩,
  ⟨(some 4), none, (.val (.t 13))⟩,
  ⟨(some 5), none, (.val (.t 14))⟩] t H) := runR_reg'
def d27_1 : List AOper := [
  ⟨(some 15), none, (.val (.t 0))⟩,
  ⟨(some 16), none, (.val (.t 0))⟩,
  ⟨(some 17), none, (.nilc (.t 16))⟩,
  ⟨(some 18), none, (.fa 3 (.t 17))⟩,
  ⟨(some 19), none, (.ld none (.t 18))⟩,
  ⟨(some 20), none, (.val (.t 4))⟩,
  ⟨(some 21), none, (.val (.t 1))⟩,
  ⟨(some 22), none, (.bsl [(.i .i64 0)] 1 [(0, 1, (.t 21))])⟩,
  ⟨(some 23), none, (.call 36 [(.t 19), (.t 20), (.t 22)])⟩,
  ⟨(some 24), none, (.nilc (.t 15))⟩,
  ⟨(some 25), none, (.fa 3 (.t 24))⟩,
  ⟨none, none, (.st 1 (.t 25) (.t 23))⟩]
theorem r27_1 {fn : AFun} {K : List AItem} {t : Nat → AV} {H : AH} {T : Tbl} : runR T fn (.code (.reg d27_1) :: K) t H = regR T fn K (aops (callR T) [
  ⟨(some 15), none, (.val (.t 0))⟩,
  ⟨(some 16), none, (.val (.t 0))⟩,
  ⟨(some 17), none, (.nilc (.t 16))⟩,
  ⟨(some 18), none, (.fa 3 (.t 17))⟩,
  ⟨(some 19), none, (.ld none (.t 18))⟩,
  ⟨(some 20), none, (.val (.t 4))⟩,
  ⟨(some 21), none, (.val (.t 1))⟩,
  ⟨(some 22), none, (.bsl [(.i .i64 0)] 1 [(0, 1, (.t 21))])⟩,
  ⟨(some 23), none, (.call 36 [(.t 19), (.t 20), (.t 22)])⟩,
  ⟨(some 24), none, (.nilc (.t 15))⟩,
  ⟨(some 25), none, (.fa 3 (.t 24))⟩,
  ⟨none, none, (.st 1 (.t 25) (.t 23))⟩] t H) := runR_reg'
def a27 : AFun := ⟨26, [], (.seq (.reg d27_0) (.reg d27_1))⟩
theorem a27_ok : cfun Try.prog 27 = some a27 := by kernel_rfl
/-- (*futtock/slots.Table).pick -/
def d28_0 : List AOper := [
  ⟨(some 4), none, (.val (.c (.i .i64 0)))⟩]
theorem r28_0 {fn : AFun} {K : List AItem} {t : Nat → AV} {H : AH} {T : Tbl} : runR T fn (.code (.reg d28_0) :: K) t H = regR T fn K (aops (callR T) [
  ⟨(some 4), none, (.val (.c (.i .i64 0)))⟩] t H) := runR_reg'
def d28_1 : List AOper := [
  ⟨(some 8), none, (.val (.t 0))⟩,
  ⟨(some 9), none, (.val (.t 1))⟩,
  ⟨(some 10), none, (.nilc (.t 8))⟩,
  ⟨(some 11), none, (.fa 4 (.t 10))⟩,
  ⟨(some 12), none, (.iaa 256 1 (.t 11) (.t 9))⟩,
  ⟨(some 13), none, (.ld none (.t 12))⟩,
  ⟨(some 5), none, (.val (.t 13))⟩]
theorem r28_1 {fn : AFun} {K : List AItem} {t : Nat → AV} {H : AH} {T : Tbl} : runR T fn (.code (.reg d28_1) :: K) t H = regR T fn K (aops (callR T) [
  ⟨(some 8), none, (.val (.t 0))⟩,
  ⟨(some 9), none, (.val (.t 1))⟩,
  ⟨(some 10), none, (.nilc (.t 8))⟩,
  ⟨(some 11), none, (.fa 4 (.t 10))⟩,
  ⟨(some 12), none, (.iaa 256 1 (.t 11) (.t 9))⟩,
  ⟨(some 13), none, (.ld none (.t 12))⟩,
  ⟨(some 5), none, (.val (.t 13))⟩] t H) := runR_reg'
def d28_2 : List AOper := [
  ⟨(some 14), none, (.val (.t 5))⟩,
  ⟨(some 15), none, (.len (.t 14))⟩,
  ⟨(some 16), none, (.bin .gtr (.t 15) (.c (.i .i64 0)))⟩]
theorem r28_2 {fn : AFun} {K : List AItem} {t : Nat → AV} {H : AH} {T : Tbl} : runR T fn (.code (.reg d28_2) :: K) t H = regR T fn K (aops (callR T) [
  ⟨(some 14), none, (.val (.t 5))⟩,
  ⟨(some 15), none, (.len (.t 14))⟩,
  ⟨(some 16), none, (.bin .gtr (.t 15) (.c (.i .i64 0)))⟩] t H) := runR_reg'
def d28_3 : List AOper := [
  ⟨(some 17), none, (.val (.t 5))⟩,
  ⟨(some 18), none, (.val (.t 5))⟩,
  ⟨(some 19), none, (.len (.t 18))⟩,
  ⟨(some 20), none, (.bin .sub (.t 19) (.c (.i .i64 1)))⟩,
  ⟨(some 21), none, (.ia 1 (.t 17) (.t 20))⟩,
  ⟨(some 22), none, (.ld none (.t 21))⟩,
  ⟨(some 6), none, (.val (.t 22))⟩]
theorem r28_3 {fn : AFun} {K : List AItem} {t : Nat → AV} {H : AH} {T : Tbl} : runR T fn (.code (.reg d28_3) :: K) t H = regR T fn K (aops (callR T) [
  ⟨(some 17), none, (.val (.t 5))⟩,
  ⟨(some 18), none, (.val (.t 5))⟩,
  ⟨(some 19), none, (.len (.t 18))⟩,
  ⟨(some 20), none, (.bin .sub (.t 19) (.c (.i .i64 1)))⟩,
  ⟨(some 21), none, (.ia 1 (.t 17) (.t 20))⟩,
  ⟨(some 22), none, (.ld none (.t 21))⟩,
  ⟨(some 6), none, (.val (.t 22))⟩] t H) := runR_reg'
def d28_4 : List (AOper × List Nat) := [
  (⟨(some 23), none, (.val (.t 0))⟩, []),
  (⟨(some 24), none, (.val (.t 1))⟩, []),
  (⟨(some 25), none, (.val (.t 5))⟩, []),
  (⟨(some 26), none, (.val (.t 5))⟩, []),
  (⟨(some 27), none, (.len (.t 26))⟩, []),
  (⟨(some 28), none, (.bin .sub (.t 27) (.c (.i .i64 1)))⟩, []),
  (⟨(some 29), none, (.sls 1 (.t 25) none (some (.t 28)) none)⟩, []),
  (⟨(some 30), none, (.nilc (.t 23))⟩, []),
  (⟨(some 31), none, (.fa 4 (.t 30))⟩, []),
  (⟨(some 32), none, (.iaa 256 1 (.t 31) (.t 24))⟩, []),
  (⟨none, none, (.st 1 (.t 32) (.t 29))⟩, [])]
theorem r28_4 {fn : AFun} {K : List AItem} {t : Nat → AV} {H : AH} {T : Tbl} : runR T fn (.code (.drw d28_4) :: K) t H = regR T fn K (aops (callR T) [
  ⟨(some 23), none, (.val (.t 0))⟩,
  ⟨(some 24), none, (.val (.t 1))⟩,
  ⟨(some 25), none, (.val (.t 5))⟩,
  ⟨(some 26), none, (.val (.t 5))⟩,
  ⟨(some 27), none, (.len (.t 26))⟩,
  ⟨(some 28), none, (.bin .sub (.t 27) (.c (.i .i64 1)))⟩,
  ⟨(some 29), none, (.sls 1 (.t 25) none (some (.t 28)) none)⟩,
  ⟨(some 30), none, (.nilc (.t 23))⟩,
  ⟨(some 31), none, (.fa 4 (.t 30))⟩,
  ⟨(some 32), none, (.iaa 256 1 (.t 31) (.t 24))⟩,
  ⟨none, none, (.st 1 (.t 32) (.t 29))⟩] t H) := runR_plain rfl
def d28_5 : List AOper := [
  ⟨(some 33), none, (.val (.t 6))⟩,
  ⟨(some 4), none, (.val (.t 33))⟩]
theorem r28_5 {fn : AFun} {K : List AItem} {t : Nat → AV} {H : AH} {T : Tbl} : runR T fn (.code (.reg d28_5) :: K) t H = regR T fn K (aops (callR T) [
  ⟨(some 33), none, (.val (.t 6))⟩,
  ⟨(some 4), none, (.val (.t 33))⟩] t H) := runR_reg'
def d28_6 : List AOper := [
  ⟨(some 34), none, (.val (.t 0))⟩,
  ⟨(some 35), none, (.nilc (.t 34))⟩,
  ⟨(some 36), none, (.fa 3 (.t 35))⟩,
  ⟨(some 37), none, (.ld none (.t 36))⟩,
  ⟨(some 38), none, (.len (.t 37))⟩,
  ⟨(some 39), none, (.bin .eql (.t 38) (.c (.i .i64 0)))⟩]
theorem r28_6 {fn : AFun} {K : List AItem} {t : Nat → AV} {H : AH} {T : Tbl} : runR T fn (.code (.reg d28_6) :: K) t H = regR T fn K (aops (callR T) [
  ⟨(some 34), none, (.val (.t 0))⟩,
  ⟨(some 35), none, (.nilc (.t 34))⟩,
  ⟨(some 36), none, (.fa 3 (.t 35))⟩,
  ⟨(some 37), none, (.ld none (.t 36))⟩,
  ⟨(some 38), none, (.len (.t 37))⟩,
  ⟨(some 39), none, (.bin .eql (.t 38) (.c (.i .i64 0)))⟩] t H) := runR_reg'
def d28_7 : List AOper := [
  ⟨(some 40), none, (.val (.t 0))⟩,
  ⟨(some 41), none, (.call 37 [(.t 40)])⟩]
theorem r28_7 {fn : AFun} {K : List AItem} {t : Nat → AV} {H : AH} {T : Tbl} : runR T fn (.code (.reg d28_7) :: K) t H = regR T fn K (aops (callR T) [
  ⟨(some 40), none, (.val (.t 0))⟩,
  ⟨(some 41), none, (.call 37 [(.t 40)])⟩] t H) := runR_reg'
def d28_8 : List AOper := [
  ⟨(some 42), none, (.val (.t 0))⟩,
  ⟨(some 43), none, (.nilc (.t 42))⟩,
  ⟨(some 44), none, (.fa 3 (.t 43))⟩,
  ⟨(some 45), none, (.ld none (.t 44))⟩,
  ⟨(some 46), none, (.len (.t 45))⟩,
  ⟨(some 47), none, (.bin .eql (.t 46) (.c (.i .i64 0)))⟩]
theorem r28_8 {fn : AFun} {K : List AItem} {t : Nat → AV} {H : AH} {T : Tbl} : runR T fn (.code (.reg d28_8) :: K) t H = regR T fn K (aops (callR T) [
  ⟨(some 42), none, (.val (.t 0))⟩,
  ⟨(some 43), none, (.nilc (.t 42))⟩,
  ⟨(some 44), none, (.fa 3 (.t 43))⟩,
  ⟨(some 45), none, (.ld none (.t 44))⟩,
  ⟨(some 46), none, (.len (.t 45))⟩,
  ⟨(some 47), none, (.bin .eql (.t 46) (.c (.i .i64 0)))⟩] t H) := runR_reg'
def d28_9 : List AOper := [
  ⟨(some 4), none, (.val (.c (.i .i64 (-1))))⟩]
theorem r28_9 {fn : AFun} {K : List AItem} {t : Nat → AV} {H : AH} {T : Tbl} : runR T fn (.code (.reg d28_9) :: K) t H = regR T fn K (aops (callR T) [
  ⟨(some 4), none, (.val (.c (.i .i64 (-1))))⟩] t H) := runR_reg'
def d28_10 : List AOper := [
  ⟨(some 48), none, (.val (.t 0))⟩,
  ⟨(some 49), none, (.nilc (.t 48))⟩,
  ⟨(some 50), none, (.fa 3 (.t 49))⟩,
  ⟨(some 51), none, (.ld none (.t 50))⟩,
  ⟨(some 52), none, (.ia 1 (.t 51) (.c (.i .i64 0)))⟩,
  ⟨(some 53), none, (.ld none (.t 52))⟩,
  ⟨(some 7), none, (.val (.t 53))⟩]
theorem r28_10 {fn : AFun} {K : List AItem} {t : Nat → AV} {H : AH} {T : Tbl} : runR T fn (.code (.reg d28_10) :: K) t H = regR T fn K (aops (callR T) [
  ⟨(some 48), none, (.val (.t 0))⟩,
  ⟨(some 49), none, (.nilc (.t 48))⟩,
  ⟨(some 50), none, (.fa 3 (.t 49))⟩,
  ⟨(some 51), none, (.ld none (.t 50))⟩,
  ⟨(some 52), none, (.ia 1 (.t 51) (.c (.i .i64 0)))⟩,
  ⟨(some 53), none, (.ld none (.t 52))⟩,
  ⟨(some 7), none, (.val (.t 53))⟩] t H) := runR_reg'
def d28_11 : List AOper := [
  ⟨(some 54), none, (.val (.t 0))⟩,
  ⟨(some 55), none, (.val (.t 0))⟩,
  ⟨(some 56), none, (.nilc (.t 55))⟩,
  ⟨(some 57), none, (.fa 3 (.t 56))⟩,
  ⟨(some 58), none, (.ld none (.t 57))⟩,
  ⟨(some 59), none, (.call 38 [(.t 58), (.c (.i .i64 0)), (.c (.i .i64 1))])⟩,
  ⟨(some 60), none, (.nilc (.t 54))⟩,
  ⟨(some 61), none, (.fa 3 (.t 60))⟩,
  ⟨none, none, (.st 1 (.t 61) (.t 59))⟩]
theorem r28_11 {fn : AFun} {K : List AItem} {t : Nat → AV} {H : AH} {T : Tbl} : runR T fn (.code (.reg d28_11) :: K) t H = regR T fn K (aops (callR T) [
  ⟨(some 54), none, (.val (.t 0))⟩,
  ⟨(some 55), none, (.val (.t 0))⟩,
  ⟨(some 56), none, (.nilc (.t 55))⟩,
  ⟨(some 57), none, (.fa 3 (.t 56))⟩,
  ⟨(some 58), none, (.ld none (.t 57))⟩,
  ⟨(some 59), none, (.call 38 [(.t 58), (.c (.i .i64 0)), (.c (.i .i64 1))])⟩,
  ⟨(some 60), none, (.nilc (.t 54))⟩,
  ⟨(some 61), none, (.fa 3 (.t 60))⟩,
  ⟨none, none, (.st 1 (.t 61) (.t 59))⟩] t H) := runR_reg'
def d28_12 : List AOper := [
  ⟨(some 62), none, (.val (.t 7))⟩,
  ⟨(some 4), none, (.val (.t 62))⟩]
theorem r28_12 {fn : AFun} {K : List AItem} {t : Nat → AV} {H : AH} {T : Tbl} : runR T fn (.code (.reg d28_12) :: K) t H = regR T fn K (aops (callR T) [
  ⟨(some 62), none, (.val (.t 7))⟩,
  ⟨(some 4), none, (.val (.t 62))⟩] t H) := runR_reg'
def a28 : AFun := ⟨63, [(.tmp 4)], (.seq (.reg d28_0) (.seq (.seq (.reg d28_1) (.seq (.reg d28_2) (.cond (.t 16) (.seq (.reg d28_3) (.seq (.drw d28_4) (.seq (.reg d28_5) .ret))) .skip))) (.seq (.seq (.reg d28_6) (.cond (.t 39) (.reg d28_7) .skip)) (.seq (.seq (.reg d28_8) (.cond (.t 47) (.seq (.reg d28_9) .ret) .skip)) (.seq (.reg d28_10) (.seq (.reg d28_11) (.seq (.reg d28_12) .ret)))))))⟩
theorem a28_ok : cfun Try.prog 28 = some a28 := by kernel_rfl
/-- slices.Clone[[]int,int] -/
def d29_0 : List AOper := [
  ⟨(some 2), none, (.val (.c (.sl none 0 0 true 0)))⟩]
theorem r29_0 {fn : AFun} {K : List AItem} {t : Nat → AV} {H : AH} {T : Tbl} : runR T fn (.code (.reg d29_0) :: K) t H = regR T fn K (aops (callR T) [
  ⟨(some 2), none, (.val (.c (.sl none 0 0 true 0)))⟩] t H) := runR_reg'
def d29_1 : List AOper := [
  ⟨(some 3), none, (.val (.t 0))⟩,
  ⟨(some 4), none, (.eqn 1 false (.t 3) (.c (.sl none 0 0 true 0)))⟩]
theorem r29_1 {fn : AFun} {K : List AItem} {t : Nat → AV} {H : AH} {T : Tbl} : runR T fn (.code (.reg d29_1) :: K) t H = regR T fn K (aops (callR T) [
  ⟨(some 3), none, (.val (.t 0))⟩,
  ⟨(some 4), none, (.eqn 1 false (.t 3) (.c (.sl none 0 0 true 0)))⟩] t H) := runR_reg'
def d29_2 : List AOper := [
  ⟨(some 2), none, (.val (.c (.sl none 0 0 true 0)))⟩]
theorem r29_2 {fn : AFun} {K : List AItem} {t : Nat → AV} {H : AH} {T : Tbl} : runR T fn (.code (.reg d29_2) :: K) t H = regR T fn K (aops (callR T) [
  ⟨(some 2), none, (.val (.c (.sl none 0 0 true 0)))⟩] t H) := runR_reg'
def d29_3 : List AOper := [
  ⟨(some 5), none, (.bsl [(.i .i64 0)] 0 [])⟩,
  ⟨(some 6), none, (.val (.t 0))⟩,
  ⟨(some 7), none, (.app [(.i .i64 0)] 8 (.t 5) (.t 6))⟩,
  ⟨(some 2), none, (.val (.t 7))⟩]
theorem r29_3 {fn : AFun} {K : List AItem} {t : Nat → AV} {H : AH} {T : Tbl} : runR T fn (.code (.reg d29_3) :: K) t H = regR T fn K (aops (callR T) [
  ⟨(some 5), none, (.bsl [(.i .i64 0)] 0 [])⟩,
  ⟨(some 6), none, (.val (.t 0))⟩,
  ⟨(some 7), none, (.app [(.i .i64 0)] 8 (.t 5) (.t 6))⟩,
  ⟨(some 2), none, (.val (.t 7))⟩] t H) := runR_reg'
def a29 : AFun := ⟨8, [(.tmp 2)], (.seq (.reg d29_0) (.seq (.seq (.reg d29_1) (.cond (.t 4) (.seq (.reg d29_2) .ret) .skip)) (.seq (.reg d29_3) .ret)))⟩
theorem a29_ok : cfun Try.prog 29 = some a29 := by kernel_rfl
/-- futtock/futtockref10.is -/
def d30_0 : List AOper := [
  ⟨(some 2), none, (.val (.c (.b false)))⟩]
theorem r30_0 {fn : AFun} {K : List AItem} {t : Nat → AV} {H : AH} {T : Tbl} : runR T fn (.code (.reg d30_0) :: K) t H = regR T fn K (aops (callR T) [
  ⟨(some 2), none, (.val (.c (.b false)))⟩] t H) := runR_reg'
def d30_1 : List AOper := [
  ⟨(some 3), none, (.val (.t 0))⟩,
  ⟨(some 4), none, (.bin .geq (.t 3) (.c (.i .i64 0)))⟩,
  ⟨(some 5), none, (.val (.t 4))⟩,
  ⟨(some 6), (some (5, true)), (.val (.t 0))⟩,
  ⟨(some 7), (some (5, true)), (.bin .lss (.t 6) (.c (.i .i64 256)))⟩,
  ⟨(some 8), none, (.pick (.t 5) (.t 7) (.c (.b false)))⟩,
  ⟨(some 2), none, (.val (.t 8))⟩]
theorem r30_1 {fn : AFun} {K : List AItem} {t : Nat → AV} {H : AH} {T : Tbl} : runR T fn (.code (.reg d30_1) :: K) t H = regR T fn K (aops (callR T) [
  ⟨(some 3), none, (.val (.t 0))⟩,
  ⟨(some 4), none, (.bin .geq (.t 3) (.c (.i .i64 0)))⟩,
  ⟨(some 5), none, (.val (.t 4))⟩,
  ⟨(some 6), (some (5, true)), (.val (.t 0))⟩,
  ⟨(some 7), (some (5, true)), (.bin .lss (.t 6) (.c (.i .i64 256)))⟩,
  ⟨(some 8), none, (.pick (.t 5) (.t 7) (.c (.b false)))⟩,
  ⟨(some 2), none, (.val (.t 8))⟩] t H) := runR_reg'
def a30 : AFun := ⟨9, [(.tmp 2)], (.seq (.reg d30_0) (.seq (.reg d30_1) .ret))⟩
theorem a30_ok : cfun Try.prog 30 = some a30 := by kernel_rfl
/-- (*futtock/futtockref10.Table).Mine -/
def d31_0 : List AOper := [
  ⟨(some 4), none, (.val (.c (.sl none 0 0 true 0)))⟩]
theorem r31_0 {fn : AFun} {K : List AItem} {t : Nat → AV} {H : AH} {T : Tbl} : runR T fn (.code (.reg d31_0) :: K) t H = regR T fn K (aops (callR T) [
  ⟨(some 4), none, (.val (.c (.sl none 0 0 true 0)))⟩] t H) := runR_reg'
def d31_1 : List AOper := [
  ⟨(some 5), none, (.val (.c (.sl none 0 0 true 0)))⟩]
theorem r31_1 {fn : AFun} {K : List AItem} {t : Nat → AV} {H : AH} {T : Tbl} : runR T fn (.code (.reg d31_1) :: K) t H = regR T fn K (aops (callR T) [
  ⟨(some 5), none, (.val (.c (.sl none 0 0 true 0)))⟩] t H) := runR_reg'
def d31_2 : List AOper := [
  ⟨(some 6), none, (.val (.c (.i .i64 0)))⟩]
theorem r31_2 {fn : AFun} {K : List AItem} {t : Nat → AV} {H : AH} {T : Tbl} : runR T fn (.code (.reg d31_2) :: K) t H = regR T fn K (aops (callR T) [
  ⟨(some 6), none, (.val (.c (.i .i64 0)))⟩] t H) := runR_reg'
def d31_3 : List AOper := [
  ⟨(some 8), none, (.val (.t 6))⟩,
  ⟨(some 9), none, (.val (.t 0))⟩,
  ⟨(some 10), none, (.nilc (.t 9))⟩,
  ⟨(some 11), none, (.fa 1 (.t 10))⟩,
  ⟨(some 12), none, (.ld none (.t 11))⟩,
  ⟨(some 13), none, (.bin .leq (.t 8) (.t 12))⟩]
theorem r31_3 {fn : AFun} {K : List AItem} {t : Nat → AV} {H : AH} {T : Tbl} : runR T fn (.code (.reg d31_3) :: K) t H = regR T fn K (aops (callR T) [
  ⟨(some 8), none, (.val (.t 6))⟩,
  ⟨(some 9), none, (.val (.t 0))⟩,
  ⟨(some 10), none, (.nilc (.t 9))⟩,
  ⟨(some 11), none, (.fa 1 (.t 10))⟩,
  ⟨(some 12), none, (.ld none (.t 11))⟩,
  ⟨(some 13), none, (.bin .leq (.t 8) (.t 12))⟩] t H) := runR_reg'
def d31_4 : List AOper := [
  ⟨(some 7), none, (.val (.c (.i .i64 0)))⟩]
theorem r31_4 {fn : AFun} {K : List AItem} {t : Nat → AV} {H : AH} {T : Tbl} : runR T fn (.code (.reg d31_4) :: K) t H = regR T fn K (aops (callR T) [
  ⟨(some 7), none, (.val (.c (.i .i64 0)))⟩] t H) := runR_reg'
def d31_5 : List AOper := [
  ⟨(some 16), none, (.val (.t 7))⟩,
  ⟨(some 17), none, (.val (.t 0))⟩,
  ⟨(some 18), none, (.nilc (.t 17))⟩,
  ⟨(some 19), none, (.fa 2 (.t 18))⟩,
  ⟨(some 20), none, (.ld none (.t 19))⟩,
  ⟨(some 21), none, (.len (.t 20))⟩,
  ⟨(some 22), none, (.bin .lss (.t 16) (.t 21))⟩]
theorem r31_5 {fn : AFun} {K : List AItem} {t : Nat → AV} {H : AH} {T : Tbl} : runR T fn (.code (.reg d31_5) :: K) t H = regR T fn K (aops (callR T) [
  ⟨(some 16), none, (.val (.t 7))⟩,
  ⟨(some 17), none, (.val (.t 0))⟩,
  ⟨(some 18), none, (.nilc (.t 17))⟩,
  ⟨(some 19), none, (.fa 2 (.t 18))⟩,
  ⟨(some 20), none, (.ld none (.t 19))⟩,
  ⟨(some 21), none, (.len (.t 20))⟩,
  ⟨(some 22), none, (.bin .lss (.t 16) (.t 21))⟩] t H) := runR_reg'
def d31_6 : List AOper := [
  ⟨(some 25), none, (.val (.t 0))⟩,
  ⟨(some 26), none, (.nilc (.t 25))⟩,
  ⟨(some 27), none, (.fa 2 (.t 26))⟩,
  ⟨(some 28), none, (.ld none (.t 27))⟩,
  ⟨(some 29), none, (.val (.t 7))⟩,
  ⟨(some 30), none, (.ia 4 (.t 28) (.t 29))⟩,
  ⟨(some 31), none, (.fa 0 (.t 30))⟩,
  ⟨(some 32), none, (.ld none (.t 31))⟩,
  ⟨(some 33), none, (.bin .eql (.t 32) (.c (.i .i64 3)))⟩,
  ⟨(some 34), none, (.val (.t 33))⟩,
  ⟨(some 35), (some (34, true)), (.val (.t 0))⟩,
  ⟨(some 36), (some (34, true)), (.nilc (.t 35))⟩,
  ⟨(some 37), (some (34, true)), (.fa 2 (.t 36))⟩,
  ⟨(some 38), (some (34, true)), (.ld none (.t 37))⟩,
  ⟨(some 39), (some (34, true)), (.val (.t 7))⟩,
  ⟨(some 40), (some (34, true)), (.ia 4 (.t 38) (.t 39))⟩,
  ⟨(some 41), (some (34, true)), (.fa 1 (.t 40))⟩,
  ⟨(some 42), (some (34, true)), (.ld none (.t 41))⟩,
  ⟨(some 43), (some (34, true)), (.val (.t 1))⟩,
  ⟨(some 44), (some (34, true)), (.bin .eql (.t 42) (.t 43))⟩,
  ⟨(some 45), none, (.pick (.t 34) (.t 44) (.c (.b false)))⟩,
  ⟨(some 46), none, (.val (.t 45))⟩,
  ⟨(some 47), (some (46, true)), (.val (.t 0))⟩,
  ⟨(some 48), (some (46, true)), (.nilc (.t 47))⟩,
  ⟨(some 49), (some (46, true)), (.fa 2 (.t 48))⟩,
  ⟨(some 50), (some (46, true)), (.ld none (.t 49))⟩,
  ⟨(some 51), (some (46, true)), (.val (.t 7))⟩,
  ⟨(some 52), (some (46, true)), (.ia 4 (.t 50) (.t 51))⟩,
  ⟨(some 53), (some (46, true)), (.fa 2 (.t 52))⟩,
  ⟨(some 54), (some (46, true)), (.ld none (.t 53))⟩,
  ⟨(some 55), (some (46, true)), (.val (.t 6))⟩,
  ⟨(some 56), (some (46, true)), (.bin .eql (.t 54) (.t 55))⟩,
  ⟨(some 57), none, (.pick (.t 46) (.t 56) (.c (.b false)))⟩]
theorem r31_6 {fn : AFun} {K : List AItem} {t : Nat → AV} {H : AH} {T : Tbl} : runR T fn (.code (.reg d31_6) :: K) t H = regR T fn K (aops (callR T) [
  ⟨(some 25), none, (.val (.t 0))⟩,
  ⟨(some 26), none, (.nilc (.t 25))⟩,
  ⟨(some 27), none, (.fa 2 (.t 26))⟩,
  ⟨(some 28), none, (.ld none (.t 27))⟩,
  ⟨(some 29), none, (.val (.t 7))⟩,
  ⟨(some 30), none, (.ia 4 (.t 28) (.t 29))⟩,
  ⟨(some 31), none, (.fa 0 (.t 30))⟩,
  ⟨(some 32), none, (.ld none (.t 31))⟩,
  ⟨(some 33), none, (.bin .eql (.t 32) (.c (.i .i64 3)))⟩,
  ⟨(some 34), none, (.val (.t 33))⟩,
  ⟨(some 35), (some (34, true)), (.val (.t 0))⟩,
  ⟨(some 36), (some (34, true)), (.nilc (.t 35))⟩,
  ⟨(some 37), (some (34, true)), (.fa 2 (.t 36))⟩,
  ⟨(some 38), (some (34, true)), (.ld none (.t 37))⟩,
  ⟨(some 39), (some (34, true)), (.val (.t 7))⟩,
  ⟨(some 40), (some (34, true)), (.ia 4 (.t 38) (.t 39))⟩,
  ⟨(some 41), (some (34, true)), (.fa 1 (.t 40))⟩,
  ⟨(some 42), (some (34, true)), (.ld none (.t 41))⟩,
  ⟨(some 43), (some (34, true)), (.val (.t 1))⟩,
  ⟨(some 44), (some (34, true)), (.bin .eql (.t 42) (.t 43))⟩,
  ⟨(some 45), none, (.pick (.t 34) (.t 44) (.c (.b false)))⟩,
  ⟨(some 46), none, (.val (.t 45))⟩,
  ⟨(some 47), (some (46, true)), (.val (.t 0))⟩,
  ⟨(some 48), (some (46, true)), (.nilc (.t 47))⟩,
  ⟨(some 49), (some (46, true)), (.fa 2 (.t 48))⟩,
  ⟨(some 50), (some (46, true)), (.ld none (.t 49))⟩,
  ⟨(some 51), (some (46, true)), (.val (.t 7))⟩,
  ⟨(some 52), (some (46, true)), (.ia 4 (.t 50) (.t 51))⟩,
  ⟨(some 53), (some (46, true)), (.fa 2 (.t 52))⟩,
  ⟨(some 54), (some (46, true)), (.ld none (.t 53))⟩,
  ⟨(some 55), (some (46, true)), (.val (.t 6))⟩,
  ⟨(some 56), (some (46, true)), (.bin .eql (.t 54) (.t 55))⟩,
  ⟨(some 57), none, (.pick (.t 46) (.t 56) (.c (.b false)))⟩] t H) := runR_reg'
def d31_7 : List AOper := [
  ⟨(some 58), none, (.val (.t 5))⟩,
  ⟨(some 59), none, (.val (.t 7))⟩,
  ⟨(some 60), none, (.bsl [(.i .i64 0)] 1 [(0, 1, (.t 59))])⟩,
  ⟨(some 61), none, (.app [(.i .i64 0)] 8 (.t 58) (.t 60))⟩,
  ⟨(some 5), none, (.val (.t 61))⟩]
theorem r31_7 {fn : AFun} {K : List AItem} {t : Nat → AV} {H : AH} {T : Tbl} : runR T fn (.code (.reg d31_7) :: K) t H = regR T fn K (aops (callR T) [
  ⟨(some 58), none, (.val (.t 5))⟩,
  ⟨(some 59), none, (.val (.t 7))⟩,
  ⟨(some 60), none, (.bsl [(.i .i64 0)] 1 [(0, 1, (.t 59))])⟩,
  ⟨(some 61), none, (.app [(.i .i64 0)] 8 (.t 58) (.t 60))⟩,
  ⟨(some 5), none, (.val (.t 61))⟩] t H) := runR_reg'
def d31_8 : List AOper := [
  ⟨(some 23), none, (.val (.t 7))⟩,
  ⟨(some 24), none, (.bin .add (.t 23) (.c (.i .i64 1)))⟩,
  ⟨(some 7), none, (.val (.t 24))⟩]
theorem r31_8 {fn : AFun} {K : List AItem} {t : Nat → AV} {H : AH} {T : Tbl} : runR T fn (.code (.reg d31_8) :: K) t H = regR T fn K (aops (callR T) [
  ⟨(some 23), none, (.val (.t 7))⟩,
  ⟨(some 24), none, (.bin .add (.t 23) (.c (.i .i64 1)))⟩,
  ⟨(some 7), none, (.val (.t 24))⟩] t H) := runR_reg'
def l31_9 : ACode := (.seq (.seq (.reg d31_5) (.cond (.t 22) .skip (.exit 2))) (.seq (.block 3 (.seq (.reg d31_6) (.cond (.t 57) (.reg d31_7) .skip))) (.reg d31_8)))
def d31_10 : List AOper := [
  ⟨(some 14), none, (.val (.t 6))⟩,
  ⟨(some 15), none, (.bin .add (.t 14) (.c (.i .i64 1)))⟩,
  ⟨(some 6), none, (.val (.t 15))⟩]
theorem r31_10 {fn : AFun} {K : List AItem} {t : Nat → AV} {H : AH} {T : Tbl} : runR T fn (.code (.reg d31_10) :: K) t H = regR T fn K (aops (callR T) [
  ⟨(some 14), none, (.val (.t 6))⟩,
  ⟨(some 15), none, (.bin .add (.t 14) (.c (.i .i64 1)))⟩,
  ⟨(some 6), none, (.val (.t 15))⟩] t H) := runR_reg'
def l31_11 : ACode := (.seq (.seq (.reg d31_3) (.cond (.t 13) .skip (.exit 0))) (.seq (.block 1 (.seq (.reg d31_4) (.block 2 (.loop l31_9)))) (.reg d31_10)))
def d31_12 : List AOper := [
  ⟨(some 62), none, (.val (.t 5))⟩,
  ⟨(some 4), none, (.val (.t 62))⟩]
theorem r31_12 {fn : AFun} {K : List AItem} {t : Nat → AV} {H : AH} {T : Tbl} : runR T fn (.code (.reg d31_12) :: K) t H = regR T fn K (aops (callR T) [
  ⟨(some 62), none, (.val (.t 5))⟩,
  ⟨(some 4), none, (.val (.t 62))⟩] t H) := runR_reg'
def a31 : AFun := ⟨63, [(.tmp 4)], (.seq (.reg d31_0) (.seq (.reg d31_1) (.seq (.seq (.reg d31_2) (.block 0 (.loop l31_11))) (.seq (.reg d31_12) .ret))))⟩
theorem a31_ok : cfun Try.prog 31 = some a31 := by kernel_rfl
/-- (*futtock/futtockref10.Table).first -/
def d32_0 : List AOper := [
  ⟨(some 4), none, (.val (.c (.i .i64 0)))⟩]
theorem r32_0 {fn : AFun} {K : List AItem} {t : Nat → AV} {H : AH} {T : Tbl} : runR T fn (.code (.reg d32_0) :: K) t H = regR T fn K (aops (callR T) [
  ⟨(some 4), none, (.val (.c (.i .i64 0)))⟩] t H) := runR_reg'
def d32_1 : List AOper := [
  ⟨(some 5), none, (.val (.c (.i .i64 0)))⟩]
theorem r32_1 {fn : AFun} {K : List AItem} {t : Nat → AV} {H : AH} {T : Tbl} : runR T fn (.code (.reg d32_1) :: K) t H = regR T fn K (aops (callR T) [
  ⟨(some 5), none, (.val (.c (.i .i64 0)))⟩] t H) := runR_reg'
def d32_2 : List AOper := [
  ⟨(some 6), none, (.val (.t 5))⟩,
  ⟨(some 7), none, (.val (.t 0))⟩,
  ⟨(some 8), none, (.nilc (.t 7))⟩,
  ⟨(some 9), none, (.fa 2 (.t 8))⟩,
  ⟨(some 10), none, (.ld none (.t 9))⟩,
  ⟨(some 11), none, (.len (.t 10))⟩,
  ⟨(some 12), none, (.bin .lss (.t 6) (.t 11))⟩]
theorem r32_2 {fn : AFun} {K : List AItem} {t : Nat → AV} {H : AH} {T : Tbl} : runR T fn (.code (.reg d32_2) :: K) t H = regR T fn K (aops (callR T) [
  ⟨(some 6), none, (.val (.t 5))⟩,
  ⟨(some 7), none, (.val (.t 0))⟩,
  ⟨(some 8), none, (.nilc (.t 7))⟩,
  ⟨(some 9), none, (.fa 2 (.t 8))⟩,
  ⟨(some 10), none, (.ld none (.t 9))⟩,
  ⟨(some 11), none, (.len (.t 10))⟩,
  ⟨(some 12), none, (.bin .lss (.t 6) (.t 11))⟩] t H) := runR_reg'
def d32_3 : List AOper := [
  ⟨(some 15), none, (.val (.t 0))⟩,
  ⟨(some 16), none, (.nilc (.t 15))⟩,
  ⟨(some 17), none, (.fa 2 (.t 16))⟩,
  ⟨(some 18), none, (.ld none (.t 17))⟩,
  ⟨(some 19), none, (.val (.t 5))⟩,
  ⟨(some 20), none, (.ia 4 (.t 18) (.t 19))⟩,
  ⟨(some 21), none, (.fa 0 (.t 20))⟩,
  ⟨(some 22), none, (.ld none (.t 21))⟩,
  ⟨(some 23), none, (.val (.t 1))⟩,
  ⟨(some 24), none, (.bin .eql (.t 22) (.t 23))⟩]
theorem r32_3 {fn : AFun} {K : List AItem} {t : Nat → AV} {H : AH} {T : Tbl} : runR T fn (.code (.reg d32_3) :: K) t H = regR T fn K (aops (callR T) [
  ⟨(some 15), none, (.val (.t 0))⟩,
  ⟨(some 16), none, (.nilc (.t 15))⟩,
  ⟨(some 17), none, (.fa 2 (.t 16))⟩,
  ⟨(some 18), none, (.ld none (.t 17))⟩,
  ⟨(some 19), none, (.val (.t 5))⟩,
  ⟨(some 20), none, (.ia 4 (.t 18) (.t 19))⟩,
  ⟨(some 21), none, (.fa 0 (.t 20))⟩,
  ⟨(some 22), none, (.ld none (.t 21))⟩,
  ⟨(some 23), none, (.val (.t 1))⟩,
  ⟨(some 24), none, (.bin .eql (.t 22) (.t 23))⟩] t H) := runR_reg'
def d32_4 : List AOper := [
  ⟨(some 25), none, (.val (.t 5))⟩,
  ⟨(some 4), none, (.val (.t 25))⟩]
theorem r32_4 {fn : AFun} {K : List AItem} {t : Nat → AV} {H : AH} {T : Tbl} : runR T fn (.code (.reg d32_4) :: K) t H = regR T fn K (aops (callR T) [
  ⟨(some 25), none, (.val (.t 5))⟩,
  ⟨(some 4), none, (.val (.t 25))⟩] t H) := runR_reg'
def d32_5 : List AOper := [
  ⟨(some 13), none, (.val (.t 5))⟩,
  ⟨(some 14), none, (.bin .add (.t 13) (.c (.i .i64 1)))⟩,
  ⟨(some 5), none, (.val (.t 14))⟩]
theorem r32_5 {fn : AFun} {K : List AItem} {t : Nat → AV} {H : AH} {T : Tbl} : runR T fn (.code (.reg d32_5) :: K) t H = regR T fn K (aops (callR T) [
  ⟨(some 13), none, (.val (.t 5))⟩,
  ⟨(some 14), none, (.bin .add (.t 13) (.c (.i .i64 1)))⟩,
  ⟨(some 5), none, (.val (.t 14))⟩] t H) := runR_reg'
def l32_6 : ACode := (.seq (.seq (.reg d32_2) (.cond (.t 12) .skip (.exit 0))) (.seq (.block 1 (.seq (.reg d32_3) (.cond (.t 24) (.seq (.reg d32_4) .ret) .skip))) (.reg d32_5)))
def d32_7 : List AOper := [
  ⟨(some 4), none, (.val (.c (.i .i64 (-1))))⟩]
theorem r32_7 {fn : AFun} {K : List AItem} {t : Nat → AV} {H : AH} {T : Tbl} : runR T fn (.code (.reg d32_7) :: K) t H = regR T fn K (aops (callR T) [
  ⟨(some 4), none, (.val (.c (.i .i64 (-1))))⟩] t H) := runR_reg'
def a32 : AFun := ⟨26, [(.tmp 4)], (.seq (.reg d32_0) (.seq (.seq (.reg d32_1) (.block 0 (.loop l32_6))) (.seq (.reg d32_7) .ret)))⟩
theorem a32_ok : cfun Try.prog 32 = some a32 := by kernel_rfl
/-- futtock/futtocklaw10.same -/
def d33_0 : List AOper := [
  ⟨(some 4), none, (.val (.c (.b false)))⟩]
theorem r33_0 {fn : AFun} {K : List AItem} {t : Nat → AV} {H : AH} {T : Tbl} : runR T fn (.code (.reg d33_0) :: K) t H = regR T fn K (aops (callR T) [
  ⟨(some 4), none, (.val (.c (.b false)))⟩] t H) := runR_reg'
def d33_1 : List AOper := [
  ⟨(some 6), none, (.val (.t 0))⟩,
  ⟨(some 7), none, (.len (.t 6))⟩,
  ⟨(some 8), none, (.val (.t 1))⟩,
  ⟨(some 9), none, (.len (.t 8))⟩,
  ⟨(some 10), none, (.bin .neq (.t 7) (.t 9))⟩]
theorem r33_1 {fn : AFun} {K : List AItem} {t : Nat → AV} {H : AH} {T : Tbl} : runR T fn (.code (.reg d33_1) :: K) t H = regR T fn K (aops (callR T) [
  ⟨(some 6), none, (.val (.t 0))⟩,
  ⟨(some 7), none, (.len (.t 6))⟩,
  ⟨(some 8), none, (.val (.t 1))⟩,
  ⟨(some 9), none, (.len (.t 8))⟩,
  ⟨(some 10), none, (.bin .neq (.t 7) (.t 9))⟩] t H) := runR_reg'
def d33_2 : List AOper := [
  ⟨(some 4), none, (.val (.c (.b false)))⟩]
theorem r33_2 {fn : AFun} {K : List AItem} {t : Nat → AV} {H : AH} {T : Tbl} : runR T fn (.code (.reg d33_2) :: K) t H = regR T fn K (aops (callR T) [
  ⟨(some 4), none, (.val (.c (.b false)))⟩] t H) := runR_reg'
def d33_3 : List AOper := [
  ⟨(some 11), none, (.val (.t 0))⟩,
  ⟨(some 12), none, (.len (.t 11))⟩,
  ⟨(some 13), none, (.val (.c (.i .i64 0)))⟩]
theorem r33_3 {fn : AFun} {K : List AItem} {t : Nat → AV} {H : AH} {T : Tbl} : runR T fn (.code (.reg d33_3) :: K) t H = regR T fn K (aops (callR T) [
  ⟨(some 11), none, (.val (.t 0))⟩,
  ⟨(some 12), none, (.len (.t 11))⟩,
  ⟨(some 13), none, (.val (.c (.i .i64 0)))⟩] t H) := runR_reg'
def d33_4 : List AOper := [
  ⟨(some 14), none, (.bin .lss (.t 13) (.t 12))⟩]
theorem r33_4 {fn : AFun} {K : List AItem} {t : Nat → AV} {H : AH} {T : Tbl} : runR T fn (.code (.reg d33_4) :: K) t H = regR T fn K (aops (callR T) [
  ⟨(some 14), none, (.bin .lss (.t 13) (.t 12))⟩] t H) := runR_reg'
def d33_5 : List AOper := [
  ⟨(some 15), none, (.val (.t 13))⟩,
  ⟨(some 5), none, (.val (.t 15))⟩]
theorem r33_5 {fn : AFun} {K : List AItem} {t : Nat → AV} {H : AH} {T : Tbl} : runR T fn (.code (.reg d33_5) :: K) t H = regR T fn K (aops (callR T) [
  ⟨(some 15), none, (.val (.t 13))⟩,
  ⟨(some 5), none, (.val (.t 15))⟩] t H) := runR_reg'
def d33_6 : List (AOper × List Nat) := [
  (⟨(some 16), none, (.val (.t 0))⟩, []),
  (⟨(some 17), none, (.val (.t 5))⟩, []),
  (⟨(some 18), none, (.ia 1 (.t 16) (.t 17))⟩, []),
  (⟨(some 19), none, (.ld none (.t 18))⟩, [1]),
  (⟨(some 20), none, (.val (.t 1))⟩, []),
  (⟨(some 21), none, (.val (.t 5))⟩, []),
  (⟨(some 22), none, (.ia 1 (.t 20) (.t 21))⟩, []),
  (⟨(some 23), none, (.ld none (.t 22))⟩, [1]),
  (⟨(some 24), none, (.bin .neq (.t 19) (.t 23))⟩, [])]
theorem r33_6 {fn : AFun} {K : List AItem} {t : Nat → AV} {H : AH} {T : Tbl} : runR T fn (.code (.drw d33_6) :: K) t H = regR T fn K (aops (callR T) [
  ⟨(some 16), none, (.val (.t 0))⟩,
  ⟨(some 17), none, (.val (.t 5))⟩,
  ⟨(some 18), none, (.ia 1 (.t 16) (.t 17))⟩,
  ⟨(some 19), none, (.ld none (.t 18))⟩,
  ⟨(some 20), none, (.val (.t 1))⟩,
  ⟨(some 21), none, (.val (.t 5))⟩,
  ⟨(some 22), none, (.ia 1 (.t 20) (.t 21))⟩,
  ⟨(some 23), none, (.ld none (.t 22))⟩,
  ⟨(some 24), none, (.bin .neq (.t 19) (.t 23))⟩] t H) := runR_plain rfl
def d33_7 : List AOper := [
  ⟨(some 4), none, (.val (.c (.b false)))⟩]
theorem r33_7 {fn : AFun} {K : List AItem} {t : Nat → AV} {H : AH} {T : Tbl} : runR T fn (.code (.reg d33_7) :: K) t H = regR T fn K (aops (callR T) [
  ⟨(some 4), none, (.val (.c (.b false)))⟩] t H) := runR_reg'
def d33_8 : List AOper := [
  ⟨(some 25), none, (.bin .add (.t 13) (.c (.i .i64 1)))⟩,
  ⟨(some 13), none, (.val (.t 25))⟩]
theorem r33_8 {fn : AFun} {K : List AItem} {t : Nat → AV} {H : AH} {T : Tbl} : runR T fn (.code (.reg d33_8) :: K) t H = regR T fn K (aops (callR T) [
  ⟨(some 25), none, (.bin .add (.t 13) (.c (.i .i64 1)))⟩,
  ⟨(some 13), none, (.val (.t 25))⟩] t H) := runR_reg'
def l33_9 : ACode := (.seq (.reg d33_4) (.seq (.cond (.t 14) .skip (.exit 0)) (.seq (.block 1 (.seq (.reg d33_5) (.seq (.drw d33_6) (.cond (.t 24) (.seq (.reg d33_7) .ret) .skip)))) (.reg d33_8))))
def d33_10 : List AOper := [
  ⟨(some 4), none, (.val (.c (.b true)))⟩]
theorem r33_10 {fn : AFun} {K : List AItem} {t : Nat → AV} {H : AH} {T : Tbl} : runR T fn (.code (.reg d33_10) :: K) t H = regR T fn K (aops (callR T) [
  ⟨(some 4), none, (.val (.c (.b true)))⟩] t H) := runR_reg'
def a33 : AFun := ⟨26, [(.tmp 4)], (.seq (.reg d33_0) (.seq (.seq (.reg d33_1) (.cond (.t 10) (.seq (.reg d33_2) .ret) .skip)) (.seq (.seq (.reg d33_3) (.block 0 (.loop l33_9))) (.seq (.reg d33_10) .ret))))⟩
theorem a33_ok : cfun Try.prog 33 = some a33 := by kernel_rfl
/-- (*futtock/futtockref10.Table).Count -/
def d34_0 : List AOper := [
  ⟨(some 4), none, (.val (.c (.i .i64 0)))⟩]
theorem r34_0 {fn : AFun} {K : List AItem} {t : Nat → AV} {H : AH} {T : Tbl} : runR T fn (.code (.reg d34_0) :: K) t H = regR T fn K (aops (callR T) [
  ⟨(some 4), none, (.val (.c (.i .i64 0)))⟩] t H) := runR_reg'
def d34_1 : List AOper := [
  ⟨(some 5), none, (.val (.c (.i .i64 0)))⟩]
theorem r34_1 {fn : AFun} {K : List AItem} {t : Nat → AV} {H : AH} {T : Tbl} : runR T fn (.code (.reg d34_1) :: K) t H = regR T fn K (aops (callR T) [
  ⟨(some 5), none, (.val (.c (.i .i64 0)))⟩] t H) := runR_reg'
def d34_2 : List AOper := [
  ⟨(some 6), none, (.val (.c (.i .i64 0)))⟩]
theorem r34_2 {fn : AFun} {K : List AItem} {t : Nat → AV} {H : AH} {T : Tbl} : runR T fn (.code (.reg d34_2) :: K) t H = regR T fn K (aops (callR T) [
  ⟨(some 6), none, (.val (.c (.i .i64 0)))⟩] t H) := runR_reg'
def d34_3 : List AOper := [
  ⟨(some 7), none, (.val (.t 6))⟩,
  ⟨(some 8), none, (.val (.t 0))⟩,
  ⟨(some 9), none, (.nilc (.t 8))⟩,
  ⟨(some 10), none, (.fa 2 (.t 9))⟩,
  ⟨(some 11), none, (.ld none (.t 10))⟩,
  ⟨(some 12), none, (.len (.t 11))⟩,
  ⟨(some 13), none, (.bin .lss (.t 7) (.t 12))⟩]
theorem r34_3 {fn : AFun} {K : List AItem} {t : Nat → AV} {H : AH} {T : Tbl} : runR T fn (.code (.reg d34_3) :: K) t H = regR T fn K (aops (callR T) [
  ⟨(some 7), none, (.val (.t 6))⟩,
  ⟨(some 8), none, (.val (.t 0))⟩,
  ⟨(some 9), none, (.nilc (.t 8))⟩,
  ⟨(some 10), none, (.fa 2 (.t 9))⟩,
  ⟨(some 11), none, (.ld none (.t 10))⟩,
  ⟨(some 12), none, (.len (.t 11))⟩,
  ⟨(some 13), none, (.bin .lss (.t 7) (.t 12))⟩] t H) := runR_reg'
def d34_4 : List AOper := [
  ⟨(some 16), none, (.val (.t 0))⟩,
  ⟨(some 17), none, (.nilc (.t 16))⟩,
  ⟨(some 18), none, (.fa 2 (.t 17))⟩,
  ⟨(some 19), none, (.ld none (.t 18))⟩,
  ⟨(some 20), none, (.val (.t 6))⟩,
  ⟨(some 21), none, (.ia 4 (.t 19) (.t 20))⟩,
  ⟨(some 22), none, (.fa 0 (.t 21))⟩,
  ⟨(some 23), none, (.ld none (.t 22))⟩,
  ⟨(some 24), none, (.val (.t 1))⟩,
  ⟨(some 25), none, (.bin .eql (.t 23) (.t 24))⟩]
theorem r34_4 {fn : AFun} {K : List AItem} {t : Nat → AV} {H : AH} {T : Tbl} : runR T fn (.code (.reg d34_4) :: K) t H = regR T fn K (aops (callR T) [
  ⟨(some 16), none, (.val (.t 0))⟩,
  ⟨(some 17), none, (.nilc (.t 16))⟩,
  ⟨(some 18), none, (.fa 2 (.t 17))⟩,
  ⟨(some 19), none, (.ld none (.t 18))⟩,
  ⟨(some 20), none, (.val (.t 6))⟩,
  ⟨(some 21), none, (.ia 4 (.t 19) (.t 20))⟩,
  ⟨(some 22), none, (.fa 0 (.t 21))⟩,
  ⟨(some 23), none, (.ld none (.t 22))⟩,
  ⟨(some 24), none, (.val (.t 1))⟩,
  ⟨(some 25), none, (.bin .eql (.t 23) (.t 24))⟩] t H) := runR_reg'
def d34_5 : List AOper := [
  ⟨(some 26), none, (.val (.t 5))⟩,
  ⟨(some 27), none, (.bin .add (.t 26) (.c (.i .i64 1)))⟩,
  ⟨(some 5), none, (.val (.t 27))⟩]
theorem r34_5 {fn : AFun} {K : List AItem} {t : Nat → AV} {H : AH} {T : Tbl} : runR T fn (.code (.reg d34_5) :: K) t H = regR T fn K (aops (callR T) [
  ⟨(some 26), none, (.val (.t 5))⟩,
  ⟨(some 27), none, (.bin .add (.t 26) (.c (.i .i64 1)))⟩,
  ⟨(some 5), none, (.val (.t 27))⟩] t H) := runR_reg'
def d34_6 : List AOper := [
  ⟨(some 14), none, (.val (.t 6))⟩,
  ⟨(some 15), none, (.bin .add (.t 14) (.c (.i .i64 1)))⟩,
  ⟨(some 6), none, (.val (.t 15))⟩]
theorem r34_6 {fn : AFun} {K : List AItem} {t : Nat → AV} {H : AH} {T : Tbl} : runR T fn (.code (.reg d34_6) :: K) t H = regR T fn K (aops (callR T) [
  ⟨(some 14), none, (.val (.t 6))⟩,
  ⟨(some 15), none, (.bin .add (.t 14) (.c (.i .i64 1)))⟩,
  ⟨(some 6), none, (.val (.t 15))⟩] t H) := runR_reg'
def l34_7 : ACode := (.seq (.seq (.reg d34_3) (.cond (.t 13) .skip (.exit 0))) (.seq (.block 1 (.seq (.reg d34_4) (.cond (.t 25) (.reg d34_5) .skip))) (.reg d34_6)))
def d34_8 : List AOper := [
  ⟨(some 28), none, (.val (.t 5))⟩,
  ⟨(some 4), none, (.val (.t 28))⟩]
theorem r34_8 {fn : AFun} {K : List AItem} {t : Nat → AV} {H : AH} {T : Tbl} : runR T fn (.code (.reg d34_8) :: K) t H = regR T fn K (aops (callR T) [
  ⟨(some 28), none, (.val (.t 5))⟩,
  ⟨(some 4), none, (.val (.t 28))⟩] t H) := runR_reg'
def a34 : AFun := ⟨29, [(.tmp 4)], (.seq (.reg d34_0) (.seq (.reg d34_1) (.seq (.seq (.reg d34_2) (.block 0 (.loop l34_7))) (.seq (.reg d34_8) .ret))))⟩
theorem a34_ok : cfun Try.prog 34 = some a34 := by kernel_rfl
/-- slices.BinarySearch[[]int,int] -/
def d35_0 : List AOper := [
  ⟨(some 4), none, (.val (.c (.i .i64 0)))⟩,
  ⟨(some 5), none, (.val (.c (.b false)))⟩]
theorem r35_0 {fn : AFun} {K : List AItem} {t : Nat → AV} {H : AH} {T : Tbl} : runR T fn (.code (.reg d35_0) :: K) t H = regR T fn K (aops (callR T) [
  ⟨(some 4), none, (.val (.c (.i .i64 0)))⟩,
  ⟨(some 5), none, (.val (.c (.b false)))⟩] t H) := runR_reg'
def d35_1 : List AOper := [
  ⟨(some 10), none, (.val (.t 0))⟩,
  ⟨(some 11), none, (.len (.t 10))⟩,
  ⟨(some 6), none, (.val (.t 11))⟩]
theorem r35_1 {fn : AFun} {K : List AItem} {t : Nat → AV} {H : AH} {T : Tbl} : runR T fn (.code (.reg d35_1) :: K) t H = regR T fn K (aops (callR T) [
  ⟨(some 10), none, (.val (.t 0))⟩,
  ⟨(some 11), none, (.len (.t 10))⟩,
  ⟨(some 6), none, (.val (.t 11))⟩] t H) := runR_reg'
def d35_2 : List AOper := [
  ⟨(some 12), none, (.val (.t 6))⟩,
  ⟨(some 7), none, (.val (.c (.i .i64 0)))⟩,
  ⟨(some 8), none, (.val (.t 12))⟩]
theorem r35_2 {fn : AFun} {K : List AItem} {t : Nat → AV} {H : AH} {T : Tbl} : runR T fn (.code (.reg d35_2) :: K) t H = regR T fn K (aops (callR T) [
  ⟨(some 12), none, (.val (.t 6))⟩,
  ⟨(some 7), none, (.val (.c (.i .i64 0)))⟩,
  ⟨(some 8), none, (.val (.t 12))⟩] t H) := runR_reg'
def d35_3 : List AOper := [
  ⟨(some 13), none, (.val (.t 7))⟩,
  ⟨(some 14), none, (.val (.t 8))⟩,
  ⟨(some 15), none, (.bin .lss (.t 13) (.t 14))⟩]
theorem r35_3 {fn : AFun} {K : List AItem} {t : Nat → AV} {H : AH} {T : Tbl} : runR T fn (.code (.reg d35_3) :: K) t H = regR T fn K (aops (callR T) [
  ⟨(some 13), none, (.val (.t 7))⟩,
  ⟨(some 14), none, (.val (.t 8))⟩,
  ⟨(some 15), none, (.bin .lss (.t 13) (.t 14))⟩] t H) := runR_reg'
def d35_4 : List AOper := [
  ⟨(some 16), none, (.val (.t 7))⟩,
  ⟨(some 17), none, (.val (.t 8))⟩,
  ⟨(some 18), none, (.bin .add (.t 16) (.t 17))⟩,
  ⟨(some 19), none, (.cvi .u64 (.t 18))⟩,
  ⟨(some 20), none, (.bin .shr (.t 19) (.c (.i .u64 1)))⟩,
  ⟨(some 21), none, (.cvi .i64 (.t 20))⟩,
  ⟨(some 9), none, (.val (.t 21))⟩]
theorem r35_4 {fn : AFun} {K : List AItem} {t : Nat → AV} {H : AH} {T : Tbl} : runR T fn (.code (.reg d35_4) :: K) t H = regR T fn K (aops (callR T) [
  ⟨(some 16), none, (.val (.t 7))⟩,
  ⟨(some 17), none, (.val (.t 8))⟩,
  ⟨(some 18), none, (.bin .add (.t 16) (.t 17))⟩,
  ⟨(some 19), none, (.cvi .u64 (.t 18))⟩,
  ⟨(some 20), none, (.bin .shr (.t 19) (.c (.i .u64 1)))⟩,
  ⟨(some 21), none, (.cvi .i64 (.t 20))⟩,
  ⟨(some 9), none, (.val (.t 21))⟩] t H) := runR_reg'
def d35_5 : List AOper := [
  ⟨(some 22), none, (.val (.t 0))⟩,
  ⟨(some 23), none, (.val (.t 9))⟩,
  ⟨(some 24), none, (.ia 1 (.t 22) (.t 23))⟩,
  ⟨(some 25), none, (.ld none (.t 24))⟩,
  ⟨(some 26), none, (.val (.t 1))⟩,
  ⟨(some 27), none, (.call 39 [(.t 25), (.t 26)])⟩]
theorem r35_5 {fn : AFun} {K : List AItem} {t : Nat → AV} {H : AH} {T : Tbl} : runR T fn (.code (.reg d35_5) :: K) t H = regR T fn K (aops (callR T) [
  ⟨(some 22), none, (.val (.t 0))⟩,
  ⟨(some 23), none, (.val (.t 9))⟩,
  ⟨(some 24), none, (.ia 1 (.t 22) (.t 23))⟩,
  ⟨(some 25), none, (.ld none (.t 24))⟩,
  ⟨(some 26), none, (.val (.t 1))⟩,
  ⟨(some 27), none, (.call 39 [(.t 25), (.t 26)])⟩] t H) := runR_reg'
def d35_6 : List AOper := [
  ⟨(some 28), none, (.val (.t 9))⟩,
  ⟨(some 29), none, (.bin .add (.t 28) (.c (.i .i64 1)))⟩,
  ⟨(some 7), none, (.val (.t 29))⟩]
theorem r35_6 {fn : AFun} {K : List AItem} {t : Nat → AV} {H : AH} {T : Tbl} : runR T fn (.code (.reg d35_6) :: K) t H = regR T fn K (aops (callR T) [
  ⟨(some 28), none, (.val (.t 9))⟩,
  ⟨(some 29), none, (.bin .add (.t 28) (.c (.i .i64 1)))⟩,
  ⟨(some 7), none, (.val (.t 29))⟩] t H) := runR_reg'
def d35_7 : List AOper := [
  ⟨(some 30), none, (.val (.t 9))⟩,
  ⟨(some 8), none, (.val (.t 30))⟩]
theorem r35_7 {fn : AFun} {K : List AItem} {t : Nat → AV} {H : AH} {T : Tbl} : runR T fn (.code (.reg d35_7) :: K) t H = regR T fn K (aops (callR T) [
  ⟨(some 30), none, (.val (.t 9))⟩,
  ⟨(some 8), none, (.val (.t 30))⟩] t H) := runR_reg'
def l35_8 : ACode := (.seq (.seq (.reg d35_3) (.cond (.t 15) .skip (.exit 0))) (.block 1 (.seq (.reg d35_4) (.seq (.reg d35_5) (.cond (.t 27) (.reg d35_6) (.reg d35_7))))))
def d35_9 : List AOper := [
  ⟨(some 31), none, (.val (.t 7))⟩,
  ⟨(some 32), none, (.val (.t 7))⟩,
  ⟨(some 33), none, (.val (.t 6))⟩,
  ⟨(some 34), none, (.bin .lss (.t 32) (.t 33))⟩,
  ⟨(some 35), none, (.val (.t 34))⟩,
  ⟨(some 36), (some (35, true)), (.val (.t 0))⟩,
  ⟨(some 37), (some (35, true)), (.val (.t 7))⟩,
  ⟨(some 38), (some (35, true)), (.ia 1 (.t 36) (.t 37))⟩,
  ⟨(some 39), (some (35, true)), (.ld none (.t 38))⟩,
  ⟨(some 40), (some (35, true)), (.val (.t 1))⟩,
  ⟨(some 41), (some (35, true)), (.bin .eql (.t 39) (.t 40))⟩,
  ⟨(some 42), (some (35, true)), (.val (.t 41))⟩,
  ⟨(some 43), (some (42, false)), (.val (.t 0))⟩,
  ⟨(some 44), (some (42, false)), (.val (.t 7))⟩,
  ⟨(some 45), (some (42, false)), (.ia 1 (.t 43) (.t 44))⟩,
  ⟨(some 46), (some (42, false)), (.ld none (.t 45))⟩,
  ⟨(some 47), (some (42, false)), (.call 40 [(.t 46)])⟩,
  ⟨(some 48), (some (42, false)), (.val (.t 47))⟩,
  ⟨(some 49), (some (48, true)), (.val (.t 1))⟩,
  ⟨(some 50), (some (48, true)), (.call 40 [(.t 49)])⟩,
  ⟨(some 51), (some (42, false)), (.pick (.t 48) (.t 50) (.c (.b false)))⟩,
  ⟨(some 52), (some (35, true)), (.pick (.t 42) (.c (.b true)) (.t 51))⟩,
  ⟨(some 53), none, (.pick (.t 35) (.t 52) (.c (.b false)))⟩,
  ⟨(some 4), none, (.val (.t 31))⟩,
  ⟨(some 5), none, (.val (.t 53))⟩]
theorem r35_9 {fn : AFun} {K : List AItem} {t : Nat → AV} {H : AH} {T : Tbl} : runR T fn (.code (.reg d35_9) :: K) t H = regR T fn K (aops (callR T) [
  ⟨(some 31), none, (.val (.t 7))⟩,
  ⟨(some 32), none, (.val (.t 7))⟩,
  ⟨(some 33), none, (.val (.t 6))⟩,
  ⟨(some 34), none, (.bin .lss (.t 32) (.t 33))⟩,
  ⟨(some 35), none, (.val (.t 34))⟩,
  ⟨(some 36), (some (35, true)), (.val (.t 0))⟩,
  ⟨(some 37), (some (35, true)), (.val (.t 7))⟩,
  ⟨(some 38), (some (35, true)), (.ia 1 (.t 36) (.t 37))⟩,
  ⟨(some 39), (some (35, true)), (.ld none (.t 38))⟩,
  ⟨(some 40), (some (35, true)), (.val (.t 1))⟩,
  ⟨(some 41), (some (35, true)), (.bin .eql (.t 39) (.t 40))⟩,
  ⟨(some 42), (some (35, true)), (.val (.t 41))⟩,
  ⟨(some 43), (some (42, false)), (.val (.t 0))⟩,
  ⟨(some 44), (some (42, false)), (.val (.t 7))⟩,
  ⟨(some 45), (some (42, false)), (.ia 1 (.t 43) (.t 44))⟩,
  ⟨(some 46), (some (42, false)), (.ld none (.t 45))⟩,
  ⟨(some 47), (some (42, false)), (.call 40 [(.t 46)])⟩,
  ⟨(some 48), (some (42, false)), (.val (.t 47))⟩,
  ⟨(some 49), (some (48, true)), (.val (.t 1))⟩,
  ⟨(some 50), (some (48, true)), (.call 40 [(.t 49)])⟩,
  ⟨(some 51), (some (42, false)), (.pick (.t 48) (.t 50) (.c (.b false)))⟩,
  ⟨(some 52), (some (35, true)), (.pick (.t 42) (.c (.b true)) (.t 51))⟩,
  ⟨(some 53), none, (.pick (.t 35) (.t 52) (.c (.b false)))⟩,
  ⟨(some 4), none, (.val (.t 31))⟩,
  ⟨(some 5), none, (.val (.t 53))⟩] t H) := runR_reg'
def a35 : AFun := ⟨54, [(.tmp 4), (.tmp 5)], (.seq (.reg d35_0) (.seq (.reg d35_1) (.seq (.reg d35_2) (.seq (.block 0 (.loop l35_8)) (.seq (.reg d35_9) .ret)))))⟩
theorem a35_ok : cfun Try.prog 35 = some a35 := by kernel_rfl
/-- slices.Insert[[]int,int] -/
def d36_0 : List AOper := [
  ⟨(some 6), none, (.val (.c (.sl none 0 0 true 0)))⟩]
theorem r36_0 {fn : AFun} {K : List AItem} {t : Nat → AV} {H : AH} {T : Tbl} : runR T fn (.code (.reg d36_0) :: K) t H = regR T fn K (aops (callR T) [
  ⟨(some 6), none, (.val (.c (.sl none 0 0 true 0)))⟩] t H) := runR_reg'
def d36_1 : List AOper := [
  ⟨(some 10), none, (.val (.t 0))⟩,
  ⟨(some 11), none, (.val (.t 1))⟩,
  ⟨(some 12), none, (.sls 1 (.t 10) (some (.t 11)) none none)⟩]
theorem r36_1 {fn : AFun} {K : List AItem} {t : Nat → AV} {H : AH} {T : Tbl} : runR T fn (.code (.reg d36_1) :: K) t H = regR T fn K (aops (callR T) [
  ⟨(some 10), none, (.val (.t 0))⟩,
  ⟨(some 11), none, (.val (.t 1))⟩,
  ⟨(some 12), none, (.sls 1 (.t 10) (some (.t 11)) none none)⟩] t H) := runR_reg'
def d36_2 : List AOper := [
  ⟨(some 13), none, (.val (.t 2))⟩,
  ⟨(some 14), none, (.len (.t 13))⟩,
  ⟨(some 7), none, (.val (.t 14))⟩]
theorem r36_2 {fn : AFun} {K : List AItem} {t : Nat → AV} {H : AH} {T : Tbl} : runR T fn (.code (.reg d36_2) :: K) t H = regR T fn K (aops (callR T) [
  ⟨(some 13), none, (.val (.t 2))⟩,
  ⟨(some 14), none, (.len (.t 13))⟩,
  ⟨(some 7), none, (.val (.t 14))⟩] t H) := runR_reg'
def d36_3 : List AOper := [
  ⟨(some 15), none, (.val (.t 7))⟩,
  ⟨(some 16), none, (.bin .eql (.t 15) (.c (.i .i64 0)))⟩]
theorem r36_3 {fn : AFun} {K : List AItem} {t : Nat → AV} {H : AH} {T : Tbl} : runR T fn (.code (.reg d36_3) :: K) t H = regR T fn K (aops (callR T) [
  ⟨(some 15), none, (.val (.t 7))⟩,
  ⟨(some 16), none, (.bin .eql (.t 15) (.c (.i .i64 0)))⟩] t H) := runR_reg'
def d36_4 : List AOper := [
  ⟨(some 17), none, (.val (.t 0))⟩,
  ⟨(some 6), none, (.val (.t 17))⟩]
theorem r36_4 {fn : AFun} {K : List AItem} {t : Nat → AV} {H : AH} {T : Tbl} : runR T fn (.code (.reg d36_4) :: K) t H = regR T fn K (aops (callR T) [
  ⟨(some 17), none, (.val (.t 0))⟩,
  ⟨(some 6), none, (.val (.t 17))⟩] t H) := runR_reg'
def d36_5 : List AOper := [
  ⟨(some 18), none, (.val (.t 0))⟩,
  ⟨(some 19), none, (.len (.t 18))⟩,
  ⟨(some 8), none, (.val (.t 19))⟩]
theorem r36_5 {fn : AFun} {K : List AItem} {t : Nat → AV} {H : AH} {T : Tbl} : runR T fn (.code (.reg d36_5) :: K) t H = regR T fn K (aops (callR T) [
  ⟨(some 18), none, (.val (.t 0))⟩,
  ⟨(some 19), none, (.len (.t 18))⟩,
  ⟨(some 8), none, (.val (.t 19))⟩] t H) := runR_reg'
def d36_6 : List AOper := [
  ⟨(some 20), none, (.val (.t 1))⟩,
  ⟨(some 21), none, (.val (.t 8))⟩,
  ⟨(some 22), none, (.bin .eql (.t 20) (.t 21))⟩]
theorem r36_6 {fn : AFun} {K : List AItem} {t : Nat → AV} {H : AH} {T : Tbl} : runR T fn (.code (.reg d36_6) :: K) t H = regR T fn K (aops (callR T) [
  ⟨(some 20), none, (.val (.t 1))⟩,
  ⟨(some 21), none, (.val (.t 8))⟩,
  ⟨(some 22), none, (.bin .eql (.t 20) (.t 21))⟩] t H) := runR_reg'
def d36_7 : List AOper := [
  ⟨(some 23), none, (.val (.t 0))⟩,
  ⟨(some 24), none, (.val (.t 2))⟩,
  ⟨(some 25), none, (.app [(.i .i64 0)] 8 (.t 23) (.t 24))⟩,
  ⟨(some 6), none, (.val (.t 25))⟩]
theorem r36_7 {fn : AFun} {K : List AItem} {t : Nat → AV} {H : AH} {T : Tbl} : runR T fn (.code (.reg d36_7) :: K) t H = regR T fn K (aops (callR T) [
  ⟨(some 23), none, (.val (.t 0))⟩,
  ⟨(some 24), none, (.val (.t 2))⟩,
  ⟨(some 25), none, (.app [(.i .i64 0)] 8 (.t 23) (.t 24))⟩,
  ⟨(some 6), none, (.val (.t 25))⟩] t H) := runR_reg'
def d36_8 : List AOper := [
  ⟨(some 26), none, (.val (.t 8))⟩,
  ⟨(some 27), none, (.val (.t 7))⟩,
  ⟨(some 28), none, (.bin .add (.t 26) (.t 27))⟩,
  ⟨(some 29), none, (.val (.t 0))⟩,
  ⟨(some 30), none, (.cap (.t 29))⟩,
  ⟨(some 31), none, (.bin .gtr (.t 28) (.t 30))⟩]
theorem r36_8 {fn : AFun} {K : List AItem} {t : Nat → AV} {H : AH} {T : Tbl} : runR T fn (.code (.reg d36_8) :: K) t H = regR T fn K (aops (callR T) [
  ⟨(some 26), none, (.val (.t 8))⟩,
  ⟨(some 27), none, (.val (.t 7))⟩,
  ⟨(some 28), none, (.bin .add (.t 26) (.t 27))⟩,
  ⟨(some 29), none, (.val (.t 0))⟩,
  ⟨(some 30), none, (.cap (.t 29))⟩,
  ⟨(some 31), none, (.bin .gtr (.t 28) (.t 30))⟩] t H) := runR_reg'
def d36_9 : List AOper := [
  ⟨(some 32), none, (.val (.t 0))⟩,
  ⟨(some 33), none, (.val (.t 1))⟩,
  ⟨(some 34), none, (.sls 1 (.t 32) none (some (.t 33)) none)⟩,
  ⟨(some 35), none, (.val (.t 8))⟩,
  ⟨(some 36), none, (.val (.t 7))⟩,
  ⟨(some 37), none, (.bin .add (.t 35) (.t 36))⟩,
  ⟨(some 38), none, (.val (.t 1))⟩,
  ⟨(some 39), none, (.bin .sub (.t 37) (.t 38))⟩,
  ⟨(some 40), none, (.apm [(.i .i64 0)] 8 (.t 34) (.t 39))⟩,
  ⟨(some 9), none, (.val (.t 40))⟩]
theorem r36_9 {fn : AFun} {K : List AItem} {t : Nat → AV} {H : AH} {T : Tbl} : runR T fn (.code (.reg d36_9) :: K) t H = regR T fn K (aops (callR T) [
  ⟨(some 32), none, (.val (.t 0))⟩,
  ⟨(some 33), none, (.val (.t 1))⟩,
  ⟨(some 34), none, (.sls 1 (.t 32) none (some (.t 33)) none)⟩,
  ⟨(some 35), none, (.val (.t 8))⟩,
  ⟨(some 36), none, (.val (.t 7))⟩,
  ⟨(some 37), none, (.bin .add (.t 35) (.t 36))⟩,
  ⟨(some 38), none, (.val (.t 1))⟩,
  ⟨(some 39), none, (.bin .sub (.t 37) (.t 38))⟩,
  ⟨(some 40), none, (.apm [(.i .i64 0)] 8 (.t 34) (.t 39))⟩,
  ⟨(some 9), none, (.val (.t 40))⟩] t H) := runR_reg'
def d36_10 : List AOper := [
  ⟨(some 41), none, (.val (.t 9))⟩,
  ⟨(some 42), none, (.val (.t 1))⟩,
  ⟨(some 43), none, (.sls 1 (.t 41) (some (.t 42)) none none)⟩,
  ⟨(some 44), none, (.val (.t 2))⟩,
  ⟨(some 45), none, (.cpy 1 (.t 43) (.t 44))⟩]
theorem r36_10 {fn : AFun} {K : List AItem} {t : Nat → AV} {H : AH} {T : Tbl} : runR T fn (.code (.reg d36_10) :: K) t H = regR T fn K (aops (callR T) [
  ⟨(some 41), none, (.val (.t 9))⟩,
  ⟨(some 42), none, (.val (.t 1))⟩,
  ⟨(some 43), none, (.sls 1 (.t 41) (some (.t 42)) none none)⟩,
  ⟨(some 44), none, (.val (.t 2))⟩,
  ⟨(some 45), none, (.cpy 1 (.t 43) (.t 44))⟩] t H) := runR_reg'
def d36_11 : List (AOper × List Nat) := [
  (⟨(some 46), none, (.val (.t 9))⟩, []),
  (⟨(some 47), none, (.val (.t 1))⟩, []),
  (⟨(some 48), none, (.val (.t 7))⟩, []),
  (⟨(some 49), none, (.bin .add (.t 47) (.t 48))⟩, []),
  (⟨(some 50), none, (.sls 1 (.t 46) (some (.t 49)) none none)⟩, []),
  (⟨(some 51), none, (.val (.t 0))⟩, []),
  (⟨(some 52), none, (.val (.t 1))⟩, []),
  (⟨(some 53), none, (.sls 1 (.t 51) (some (.t 52)) none none)⟩, []),
  (⟨(some 54), none, (.cpy 1 (.t 50) (.t 53))⟩, [])]
theorem r36_11 {fn : AFun} {K : List AItem} {t : Nat → AV} {H : AH} {T : Tbl} : runR T fn (.code (.drw d36_11) :: K) t H = regR T fn K (aops (callR T) [
  ⟨(some 46), none, (.val (.t 9))⟩,
  ⟨(some 47), none, (.val (.t 1))⟩,
  ⟨(some 48), none, (.val (.t 7))⟩,
  ⟨(some 49), none, (.bin .add (.t 47) (.t 48))⟩,
  ⟨(some 50), none, (.sls 1 (.t 46) (some (.t 49)) none none)⟩,
  ⟨(some 51), none, (.val (.t 0))⟩,
  ⟨(some 52), none, (.val (.t 1))⟩,
  ⟨(some 53), none, (.sls 1 (.t 51) (some (.t 52)) none none)⟩,
  ⟨(some 54), none, (.cpy 1 (.t 50) (.t 53))⟩] t H) := runR_plain rfl
def d36_12 : List AOper := [
  ⟨(some 55), none, (.val (.t 9))⟩,
  ⟨(some 6), none, (.val (.t 55))⟩]
theorem r36_12 {fn : AFun} {K : List AItem} {t : Nat → AV} {H : AH} {T : Tbl} : runR T fn (.code (.reg d36_12) :: K) t H = regR T fn K (aops (callR T) [
  ⟨(some 55), none, (.val (.t 9))⟩,
  ⟨(some 6), none, (.val (.t 55))⟩] t H) := runR_reg'
def d36_13 : List AOper := [
  ⟨(some 56), none, (.val (.t 0))⟩,
  ⟨(some 57), none, (.val (.t 8))⟩,
  ⟨(some 58), none, (.val (.t 7))⟩,
  ⟨(some 59), none, (.bin .add (.t 57) (.t 58))⟩,
  ⟨(some 60), none, (.sls 1 (.t 56) none (some (.t 59)) none)⟩,
  ⟨(some 0), none, (.val (.t 60))⟩]
theorem r36_13 {fn : AFun} {K : List AItem} {t : Nat → AV} {H : AH} {T : Tbl} : runR T fn (.code (.reg d36_13) :: K) t H = regR T fn K (aops (callR T) [
  ⟨(some 56), none, (.val (.t 0))⟩,
  ⟨(some 57), none, (.val (.t 8))⟩,
  ⟨(some 58), none, (.val (.t 7))⟩,
  ⟨(some 59), none, (.bin .add (.t 57) (.t 58))⟩,
  ⟨(some 60), none, (.sls 1 (.t 56) none (some (.t 59)) none)⟩,
  ⟨(some 0), none, (.val (.t 60))⟩] t H) := runR_reg'
def d36_14 : List AOper := [
  ⟨(some 61), none, (.val (.t 2))⟩,
  ⟨(some 62), none, (.val (.t 0))⟩,
  ⟨(some 63), none, (.val (.t 1))⟩,
  ⟨(some 64), none, (.val (.t 7))⟩,
  ⟨(some 65), none, (.bin .add (.t 63) (.t 64))⟩,
  ⟨(some 66), none, (.sls 1 (.t 62) (some (.t 65)) none none)⟩,
  ⟨(some 67), none, (.call 41 [(.t 61), (.t 66)])⟩,
  ⟨(some 68), none, (.un .not (.t 67))⟩]
theorem r36_14 {fn : AFun} {K : List AItem} {t : Nat → AV} {H : AH} {T : Tbl} : runR T fn (.code (.reg d36_14) :: K) t H = regR T fn K (aops (callR T) [
  ⟨(some 61), none, (.val (.t 2))⟩,
  ⟨(some 62), none, (.val (.t 0))⟩,
  ⟨(some 63), none, (.val (.t 1))⟩,
  ⟨(some 64), none, (.val (.t 7))⟩,
  ⟨(some 65), none, (.bin .add (.t 63) (.t 64))⟩,
  ⟨(some 66), none, (.sls 1 (.t 62) (some (.t 65)) none none)⟩,
  ⟨(some 67), none, (.call 41 [(.t 61), (.t 66)])⟩,
  ⟨(some 68), none, (.un .not (.t 67))⟩] t H) := runR_reg'
def d36_15 : List (AOper × List Nat) := [
  (⟨(some 69), none, (.val (.t 0))⟩, []),
  (⟨(some 70), none, (.val (.t 1))⟩, []),
  (⟨(some 71), none, (.val (.t 7))⟩, []),
  (⟨(some 72), none, (.bin .add (.t 70) (.t 71))⟩, []),
  (⟨(some 73), none, (.sls 1 (.t 69) (some (.t 72)) none none)⟩, []),
  (⟨(some 74), none, (.val (.t 0))⟩, []),
  (⟨(some 75), none, (.val (.t 1))⟩, []),
  (⟨(some 76), none, (.sls 1 (.t 74) (some (.t 75)) none none)⟩, []),
  (⟨(some 77), none, (.cpy 1 (.t 73) (.t 76))⟩, [])]
theorem r36_15 {fn : AFun} {K : List AItem} {t : Nat → AV} {H : AH} {T : Tbl} : runR T fn (.code (.drw d36_15) :: K) t H = regR T fn K (aops (callR T) [
  ⟨(some 69), none, (.val (.t 0))⟩,
  ⟨(some 70), none, (.val (.t 1))⟩,
  ⟨(some 71), none, (.val (.t 7))⟩,
  ⟨(some 72), none, (.bin .add (.t 70) (.t 71))⟩,
  ⟨(some 73), none, (.sls 1 (.t 69) (some (.t 72)) none none)⟩,
  ⟨(some 74), none, (.val (.t 0))⟩,
  ⟨(some 75), none, (.val (.t 1))⟩,
  ⟨(some 76), none, (.sls 1 (.t 74) (some (.t 75)) none none)⟩,
  ⟨(some 77), none, (.cpy 1 (.t 73) (.t 76))⟩] t H) := runR_plain rfl
def d36_16 : List AOper := [
  ⟨(some 78), none, (.val (.t 0))⟩,
  ⟨(some 79), none, (.val (.t 1))⟩,
  ⟨(some 80), none, (.sls 1 (.t 78) (some (.t 79)) none none)⟩,
  ⟨(some 81), none, (.val (.t 2))⟩,
  ⟨(some 82), none, (.cpy 1 (.t 80) (.t 81))⟩]
theorem r36_16 {fn : AFun} {K : List AItem} {t : Nat → AV} {H : AH} {T : Tbl} : runR T fn (.code (.reg d36_16) :: K) t H = regR T fn K (aops (callR T) [
  ⟨(some 78), none, (.val (.t 0))⟩,
  ⟨(some 79), none, (.val (.t 1))⟩,
  ⟨(some 80), none, (.sls 1 (.t 78) (some (.t 79)) none none)⟩,
  ⟨(some 81), none, (.val (.t 2))⟩,
  ⟨(some 82), none, (.cpy 1 (.t 80) (.t 81))⟩] t H) := runR_reg'
def d36_17 : List AOper := [
  ⟨(some 83), none, (.val (.t 0))⟩,
  ⟨(some 6), none, (.val (.t 83))⟩]
theorem r36_17 {fn : AFun} {K : List AItem} {t : Nat → AV} {H : AH} {T : Tbl} : runR T fn (.code (.reg d36_17) :: K) t H = regR T fn K (aops (callR T) [
  ⟨(some 83), none, (.val (.t 0))⟩,
  ⟨(some 6), none, (.val (.t 83))⟩] t H) := runR_reg'
def d36_18 : List AOper := [
  ⟨(some 84), none, (.val (.t 0))⟩,
  ⟨(some 85), none, (.val (.t 8))⟩,
  ⟨(some 86), none, (.sls 1 (.t 84) (some (.t 85)) none none)⟩,
  ⟨(some 87), none, (.val (.t 2))⟩,
  ⟨(some 88), none, (.cpy 1 (.t 86) (.t 87))⟩]
theorem r36_18 {fn : AFun} {K : List AItem} {t : Nat → AV} {H : AH} {T : Tbl} : runR T fn (.code (.reg d36_18) :: K) t H = regR T fn K (aops (callR T) [
  ⟨(some 84), none, (.val (.t 0))⟩,
  ⟨(some 85), none, (.val (.t 8))⟩,
  ⟨(some 86), none, (.sls 1 (.t 84) (some (.t 85)) none none)⟩,
  ⟨(some 87), none, (.val (.t 2))⟩,
  ⟨(some 88), none, (.cpy 1 (.t 86) (.t 87))⟩] t H) := runR_reg'
def d36_19 : List AOper := [
  ⟨(some 89), none, (.val (.t 0))⟩,
  ⟨(some 90), none, (.val (.t 1))⟩,
  ⟨(some 91), none, (.sls 1 (.t 89) (some (.t 90)) none none)⟩,
  ⟨(some 92), none, (.val (.t 7))⟩,
  ⟨(some 93), none, (.call 42 [(.t 91), (.t 92)])⟩]
theorem r36_19 {fn : AFun} {K : List AItem} {t : Nat → AV} {H : AH} {T : Tbl} : runR T fn (.code (.reg d36_19) :: K) t H = regR T fn K (aops (callR T) [
  ⟨(some 89), none, (.val (.t 0))⟩,
  ⟨(some 90), none, (.val (.t 1))⟩,
  ⟨(some 91), none, (.sls 1 (.t 89) (some (.t 90)) none none)⟩,
  ⟨(some 92), none, (.val (.t 7))⟩,
  ⟨(some 93), none, (.call 42 [(.t 91), (.t 92)])⟩] t H) := runR_reg'
def d36_20 : List AOper := [
  ⟨(some 94), none, (.val (.t 0))⟩,
  ⟨(some 6), none, (.val (.t 94))⟩]
theorem r36_20 {fn : AFun} {K : List AItem} {t : Nat → AV} {H : AH} {T : Tbl} : runR T fn (.code (.reg d36_20) :: K) t H = regR T fn K (aops (callR T) [
  ⟨(some 94), none, (.val (.t 0))⟩,
  ⟨(some 6), none, (.val (.t 94))⟩] t H) := runR_reg'
def a36 : AFun := ⟨95, [(.tmp 6)], (.seq (.reg d36_0) (.seq (.reg d36_1) (.seq (.reg d36_2) (.seq (.seq (.reg d36_3) (.cond (.t 16) (.seq (.reg d36_4) .ret) .skip)) (.seq (.reg d36_5) (.seq (.seq (.reg d36_6) (.cond (.t 22) (.seq (.reg d36_7) .ret) .skip)) (.seq (.seq (.reg d36_8) (.cond (.t 31) (.seq (.reg d36_9) (.seq (.reg d36_10) (.seq (.drw d36_11) (.seq (.reg d36_12) .ret)))) .skip)) (.seq (.reg d36_13) (.seq (.seq (.reg d36_14) (.cond (.t 68) (.seq (.drw d36_15) (.seq (.reg d36_16) (.seq (.reg d36_17) .ret))) .skip)) (.seq (.reg d36_18) (.seq (.reg d36_19) (.seq (.reg d36_20) .ret))))))))))))⟩
theorem a36_ok : cfun Try.prog 36 = some a36 := by kernel_rfl
/-- (*futtock/slots.Table).grow -/
def d37_0 : List (AOper × List Nat) := [
  (⟨(some 2), none, (.val (.t 0))⟩, []),
  (⟨(some 3), none, (.nilc (.t 2))⟩, []),
  (⟨(some 4), none, (.fa 1 (.t 3))⟩, []),
  (⟨(some 5), none, (.ld none (.t 4))⟩, [1]),
  (⟨(some 6), none, (.val (.t 0))⟩, []),
  (⟨(some 7), none, (.nilc (.t 6))⟩, []),
  (⟨(some 8), none, (.fa 0 (.t 7))⟩, []),
  (⟨(some 9), none, (.ld none (.t 8))⟩, [1]),
  (⟨(some 10), none, (.val (.t 0))⟩, []),
  (⟨(some 11), none, (.nilc (.t 10))⟩, []),
  (⟨(some 12), none, (.fa 2 (.t 11))⟩, []),
  (⟨(some 13), none, (.ld none (.t 12))⟩, [1]),
  (⟨(some 14), none, (.len (.t 13))⟩, []),
  (⟨(some 15), none, (.bin .sub (.t 9) (.t 14))⟩, []),
  (⟨(some 16), none, (.mm false [(.t 5), (.t 15)])⟩, []),
  (⟨(some 17), none, (.val (.c (.i .i64 0)))⟩, [])]
theorem r37_0 {fn : AFun} {K : List AItem} {t : Nat → AV} {H : AH} {T : Tbl} : runR T fn (.code (.drw d37_0) :: K) t H = regR T fn K (aops (callR T) [
  ⟨(some 2), none, (.val (.t 0))⟩,
  ⟨(some 3), none, (.nilc (.t 2))⟩,
  ⟨(some 4), none, (.fa 1 (.t 3))⟩,
  ⟨(some 5), none, (.ld none (.t 4))⟩,
  ⟨(some 6), none, (.val (.t 0))⟩,
  ⟨(some 7), none, (.nilc (.t 6))⟩,
  ⟨(some 8), none, (.fa 0 (.t 7))⟩,
  ⟨(some 9), none, (.ld none (.t 8))⟩,
  ⟨(some 10), none, (.val (.t 0))⟩,
  ⟨(some 11), none, (.nilc (.t 10))⟩,
  ⟨(some 12), none, (.fa 2 (.t 11))⟩,
  ⟨(some 13), none, (.ld none (.t 12))⟩,
  ⟨(some 14), none, (.len (.t 13))⟩,
  ⟨(some 15), none, (.bin .sub (.t 9) (.t 14))⟩,
  ⟨(some 16), none, (.mm false [(.t 5), (.t 15)])⟩,
  ⟨(some 17), none, (.val (.c (.i .i64 0)))⟩] t H) := runR_plain rfl
def d37_1 : List AOper := [
  ⟨(some 18), none, (.bin .lss (.t 17) (.t 16))⟩]
theorem r37_1 {fn : AFun} {K : List AItem} {t : Nat → AV} {H : AH} {T : Tbl} : runR T fn (.code (.reg d37_1) :: K) t H = regR T fn K (aops (callR T) [
  ⟨(some 18), none, (.bin .lss (.t 17) (.t 16))⟩] t H) := runR_reg'
def d37_2 : List (AOper × List Nat) := [
  (⟨(some 19), none, (.val (.t 0))⟩, []),
  (⟨(some 20), none, (.val (.t 0))⟩, []),
  (⟨(some 21), none, (.nilc (.t 20))⟩, []),
  (⟨(some 22), none, (.fa 3 (.t 21))⟩, []),
  (⟨(some 23), none, (.ld none (.t 22))⟩, [1]),
  (⟨(some 24), none, (.val (.t 0))⟩, []),
  (⟨(some 25), none, (.nilc (.t 24))⟩, []),
  (⟨(some 26), none, (.fa 2 (.t 25))⟩, []),
  (⟨(some 27), none, (.ld none (.t 26))⟩, [1]),
  (⟨(some 28), none, (.len (.t 27))⟩, []),
  (⟨(some 29), none, (.bsl [(.i .i64 0)] 1 [(0, 1, (.t 28))])⟩, []),
  (⟨(some 30), none, (.app [(.i .i64 0)] 8 (.t 23) (.t 29))⟩, []),
  (⟨(some 31), none, (.nilc (.t 19))⟩, []),
  (⟨(some 32), none, (.fa 3 (.t 31))⟩, []),
  (⟨none, none, (.st 1 (.t 32) (.t 30))⟩, [])]
theorem r37_2 {fn : AFun} {K : List AItem} {t : Nat → AV} {H : AH} {T : Tbl} : runR T fn (.code (.drw d37_2) :: K) t H = regR T fn K (aops (callR T) [
  ⟨(some 19), none, (.val (.t 0))⟩,
  ⟨(some 20), none, (.val (.t 0))⟩,
  ⟨(some 21), none, (.nilc (.t 20))⟩,
  ⟨(some 22), none, (.fa 3 (.t 21))⟩,
  ⟨(some 23), none, (.ld none (.t 22))⟩,
  ⟨(some 24), none, (.val (.t 0))⟩,
  ⟨(some 25), none, (.nilc (.t 24))⟩,
  ⟨(some 26), none, (.fa 2 (.t 25))⟩,
  ⟨(some 27), none, (.ld none (.t 26))⟩,
  ⟨(some 28), none, (.len (.t 27))⟩,
  ⟨(some 29), none, (.bsl [(.i .i64 0)] 1 [(0, 1, (.t 28))])⟩,
  ⟨(some 30), none, (.app [(.i .i64 0)] 8 (.t 23) (.t 29))⟩,
  ⟨(some 31), none, (.nilc (.t 19))⟩,
  ⟨(some 32), none, (.fa 3 (.t 31))⟩,
  ⟨none, none, (.st 1 (.t 32) (.t 30))⟩] t H) := runR_plain rfl
def d37_3 : List AOper := [
  ⟨(some 33), none, (.val (.t 0))⟩,
  ⟨(some 34), none, (.val (.t 0))⟩,
  ⟨(some 35), none, (.nilc (.t 34))⟩,
  ⟨(some 36), none, (.fa 2 (.t 35))⟩,
  ⟨(some 37), none, (.ld none (.t 36))⟩,
  ⟨(some 38), none, (.build [(.b false), (.i .u32 0)] [])⟩,
  ⟨(some 39), none, (.bsl [(.b false), (.i .u32 0)] 1 [(0, 2, (.t 38))])⟩,
  ⟨(some 40), none, (.app [(.b false), (.i .u32 0)] 8 (.t 37) (.t 39))⟩,
  ⟨(some 41), none, (.nilc (.t 33))⟩,
  ⟨(some 42), none, (.fa 2 (.t 41))⟩,
  ⟨none, none, (.st 1 (.t 42) (.t 40))⟩]
theorem r37_3 {fn : AFun} {K : List AItem} {t : Nat → AV} {H : AH} {T : Tbl} : runR T fn (.code (.reg d37_3) :: K) t H = regR T fn K (aops (callR T) [
  ⟨(some 33), none, (.val (.t 0))⟩,
  ⟨(some 34), none, (.val (.t 0))⟩,
  ⟨(some 35), none, (.nilc (.t 34))⟩,
  ⟨(some 36), none, (.fa 2 (.t 35))⟩,
  ⟨(some 37), none, (.ld none (.t 36))⟩,
  ⟨(some 38), none, (.build [(.b false), (.i .u32 0)] [])⟩,
  ⟨(some 39), none, (.bsl [(.b false), (.i .u32 0)] 1 [(0, 2, (.t 38))])⟩,
  ⟨(some 40), none, (.app [(.b false), (.i .u32 0)] 8 (.t 37) (.t 39))⟩,
  ⟨(some 41), none, (.nilc (.t 33))⟩,
  ⟨(some 42), none, (.fa 2 (.t 41))⟩,
  ⟨none, none, (.st 1 (.t 42) (.t 40))⟩] t H) := runR_reg'
def d37_4 : List AOper := [
  ⟨(some 43), none, (.bin .add (.t 17) (.c (.i .i64 1)))⟩,
  ⟨(some 17), none, (.val (.t 43))⟩]
theorem r37_4 {fn : AFun} {K : List AItem} {t : Nat → AV} {H : AH} {T : Tbl} : runR T fn (.code (.reg d37_4) :: K) t H = regR T fn K (aops (callR T) [
  ⟨(some 43), none, (.bin .add (.t 17) (.c (.i .i64 1)))⟩,
  ⟨(some 17), none, (.val (.t 43))⟩] t H) := runR_reg'
def l37_5 : ACode := (.seq (.reg d37_1) (.seq (.cond (.t 18) .skip (.exit 0)) (.seq (.block 1 (.seq (.drw d37_2) (.reg d37_3))) (.reg d37_4))))
def a37 : AFun := ⟨44, [], (.seq (.drw d37_0) (.block 0 (.loop l37_5)))⟩
theorem a37_ok : cfun Try.prog 37 = some a37 := by kernel_rfl
/-- slices.Delete[[]int,int] -/
def d38_0 : List AOper := [
  ⟨(some 6), none, (.val (.c (.sl none 0 0 true 0)))⟩]
theorem r38_0 {fn : AFun} {K : List AItem} {t : Nat → AV} {H : AH} {T : Tbl} : runR T fn (.code (.reg d38_0) :: K) t H = regR T fn K (aops (callR T) [
  ⟨(some 6), none, (.val (.c (.sl none 0 0 true 0)))⟩] t H) := runR_reg'
def d38_1 : List AOper := [
  ⟨(some 8), none, (.val (.t 0))⟩,
  ⟨(some 9), none, (.val (.t 1))⟩,
  ⟨(some 10), none, (.val (.t 2))⟩,
  ⟨(some 11), none, (.val (.t 0))⟩,
  ⟨(some 12), none, (.len (.t 11))⟩,
  ⟨(some 13), none, (.sls 1 (.t 8) (some (.t 9)) (some (.t 10)) (some (.t 12)))⟩]
theorem r38_1 {fn : AFun} {K : List AItem} {t : Nat → AV} {H : AH} {T : Tbl} : runR T fn (.code (.reg d38_1) :: K) t H = regR T fn K (aops (callR T) [
  ⟨(some 8), none, (.val (.t 0))⟩,
  ⟨(some 9), none, (.val (.t 1))⟩,
  ⟨(some 10), none, (.val (.t 2))⟩,
  ⟨(some 11), none, (.val (.t 0))⟩,
  ⟨(some 12), none, (.len (.t 11))⟩,
  ⟨(some 13), none, (.sls 1 (.t 8) (some (.t 9)) (some (.t 10)) (some (.t 12)))⟩] t H) := runR_reg'
def d38_2 : List AOper := [
  ⟨(some 14), none, (.val (.t 1))⟩,
  ⟨(some 15), none, (.val (.t 2))⟩,
  ⟨(some 16), none, (.bin .eql (.t 14) (.t 15))⟩]
theorem r38_2 {fn : AFun} {K : List AItem} {t : Nat → AV} {H : AH} {T : Tbl} : runR T fn (.code (.reg d38_2) :: K) t H = regR T fn K (aops (callR T) [
  ⟨(some 14), none, (.val (.t 1))⟩,
  ⟨(some 15), none, (.val (.t 2))⟩,
  ⟨(some 16), none, (.bin .eql (.t 14) (.t 15))⟩] t H) := runR_reg'
def d38_3 : List AOper := [
  ⟨(some 17), none, (.val (.t 0))⟩,
  ⟨(some 6), none, (.val (.t 17))⟩]
theorem r38_3 {fn : AFun} {K : List AItem} {t : Nat → AV} {H : AH} {T : Tbl} : runR T fn (.code (.reg d38_3) :: K) t H = regR T fn K (aops (callR T) [
  ⟨(some 17), none, (.val (.t 0))⟩,
  ⟨(some 6), none, (.val (.t 17))⟩] t H) := runR_reg'
def d38_4 : List AOper := [
  ⟨(some 18), none, (.val (.t 0))⟩,
  ⟨(some 19), none, (.len (.t 18))⟩,
  ⟨(some 7), none, (.val (.t 19))⟩]
theorem r38_4 {fn : AFun} {K : List AItem} {t : Nat → AV} {H : AH} {T : Tbl} : runR T fn (.code (.reg d38_4) :: K) t H = regR T fn K (aops (callR T) [
  ⟨(some 18), none, (.val (.t 0))⟩,
  ⟨(some 19), none, (.len (.t 18))⟩,
  ⟨(some 7), none, (.val (.t 19))⟩] t H) := runR_reg'
def d38_5 : List (AOper × List Nat) := [
  (⟨(some 20), none, (.val (.t 0))⟩, []),
  (⟨(some 21), none, (.val (.t 1))⟩, []),
  (⟨(some 22), none, (.sls 1 (.t 20) none (some (.t 21)) none)⟩, []),
  (⟨(some 23), none, (.val (.t 0))⟩, []),
  (⟨(some 24), none, (.val (.t 2))⟩, []),
  (⟨(some 25), none, (.sls 1 (.t 23) (some (.t 24)) none none)⟩, []),
  (⟨(some 26), none, (.app [(.i .i64 0)] 8 (.t 22) (.t 25))⟩, []),
  (⟨(some 0), none, (.val (.t 26))⟩, [])]
theorem r38_5 {fn : AFun} {K : List AItem} {t : Nat → AV} {H : AH} {T : Tbl} : runR T fn (.code (.drw d38_5) :: K) t H = regR T fn K (aops (callR T) [
  ⟨(some 20), none, (.val (.t 0))⟩,
  ⟨(some 21), none, (.val (.t 1))⟩,
  ⟨(some 22), none, (.sls 1 (.t 20) none (some (.t 21)) none)⟩,
  ⟨(some 23), none, (.val (.t 0))⟩,
  ⟨(some 24), none, (.val (.t 2))⟩,
  ⟨(some 25), none, (.sls 1 (.t 23) (some (.t 24)) none none)⟩,
  ⟨(some 26), none, (.app [(.i .i64 0)] 8 (.t 22) (.t 25))⟩,
  ⟨(some 0), none, (.val (.t 26))⟩] t H) := runR_plain rfl
def d38_6 : List AOper := [
  ⟨(some 27), none, (.val (.t 0))⟩,
  ⟨(some 28), none, (.val (.t 0))⟩,
  ⟨(some 29), none, (.len (.t 28))⟩,
  ⟨(some 30), none, (.val (.t 7))⟩,
  ⟨(some 31), none, (.sls 1 (.t 27) (some (.t 29)) (some (.t 30)) none)⟩,
  ⟨none, none, (.clr [(.i .i64 0)] (.t 31))⟩]
theorem r38_6 {fn : AFun} {K : List AItem} {t : Nat → AV} {H : AH} {T : Tbl} : runR T fn (.code (.reg d38_6) :: K) t H = regR T fn K (aops (callR T) [
  ⟨(some 27), none, (.val (.t 0))⟩,
  ⟨(some 28), none, (.val (.t 0))⟩,
  ⟨(some 29), none, (.len (.t 28))⟩,
  ⟨(some 30), none, (.val (.t 7))⟩,
  ⟨(some 31), none, (.sls 1 (.t 27) (some (.t 29)) (some (.t 30)) none)⟩,
  ⟨none, none, (.clr [(.i .i64 0)] (.t 31))⟩] t H) := runR_reg'
def d38_7 : List AOper := [
  ⟨(some 32), none, (.val (.t 0))⟩,
  ⟨(some 6), none, (.val (.t 32))⟩]
theorem r38_7 {fn : AFun} {K : List AItem} {t : Nat → AV} {H : AH} {T : Tbl} : runR T fn (.code (.reg d38_7) :: K) t H = regR T fn K (aops (callR T) [
  ⟨(some 32), none, (.val (.t 0))⟩,
  ⟨(some 6), none, (.val (.t 32))⟩] t H) := runR_reg'
def a38 : AFun := ⟨33, [(.tmp 6)], (.seq (.reg d38_0) (.seq (.reg d38_1) (.seq (.seq (.reg d38_2) (.cond (.t 16) (.seq (.reg d38_3) .ret) .skip)) (.seq (.reg d38_4) (.seq (.drw d38_5) (.seq (.reg d38_6) (.seq (.reg d38_7) .ret)))))))⟩
theorem a38_ok : cfun Try.prog 38 = some a38 := by kernel_rfl
/-- cmp.Less[int] -/
def d39_0 : List AOper := [
  ⟨(some 4), none, (.val (.c (.b false)))⟩]
theorem r39_0 {fn : AFun} {K : List AItem} {t : Nat → AV} {H : AH} {T : Tbl} : runR T fn (.code (.reg d39_0) :: K) t H = regR T fn K (aops (callR T) [
  ⟨(some 4), none, (.val (.c (.b false)))⟩] t H) := runR_reg'
def d39_1 : List AOper := [
  ⟨(some 5), none, (.val (.t 0))⟩,
  ⟨(some 6), none, (.call 43 [(.t 5)])⟩,
  ⟨(some 7), none, (.val (.t 6))⟩,
  ⟨(some 8), (some (7, true)), (.val (.t 1))⟩,
  ⟨(some 9), (some (7, true)), (.call 43 [(.t 8)])⟩,
  ⟨(some 10), (some (7, true)), (.un .not (.t 9))⟩,
  ⟨(some 11), none, (.pick (.t 7) (.t 10) (.c (.b false)))⟩,
  ⟨(some 12), none, (.val (.t 11))⟩,
  ⟨(some 13), (some (12, false)), (.val (.t 0))⟩,
  ⟨(some 14), (some (12, false)), (.val (.t 1))⟩,
  ⟨(some 15), (some (12, false)), (.bin .lss (.t 13) (.t 14))⟩,
  ⟨(some 16), none, (.pick (.t 12) (.c (.b true)) (.t 15))⟩,
  ⟨(some 4), none, (.val (.t 16))⟩]
theorem r39_1 {fn : AFun} {K : List AItem} {t : Nat → AV} {H : AH} {T : Tbl} : runR T fn (.code (.reg d39_1) :: K) t H = regR T fn K (aops (callR T) [
  ⟨(some 5), none, (.val (.t 0))⟩,
  ⟨(some 6), none, (.call 43 [(.t 5)])⟩,
  ⟨(some 7), none, (.val (.t 6))⟩,
  ⟨(some 8), (some (7, true)), (.val (.t 1))⟩,
  ⟨(some 9), (some (7, true)), (.call 43 [(.t 8)])⟩,
  ⟨(some 10), (some (7, true)), (.un .not (.t 9))⟩,
  ⟨(some 11), none, (.pick (.t 7) (.t 10) (.c (.b false)))⟩,
  ⟨(some 12), none, (.val (.t 11))⟩,
  ⟨(some 13), (some (12, false)), (.val (.t 0))⟩,
  ⟨(some 14), (some (12, false)), (.val (.t 1))⟩,
  ⟨(some 15), (some (12, false)), (.bin .lss (.t 13) (.t 14))⟩,
  ⟨(some 16), none, (.pick (.t 12) (.c (.b true)) (.t 15))⟩,
  ⟨(some 4), none, (.val (.t 16))⟩] t H) := runR_reg'
def a39 : AFun := ⟨17, [(.tmp 4)], (.seq (.reg d39_0) (.seq (.reg d39_1) .ret))⟩
theorem a39_ok : cfun Try.prog 39 = some a39 := by kernel_rfl
/-- slices.isNaN[int] -/
def d40_0 : List AOper := [
  ⟨(some 2), none, (.val (.c (.b false)))⟩]
theorem r40_0 {fn : AFun} {K : List AItem} {t : Nat → AV} {H : AH} {T : Tbl} : runR T fn (.code (.reg d40_0) :: K) t H = regR T fn K (aops (callR T) [
  ⟨(some 2), none, (.val (.c (.b false)))⟩] t H) := runR_reg'
def d40_1 : List AOper := [
  ⟨(some 3), none, (.val (.t 0))⟩,
  ⟨(some 4), none, (.val (.t 0))⟩,
  ⟨(some 5), none, (.bin .neq (.t 3) (.t 4))⟩,
  ⟨(some 2), none, (.val (.t 5))⟩]
theorem r40_1 {fn : AFun} {K : List AItem} {t : Nat → AV} {H : AH} {T : Tbl} : runR T fn (.code (.reg d40_1) :: K) t H = regR T fn K (aops (callR T) [
  ⟨(some 3), none, (.val (.t 0))⟩,
  ⟨(some 4), none, (.val (.t 0))⟩,
  ⟨(some 5), none, (.bin .neq (.t 3) (.t 4))⟩,
  ⟨(some 2), none, (.val (.t 5))⟩] t H) := runR_reg'
def a40 : AFun := ⟨6, [(.tmp 2)], (.seq (.reg d40_0) (.seq (.reg d40_1) .ret))⟩
theorem a40_ok : cfun Try.prog 40 = some a40 := by kernel_rfl
/-- slices.rotateRight[int] -/
def d42_0 : List AOper := [
  ⟨(some 4), none, (.val (.t 0))⟩,
  ⟨(some 5), none, (.val (.t 0))⟩,
  ⟨(some 6), none, (.len (.t 5))⟩,
  ⟨(some 7), none, (.val (.t 1))⟩,
  ⟨(some 8), none, (.bin .sub (.t 6) (.t 7))⟩,
  ⟨(some 9), none, (.call 44 [(.t 4), (.t 8)])⟩]
theorem r42_0 {fn : AFun} {K : List AItem} {t : Nat → AV} {H : AH} {T : Tbl} : runR T fn (.code (.reg d42_0) :: K) t H = regR T fn K (aops (callR T) [
  ⟨(some 4), none, (.val (.t 0))⟩,
  ⟨(some 5), none, (.val (.t 0))⟩,
  ⟨(some 6), none, (.len (.t 5))⟩,
  ⟨(some 7), none, (.val (.t 1))⟩,
  ⟨(some 8), none, (.bin .sub (.t 6) (.t 7))⟩,
  ⟨(some 9), none, (.call 44 [(.t 4), (.t 8)])⟩] t H) := runR_reg'
def a42 : AFun := ⟨10, [], (.reg d42_0)⟩
theorem a42_ok : cfun Try.prog 42 = some a42 := by kernel_rfl
/-- cmp.isNaN[int] -/
def d43_0 : List AOper := [
  ⟨(some 2), none, (.val (.c (.b false)))⟩]
theorem r43_0 {fn : AFun} {K : List AItem} {t : Nat → AV} {H : AH} {T : Tbl} : runR T fn (.code (.reg d43_0) :: K) t H = regR T fn K (aops (callR T) [
  ⟨(some 2), none, (.val (.c (.b false)))⟩] t H) := runR_reg'
def d43_1 : List AOper := [
  ⟨(some 3), none, (.val (.t 0))⟩,
  ⟨(some 4), none, (.val (.t 0))⟩,
  ⟨(some 5), none, (.bin .neq (.t 3) (.t 4))⟩,
  ⟨(some 2), none, (.val (.t 5))⟩]
theorem r43_1 {fn : AFun} {K : List AItem} {t : Nat → AV} {H : AH} {T : Tbl} : runR T fn (.code (.reg d43_1) :: K) t H = regR T fn K (aops (callR T) [
  ⟨(some 3), none, (.val (.t 0))⟩,
  ⟨(some 4), none, (.val (.t 0))⟩,
  ⟨(some 5), none, (.bin .neq (.t 3) (.t 4))⟩,
  ⟨(some 2), none, (.val (.t 5))⟩] t H) := runR_reg'
def a43 : AFun := ⟨6, [(.tmp 2)], (.seq (.reg d43_0) (.seq (.reg d43_1) .ret))⟩
theorem a43_ok : cfun Try.prog 43 = some a43 := by kernel_rfl
/-- slices.rotateLeft[int] -/
def d44_0 : List AOper := [
  ⟨(some 4), none, (.val (.t 0))⟩,
  ⟨(some 5), none, (.val (.t 1))⟩,
  ⟨(some 6), none, (.sls 1 (.t 4) none (some (.t 5)) none)⟩,
  ⟨(some 7), none, (.call 45 [(.t 6)])⟩]
theorem r44_0 {fn : AFun} {K : List AItem} {t : Nat → AV} {H : AH} {T : Tbl} : runR T fn (.code (.reg d44_0) :: K) t H = regR T fn K (aops (callR T) [
  ⟨(some 4), none, (.val (.t 0))⟩,
  ⟨(some 5), none, (.val (.t 1))⟩,
  ⟨(some 6), none, (.sls 1 (.t 4) none (some (.t 5)) none)⟩,
  ⟨(some 7), none, (.call 45 [(.t 6)])⟩] t H) := runR_reg'
def d44_1 : List AOper := [
  ⟨(some 8), none, (.val (.t 0))⟩,
  ⟨(some 9), none, (.val (.t 1))⟩,
  ⟨(some 10), none, (.sls 1 (.t 8) (some (.t 9)) none none)⟩,
  ⟨(some 11), none, (.call 45 [(.t 10)])⟩]
theorem r44_1 {fn : AFun} {K : List AItem} {t : Nat → AV} {H : AH} {T : Tbl} : runR T fn (.code (.reg d44_1) :: K) t H = regR T fn K (aops (callR T) [
  ⟨(some 8), none, (.val (.t 0))⟩,
  ⟨(some 9), none, (.val (.t 1))⟩,
  ⟨(some 10), none, (.sls 1 (.t 8) (some (.t 9)) none none)⟩,
  ⟨(some 11), none, (.call 45 [(.t 10)])⟩] t H) := runR_reg'
def d44_2 : List AOper := [
  ⟨(some 12), none, (.val (.t 0))⟩,
  ⟨(some 13), none, (.call 45 [(.t 12)])⟩]
theorem r44_2 {fn : AFun} {K : List AItem} {t : Nat → AV} {H : AH} {T : Tbl} : runR T fn (.code (.reg d44_2) :: K) t H = regR T fn K (aops (callR T) [
  ⟨(some 12), none, (.val (.t 0))⟩,
  ⟨(some 13), none, (.call 45 [(.t 12)])⟩] t H) := runR_reg'
def a44 : AFun := ⟨14, [], (.seq (.reg d44_0) (.seq (.reg d44_1) (.reg d44_2)))⟩
theorem a44_ok : cfun Try.prog 44 = some a44 := by kernel_rfl
/-- slices.Reverse[[]int,int] -/
def d45_0 : List AOper := [
  ⟨(some 4), none, (.val (.t 0))⟩,
  ⟨(some 5), none, (.len (.t 4))⟩,
  ⟨(some 6), none, (.bin .sub (.t 5) (.c (.i .i64 1)))⟩,
  ⟨(some 2), none, (.val (.c (.i .i64 0)))⟩,
  ⟨(some 3), none, (.val (.t 6))⟩]
theorem r45_0 {fn : AFun} {K : List AItem} {t : Nat → AV} {H : AH} {T : Tbl} : runR T fn (.code (.reg d45_0) :: K) t H = regR T fn K (aops (callR T) [
  ⟨(some 4), none, (.val (.t 0))⟩,
  ⟨(some 5), none, (.len (.t 4))⟩,
  ⟨(some 6), none, (.bin .sub (.t 5) (.c (.i .i64 1)))⟩,
  ⟨(some 2), none, (.val (.c (.i .i64 0)))⟩,
  ⟨(some 3), none, (.val (.t 6))⟩] t H) := runR_reg'
def d45_1 : List AOper := [
  ⟨(some 7), none, (.val (.t 2))⟩,
  ⟨(some 8), none, (.val (.t 3))⟩,
  ⟨(some 9), none, (.bin .lss (.t 7) (.t 8))⟩]
theorem r45_1 {fn : AFun} {K : List AItem} {t : Nat → AV} {H : AH} {T : Tbl} : runR T fn (.code (.reg d45_1) :: K) t H = regR T fn K (aops (callR T) [
  ⟨(some 7), none, (.val (.t 2))⟩,
  ⟨(some 8), none, (.val (.t 3))⟩,
  ⟨(some 9), none, (.bin .lss (.t 7) (.t 8))⟩] t H) := runR_reg'
def d45_2 : List (AOper × List Nat) := [
  (⟨(some 14), none, (.val (.t 0))⟩, []),
  (⟨(some 15), none, (.val (.t 2))⟩, []),
  (⟨(some 16), none, (.val (.t 0))⟩, []),
  (⟨(some 17), none, (.val (.t 3))⟩, []),
  (⟨(some 18), none, (.val (.t 0))⟩, []),
  (⟨(some 19), none, (.val (.t 3))⟩, []),
  (⟨(some 20), none, (.ia 1 (.t 18) (.t 19))⟩, []),
  (⟨(some 21), none, (.ld none (.t 20))⟩, [1]),
  (⟨(some 22), none, (.val (.t 0))⟩, []),
  (⟨(some 23), none, (.val (.t 2))⟩, []),
  (⟨(some 24), none, (.ia 1 (.t 22) (.t 23))⟩, []),
  (⟨(some 25), none, (.ld none (.t 24))⟩, [1]),
  (⟨(some 26), none, (.ia 1 (.t 14) (.t 15))⟩, []),
  (⟨none, none, (.st 1 (.t 26) (.t 21))⟩, []),
  (⟨(some 27), none, (.ia 1 (.t 16) (.t 17))⟩, []),
  (⟨none, none, (.st 1 (.t 27) (.t 25))⟩, [])]
theorem r45_2 {fn : AFun} {K : List AItem} {t : Nat → AV} {H : AH} {T : Tbl} : runR T fn (.code (.drw d45_2) :: K) t H = regR T fn K (aops (callR T) [
  ⟨(some 14), none, (.val (.t 0))⟩,
  ⟨(some 15), none, (.val (.t 2))⟩,
  ⟨(some 16), none, (.val (.t 0))⟩,
  ⟨(some 17), none, (.val (.t 3))⟩,
  ⟨(some 18), none, (.val (.t 0))⟩,
  ⟨(some 19), none, (.val (.t 3))⟩,
  ⟨(some 20), none, (.ia 1 (.t 18) (.t 19))⟩,
  ⟨(some 21), none, (.ld none (.t 20))⟩,
  ⟨(some 22), none, (.val (.t 0))⟩,
  ⟨(some 23), none, (.val (.t 2))⟩,
  ⟨(some 24), none, (.ia 1 (.t 22) (.t 23))⟩,
  ⟨(some 25), none, (.ld none (.t 24))⟩,
  ⟨(some 26), none, (.ia 1 (.t 14) (.t 15))⟩,
  ⟨none, none, (.st 1 (.t 26) (.t 21))⟩,
  ⟨(some 27), none, (.ia 1 (.t 16) (.t 17))⟩,
  ⟨none, none, (.st 1 (.t 27) (.t 25))⟩] t H) := runR_plain rfl
def d45_3 : List AOper := [
  ⟨(some 10), none, (.val (.t 2))⟩,
  ⟨(some 11), none, (.bin .add (.t 10) (.c (.i .i64 1)))⟩,
  ⟨(some 12), none, (.val (.t 3))⟩,
  ⟨(some 13), none, (.bin .sub (.t 12) (.c (.i .i64 1)))⟩,
  ⟨(some 2), none, (.val (.t 11))⟩,
  ⟨(some 3), none, (.val (.t 13))⟩]
theorem r45_3 {fn : AFun} {K : List AItem} {t : Nat → AV} {H : AH} {T : Tbl} : runR T fn (.code (.reg d45_3) :: K) t H = regR T fn K (aops (callR T) [
  ⟨(some 10), none, (.val (.t 2))⟩,
  ⟨(some 11), none, (.bin .add (.t 10) (.c (.i .i64 1)))⟩,
  ⟨(some 12), none, (.val (.t 3))⟩,
  ⟨(some 13), none, (.bin .sub (.t 12) (.c (.i .i64 1)))⟩,
  ⟨(some 2), none, (.val (.t 11))⟩,
  ⟨(some 3), none, (.val (.t 13))⟩] t H) := runR_reg'
def l45_4 : ACode := (.seq (.seq (.reg d45_1) (.cond (.t 9) .skip (.exit 0))) (.seq (.block 1 (.drw d45_2)) (.reg d45_3)))
def a45 : AFun := ⟨28, [], (.seq (.reg d45_0) (.block 0 (.loop l45_4)))⟩
theorem a45_ok : cfun Try.prog 45 = some a45 := by kernel_rfl
/-- All of them. -/
def tblE : FuncId → Option AFun
  | 3 => some a3
  | 4 => some a4
  | 5 => some a5
  | 6 => some a6
  | 7 => some a7
  | 8 => some a8
  | 9 => some a9
  | 10 => some a10
  | 11 => some a11
  | 12 => some a12
  | 13 => some a13
  | 14 => some a14
  | 15 => some a15
  | 16 => some a16
  | 17 => some a17
  | 18 => some a18
  | 19 => some a19
  | 20 => some a20
  | 21 => some a21
  | 22 => some a22
  | 23 => some a23
  | 24 => some a24
  | 25 => some a25
  | 26 => some a26
  | 27 => some a27
  | 28 => some a28
  | 29 => some a29
  | 30 => some a30
  | 31 => some a31
  | 32 => some a32
  | 33 => some a33
  | 34 => some a34
  | 35 => some a35
  | 36 => some a36
  | 37 => some a37
  | 38 => some a38
  | 39 => some a39
  | 40 => some a40
  | 42 => some a42
  | 43 => some a43
  | 44 => some a44
  | 45 => some a45
  | _ => none
/-- Those that the plain machine runs. -/
def tblF : FuncId → Option AFun
  | 3 => some a3
  | 4 => some a4
  | 5 => some a5
  | 6 => some a6
  | 7 => some a7
  | 8 => some a8
  | 9 => some a9
  | 10 => some a10
  | 11 => some a11
  | 12 => some a12
  | 13 => some a13
  | 14 => some a14
  | 15 => some a15
  | 16 => some a16
  | 17 => some a17
  | 18 => some a18
  | 19 => some a19
  | 20 => some a20
  | 21 => some a21
  | 22 => some a22
  | 23 => some a23
  | 24 => some a24
  | 25 => some a25
  | 26 => some a26
  | 27 => some a27
  | 28 => some a28
  | 29 => some a29
  | 30 => some a30
  | 31 => some a31
  | 32 => some a32
  | 33 => some a33
  | 34 => some a34
  | 35 => some a35
  | 37 => some a37
  | 38 => some a38
  | 39 => some a39
  | 40 => some a40
  | 42 => some a42
  | 43 => some a43
  | 44 => some a44
  | 45 => some a45
  | _ => none
structure Prm where
  p : PrimF
  up : ∀ f a H v H', p f a H = some (v, H') → H.n ≤ H'.n
def tblP (q : Prm) : Tbl := ⟨tblF, q.p, q.up⟩
theorem tbl3 {q : Prm} : (tblP q).f 3 = some a3 := rfl
theorem c3 {q : Prm} {x0 x1 x2 : AV} {H : AH} : callR (tblP q) 3 [x0, x1, x2] H = runR (tblP q) a3 [.code a3.body] (ainit [x0, x1, x2]) H := callR_of tbl3 (Nat.le_of_ble_eq_true rfl)
theorem b3 : a3.body = (.seq (.reg d3_0) (.seq (.reg d3_1) (.seq (.reg d3_2) (.seq (.seq (.reg d3_3) (.cond (.t 35) (.seq (.reg d3_4) .ret) .skip)) (.seq (.seq (.reg d3_5) (.block 0 (.loop l3_31))) (.seq (.reg d3_32) .ret)))))) := rfl
theorem s3 : a3.res = [(.tmp 6)] := rfl
theorem tbl4 {q : Prm} : (tblP q).f 4 = some a4 := rfl
theorem c4 {q : Prm} {x0 x1 x2 : AV} {H : AH} : callR (tblP q) 4 [x0, x1, x2] H = runR (tblP q) a4 [.code a4.body] (ainit [x0, x1, x2]) H := callR_of tbl4 (Nat.le_of_ble_eq_true rfl)
theorem b4 : a4.body = (.seq (.reg d4_0) (.seq (.reg d4_1) (.seq (.reg d4_2) (.seq (.seq (.reg d4_3) (.cond (.t 38) (.seq (.reg d4_4) .ret) .skip)) (.seq (.reg d4_5) (.seq (.reg d4_6) (.seq (.reg d4_7) (.seq (.seq (.reg d4_8) (.block 0 (.loop l4_33))) (.seq (.reg d4_34) .ret))))))))) := rfl
theorem s4 : a4.res = [(.tmp 6)] := rfl
theorem tbl5 {q : Prm} : (tblP q).f 5 = some a5 := rfl
theorem c5 {q : Prm} {x0 x1 x2 : AV} {H : AH} : callR (tblP q) 5 [x0, x1, x2] H = runR (tblP q) a5 [.code a5.body] (ainit [x0, x1, x2]) H := callR_of tbl5 (Nat.le_of_ble_eq_true rfl)
theorem b5 : a5.body = (.seq (.reg d5_0) (.seq (.reg d5_1) (.seq (.reg d5_2) (.seq (.seq (.reg d5_3) (.cond (.t 46) (.seq (.reg d5_4) .ret) .skip)) (.seq (.seq (.reg d5_5) (.block 0 (.loop l5_20))) (.seq (.reg d5_21) .ret)))))) := rfl
theorem s5 : a5.res = [(.tmp 6)] := rfl
theorem tbl6 {q : Prm} : (tblP q).f 6 = some a6 := rfl
theorem c6 {q : Prm} {x0 : AV} {H : AH} : callR (tblP q) 6 [x0] H = runR (tblP q) a6 [.code a6.body] (ainit [x0]) H := callR_of tbl6 (Nat.le_of_ble_eq_true rfl)
theorem b6 : a6.body = (.seq (.reg d6_0) (.seq (.seq (.reg d6_1) (.block 0 (.loop l6_9))) (.seq (.reg d6_10) .ret))) := rfl
theorem s6 : a6.res = [(.tmp 2)] := rfl
theorem tbl7 {q : Prm} : (tblP q).f 7 = some a7 := rfl
theorem c7 {q : Prm} {x0 x1 : AV} {H : AH} : callR (tblP q) 7 [x0, x1] H = runR (tblP q) a7 [.code a7.body] (ainit [x0, x1]) H := callR_of tbl7 (Nat.le_of_ble_eq_true rfl)
theorem b7 : a7.body = (.seq (.reg d7_0) (.seq (.seq (.reg d7_1) (.cond (.t 19) (.seq (.reg d7_2) .ret) .skip)) (.seq (.reg d7_3) .ret))) := rfl
theorem s7 : a7.res = [(.tmp 4), (.tmp 5)] := rfl
theorem tbl8 {q : Prm} : (tblP q).f 8 = some a8 := rfl
theorem c8 {q : Prm} {x0 : AV} {H : AH} : callR (tblP q) 8 [x0] H = runR (tblP q) a8 [.code a8.body] (ainit [x0]) H := callR_of tbl8 (Nat.le_of_ble_eq_true rfl)
theorem b8 : a8.body = (.seq (.reg d8_0) (.seq (.reg d8_1) .ret)) := rfl
theorem s8 : a8.res = [(.tmp 2)] := rfl
theorem tbl9 {q : Prm} : (tblP q).f 9 = some a9 := rfl
theorem c9 {q : Prm} {x0 x1 x2 : AV} {H : AH} : callR (tblP q) 9 [x0, x1, x2] H = runR (tblP q) a9 [.code a9.body] (ainit [x0, x1, x2]) H := callR_of tbl9 (Nat.le_of_ble_eq_true rfl)
theorem b9 : a9.body = (.seq (.reg d9_0) (.seq (.block 0 (.seq (.reg d9_1) (.cond (.t 8) (.seq (.reg d9_2) .ret) (.seq (.reg d9_3) (.cond (.t 12) (.seq (.reg d9_4) .ret) .skip))))) (.seq (.reg d9_5) (.seq (.reg d9_6) (.seq (.block 1 (.seq (.reg d9_7) (.cond (.t 34) (.seq (.reg d9_8) .ret) (.seq (.drw d9_9) (.cond (.t 40) (.drw d9_10) (.reg d9_11)))))) (.seq (.reg d9_12) (.seq (.reg d9_13) .ret))))))) := rfl
theorem s9 : a9.res = [(.tmp 6)] := rfl
theorem tbl10 {q : Prm} : (tblP q).f 10 = some a10 := rfl
theorem c10 {q : Prm} {x0 x1 : AV} {H : AH} : callR (tblP q) 10 [x0, x1] H = runR (tblP q) a10 [.code a10.body] (ainit [x0, x1]) H := callR_of tbl10 (Nat.le_of_ble_eq_true rfl)
theorem b10 : a10.body = (.seq (.reg d10_0) (.seq (.reg d10_1) (.seq (.seq (.reg d10_2) (.block 0 (.loop l10_7))) (.seq (.seq (.reg d10_8) (.cond (.t 23) (.reg d10_9) .skip)) (.seq (.reg d10_10) .ret))))) := rfl
theorem s10 : a10.res = [(.tmp 4)] := rfl
theorem tbl11 {q : Prm} : (tblP q).f 11 = some a11 := rfl
theorem c11 {q : Prm} {x0 x1 : AV} {H : AH} : callR (tblP q) 11 [x0, x1] H = runR (tblP q) a11 [.code a11.body] (ainit [x0, x1]) H := callR_of tbl11 (Nat.le_of_ble_eq_true rfl)
theorem b11 : a11.body = (.seq (.reg d11_0) (.seq (.block 0 (.seq (.reg d11_1) (.cond (.t 8) (.seq (.reg d11_2) .ret) (.seq (.reg d11_3) (.cond (.t 12) (.seq (.reg d11_4) .ret) .skip))))) (.seq (.reg d11_5) (.seq (.seq (.reg d11_6) (.cond (.t 20) (.seq (.reg d11_7) .ret) .skip)) (.seq (.reg d11_8) (.seq (.drw d11_9) .ret)))))) := rfl
theorem s11 : a11.res = [(.tmp 4), (.tmp 5), (.tmp 6)] := rfl
theorem tbl12 {q : Prm} : (tblP q).f 12 = some a12 := rfl
theorem c12 {q : Prm} {x0 : AV} {H : AH} : callR (tblP q) 12 [x0] H = runR (tblP q) a12 [.code a12.body] (ainit [x0]) H := callR_of tbl12 (Nat.le_of_ble_eq_true rfl)
theorem b12 : a12.body = (.seq (.reg d12_0) (.seq (.seq (.reg d12_1) (.cond (.t 8) (.seq (.reg d12_2) .ret) .skip)) (.seq (.reg d12_3) (.seq (.seq (.reg d12_4) (.block 0 (.loop l12_10))) (.seq (.reg d12_11) .ret))))) := rfl
theorem s12 : a12.res = [(.tmp 2)] := rfl
theorem tbl13 {q : Prm} : (tblP q).f 13 = some a13 := rfl
theorem c13 {q : Prm} {x0 x1 : AV} {H : AH} : callR (tblP q) 13 [x0, x1] H = runR (tblP q) a13 [.code a13.body] (ainit [x0, x1]) H := callR_of tbl13 (Nat.le_of_ble_eq_true rfl)
theorem b13 : a13.body = (.seq (.reg d13_0) (.seq (.seq (.reg d13_1) (.cond (.t 12) (.seq (.reg d13_2) .ret) .skip)) (.seq (.reg d13_3) .ret))) := rfl
theorem s13 : a13.res = [(.tmp 4)] := rfl
theorem tbl14 {q : Prm} : (tblP q).f 14 = some a14 := rfl
theorem c14 {q : Prm} {x0 x1 : AV} {H : AH} : callR (tblP q) 14 [x0, x1] H = runR (tblP q) a14 [.code a14.body] (ainit [x0, x1]) H := callR_of tbl14 (Nat.le_of_ble_eq_true rfl)
theorem b14 : a14.body = (.seq (.reg d14_0) (.seq (.reg d14_1) .ret)) := rfl
theorem s14 : a14.res = [(.tmp 4)] := rfl
theorem tbl15 {q : Prm} : (tblP q).f 15 = some a15 := rfl
theorem c15 {q : Prm} {H : AH} : callR (tblP q) 15 [] H = runR (tblP q) a15 [.code a15.body] (ainit []) H := callR_of tbl15 (Nat.le_of_ble_eq_true rfl)
theorem b15 : a15.body = (.seq (.reg d15_0) (.seq (.reg d15_1) (.seq (.seq (.reg d15_2) (.cond (.t 19) (.seq (.reg d15_3) .ret) .skip)) (.seq (.reg d15_4) (.seq (.reg d15_5) (.seq (.reg d15_6) (.seq (.reg d15_7) .ret))))))) := rfl
theorem s15 : a15.res = [(.tmp 0)] := rfl
theorem tbl16 {q : Prm} : (tblP q).f 16 = some a16 := rfl
theorem c16 {q : Prm} {x0 : AV} {H : AH} : callR (tblP q) 16 [x0] H = runR (tblP q) a16 [.code a16.body] (ainit [x0]) H := callR_of tbl16 (Nat.le_of_ble_eq_true rfl)
theorem b16 : a16.body = (.seq (.reg d16_0) (.seq (.seq (.reg d16_1) (.cond (.t 8) (.seq (.reg d16_2) .ret) .skip)) (.seq (.drw d16_3) (.seq (.seq (.reg d16_4) (.block 0 (.loop l16_9))) (.seq (.reg d16_10) .ret))))) := rfl
theorem s16 : a16.res = [(.tmp 2)] := rfl
theorem tbl17 {q : Prm} : (tblP q).f 17 = some a17 := rfl
theorem c17 {q : Prm} {x0 x1 : AV} {H : AH} : callR (tblP q) 17 [x0, x1] H = runR (tblP q) a17 [.code a17.body] (ainit [x0, x1]) H := callR_of tbl17 (Nat.le_of_ble_eq_true rfl)
theorem b17 : a17.body = (.seq (.reg d17_0) (.seq (.seq (.reg d17_1) (.cond (.t 19) (.seq (.reg d17_2) .ret) .skip)) (.seq (.reg d17_3) .ret))) := rfl
theorem s17 : a17.res = [(.cell 4 (some 3)), (.tmp 5)] := rfl
theorem tbl18 {q : Prm} : (tblP q).f 18 = some a18 := rfl
theorem c18 {q : Prm} {x0 x1 x2 : AV} {H : AH} : callR (tblP q) 18 [x0, x1, x2] H = runR (tblP q) a18 [.code a18.body] (ainit [x0, x1, x2]) H := callR_of tbl18 (Nat.le_of_ble_eq_true rfl)
theorem b18 : a18.body = (.seq (.reg d18_0) (.seq (.seq (.reg d18_1) (.cond (.t 34) (.seq (.reg d18_2) .ret) .skip)) (.seq (.reg d18_3) (.seq (.drw d18_4) (.seq (.seq (.drw d18_5) (.cond (.t 64) (.reg d18_6) .skip)) (.seq (.seq (.reg d18_7) (.cond (.t 68) (.reg d18_8) (.reg d18_9))) (.seq (.drw d18_10) (.seq (.reg d18_11) .ret)))))))) := rfl
theorem s18 : a18.res = [(.tmp 6)] := rfl
theorem tbl19 {q : Prm} : (tblP q).f 19 = some a19 := rfl
theorem c19 {q : Prm} {x0 x1 : AV} {H : AH} : callR (tblP q) 19 [x0, x1] H = runR (tblP q) a19 [.code a19.body] (ainit [x0, x1]) H := callR_of tbl19 (Nat.le_of_ble_eq_true rfl)
theorem b19 : a19.body = (.seq (.reg d19_0) (.seq (.reg d19_1) (.seq (.seq (.reg d19_2) (.block 0 (.loop l19_6))) (.seq (.reg d19_7) .ret)))) := rfl
theorem s19 : a19.res = [(.tmp 4)] := rfl
theorem tbl20 {q : Prm} : (tblP q).f 20 = some a20 := rfl
theorem c20 {q : Prm} {x0 x1 : AV} {H : AH} : callR (tblP q) 20 [x0, x1] H = runR (tblP q) a20 [.code a20.body] (ainit [x0, x1]) H := callR_of tbl20 (Nat.le_of_ble_eq_true rfl)
theorem b20 : a20.body = (.seq (.reg d20_0) (.seq (.seq (.reg d20_1) (.cond (.t 12) (.seq (.reg d20_2) .ret) .skip)) (.seq (.reg d20_3) (.seq (.seq (.reg d20_4) (.seq (.reg d20_5) (.cond (.t 18) (.reg d20_6) .skip))) (.seq (.seq (.reg d20_7) (.cond (.t 26) (.reg d20_8) .skip)) (.seq (.seq (.reg d20_9) (.cond (.t 30) (.seq (.reg d20_10) (.seq (.reg d20_11) (.block 0 (.loop l20_15)))) .skip)) (.seq (.seq (.reg d20_16) (.cond (.t 66) (.seq (.reg d20_17) .ret) .skip)) (.seq (.reg d20_18) (.seq (.drw d20_19) .ret))))))))) := rfl
theorem s20 : a20.res = [(.tmp 4), (.tmp 5), (.tmp 6)] := rfl
theorem tbl21 {q : Prm} : (tblP q).f 21 = some a21 := rfl
theorem c21 {q : Prm} {x0 x1 x2 : AV} {H : AH} : callR (tblP q) 21 [x0, x1, x2] H = runR (tblP q) a21 [.code a21.body] (ainit [x0, x1, x2]) H := callR_of tbl21 (Nat.le_of_ble_eq_true rfl)
theorem b21 : a21.body = (.seq (.reg d21_0) (.seq (.reg d21_1) (.seq (.seq (.reg d21_2) (.block 0 (.loop l21_11))) (.seq (.reg d21_12) (.seq (.drw d21_13) .ret))))) := rfl
theorem s21 : a21.res = [(.tmp 6)] := rfl
theorem tbl22 {q : Prm} : (tblP q).f 22 = some a22 := rfl
theorem c22 {q : Prm} {x0 x1 : AV} {H : AH} : callR (tblP q) 22 [x0, x1] H = runR (tblP q) a22 [.code a22.body] (ainit [x0, x1]) H := callR_of tbl22 (Nat.le_of_ble_eq_true rfl)
theorem b22 : a22.body = (.seq (.reg d22_0) (.seq (.block 0 (.seq (.reg d22_1) (.cond (.t 6) (.seq (.reg d22_2) .ret) (.seq (.reg d22_3) (.cond (.t 10) (.seq (.reg d22_4) .ret) (.seq (.reg d22_5) (.cond (.t 21) (.seq (.reg d22_6) .ret) .skip))))))) (.seq (.reg d22_7) .ret))) := rfl
theorem s22 : a22.res = [(.tmp 4), (.tmp 5)] := rfl
theorem tbl23 {q : Prm} : (tblP q).f 23 = some a23 := rfl
theorem c23 {q : Prm} {x0 x1 x2 : AV} {H : AH} : callR (tblP q) 23 [x0, x1, x2] H = runR (tblP q) a23 [.code a23.body] (ainit [x0, x1, x2]) H := callR_of tbl23 (Nat.le_of_ble_eq_true rfl)
theorem b23 : a23.body = (.seq (.reg d23_0) (.seq (.reg d23_1) .ret)) := rfl
theorem s23 : a23.res = [(.tmp 6)] := rfl
theorem tbl24 {q : Prm} : (tblP q).f 24 = some a24 := rfl
theorem c24 {q : Prm} {x0 : AV} {H : AH} : callR (tblP q) 24 [x0] H = runR (tblP q) a24 [.code a24.body] (ainit [x0]) H := callR_of tbl24 (Nat.le_of_ble_eq_true rfl)
theorem b24 : a24.body = (.seq (.reg d24_0) (.seq (.seq (.reg d24_1) (.cond (.t 5) (.seq (.reg d24_2) .ret) .skip)) (.seq (.drw d24_3) .ret))) := rfl
theorem s24 : a24.res = [(.tmp 2)] := rfl
theorem tbl25 {q : Prm} : (tblP q).f 25 = some a25 := rfl
theorem c25 {q : Prm} {x0 : AV} {H : AH} : callR (tblP q) 25 [x0] H = runR (tblP q) a25 [.code a25.body] (ainit [x0]) H := callR_of tbl25 (Nat.le_of_ble_eq_true rfl)
theorem b25 : a25.body = (.seq (.reg d25_0) (.seq (.reg d25_1) .ret)) := rfl
theorem s25 : a25.res = [(.tmp 2)] := rfl
theorem tbl26 {q : Prm} : (tblP q).f 26 = some a26 := rfl
theorem c26 {q : Prm} {x0 : AV} {H : AH} : callR (tblP q) 26 [x0] H = runR (tblP q) a26 [.code a26.body] (ainit [x0]) H := callR_of tbl26 (Nat.le_of_ble_eq_true rfl)
theorem b26 : a26.body = (.seq (.reg d26_0) (.seq (.reg d26_1) .ret)) := rfl
theorem s26 : a26.res = [(.tmp 2)] := rfl
theorem tbl27 {q : Prm} : (tblP q).f 27 = some a27 := rfl
theorem c27 {q : Prm} {x0 x1 : AV} {H : AH} : callR (tblP q) 27 [x0, x1] H = runR (tblP q) a27 [.code a27.body] (ainit [x0, x1]) H := callR_of tbl27 (Nat.le_of_ble_eq_true rfl)
theorem b27 : a27.body = (.seq (.reg d27_0) (.reg d27_1)) := rfl
theorem s27 : a27.res = [] := rfl
theorem tbl28 {q : Prm} : (tblP q).f 28 = some a28 := rfl
theorem c28 {q : Prm} {x0 x1 : AV} {H : AH} : callR (tblP q) 28 [x0, x1] H = runR (tblP q) a28 [.code a28.body] (ainit [x0, x1]) H := callR_of tbl28 (Nat.le_of_ble_eq_true rfl)
theorem b28 : a28.body = (.seq (.reg d28_0) (.seq (.seq (.reg d28_1) (.seq (.reg d28_2) (.cond (.t 16) (.seq (.reg d28_3) (.seq (.drw d28_4) (.seq (.reg d28_5) .ret))) .skip))) (.seq (.seq (.reg d28_6) (.cond (.t 39) (.reg d28_7) .skip)) (.seq (.seq (.reg d28_8) (.cond (.t 47) (.seq (.reg d28_9) .ret) .skip)) (.seq (.reg d28_10) (.seq (.reg d28_11) (.seq (.reg d28_12) .ret))))))) := rfl
theorem s28 : a28.res = [(.tmp 4)] := rfl
theorem tbl29 {q : Prm} : (tblP q).f 29 = some a29 := rfl
theorem c29 {q : Prm} {x0 : AV} {H : AH} : callR (tblP q) 29 [x0] H = runR (tblP q) a29 [.code a29.body] (ainit [x0]) H := callR_of tbl29 (Nat.le_of_ble_eq_true rfl)
theorem b29 : a29.body = (.seq (.reg d29_0) (.seq (.seq (.reg d29_1) (.cond (.t 4) (.seq (.reg d29_2) .ret) .skip)) (.seq (.reg d29_3) .ret))) := rfl
theorem s29 : a29.res = [(.tmp 2)] := rfl
theorem tbl30 {q : Prm} : (tblP q).f 30 = some a30 := rfl
theorem c30 {q : Prm} {x0 : AV} {H : AH} : callR (tblP q) 30 [x0] H = runR (tblP q) a30 [.code a30.body] (ainit [x0]) H := callR_of tbl30 (Nat.le_of_ble_eq_true rfl)
theorem b30 : a30.body = (.seq (.reg d30_0) (.seq (.reg d30_1) .ret)) := rfl
theorem s30 : a30.res = [(.tmp 2)] := rfl
theorem tbl31 {q : Prm} : (tblP q).f 31 = some a31 := rfl
theorem c31 {q : Prm} {x0 x1 : AV} {H : AH} : callR (tblP q) 31 [x0, x1] H = runR (tblP q) a31 [.code a31.body] (ainit [x0, x1]) H := callR_of tbl31 (Nat.le_of_ble_eq_true rfl)
theorem b31 : a31.body = (.seq (.reg d31_0) (.seq (.reg d31_1) (.seq (.seq (.reg d31_2) (.block 0 (.loop l31_11))) (.seq (.reg d31_12) .ret)))) := rfl
theorem s31 : a31.res = [(.tmp 4)] := rfl
theorem tbl32 {q : Prm} : (tblP q).f 32 = some a32 := rfl
theorem c32 {q : Prm} {x0 x1 : AV} {H : AH} : callR (tblP q) 32 [x0, x1] H = runR (tblP q) a32 [.code a32.body] (ainit [x0, x1]) H := callR_of tbl32 (Nat.le_of_ble_eq_true rfl)
theorem b32 : a32.body = (.seq (.reg d32_0) (.seq (.seq (.reg d32_1) (.block 0 (.loop l32_6))) (.seq (.reg d32_7) .ret))) := rfl
theorem s32 : a32.res = [(.tmp 4)] := rfl
theorem tbl33 {q : Prm} : (tblP q).f 33 = some a33 := rfl
theorem c33 {q : Prm} {x0 x1 : AV} {H : AH} : callR (tblP q) 33 [x0, x1] H = runR (tblP q) a33 [.code a33.body] (ainit [x0, x1]) H := callR_of tbl33 (Nat.le_of_ble_eq_true rfl)
theorem b33 : a33.body = (.seq (.reg d33_0) (.seq (.seq (.reg d33_1) (.cond (.t 10) (.seq (.reg d33_2) .ret) .skip)) (.seq (.seq (.reg d33_3) (.block 0 (.loop l33_9))) (.seq (.reg d33_10) .ret)))) := rfl
theorem s33 : a33.res = [(.tmp 4)] := rfl
theorem tbl34 {q : Prm} : (tblP q).f 34 = some a34 := rfl
theorem c34 {q : Prm} {x0 x1 : AV} {H : AH} : callR (tblP q) 34 [x0, x1] H = runR (tblP q) a34 [.code a34.body] (ainit [x0, x1]) H := callR_of tbl34 (Nat.le_of_ble_eq_true rfl)
theorem b34 : a34.body = (.seq (.reg d34_0) (.seq (.reg d34_1) (.seq (.seq (.reg d34_2) (.block 0 (.loop l34_7))) (.seq (.reg d34_8) .ret)))) := rfl
theorem s34 : a34.res = [(.tmp 4)] := rfl
theorem tbl35 {q : Prm} : (tblP q).f 35 = some a35 := rfl
theorem c35 {q : Prm} {x0 x1 : AV} {H : AH} : callR (tblP q) 35 [x0, x1] H = runR (tblP q) a35 [.code a35.body] (ainit [x0, x1]) H := callR_of tbl35 (Nat.le_of_ble_eq_true rfl)
theorem b35 : a35.body = (.seq (.reg d35_0) (.seq (.reg d35_1) (.seq (.reg d35_2) (.seq (.block 0 (.loop l35_8)) (.seq (.reg d35_9) .ret))))) := rfl
theorem s35 : a35.res = [(.tmp 4), (.tmp 5)] := rfl
theorem b36 : a36.body = (.seq (.reg d36_0) (.seq (.reg d36_1) (.seq (.reg d36_2) (.seq (.seq (.reg d36_3) (.cond (.t 16) (.seq (.reg d36_4) .ret) .skip)) (.seq (.reg d36_5) (.seq (.seq (.reg d36_6) (.cond (.t 22) (.seq (.reg d36_7) .ret) .skip)) (.seq (.seq (.reg d36_8) (.cond (.t 31) (.seq (.reg d36_9) (.seq (.reg d36_10) (.seq (.drw d36_11) (.seq (.reg d36_12) .ret)))) .skip)) (.seq (.reg d36_13) (.seq (.seq (.reg d36_14) (.cond (.t 68) (.seq (.drw d36_15) (.seq (.reg d36_16) (.seq (.reg d36_17) .ret))) .skip)) (.seq (.reg d36_18) (.seq (.reg d36_19) (.seq (.reg d36_20) .ret)))))))))))) := rfl
theorem s36 : a36.res = [(.tmp 6)] := rfl
theorem tbl37 {q : Prm} : (tblP q).f 37 = some a37 := rfl
theorem c37 {q : Prm} {x0 : AV} {H : AH} : callR (tblP q) 37 [x0] H = runR (tblP q) a37 [.code a37.body] (ainit [x0]) H := callR_of tbl37 (Nat.le_of_ble_eq_true rfl)
theorem b37 : a37.body = (.seq (.drw d37_0) (.block 0 (.loop l37_5))) := rfl
theorem s37 : a37.res = [] := rfl
theorem tbl38 {q : Prm} : (tblP q).f 38 = some a38 := rfl
theorem c38 {q : Prm} {x0 x1 x2 : AV} {H : AH} : callR (tblP q) 38 [x0, x1, x2] H = runR (tblP q) a38 [.code a38.body] (ainit [x0, x1, x2]) H := callR_of tbl38 (Nat.le_of_ble_eq_true rfl)
theorem b38 : a38.body = (.seq (.reg d38_0) (.seq (.reg d38_1) (.seq (.seq (.reg d38_2) (.cond (.t 16) (.seq (.reg d38_3) .ret) .skip)) (.seq (.reg d38_4) (.seq (.drw d38_5) (.seq (.reg d38_6) (.seq (.reg d38_7) .ret))))))) := rfl
theorem s38 : a38.res = [(.tmp 6)] := rfl
theorem tbl39 {q : Prm} : (tblP q).f 39 = some a39 := rfl
theorem c39 {q : Prm} {x0 x1 : AV} {H : AH} : callR (tblP q) 39 [x0, x1] H = runR (tblP q) a39 [.code a39.body] (ainit [x0, x1]) H := callR_of tbl39 (Nat.le_of_ble_eq_true rfl)
theorem b39 : a39.body = (.seq (.reg d39_0) (.seq (.reg d39_1) .ret)) := rfl
theorem s39 : a39.res = [(.tmp 4)] := rfl
theorem tbl40 {q : Prm} : (tblP q).f 40 = some a40 := rfl
theorem c40 {q : Prm} {x0 : AV} {H : AH} : callR (tblP q) 40 [x0] H = runR (tblP q) a40 [.code a40.body] (ainit [x0]) H := callR_of tbl40 (Nat.le_of_ble_eq_true rfl)
theorem b40 : a40.body = (.seq (.reg d40_0) (.seq (.reg d40_1) .ret)) := rfl
theorem s40 : a40.res = [(.tmp 2)] := rfl
theorem tbl42 {q : Prm} : (tblP q).f 42 = some a42 := rfl
theorem c42 {q : Prm} {x0 x1 : AV} {H : AH} : callR (tblP q) 42 [x0, x1] H = runR (tblP q) a42 [.code a42.body] (ainit [x0, x1]) H := callR_of tbl42 (Nat.le_of_ble_eq_true rfl)
theorem b42 : a42.body = (.reg d42_0) := rfl
theorem s42 : a42.res = [] := rfl
theorem tbl43 {q : Prm} : (tblP q).f 43 = some a43 := rfl
theorem c43 {q : Prm} {x0 : AV} {H : AH} : callR (tblP q) 43 [x0] H = runR (tblP q) a43 [.code a43.body] (ainit [x0]) H := callR_of tbl43 (Nat.le_of_ble_eq_true rfl)
theorem b43 : a43.body = (.seq (.reg d43_0) (.seq (.reg d43_1) .ret)) := rfl
theorem s43 : a43.res = [(.tmp 2)] := rfl
theorem tbl44 {q : Prm} : (tblP q).f 44 = some a44 := rfl
theorem c44 {q : Prm} {x0 x1 : AV} {H : AH} : callR (tblP q) 44 [x0, x1] H = runR (tblP q) a44 [.code a44.body] (ainit [x0, x1]) H := callR_of tbl44 (Nat.le_of_ble_eq_true rfl)
theorem b44 : a44.body = (.seq (.reg d44_0) (.seq (.reg d44_1) (.reg d44_2))) := rfl
theorem s44 : a44.res = [] := rfl
theorem tbl45 {q : Prm} : (tblP q).f 45 = some a45 := rfl
theorem c45 {q : Prm} {x0 : AV} {H : AH} : callR (tblP q) 45 [x0] H = runR (tblP q) a45 [.code a45.body] (ainit [x0]) H := callR_of tbl45 (Nat.le_of_ble_eq_true rfl)
theorem b45 : a45.body = (.seq (.reg d45_0) (.block 0 (.loop l45_4))) := rfl
theorem s45 : a45.res = [] := rfl
theorem tblE_ok : ∀ f a, tblE f = some a → cfun Try.prog f = some a := by
  intro f a h
  unfold tblE at h
  split at h
  · cases h; exact a3_ok
  · cases h; exact a4_ok
  · cases h; exact a5_ok
  · cases h; exact a6_ok
  · cases h; exact a7_ok
  · cases h; exact a8_ok
  · cases h; exact a9_ok
  · cases h; exact a10_ok
  · cases h; exact a11_ok
  · cases h; exact a12_ok
  · cases h; exact a13_ok
  · cases h; exact a14_ok
  · cases h; exact a15_ok
  · cases h; exact a16_ok
  · cases h; exact a17_ok
  · cases h; exact a18_ok
  · cases h; exact a19_ok
  · cases h; exact a20_ok
  · cases h; exact a21_ok
  · cases h; exact a22_ok
  · cases h; exact a23_ok
  · cases h; exact a24_ok
  · cases h; exact a25_ok
  · cases h; exact a26_ok
  · cases h; exact a27_ok
  · cases h; exact a28_ok
  · cases h; exact a29_ok
  · cases h; exact a30_ok
  · cases h; exact a31_ok
  · cases h; exact a32_ok
  · cases h; exact a33_ok
  · cases h; exact a34_ok
  · cases h; exact a35_ok
  · cases h; exact a36_ok
  · cases h; exact a37_ok
  · cases h; exact a38_ok
  · cases h; exact a39_ok
  · cases h; exact a40_ok
  · cases h; exact a42_ok
  · cases h; exact a43_ok
  · cases h; exact a44_ok
  · cases h; exact a45_ok
  · cases h
theorem tblF_ok : ∀ f a, tblF f = some a → cfun Try.prog f = some a := by
  intro f a h
  unfold tblF at h
  split at h
  · cases h; exact a3_ok
  · cases h; exact a4_ok
  · cases h; exact a5_ok
  · cases h; exact a6_ok
  · cases h; exact a7_ok
  · cases h; exact a8_ok
  · cases h; exact a9_ok
  · cases h; exact a10_ok
  · cases h; exact a11_ok
  · cases h; exact a12_ok
  · cases h; exact a13_ok
  · cases h; exact a14_ok
  · cases h; exact a15_ok
  · cases h; exact a16_ok
  · cases h; exact a17_ok
  · cases h; exact a18_ok
  · cases h; exact a19_ok
  · cases h; exact a20_ok
  · cases h; exact a21_ok
  · cases h; exact a22_ok
  · cases h; exact a23_ok
  · cases h; exact a24_ok
  · cases h; exact a25_ok
  · cases h; exact a26_ok
  · cases h; exact a27_ok
  · cases h; exact a28_ok
  · cases h; exact a29_ok
  · cases h; exact a30_ok
  · cases h; exact a31_ok
  · cases h; exact a32_ok
  · cases h; exact a33_ok
  · cases h; exact a34_ok
  · cases h; exact a35_ok
  · cases h; exact a37_ok
  · cases h; exact a38_ok
  · cases h; exact a39_ok
  · cases h; exact a40_ok
  · cases h; exact a42_ok
  · cases h; exact a43_ok
  · cases h; exact a44_ok
  · cases h; exact a45_ok
  · cases h
end Go.Proofs.Ythcibbfljcfheaa.Abs
