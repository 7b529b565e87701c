/- The functions that the laws of this seat reach, in the plain machine's form, and that they are the loaded ones. Printed by a program of this seat's own (gencode.py). No condition of its own. -/
import Derived.Test.YtaolkpkaiidmeaaCode1
import Derived.Test.YtaolkpkaiidmeaaProg
import Derived.Test.YtaolkpkaiidmeaaAbs3
import Derived.Test.YtaolkpkaiidmeaaEval
import Derived.KernelRfl
namespace Go.Proofs.Ytaolkpkaiidmeaa.Abs
set_option linter.unusedVariables false
set_option maxRecDepth 100000
/-- math/bits.Len -/
def d36_0 : List AOper := [
  ⟨(some 2), none, (.val (.c (.i .i64 0)))⟩]
theorem r36_0 {fn : AFun} {K : List AItem} {t : Nat → AV} {H : AH} {T : Tbl} : runR T fn (.code (.reg d36_0) :: K) t H = regR T fn K (aops (callR T) [
  ⟨(some 2), none, (.val (.c (.i .i64 0)))⟩] t H) := runR_reg'
def d36_1 : List AOper := [
  ⟨(some 3), none, (.val (.t 0))⟩,
  ⟨(some 4), none, (.cvi .u32 (.t 3))⟩,
  ⟨(some 5), none, (.call 47 [(.t 4)])⟩,
  ⟨(some 2), none, (.val (.t 5))⟩]
theorem r36_1 {fn : AFun} {K : List AItem} {t : Nat → AV} {H : AH} {T : Tbl} : runR T fn (.code (.reg d36_1) :: K) t H = regR T fn K (aops (callR T) [
  ⟨(some 3), none, (.val (.t 0))⟩,
  ⟨(some 4), none, (.cvi .u32 (.t 3))⟩,
  ⟨(some 5), none, (.call 47 [(.t 4)])⟩,
  ⟨(some 2), none, (.val (.t 5))⟩] t H) := runR_reg'
def d36_2 : List AOper := [
  ⟨(some 6), none, (.val (.t 0))⟩,
  ⟨(some 7), none, (.call 48 [(.t 6)])⟩,
  ⟨(some 2), none, (.val (.t 7))⟩]
theorem r36_2 {fn : AFun} {K : List AItem} {t : Nat → AV} {H : AH} {T : Tbl} : runR T fn (.code (.reg d36_2) :: K) t H = regR T fn K (aops (callR T) [
  ⟨(some 6), none, (.val (.t 0))⟩,
  ⟨(some 7), none, (.call 48 [(.t 6)])⟩,
  ⟨(some 2), none, (.val (.t 7))⟩] t H) := runR_reg'
def a36 : AFun := ⟨8, [(.tmp 2)], (.seq (.reg d36_0) (.seq (.cond (.c (.b false)) (.seq (.reg d36_1) .ret) .skip) (.seq (.reg d36_2) .ret)))⟩
theorem a36_ok : cfun Try.prog 36 = some a36 := by kernel_rfl
/-- cmp.isNaN[int64] -/
def d37_0 : List AOper := [
  ⟨(some 2), none, (.val (.c (.b false)))⟩]
theorem r37_0 {fn : AFun} {K : List AItem} {t : Nat → AV} {H : AH} {T : Tbl} : runR T fn (.code (.reg d37_0) :: K) t H = regR T fn K (aops (callR T) [
  ⟨(some 2), none, (.val (.c (.b false)))⟩] t H) := runR_reg'
def d37_1 : List AOper := [
  ⟨(some 3), none, (.val (.t 0))⟩,
  ⟨(some 4), none, (.val (.t 0))⟩,
  ⟨(some 5), none, (.bin .neq (.t 3) (.t 4))⟩,
  ⟨(some 2), none, (.val (.t 5))⟩]
theorem r37_1 {fn : AFun} {K : List AItem} {t : Nat → AV} {H : AH} {T : Tbl} : runR T fn (.code (.reg d37_1) :: K) t H = regR T fn K (aops (callR T) [
  ⟨(some 3), none, (.val (.t 0))⟩,
  ⟨(some 4), none, (.val (.t 0))⟩,
  ⟨(some 5), none, (.bin .neq (.t 3) (.t 4))⟩,
  ⟨(some 2), none, (.val (.t 5))⟩] t H) := runR_reg'
def a37 : AFun := ⟨6, [(.tmp 2)], (.seq (.reg d37_0) (.seq (.reg d37_1) .ret))⟩
theorem a37_ok : cfun Try.prog 37 = some a37 := by kernel_rfl
/-- cmp.isNaN[int] -/
def d38_0 : List AOper := [
  ⟨(some 2), none, (.val (.c (.b false)))⟩]
theorem r38_0 {fn : AFun} {K : List AItem} {t : Nat → AV} {H : AH} {T : Tbl} : runR T fn (.code (.reg d38_0) :: K) t H = regR T fn K (aops (callR T) [
  ⟨(some 2), none, (.val (.c (.b false)))⟩] t H) := runR_reg'
def d38_1 : List AOper := [
  ⟨(some 3), none, (.val (.t 0))⟩,
  ⟨(some 4), none, (.val (.t 0))⟩,
  ⟨(some 5), none, (.bin .neq (.t 3) (.t 4))⟩,
  ⟨(some 2), none, (.val (.t 5))⟩]
theorem r38_1 {fn : AFun} {K : List AItem} {t : Nat → AV} {H : AH} {T : Tbl} : runR T fn (.code (.reg d38_1) :: K) t H = regR T fn K (aops (callR T) [
  ⟨(some 3), none, (.val (.t 0))⟩,
  ⟨(some 4), none, (.val (.t 0))⟩,
  ⟨(some 5), none, (.bin .neq (.t 3) (.t 4))⟩,
  ⟨(some 2), none, (.val (.t 5))⟩] t H) := runR_reg'
def a38 : AFun := ⟨6, [(.tmp 2)], (.seq (.reg d38_0) (.seq (.reg d38_1) .ret))⟩
theorem a38_ok : cfun Try.prog 38 = some a38 := by kernel_rfl
/-- slices.insertionSortCmpFunc[int] -/
def d39_0 : List AOper := [
  ⟨(some 10), none, (.val (.t 1))⟩,
  ⟨(some 11), none, (.bin .add (.t 10) (.c (.i .i64 1)))⟩,
  ⟨(some 8), none, (.val (.t 11))⟩]
theorem r39_0 {fn : AFun} {K : List AItem} {t : Nat → AV} {H : AH} {T : Tbl} : runR T fn (.code (.reg d39_0) :: K) t H = regR T fn K (aops (callR T) [
  ⟨(some 10), none, (.val (.t 1))⟩,
  ⟨(some 11), none, (.bin .add (.t 10) (.c (.i .i64 1)))⟩,
  ⟨(some 8), none, (.val (.t 11))⟩] t H) := runR_reg'
def d39_1 : List AOper := [
  ⟨(some 12), none, (.val (.t 8))⟩,
  ⟨(some 13), none, (.val (.t 2))⟩,
  ⟨(some 14), none, (.bin .lss (.t 12) (.t 13))⟩]
theorem r39_1 {fn : AFun} {K : List AItem} {t : Nat → AV} {H : AH} {T : Tbl} : runR T fn (.code (.reg d39_1) :: K) t H = regR T fn K (aops (callR T) [
  ⟨(some 12), none, (.val (.t 8))⟩,
  ⟨(some 13), none, (.val (.t 2))⟩,
  ⟨(some 14), none, (.bin .lss (.t 12) (.t 13))⟩] t H) := runR_reg'
def d39_2 : List AOper := [
  ⟨(some 17), none, (.val (.t 8))⟩,
  ⟨(some 9), none, (.val (.t 17))⟩]
theorem r39_2 {fn : AFun} {K : List AItem} {t : Nat → AV} {H : AH} {T : Tbl} : runR T fn (.code (.reg d39_2) :: K) t H = regR T fn K (aops (callR T) [
  ⟨(some 17), none, (.val (.t 8))⟩,
  ⟨(some 9), none, (.val (.t 17))⟩] t H) := runR_reg'
def d39_3 : List (AOper × List Nat) := [
  (⟨(some 18), none, (.val (.t 9))⟩, []),
  (⟨(some 19), none, (.val (.t 1))⟩, []),
  (⟨(some 20), none, (.bin .gtr (.t 18) (.t 19))⟩, []),
  (⟨(some 21), none, (.val (.t 20))⟩, []),
  (⟨(some 22), (some (21, true)), (.val (.t 3))⟩, []),
  (⟨(some 23), (some (21, true)), (.val (.t 0))⟩, []),
  (⟨(some 24), (some (21, true)), (.val (.t 9))⟩, []),
  (⟨(some 25), (some (21, true)), (.ia 1 (.t 23) (.t 24))⟩, []),
  (⟨(some 26), (some (21, true)), (.ld none (.t 25))⟩, [1]),
  (⟨(some 27), (some (21, true)), (.val (.t 0))⟩, []),
  (⟨(some 28), (some (21, true)), (.val (.t 9))⟩, []),
  (⟨(some 29), (some (21, true)), (.bin .sub (.t 28) (.c (.i .i64 1)))⟩, []),
  (⟨(some 30), (some (21, true)), (.ia 1 (.t 27) (.t 29))⟩, []),
  (⟨(some 31), (some (21, true)), (.ld none (.t 30))⟩, [1]),
  (⟨(some 32), (some (21, true)), (.callv (.t 22) [(.t 26), (.t 31)])⟩, []),
  (⟨(some 33), (some (21, true)), (.bin .lss (.t 32) (.c (.i .i64 0)))⟩, []),
  (⟨(some 34), none, (.pick (.t 21) (.t 33) (.c (.b false)))⟩, [])]
theorem r39_3 {fn : AFun} {K : List AItem} {t : Nat → AV} {H : AH} {T : Tbl} : runR T fn (.code (.drw d39_3) :: K) t H = regR T fn K (aops (callR T) [
  ⟨(some 18), none, (.val (.t 9))⟩,
  ⟨(some 19), none, (.val (.t 1))⟩,
  ⟨(some 20), none, (.bin .gtr (.t 18) (.t 19))⟩,
  ⟨(some 21), none, (.val (.t 20))⟩,
  ⟨(some 22), (some (21, true)), (.val (.t 3))⟩,
  ⟨(some 23), (some (21, true)), (.val (.t 0))⟩,
  ⟨(some 24), (some (21, true)), (.val (.t 9))⟩,
  ⟨(some 25), (some (21, true)), (.ia 1 (.t 23) (.t 24))⟩,
  ⟨(some 26), (some (21, true)), (.ld none (.t 25))⟩,
  ⟨(some 27), (some (21, true)), (.val (.t 0))⟩,
  ⟨(some 28), (some (21, true)), (.val (.t 9))⟩,
  ⟨(some 29), (some (21, true)), (.bin .sub (.t 28) (.c (.i .i64 1)))⟩,
  ⟨(some 30), (some (21, true)), (.ia 1 (.t 27) (.t 29))⟩,
  ⟨(some 31), (some (21, true)), (.ld none (.t 30))⟩,
  ⟨(some 32), (some (21, true)), (.callv (.t 22) [(.t 26), (.t 31)])⟩,
  ⟨(some 33), (some (21, true)), (.bin .lss (.t 32) (.c (.i .i64 0)))⟩,
  ⟨(some 34), none, (.pick (.t 21) (.t 33) (.c (.b false)))⟩] t H) := runR_plain rfl
def d39_4 : List (AOper × List Nat) := [
  (⟨(some 37), none, (.val (.t 0))⟩, []),
  (⟨(some 38), none, (.val (.t 9))⟩, []),
  (⟨(some 39), none, (.val (.t 0))⟩, []),
  (⟨(some 40), none, (.val (.t 9))⟩, []),
  (⟨(some 41), none, (.bin .sub (.t 40) (.c (.i .i64 1)))⟩, []),
  (⟨(some 42), none, (.val (.t 0))⟩, []),
  (⟨(some 43), none, (.val (.t 9))⟩, []),
  (⟨(some 44), none, (.bin .sub (.t 43) (.c (.i .i64 1)))⟩, []),
  (⟨(some 45), none, (.ia 1 (.t 42) (.t 44))⟩, []),
  (⟨(some 46), none, (.ld none (.t 45))⟩, [1]),
  (⟨(some 47), none, (.val (.t 0))⟩, []),
  (⟨(some 48), none, (.val (.t 9))⟩, []),
  (⟨(some 49), none, (.ia 1 (.t 47) (.t 48))⟩, []),
  (⟨(some 50), none, (.ld none (.t 49))⟩, [1]),
  (⟨(some 51), none, (.ia 1 (.t 37) (.t 38))⟩, []),
  (⟨none, none, (.st 1 (.t 51) (.t 46))⟩, []),
  (⟨(some 52), none, (.ia 1 (.t 39) (.t 41))⟩, []),
  (⟨none, none, (.st 1 (.t 52) (.t 50))⟩, [])]
theorem r39_4 {fn : AFun} {K : List AItem} {t : Nat → AV} {H : AH} {T : Tbl} : runR T fn (.code (.drw d39_4) :: K) t H = regR T fn K (aops (callR T) [
  ⟨(some 37), none, (.val (.t 0))⟩,
  ⟨(some 38), none, (.val (.t 9))⟩,
  ⟨(some 39), none, (.val (.t 0))⟩,
  ⟨(some 40), none, (.val (.t 9))⟩,
  ⟨(some 41), none, (.bin .sub (.t 40) (.c (.i .i64 1)))⟩,
  ⟨(some 42), none, (.val (.t 0))⟩,
  ⟨(some 43), none, (.val (.t 9))⟩,
  ⟨(some 44), none, (.bin .sub (.t 43) (.c (.i .i64 1)))⟩,
  ⟨(some 45), none, (.ia 1 (.t 42) (.t 44))⟩,
  ⟨(some 46), none, (.ld none (.t 45))⟩,
  ⟨(some 47), none, (.val (.t 0))⟩,
  ⟨(some 48), none, (.val (.t 9))⟩,
  ⟨(some 49), none, (.ia 1 (.t 47) (.t 48))⟩,
  ⟨(some 50), none, (.ld none (.t 49))⟩,
  ⟨(some 51), none, (.ia 1 (.t 37) (.t 38))⟩,
  ⟨none, none, (.st 1 (.t 51) (.t 46))⟩,
  ⟨(some 52), none, (.ia 1 (.t 39) (.t 41))⟩,
  ⟨none, none, (.st 1 (.t 52) (.t 50))⟩] t H) := runR_plain rfl
def d39_5 : List AOper := [
  ⟨(some 35), none, (.val (.t 9))⟩,
  ⟨(some 36), none, (.bin .sub (.t 35) (.c (.i .i64 1)))⟩,
  ⟨(some 9), none, (.val (.t 36))⟩]
theorem r39_5 {fn : AFun} {K : List AItem} {t : Nat → AV} {H : AH} {T : Tbl} : runR T fn (.code (.reg d39_5) :: K) t H = regR T fn K (aops (callR T) [
  ⟨(some 35), none, (.val (.t 9))⟩,
  ⟨(some 36), none, (.bin .sub (.t 35) (.c (.i .i64 1)))⟩,
  ⟨(some 9), none, (.val (.t 36))⟩] t H) := runR_reg'
def l39_6 : ACode := (.seq (.seq (.drw d39_3) (.cond (.t 34) .skip (.exit 2))) (.seq (.block 3 (.drw d39_4)) (.reg d39_5)))
def d39_7 : List AOper := [
  ⟨(some 15), none, (.val (.t 8))⟩,
  ⟨(some 16), none, (.bin .add (.t 15) (.c (.i .i64 1)))⟩,
  ⟨(some 8), none, (.val (.t 16))⟩]
theorem r39_7 {fn : AFun} {K : List AItem} {t : Nat → AV} {H : AH} {T : Tbl} : runR T fn (.code (.reg d39_7) :: K) t H = regR T fn K (aops (callR T) [
  ⟨(some 15), none, (.val (.t 8))⟩,
  ⟨(some 16), none, (.bin .add (.t 15) (.c (.i .i64 1)))⟩,
  ⟨(some 8), none, (.val (.t 16))⟩] t H) := runR_reg'
def l39_8 : ACode := (.seq (.seq (.reg d39_1) (.cond (.t 14) .skip (.exit 0))) (.seq (.block 1 (.seq (.reg d39_2) (.block 2 (.loop l39_6)))) (.reg d39_7)))
def a39 : AFun := ⟨53, [], (.seq (.reg d39_0) (.block 0 (.loop l39_8)))⟩
theorem a39_ok : cfun Try.prog 39 = some a39 := by kernel_rfl
/-- slices.heapSortCmpFunc[int] -/
def d40_0 : List AOper := [
  ⟨(some 13), none, (.val (.t 1))⟩,
  ⟨(some 8), none, (.val (.t 13))⟩]
theorem r40_0 {fn : AFun} {K : List AItem} {t : Nat → AV} {H : AH} {T : Tbl} : runR T fn (.code (.reg d40_0) :: K) t H = regR T fn K (aops (callR T) [
  ⟨(some 13), none, (.val (.t 1))⟩,
  ⟨(some 8), none, (.val (.t 13))⟩] t H) := runR_reg'
def d40_1 : List AOper := [
  ⟨(some 9), none, (.val (.c (.i .i64 0)))⟩]
theorem r40_1 {fn : AFun} {K : List AItem} {t : Nat → AV} {H : AH} {T : Tbl} : runR T fn (.code (.reg d40_1) :: K) t H = regR T fn K (aops (callR T) [
  ⟨(some 9), none, (.val (.c (.i .i64 0)))⟩] t H) := runR_reg'
def d40_2 : List AOper := [
  ⟨(some 14), none, (.val (.t 2))⟩,
  ⟨(some 15), none, (.val (.t 1))⟩,
  ⟨(some 16), none, (.bin .sub (.t 14) (.t 15))⟩,
  ⟨(some 10), none, (.val (.t 16))⟩]
theorem r40_2 {fn : AFun} {K : List AItem} {t : Nat → AV} {H : AH} {T : Tbl} : runR T fn (.code (.reg d40_2) :: K) t H = regR T fn K (aops (callR T) [
  ⟨(some 14), none, (.val (.t 2))⟩,
  ⟨(some 15), none, (.val (.t 1))⟩,
  ⟨(some 16), none, (.bin .sub (.t 14) (.t 15))⟩,
  ⟨(some 10), none, (.val (.t 16))⟩] t H) := runR_reg'
def d40_3 : List AOper := [
  ⟨(some 17), none, (.val (.t 10))⟩,
  ⟨(some 18), none, (.bin .sub (.t 17) (.c (.i .i64 1)))⟩,
  ⟨(some 19), none, (.bin .quo (.t 18) (.c (.i .i64 2)))⟩,
  ⟨(some 11), none, (.val (.t 19))⟩]
theorem r40_3 {fn : AFun} {K : List AItem} {t : Nat → AV} {H : AH} {T : Tbl} : runR T fn (.code (.reg d40_3) :: K) t H = regR T fn K (aops (callR T) [
  ⟨(some 17), none, (.val (.t 10))⟩,
  ⟨(some 18), none, (.bin .sub (.t 17) (.c (.i .i64 1)))⟩,
  ⟨(some 19), none, (.bin .quo (.t 18) (.c (.i .i64 2)))⟩,
  ⟨(some 11), none, (.val (.t 19))⟩] t H) := runR_reg'
def d40_4 : List AOper := [
  ⟨(some 20), none, (.val (.t 11))⟩,
  ⟨(some 21), none, (.bin .geq (.t 20) (.c (.i .i64 0)))⟩]
theorem r40_4 {fn : AFun} {K : List AItem} {t : Nat → AV} {H : AH} {T : Tbl} : runR T fn (.code (.reg d40_4) :: K) t H = regR T fn K (aops (callR T) [
  ⟨(some 20), none, (.val (.t 11))⟩,
  ⟨(some 21), none, (.bin .geq (.t 20) (.c (.i .i64 0)))⟩] t H) := runR_reg'
def d40_5 : List AOper := [
  ⟨(some 24), none, (.val (.t 0))⟩,
  ⟨(some 25), none, (.val (.t 11))⟩,
  ⟨(some 26), none, (.val (.t 10))⟩,
  ⟨(some 27), none, (.val (.t 8))⟩,
  ⟨(some 28), none, (.val (.t 3))⟩,
  ⟨(some 29), none, (.call 49 [(.t 24), (.t 25), (.t 26), (.t 27), (.t 28)])⟩]
theorem r40_5 {fn : AFun} {K : List AItem} {t : Nat → AV} {H : AH} {T : Tbl} : runR T fn (.code (.reg d40_5) :: K) t H = regR T fn K (aops (callR T) [
  ⟨(some 24), none, (.val (.t 0))⟩,
  ⟨(some 25), none, (.val (.t 11))⟩,
  ⟨(some 26), none, (.val (.t 10))⟩,
  ⟨(some 27), none, (.val (.t 8))⟩,
  ⟨(some 28), none, (.val (.t 3))⟩,
  ⟨(some 29), none, (.call 49 [(.t 24), (.t 25), (.t 26), (.t 27), (.t 28)])⟩] t H) := runR_reg'
def d40_6 : List AOper := [
  ⟨(some 22), none, (.val (.t 11))⟩,
  ⟨(some 23), none, (.bin .sub (.t 22) (.c (.i .i64 1)))⟩,
  ⟨(some 11), none, (.val (.t 23))⟩]
theorem r40_6 {fn : AFun} {K : List AItem} {t : Nat → AV} {H : AH} {T : Tbl} : runR T fn (.code (.reg d40_6) :: K) t H = regR T fn K (aops (callR T) [
  ⟨(some 22), none, (.val (.t 11))⟩,
  ⟨(some 23), none, (.bin .sub (.t 22) (.c (.i .i64 1)))⟩,
  ⟨(some 11), none, (.val (.t 23))⟩] t H) := runR_reg'
def l40_7 : ACode := (.seq (.seq (.reg d40_4) (.cond (.t 21) .skip (.exit 0))) (.seq (.block 1 (.reg d40_5)) (.reg d40_6)))
def d40_8 : List AOper := [
  ⟨(some 30), none, (.val (.t 10))⟩,
  ⟨(some 31), none, (.bin .sub (.t 30) (.c (.i .i64 1)))⟩,
  ⟨(some 12), none, (.val (.t 31))⟩]
theorem r40_8 {fn : AFun} {K : List AItem} {t : Nat → AV} {H : AH} {T : Tbl} : runR T fn (.code (.reg d40_8) :: K) t H = regR T fn K (aops (callR T) [
  ⟨(some 30), none, (.val (.t 10))⟩,
  ⟨(some 31), none, (.bin .sub (.t 30) (.c (.i .i64 1)))⟩,
  ⟨(some 12), none, (.val (.t 31))⟩] t H) := runR_reg'
def d40_9 : List AOper := [
  ⟨(some 32), none, (.val (.t 12))⟩,
  ⟨(some 33), none, (.bin .geq (.t 32) (.c (.i .i64 0)))⟩]
theorem r40_9 {fn : AFun} {K : List AItem} {t : Nat → AV} {H : AH} {T : Tbl} : runR T fn (.code (.reg d40_9) :: K) t H = regR T fn K (aops (callR T) [
  ⟨(some 32), none, (.val (.t 12))⟩,
  ⟨(some 33), none, (.bin .geq (.t 32) (.c (.i .i64 0)))⟩] t H) := runR_reg'
def d40_10 : List (AOper × List Nat) := [
  (⟨(some 36), none, (.val (.t 0))⟩, []),
  (⟨(some 37), none, (.val (.t 8))⟩, []),
  (⟨(some 38), none, (.val (.t 0))⟩, []),
  (⟨(some 39), none, (.val (.t 8))⟩, []),
  (⟨(some 40), none, (.val (.t 12))⟩, []),
  (⟨(some 41), none, (.bin .add (.t 39) (.t 40))⟩, []),
  (⟨(some 42), none, (.val (.t 0))⟩, []),
  (⟨(some 43), none, (.val (.t 8))⟩, []),
  (⟨(some 44), none, (.val (.t 12))⟩, []),
  (⟨(some 45), none, (.bin .add (.t 43) (.t 44))⟩, []),
  (⟨(some 46), none, (.ia 1 (.t 42) (.t 45))⟩, []),
  (⟨(some 47), none, (.ld none (.t 46))⟩, [1]),
  (⟨(some 48), none, (.val (.t 0))⟩, []),
  (⟨(some 49), none, (.val (.t 8))⟩, []),
  (⟨(some 50), none, (.ia 1 (.t 48) (.t 49))⟩, []),
  (⟨(some 51), none, (.ld none (.t 50))⟩, [1]),
  (⟨(some 52), none, (.ia 1 (.t 36) (.t 37))⟩, []),
  (⟨none, none, (.st 1 (.t 52) (.t 47))⟩, []),
  (⟨(some 53), none, (.ia 1 (.t 38) (.t 41))⟩, []),
  (⟨none, none, (.st 1 (.t 53) (.t 51))⟩, [])]
theorem r40_10 {fn : AFun} {K : List AItem} {t : Nat → AV} {H : AH} {T : Tbl} : runR T fn (.code (.drw d40_10) :: K) t H = regR T fn K (aops (callR T) [
  ⟨(some 36), none, (.val (.t 0))⟩,
  ⟨(some 37), none, (.val (.t 8))⟩,
  ⟨(some 38), none, (.val (.t 0))⟩,
  ⟨(some 39), none, (.val (.t 8))⟩,
  ⟨(some 40), none, (.val (.t 12))⟩,
  ⟨(some 41), none, (.bin .add (.t 39) (.t 40))⟩,
  ⟨(some 42), none, (.val (.t 0))⟩,
  ⟨(some 43), none, (.val (.t 8))⟩,
  ⟨(some 44), none, (.val (.t 12))⟩,
  ⟨(some 45), none, (.bin .add (.t 43) (.t 44))⟩,
  ⟨(some 46), none, (.ia 1 (.t 42) (.t 45))⟩,
  ⟨(some 47), none, (.ld none (.t 46))⟩,
  ⟨(some 48), none, (.val (.t 0))⟩,
  ⟨(some 49), none, (.val (.t 8))⟩,
  ⟨(some 50), none, (.ia 1 (.t 48) (.t 49))⟩,
  ⟨(some 51), none, (.ld none (.t 50))⟩,
  ⟨(some 52), none, (.ia 1 (.t 36) (.t 37))⟩,
  ⟨none, none, (.st 1 (.t 52) (.t 47))⟩,
  ⟨(some 53), none, (.ia 1 (.t 38) (.t 41))⟩,
  ⟨none, none, (.st 1 (.t 53) (.t 51))⟩] t H) := runR_plain rfl
def d40_11 : List AOper := [
  ⟨(some 54), none, (.val (.t 0))⟩,
  ⟨(some 55), none, (.val (.t 9))⟩,
  ⟨(some 56), none, (.val (.t 12))⟩,
  ⟨(some 57), none, (.val (.t 8))⟩,
  ⟨(some 58), none, (.val (.t 3))⟩,
  ⟨(some 59), none, (.call 49 [(.t 54), (.t 55), (.t 56), (.t 57), (.t 58)])⟩]
theorem r40_11 {fn : AFun} {K : List AItem} {t : Nat → AV} {H : AH} {T : Tbl} : runR T fn (.code (.reg d40_11) :: K) t H = regR T fn K (aops (callR T) [
  ⟨(some 54), none, (.val (.t 0))⟩,
  ⟨(some 55), none, (.val (.t 9))⟩,
  ⟨(some 56), none, (.val (.t 12))⟩,
  ⟨(some 57), none, (.val (.t 8))⟩,
  ⟨(some 58), none, (.val (.t 3))⟩,
  ⟨(some 59), none, (.call 49 [(.t 54), (.t 55), (.t 56), (.t 57), (.t 58)])⟩] t H) := runR_reg'
def d40_12 : List AOper := [
  ⟨(some 34), none, (.val (.t 12))⟩,
  ⟨(some 35), none, (.bin .sub (.t 34) (.c (.i .i64 1)))⟩,
  ⟨(some 12), none, (.val (.t 35))⟩]
theorem r40_12 {fn : AFun} {K : List AItem} {t : Nat → AV} {H : AH} {T : Tbl} : runR T fn (.code (.reg d40_12) :: K) t H = regR T fn K (aops (callR T) [
  ⟨(some 34), none, (.val (.t 12))⟩,
  ⟨(some 35), none, (.bin .sub (.t 34) (.c (.i .i64 1)))⟩,
  ⟨(some 12), none, (.val (.t 35))⟩] t H) := runR_reg'
def l40_13 : ACode := (.seq (.seq (.reg d40_9) (.cond (.t 33) .skip (.exit 2))) (.seq (.block 3 (.seq (.drw d40_10) (.reg d40_11))) (.reg d40_12)))
def a40 : AFun := ⟨60, [], (.seq (.reg d40_0) (.seq (.reg d40_1) (.seq (.reg d40_2) (.seq (.seq (.reg d40_3) (.block 0 (.loop l40_7))) (.seq (.reg d40_8) (.block 2 (.loop l40_13)))))))⟩
theorem a40_ok : cfun Try.prog 40 = some a40 := by kernel_rfl
/-- slices.breakPatternsCmpFunc[int] -/
def d41_0 : List AOper := [
  ⟨(some 13), none, (.val (.t 2))⟩,
  ⟨(some 14), none, (.val (.t 1))⟩,
  ⟨(some 15), none, (.bin .sub (.t 13) (.t 14))⟩,
  ⟨(some 8), none, (.val (.t 15))⟩]
theorem r41_0 {fn : AFun} {K : List AItem} {t : Nat → AV} {H : AH} {T : Tbl} : runR T fn (.code (.reg d41_0) :: K) t H = regR T fn K (aops (callR T) [
  ⟨(some 13), none, (.val (.t 2))⟩,
  ⟨(some 14), none, (.val (.t 1))⟩,
  ⟨(some 15), none, (.bin .sub (.t 13) (.t 14))⟩,
  ⟨(some 8), none, (.val (.t 15))⟩] t H) := runR_reg'
def d41_1 : List AOper := [
  ⟨(some 16), none, (.val (.t 8))⟩,
  ⟨(some 17), none, (.bin .geq (.t 16) (.c (.i .i64 8)))⟩]
theorem r41_1 {fn : AFun} {K : List AItem} {t : Nat → AV} {H : AH} {T : Tbl} : runR T fn (.code (.reg d41_1) :: K) t H = regR T fn K (aops (callR T) [
  ⟨(some 16), none, (.val (.t 8))⟩,
  ⟨(some 17), none, (.bin .geq (.t 16) (.c (.i .i64 8)))⟩] t H) := runR_reg'
def d41_2 : List AOper := [
  ⟨(some 18), none, (.val (.t 8))⟩,
  ⟨(some 19), none, (.cvi .u64 (.t 18))⟩,
  ⟨(some 9), none, (.alloc [(.i .u64 0)])⟩,
  ⟨none, none, (.st 1 (.t 9) (.t 19))⟩]
theorem r41_2 {fn : AFun} {K : List AItem} {t : Nat → AV} {H : AH} {T : Tbl} : runR T fn (.code (.reg d41_2) :: K) t H = regR T fn K (aops (callR T) [
  ⟨(some 18), none, (.val (.t 8))⟩,
  ⟨(some 19), none, (.cvi .u64 (.t 18))⟩,
  ⟨(some 9), none, (.alloc [(.i .u64 0)])⟩,
  ⟨none, none, (.st 1 (.t 9) (.t 19))⟩] t H) := runR_reg'
def d41_3 : List AOper := [
  ⟨(some 20), none, (.val (.t 8))⟩,
  ⟨(some 21), none, (.call 50 [(.t 20)])⟩,
  ⟨(some 10), none, (.val (.t 21))⟩]
theorem r41_3 {fn : AFun} {K : List AItem} {t : Nat → AV} {H : AH} {T : Tbl} : runR T fn (.code (.reg d41_3) :: K) t H = regR T fn K (aops (callR T) [
  ⟨(some 20), none, (.val (.t 8))⟩,
  ⟨(some 21), none, (.call 50 [(.t 20)])⟩,
  ⟨(some 10), none, (.val (.t 21))⟩] t H) := runR_reg'
def d41_4 : List AOper := [
  ⟨(some 22), none, (.val (.t 1))⟩,
  ⟨(some 23), none, (.val (.t 8))⟩,
  ⟨(some 24), none, (.bin .quo (.t 23) (.c (.i .i64 4)))⟩,
  ⟨(some 25), none, (.bin .mul (.t 24) (.c (.i .i64 2)))⟩,
  ⟨(some 26), none, (.bin .add (.t 22) (.t 25))⟩,
  ⟨(some 27), none, (.bin .sub (.t 26) (.c (.i .i64 1)))⟩,
  ⟨(some 11), none, (.val (.t 27))⟩]
theorem r41_4 {fn : AFun} {K : List AItem} {t : Nat → AV} {H : AH} {T : Tbl} : runR T fn (.code (.reg d41_4) :: K) t H = regR T fn K (aops (callR T) [
  ⟨(some 22), none, (.val (.t 1))⟩,
  ⟨(some 23), none, (.val (.t 8))⟩,
  ⟨(some 24), none, (.bin .quo (.t 23) (.c (.i .i64 4)))⟩,
  ⟨(some 25), none, (.bin .mul (.t 24) (.c (.i .i64 2)))⟩,
  ⟨(some 26), none, (.bin .add (.t 22) (.t 25))⟩,
  ⟨(some 27), none, (.bin .sub (.t 26) (.c (.i .i64 1)))⟩,
  ⟨(some 11), none, (.val (.t 27))⟩] t H) := runR_reg'
def d41_5 : List AOper := [
  ⟨(some 28), none, (.val (.t 11))⟩,
  ⟨(some 29), none, (.val (.t 1))⟩,
  ⟨(some 30), none, (.val (.t 8))⟩,
  ⟨(some 31), none, (.bin .quo (.t 30) (.c (.i .i64 4)))⟩,
  ⟨(some 32), none, (.bin .mul (.t 31) (.c (.i .i64 2)))⟩,
  ⟨(some 33), none, (.bin .add (.t 29) (.t 32))⟩,
  ⟨(some 34), none, (.bin .add (.t 33) (.c (.i .i64 1)))⟩,
  ⟨(some 35), none, (.bin .leq (.t 28) (.t 34))⟩]
theorem r41_5 {fn : AFun} {K : List AItem} {t : Nat → AV} {H : AH} {T : Tbl} : runR T fn (.code (.reg d41_5) :: K) t H = regR T fn K (aops (callR T) [
  ⟨(some 28), none, (.val (.t 11))⟩,
  ⟨(some 29), none, (.val (.t 1))⟩,
  ⟨(some 30), none, (.val (.t 8))⟩,
  ⟨(some 31), none, (.bin .quo (.t 30) (.c (.i .i64 4)))⟩,
  ⟨(some 32), none, (.bin .mul (.t 31) (.c (.i .i64 2)))⟩,
  ⟨(some 33), none, (.bin .add (.t 29) (.t 32))⟩,
  ⟨(some 34), none, (.bin .add (.t 33) (.c (.i .i64 1)))⟩,
  ⟨(some 35), none, (.bin .leq (.t 28) (.t 34))⟩] t H) := runR_reg'
def d41_6 : List AOper := [
  ⟨(some 38), none, (.call 51 [(.t 9)])⟩,
  ⟨(some 39), none, (.val (.t 10))⟩,
  ⟨(some 40), none, (.bin .sub (.t 39) (.c (.i .u64 1)))⟩,
  ⟨(some 41), none, (.bin .and (.t 38) (.t 40))⟩,
  ⟨(some 42), none, (.cvi .i64 (.t 41))⟩,
  ⟨(some 12), none, (.val (.t 42))⟩]
theorem r41_6 {fn : AFun} {K : List AItem} {t : Nat → AV} {H : AH} {T : Tbl} : runR T fn (.code (.reg d41_6) :: K) t H = regR T fn K (aops (callR T) [
  ⟨(some 38), none, (.call 51 [(.t 9)])⟩,
  ⟨(some 39), none, (.val (.t 10))⟩,
  ⟨(some 40), none, (.bin .sub (.t 39) (.c (.i .u64 1)))⟩,
  ⟨(some 41), none, (.bin .and (.t 38) (.t 40))⟩,
  ⟨(some 42), none, (.cvi .i64 (.t 41))⟩,
  ⟨(some 12), none, (.val (.t 42))⟩] t H) := runR_reg'
def d41_7 : List AOper := [
  ⟨(some 43), none, (.val (.t 12))⟩,
  ⟨(some 44), none, (.val (.t 8))⟩,
  ⟨(some 45), none, (.bin .geq (.t 43) (.t 44))⟩]
theorem r41_7 {fn : AFun} {K : List AItem} {t : Nat → AV} {H : AH} {T : Tbl} : runR T fn (.code (.reg d41_7) :: K) t H = regR T fn K (aops (callR T) [
  ⟨(some 43), none, (.val (.t 12))⟩,
  ⟨(some 44), none, (.val (.t 8))⟩,
  ⟨(some 45), none, (.bin .geq (.t 43) (.t 44))⟩] t H) := runR_reg'
def d41_8 : List AOper := [
  ⟨(some 46), none, (.val (.t 12))⟩,
  ⟨(some 47), none, (.val (.t 8))⟩,
  ⟨(some 48), none, (.bin .sub (.t 46) (.t 47))⟩,
  ⟨(some 12), none, (.val (.t 48))⟩]
theorem r41_8 {fn : AFun} {K : List AItem} {t : Nat → AV} {H : AH} {T : Tbl} : runR T fn (.code (.reg d41_8) :: K) t H = regR T fn K (aops (callR T) [
  ⟨(some 46), none, (.val (.t 12))⟩,
  ⟨(some 47), none, (.val (.t 8))⟩,
  ⟨(some 48), none, (.bin .sub (.t 46) (.t 47))⟩,
  ⟨(some 12), none, (.val (.t 48))⟩] t H) := runR_reg'
def d41_9 : List (AOper × List Nat) := [
  (⟨(some 49), none, (.val (.t 0))⟩, []),
  (⟨(some 50), none, (.val (.t 11))⟩, []),
  (⟨(some 51), none, (.val (.t 0))⟩, []),
  (⟨(some 52), none, (.val (.t 1))⟩, []),
  (⟨(some 53), none, (.val (.t 12))⟩, []),
  (⟨(some 54), none, (.bin .add (.t 52) (.t 53))⟩, []),
  (⟨(some 55), none, (.val (.t 0))⟩, []),
  (⟨(some 56), none, (.val (.t 1))⟩, []),
  (⟨(some 57), none, (.val (.t 12))⟩, []),
  (⟨(some 58), none, (.bin .add (.t 56) (.t 57))⟩, []),
  (⟨(some 59), none, (.ia 1 (.t 55) (.t 58))⟩, []),
  (⟨(some 60), none, (.ld none (.t 59))⟩, [1]),
  (⟨(some 61), none, (.val (.t 0))⟩, []),
  (⟨(some 62), none, (.val (.t 11))⟩, []),
  (⟨(some 63), none, (.ia 1 (.t 61) (.t 62))⟩, []),
  (⟨(some 64), none, (.ld none (.t 63))⟩, [1]),
  (⟨(some 65), none, (.ia 1 (.t 49) (.t 50))⟩, []),
  (⟨none, none, (.st 1 (.t 65) (.t 60))⟩, []),
  (⟨(some 66), none, (.ia 1 (.t 51) (.t 54))⟩, []),
  (⟨none, none, (.st 1 (.t 66) (.t 64))⟩, [])]
theorem r41_9 {fn : AFun} {K : List AItem} {t : Nat → AV} {H : AH} {T : Tbl} : runR T fn (.code (.drw d41_9) :: K) t H = regR T fn K (aops (callR T) [
  ⟨(some 49), none, (.val (.t 0))⟩,
  ⟨(some 50), none, (.val (.t 11))⟩,
  ⟨(some 51), none, (.val (.t 0))⟩,
  ⟨(some 52), none, (.val (.t 1))⟩,
  ⟨(some 53), none, (.val (.t 12))⟩,
  ⟨(some 54), none, (.bin .add (.t 52) (.t 53))⟩,
  ⟨(some 55), none, (.val (.t 0))⟩,
  ⟨(some 56), none, (.val (.t 1))⟩,
  ⟨(some 57), none, (.val (.t 12))⟩,
  ⟨(some 58), none, (.bin .add (.t 56) (.t 57))⟩,
  ⟨(some 59), none, (.ia 1 (.t 55) (.t 58))⟩,
  ⟨(some 60), none, (.ld none (.t 59))⟩,
  ⟨(some 61), none, (.val (.t 0))⟩,
  ⟨(some 62), none, (.val (.t 11))⟩,
  ⟨(some 63), none, (.ia 1 (.t 61) (.t 62))⟩,
  ⟨(some 64), none, (.ld none (.t 63))⟩,
  ⟨(some 65), none, (.ia 1 (.t 49) (.t 50))⟩,
  ⟨none, none, (.st 1 (.t 65) (.t 60))⟩,
  ⟨(some 66), none, (.ia 1 (.t 51) (.t 54))⟩,
  ⟨none, none, (.st 1 (.t 66) (.t 64))⟩] t H) := runR_plain rfl
def d41_10 : List AOper := [
  ⟨(some 36), none, (.val (.t 11))⟩,
  ⟨(some 37), none, (.bin .add (.t 36) (.c (.i .i64 1)))⟩,
  ⟨(some 11), none, (.val (.t 37))⟩]
theorem r41_10 {fn : AFun} {K : List AItem} {t : Nat → AV} {H : AH} {T : Tbl} : runR T fn (.code (.reg d41_10) :: K) t H = regR T fn K (aops (callR T) [
  ⟨(some 36), none, (.val (.t 11))⟩,
  ⟨(some 37), none, (.bin .add (.t 36) (.c (.i .i64 1)))⟩,
  ⟨(some 11), none, (.val (.t 37))⟩] t H) := runR_reg'
def l41_11 : ACode := (.seq (.seq (.reg d41_5) (.cond (.t 35) .skip (.exit 0))) (.seq (.block 1 (.seq (.reg d41_6) (.seq (.seq (.reg d41_7) (.cond (.t 45) (.reg d41_8) .skip)) (.drw d41_9)))) (.reg d41_10)))
def a41 : AFun := ⟨67, [], (.seq (.reg d41_0) (.seq (.reg d41_1) (.cond (.t 17) (.seq (.reg d41_2) (.seq (.reg d41_3) (.seq (.reg d41_4) (.block 0 (.loop l41_11))))) .skip)))⟩
theorem a41_ok : cfun Try.prog 41 = some a41 := by kernel_rfl
/-- slices.choosePivotCmpFunc[int] -/
def d42_0 : List AOper := [
  ⟨(some 8), none, (.val (.c (.i .i64 0)))⟩,
  ⟨(some 9), none, (.val (.c (.i .i64 0)))⟩]
theorem r42_0 {fn : AFun} {K : List AItem} {t : Nat → AV} {H : AH} {T : Tbl} : runR T fn (.code (.reg d42_0) :: K) t H = regR T fn K (aops (callR T) [
  ⟨(some 8), none, (.val (.c (.i .i64 0)))⟩,
  ⟨(some 9), none, (.val (.c (.i .i64 0)))⟩] t H) := runR_reg'
def d42_1 : List AOper := [
  ⟨(some 15), none, (.val (.t 2))⟩,
  ⟨(some 16), none, (.val (.t 1))⟩,
  ⟨(some 17), none, (.bin .sub (.t 15) (.t 16))⟩,
  ⟨(some 10), none, (.val (.t 17))⟩]
theorem r42_1 {fn : AFun} {K : List AItem} {t : Nat → AV} {H : AH} {T : Tbl} : runR T fn (.code (.reg d42_1) :: K) t H = regR T fn K (aops (callR T) [
  ⟨(some 15), none, (.val (.t 2))⟩,
  ⟨(some 16), none, (.val (.t 1))⟩,
  ⟨(some 17), none, (.bin .sub (.t 15) (.t 16))⟩,
  ⟨(some 10), none, (.val (.t 17))⟩] t H) := runR_reg'
def d42_2 : List AOper := [
  ⟨(some 11), none, (.alloc [(.i .i64 0)])⟩]
theorem r42_2 {fn : AFun} {K : List AItem} {t : Nat → AV} {H : AH} {T : Tbl} : runR T fn (.code (.reg d42_2) :: K) t H = regR T fn K (aops (callR T) [
  ⟨(some 11), none, (.alloc [(.i .i64 0)])⟩] t H) := runR_reg'
def d42_3 : List AOper := [
  ⟨(some 18), none, (.val (.t 1))⟩,
  ⟨(some 19), none, (.val (.t 10))⟩,
  ⟨(some 20), none, (.bin .quo (.t 19) (.c (.i .i64 4)))⟩,
  ⟨(some 21), none, (.bin .mul (.t 20) (.c (.i .i64 1)))⟩,
  ⟨(some 22), none, (.bin .add (.t 18) (.t 21))⟩,
  ⟨(some 12), none, (.val (.t 22))⟩]
theorem r42_3 {fn : AFun} {K : List AItem} {t : Nat → AV} {H : AH} {T : Tbl} : runR T fn (.code (.reg d42_3) :: K) t H = regR T fn K (aops (callR T) [
  ⟨(some 18), none, (.val (.t 1))⟩,
  ⟨(some 19), none, (.val (.t 10))⟩,
  ⟨(some 20), none, (.bin .quo (.t 19) (.c (.i .i64 4)))⟩,
  ⟨(some 21), none, (.bin .mul (.t 20) (.c (.i .i64 1)))⟩,
  ⟨(some 22), none, (.bin .add (.t 18) (.t 21))⟩,
  ⟨(some 12), none, (.val (.t 22))⟩] t H) := runR_reg'
def d42_4 : List AOper := [
  ⟨(some 23), none, (.val (.t 1))⟩,
  ⟨(some 24), none, (.val (.t 10))⟩,
  ⟨(some 25), none, (.bin .quo (.t 24) (.c (.i .i64 4)))⟩,
  ⟨(some 26), none, (.bin .mul (.t 25) (.c (.i .i64 2)))⟩,
  ⟨(some 27), none, (.bin .add (.t 23) (.t 26))⟩,
  ⟨(some 13), none, (.val (.t 27))⟩]
theorem r42_4 {fn : AFun} {K : List AItem} {t : Nat → AV} {H : AH} {T : Tbl} : runR T fn (.code (.reg d42_4) :: K) t H = regR T fn K (aops (callR T) [
  ⟨(some 23), none, (.val (.t 1))⟩,
  ⟨(some 24), none, (.val (.t 10))⟩,
  ⟨(some 25), none, (.bin .quo (.t 24) (.c (.i .i64 4)))⟩,
  ⟨(some 26), none, (.bin .mul (.t 25) (.c (.i .i64 2)))⟩,
  ⟨(some 27), none, (.bin .add (.t 23) (.t 26))⟩,
  ⟨(some 13), none, (.val (.t 27))⟩] t H) := runR_reg'
def d42_5 : List AOper := [
  ⟨(some 28), none, (.val (.t 1))⟩,
  ⟨(some 29), none, (.val (.t 10))⟩,
  ⟨(some 30), none, (.bin .quo (.t 29) (.c (.i .i64 4)))⟩,
  ⟨(some 31), none, (.bin .mul (.t 30) (.c (.i .i64 3)))⟩,
  ⟨(some 32), none, (.bin .add (.t 28) (.t 31))⟩,
  ⟨(some 14), none, (.val (.t 32))⟩]
theorem r42_5 {fn : AFun} {K : List AItem} {t : Nat → AV} {H : AH} {T : Tbl} : runR T fn (.code (.reg d42_5) :: K) t H = regR T fn K (aops (callR T) [
  ⟨(some 28), none, (.val (.t 1))⟩,
  ⟨(some 29), none, (.val (.t 10))⟩,
  ⟨(some 30), none, (.bin .quo (.t 29) (.c (.i .i64 4)))⟩,
  ⟨(some 31), none, (.bin .mul (.t 30) (.c (.i .i64 3)))⟩,
  ⟨(some 32), none, (.bin .add (.t 28) (.t 31))⟩,
  ⟨(some 14), none, (.val (.t 32))⟩] t H) := runR_reg'
def d42_6 : List AOper := [
  ⟨(some 33), none, (.val (.t 10))⟩,
  ⟨(some 34), none, (.bin .geq (.t 33) (.c (.i .i64 8)))⟩]
theorem r42_6 {fn : AFun} {K : List AItem} {t : Nat → AV} {H : AH} {T : Tbl} : runR T fn (.code (.reg d42_6) :: K) t H = regR T fn K (aops (callR T) [
  ⟨(some 33), none, (.val (.t 10))⟩,
  ⟨(some 34), none, (.bin .geq (.t 33) (.c (.i .i64 8)))⟩] t H) := runR_reg'
def d42_7 : List AOper := [
  ⟨(some 35), none, (.val (.t 10))⟩,
  ⟨(some 36), none, (.bin .geq (.t 35) (.c (.i .i64 50)))⟩]
theorem r42_7 {fn : AFun} {K : List AItem} {t : Nat → AV} {H : AH} {T : Tbl} : runR T fn (.code (.reg d42_7) :: K) t H = regR T fn K (aops (callR T) [
  ⟨(some 35), none, (.val (.t 10))⟩,
  ⟨(some 36), none, (.bin .geq (.t 35) (.c (.i .i64 50)))⟩] t H) := runR_reg'
def d42_8 : List AOper := [
  ⟨(some 37), none, (.val (.t 0))⟩,
  ⟨(some 38), none, (.val (.t 12))⟩,
  ⟨(some 39), none, (.val (.t 3))⟩,
  ⟨(some 40), none, (.call 52 [(.t 37), (.t 38), (.t 11), (.t 39)])⟩,
  ⟨(some 12), none, (.val (.t 40))⟩]
theorem r42_8 {fn : AFun} {K : List AItem} {t : Nat → AV} {H : AH} {T : Tbl} : runR T fn (.code (.reg d42_8) :: K) t H = regR T fn K (aops (callR T) [
  ⟨(some 37), none, (.val (.t 0))⟩,
  ⟨(some 38), none, (.val (.t 12))⟩,
  ⟨(some 39), none, (.val (.t 3))⟩,
  ⟨(some 40), none, (.call 52 [(.t 37), (.t 38), (.t 11), (.t 39)])⟩,
  ⟨(some 12), none, (.val (.t 40))⟩] t H) := runR_reg'
def d42_9 : List AOper := [
  ⟨(some 41), none, (.val (.t 0))⟩,
  ⟨(some 42), none, (.val (.t 13))⟩,
  ⟨(some 43), none, (.val (.t 3))⟩,
  ⟨(some 44), none, (.call 52 [(.t 41), (.t 42), (.t 11), (.t 43)])⟩,
  ⟨(some 13), none, (.val (.t 44))⟩]
theorem r42_9 {fn : AFun} {K : List AItem} {t : Nat → AV} {H : AH} {T : Tbl} : runR T fn (.code (.reg d42_9) :: K) t H = regR T fn K (aops (callR T) [
  ⟨(some 41), none, (.val (.t 0))⟩,
  ⟨(some 42), none, (.val (.t 13))⟩,
  ⟨(some 43), none, (.val (.t 3))⟩,
  ⟨(some 44), none, (.call 52 [(.t 41), (.t 42), (.t 11), (.t 43)])⟩,
  ⟨(some 13), none, (.val (.t 44))⟩] t H) := runR_reg'
def d42_10 : List AOper := [
  ⟨(some 45), none, (.val (.t 0))⟩,
  ⟨(some 46), none, (.val (.t 14))⟩,
  ⟨(some 47), none, (.val (.t 3))⟩,
  ⟨(some 48), none, (.call 52 [(.t 45), (.t 46), (.t 11), (.t 47)])⟩,
  ⟨(some 14), none, (.val (.t 48))⟩]
theorem r42_10 {fn : AFun} {K : List AItem} {t : Nat → AV} {H : AH} {T : Tbl} : runR T fn (.code (.reg d42_10) :: K) t H = regR T fn K (aops (callR T) [
  ⟨(some 45), none, (.val (.t 0))⟩,
  ⟨(some 46), none, (.val (.t 14))⟩,
  ⟨(some 47), none, (.val (.t 3))⟩,
  ⟨(some 48), none, (.call 52 [(.t 45), (.t 46), (.t 11), (.t 47)])⟩,
  ⟨(some 14), none, (.val (.t 48))⟩] t H) := runR_reg'
def d42_11 : List AOper := [
  ⟨(some 49), none, (.val (.t 0))⟩,
  ⟨(some 50), none, (.val (.t 12))⟩,
  ⟨(some 51), none, (.val (.t 13))⟩,
  ⟨(some 52), none, (.val (.t 14))⟩,
  ⟨(some 53), none, (.val (.t 3))⟩,
  ⟨(some 54), none, (.call 53 [(.t 49), (.t 50), (.t 51), (.t 52), (.t 11), (.t 53)])⟩,
  ⟨(some 13), none, (.val (.t 54))⟩]
theorem r42_11 {fn : AFun} {K : List AItem} {t : Nat → AV} {H : AH} {T : Tbl} : runR T fn (.code (.reg d42_11) :: K) t H = regR T fn K (aops (callR T) [
  ⟨(some 49), none, (.val (.t 0))⟩,
  ⟨(some 50), none, (.val (.t 12))⟩,
  ⟨(some 51), none, (.val (.t 13))⟩,
  ⟨(some 52), none, (.val (.t 14))⟩,
  ⟨(some 53), none, (.val (.t 3))⟩,
  ⟨(some 54), none, (.call 53 [(.t 49), (.t 50), (.t 51), (.t 52), (.t 11), (.t 53)])⟩,
  ⟨(some 13), none, (.val (.t 54))⟩] t H) := runR_reg'
def d42_12 : List AOper := [
  ⟨(some 55), none, (.ld none (.t 11))⟩]
theorem r42_12 {fn : AFun} {K : List AItem} {t : Nat → AV} {H : AH} {T : Tbl} : runR T fn (.code (.reg d42_12) :: K) t H = regR T fn K (aops (callR T) [
  ⟨(some 55), none, (.ld none (.t 11))⟩] t H) := runR_reg'
def d42_13 : List AOper := [
  ⟨(some 58), none, (.bin .eql (.t 55) (.c (.i .i64 0)))⟩,
  ⟨(some 57), none, (.val (.t 58))⟩]
theorem r42_13 {fn : AFun} {K : List AItem} {t : Nat → AV} {H : AH} {T : Tbl} : runR T fn (.code (.reg d42_13) :: K) t H = regR T fn K (aops (callR T) [
  ⟨(some 58), none, (.bin .eql (.t 55) (.c (.i .i64 0)))⟩,
  ⟨(some 57), none, (.val (.t 58))⟩] t H) := runR_reg'
def d42_14 : List AOper := [
  ⟨(some 59), none, (.val (.t 13))⟩,
  ⟨(some 8), none, (.val (.t 59))⟩,
  ⟨(some 9), none, (.val (.c (.i .i64 1)))⟩]
theorem r42_14 {fn : AFun} {K : List AItem} {t : Nat → AV} {H : AH} {T : Tbl} : runR T fn (.code (.reg d42_14) :: K) t H = regR T fn K (aops (callR T) [
  ⟨(some 59), none, (.val (.t 13))⟩,
  ⟨(some 8), none, (.val (.t 59))⟩,
  ⟨(some 9), none, (.val (.c (.i .i64 1)))⟩] t H) := runR_reg'
def d42_15 : List AOper := [
  ⟨(some 61), none, (.bin .eql (.t 55) (.c (.i .i64 12)))⟩,
  ⟨(some 60), none, (.val (.t 61))⟩]
theorem r42_15 {fn : AFun} {K : List AItem} {t : Nat → AV} {H : AH} {T : Tbl} : runR T fn (.code (.reg d42_15) :: K) t H = regR T fn K (aops (callR T) [
  ⟨(some 61), none, (.bin .eql (.t 55) (.c (.i .i64 12)))⟩,
  ⟨(some 60), none, (.val (.t 61))⟩] t H) := runR_reg'
def d42_16 : List AOper := [
  ⟨(some 62), none, (.val (.t 13))⟩,
  ⟨(some 8), none, (.val (.t 62))⟩,
  ⟨(some 9), none, (.val (.c (.i .i64 2)))⟩]
theorem r42_16 {fn : AFun} {K : List AItem} {t : Nat → AV} {H : AH} {T : Tbl} : runR T fn (.code (.reg d42_16) :: K) t H = regR T fn K (aops (callR T) [
  ⟨(some 62), none, (.val (.t 13))⟩,
  ⟨(some 8), none, (.val (.t 62))⟩,
  ⟨(some 9), none, (.val (.c (.i .i64 2)))⟩] t H) := runR_reg'
def d42_17 : List AOper := [
  ⟨(some 56), none, (.val (.t 13))⟩,
  ⟨(some 8), none, (.val (.t 56))⟩,
  ⟨(some 9), none, (.val (.c (.i .i64 0)))⟩]
theorem r42_17 {fn : AFun} {K : List AItem} {t : Nat → AV} {H : AH} {T : Tbl} : runR T fn (.code (.reg d42_17) :: K) t H = regR T fn K (aops (callR T) [
  ⟨(some 56), none, (.val (.t 13))⟩,
  ⟨(some 8), none, (.val (.t 56))⟩,
  ⟨(some 9), none, (.val (.c (.i .i64 0)))⟩] t H) := runR_reg'
def a42 : AFun := ⟨63, [(.tmp 8), (.tmp 9)], (.seq (.reg d42_0) (.seq (.reg d42_1) (.seq (.reg d42_2) (.seq (.reg d42_3) (.seq (.reg d42_4) (.seq (.reg d42_5) (.seq (.seq (.reg d42_6) (.cond (.t 34) (.seq (.seq (.reg d42_7) (.cond (.t 36) (.seq (.reg d42_8) (.seq (.reg d42_9) (.reg d42_10))) .skip)) (.reg d42_11)) .skip)) (.seq (.reg d42_12) (.block 0 (.seq (.reg d42_13) (.cond (.t 57) (.seq (.reg d42_14) .ret) (.seq (.reg d42_15) (.cond (.t 60) (.seq (.reg d42_16) .ret) (.seq (.reg d42_17) .ret))))))))))))))⟩
theorem a42_ok : cfun Try.prog 42 = some a42 := by kernel_rfl
/-- slices.reverseRangeCmpFunc[int] -/
def d43_0 : List AOper := [
  ⟨(some 10), none, (.val (.t 1))⟩,
  ⟨(some 8), none, (.val (.t 10))⟩]
theorem r43_0 {fn : AFun} {K : List AItem} {t : Nat → AV} {H : AH} {T : Tbl} : runR T fn (.code (.reg d43_0) :: K) t H = regR T fn K (aops (callR T) [
  ⟨(some 10), none, (.val (.t 1))⟩,
  ⟨(some 8), none, (.val (.t 10))⟩] t H) := runR_reg'
def d43_1 : List AOper := [
  ⟨(some 11), none, (.val (.t 2))⟩,
  ⟨(some 12), none, (.bin .sub (.t 11) (.c (.i .i64 1)))⟩,
  ⟨(some 9), none, (.val (.t 12))⟩]
theorem r43_1 {fn : AFun} {K : List AItem} {t : Nat → AV} {H : AH} {T : Tbl} : runR T fn (.code (.reg d43_1) :: K) t H = regR T fn K (aops (callR T) [
  ⟨(some 11), none, (.val (.t 2))⟩,
  ⟨(some 12), none, (.bin .sub (.t 11) (.c (.i .i64 1)))⟩,
  ⟨(some 9), none, (.val (.t 12))⟩] t H) := runR_reg'
def d43_2 : List AOper := [
  ⟨(some 13), none, (.val (.t 8))⟩,
  ⟨(some 14), none, (.val (.t 9))⟩,
  ⟨(some 15), none, (.bin .lss (.t 13) (.t 14))⟩]
theorem r43_2 {fn : AFun} {K : List AItem} {t : Nat → AV} {H : AH} {T : Tbl} : runR T fn (.code (.reg d43_2) :: K) t H = regR T fn K (aops (callR T) [
  ⟨(some 13), none, (.val (.t 8))⟩,
  ⟨(some 14), none, (.val (.t 9))⟩,
  ⟨(some 15), none, (.bin .lss (.t 13) (.t 14))⟩] t H) := runR_reg'
def d43_3 : List (AOper × List Nat) := [
  (⟨(some 16), none, (.val (.t 0))⟩, []),
  (⟨(some 17), none, (.val (.t 8))⟩, []),
  (⟨(some 18), none, (.val (.t 0))⟩, []),
  (⟨(some 19), none, (.val (.t 9))⟩, []),
  (⟨(some 20), none, (.val (.t 0))⟩, []),
  (⟨(some 21), none, (.val (.t 9))⟩, []),
  (⟨(some 22), none, (.ia 1 (.t 20) (.t 21))⟩, []),
  (⟨(some 23), none, (.ld none (.t 22))⟩, [1]),
  (⟨(some 24), none, (.val (.t 0))⟩, []),
  (⟨(some 25), none, (.val (.t 8))⟩, []),
  (⟨(some 26), none, (.ia 1 (.t 24) (.t 25))⟩, []),
  (⟨(some 27), none, (.ld none (.t 26))⟩, [1]),
  (⟨(some 28), none, (.ia 1 (.t 16) (.t 17))⟩, []),
  (⟨none, none, (.st 1 (.t 28) (.t 23))⟩, []),
  (⟨(some 29), none, (.ia 1 (.t 18) (.t 19))⟩, []),
  (⟨none, none, (.st 1 (.t 29) (.t 27))⟩, [])]
theorem r43_3 {fn : AFun} {K : List AItem} {t : Nat → AV} {H : AH} {T : Tbl} : runR T fn (.code (.drw d43_3) :: K) t H = regR T fn K (aops (callR T) [
  ⟨(some 16), none, (.val (.t 0))⟩,
  ⟨(some 17), none, (.val (.t 8))⟩,
  ⟨(some 18), none, (.val (.t 0))⟩,
  ⟨(some 19), none, (.val (.t 9))⟩,
  ⟨(some 20), none, (.val (.t 0))⟩,
  ⟨(some 21), none, (.val (.t 9))⟩,
  ⟨(some 22), none, (.ia 1 (.t 20) (.t 21))⟩,
  ⟨(some 23), none, (.ld none (.t 22))⟩,
  ⟨(some 24), none, (.val (.t 0))⟩,
  ⟨(some 25), none, (.val (.t 8))⟩,
  ⟨(some 26), none, (.ia 1 (.t 24) (.t 25))⟩,
  ⟨(some 27), none, (.ld none (.t 26))⟩,
  ⟨(some 28), none, (.ia 1 (.t 16) (.t 17))⟩,
  ⟨none, none, (.st 1 (.t 28) (.t 23))⟩,
  ⟨(some 29), none, (.ia 1 (.t 18) (.t 19))⟩,
  ⟨none, none, (.st 1 (.t 29) (.t 27))⟩] t H) := runR_plain rfl
def d43_4 : List AOper := [
  ⟨(some 30), none, (.val (.t 8))⟩,
  ⟨(some 31), none, (.bin .add (.t 30) (.c (.i .i64 1)))⟩,
  ⟨(some 8), none, (.val (.t 31))⟩]
theorem r43_4 {fn : AFun} {K : List AItem} {t : Nat → AV} {H : AH} {T : Tbl} : runR T fn (.code (.reg d43_4) :: K) t H = regR T fn K (aops (callR T) [
  ⟨(some 30), none, (.val (.t 8))⟩,
  ⟨(some 31), none, (.bin .add (.t 30) (.c (.i .i64 1)))⟩,
  ⟨(some 8), none, (.val (.t 31))⟩] t H) := runR_reg'
def d43_5 : List AOper := [
  ⟨(some 32), none, (.val (.t 9))⟩,
  ⟨(some 33), none, (.bin .sub (.t 32) (.c (.i .i64 1)))⟩,
  ⟨(some 9), none, (.val (.t 33))⟩]
theorem r43_5 {fn : AFun} {K : List AItem} {t : Nat → AV} {H : AH} {T : Tbl} : runR T fn (.code (.reg d43_5) :: K) t H = regR T fn K (aops (callR T) [
  ⟨(some 32), none, (.val (.t 9))⟩,
  ⟨(some 33), none, (.bin .sub (.t 32) (.c (.i .i64 1)))⟩,
  ⟨(some 9), none, (.val (.t 33))⟩] t H) := runR_reg'
def l43_6 : ACode := (.seq (.seq (.reg d43_2) (.cond (.t 15) .skip (.exit 0))) (.block 1 (.seq (.drw d43_3) (.seq (.reg d43_4) (.reg d43_5)))))
def a43 : AFun := ⟨34, [], (.seq (.reg d43_0) (.seq (.reg d43_1) (.block 0 (.loop l43_6))))⟩
theorem a43_ok : cfun Try.prog 43 = some a43 := by kernel_rfl
/-- slices.partialInsertionSortCmpFunc[int] -/
def d44_0 : List AOper := [
  ⟨(some 8), none, (.val (.c (.b false)))⟩]
theorem r44_0 {fn : AFun} {K : List AItem} {t : Nat → AV} {H : AH} {T : Tbl} : runR T fn (.code (.reg d44_0) :: K) t H = regR T fn K (aops (callR T) [
  ⟨(some 8), none, (.val (.c (.b false)))⟩] t H) := runR_reg'
def d44_1 : List AOper := [
  ⟨(some 13), none, (.val (.t 1))⟩,
  ⟨(some 14), none, (.bin .add (.t 13) (.c (.i .i64 1)))⟩,
  ⟨(some 9), none, (.val (.t 14))⟩]
theorem r44_1 {fn : AFun} {K : List AItem} {t : Nat → AV} {H : AH} {T : Tbl} : runR T fn (.code (.reg d44_1) :: K) t H = regR T fn K (aops (callR T) [
  ⟨(some 13), none, (.val (.t 1))⟩,
  ⟨(some 14), none, (.bin .add (.t 13) (.c (.i .i64 1)))⟩,
  ⟨(some 9), none, (.val (.t 14))⟩] t H) := runR_reg'
def d44_2 : List AOper := [
  ⟨(some 10), none, (.val (.c (.i .i64 0)))⟩]
theorem r44_2 {fn : AFun} {K : List AItem} {t : Nat → AV} {H : AH} {T : Tbl} : runR T fn (.code (.reg d44_2) :: K) t H = regR T fn K (aops (callR T) [
  ⟨(some 10), none, (.val (.c (.i .i64 0)))⟩] t H) := runR_reg'
def d44_3 : List AOper := [
  ⟨(some 15), none, (.val (.t 10))⟩,
  ⟨(some 16), none, (.bin .lss (.t 15) (.c (.i .i64 5)))⟩]
theorem r44_3 {fn : AFun} {K : List AItem} {t : Nat → AV} {H : AH} {T : Tbl} : runR T fn (.code (.reg d44_3) :: K) t H = regR T fn K (aops (callR T) [
  ⟨(some 15), none, (.val (.t 10))⟩,
  ⟨(some 16), none, (.bin .lss (.t 15) (.c (.i .i64 5)))⟩] t H) := runR_reg'
def d44_4 : List (AOper × List Nat) := [
  (⟨(some 19), none, (.val (.t 9))⟩, []),
  (⟨(some 20), none, (.val (.t 2))⟩, []),
  (⟨(some 21), none, (.bin .lss (.t 19) (.t 20))⟩, []),
  (⟨(some 22), none, (.val (.t 21))⟩, []),
  (⟨(some 23), (some (22, true)), (.val (.t 3))⟩, []),
  (⟨(some 24), (some (22, true)), (.val (.t 0))⟩, []),
  (⟨(some 25), (some (22, true)), (.val (.t 9))⟩, []),
  (⟨(some 26), (some (22, true)), (.ia 1 (.t 24) (.t 25))⟩, []),
  (⟨(some 27), (some (22, true)), (.ld none (.t 26))⟩, [1]),
  (⟨(some 28), (some (22, true)), (.val (.t 0))⟩, []),
  (⟨(some 29), (some (22, true)), (.val (.t 9))⟩, []),
  (⟨(some 30), (some (22, true)), (.bin .sub (.t 29) (.c (.i .i64 1)))⟩, []),
  (⟨(some 31), (some (22, true)), (.ia 1 (.t 28) (.t 30))⟩, []),
  (⟨(some 32), (some (22, true)), (.ld none (.t 31))⟩, [1]),
  (⟨(some 33), (some (22, true)), (.callv (.t 23) [(.t 27), (.t 32)])⟩, []),
  (⟨(some 34), (some (22, true)), (.bin .lss (.t 33) (.c (.i .i64 0)))⟩, []),
  (⟨(some 35), (some (22, true)), (.un .not (.t 34))⟩, []),
  (⟨(some 36), none, (.pick (.t 22) (.t 35) (.c (.b false)))⟩, [])]
theorem r44_4 {fn : AFun} {K : List AItem} {t : Nat → AV} {H : AH} {T : Tbl} : runR T fn (.code (.drw d44_4) :: K) t H = regR T fn K (aops (callR T) [
  ⟨(some 19), none, (.val (.t 9))⟩,
  ⟨(some 20), none, (.val (.t 2))⟩,
  ⟨(some 21), none, (.bin .lss (.t 19) (.t 20))⟩,
  ⟨(some 22), none, (.val (.t 21))⟩,
  ⟨(some 23), (some (22, true)), (.val (.t 3))⟩,
  ⟨(some 24), (some (22, true)), (.val (.t 0))⟩,
  ⟨(some 25), (some (22, true)), (.val (.t 9))⟩,
  ⟨(some 26), (some (22, true)), (.ia 1 (.t 24) (.t 25))⟩,
  ⟨(some 27), (some (22, true)), (.ld none (.t 26))⟩,
  ⟨(some 28), (some (22, true)), (.val (.t 0))⟩,
  ⟨(some 29), (some (22, true)), (.val (.t 9))⟩,
  ⟨(some 30), (some (22, true)), (.bin .sub (.t 29) (.c (.i .i64 1)))⟩,
  ⟨(some 31), (some (22, true)), (.ia 1 (.t 28) (.t 30))⟩,
  ⟨(some 32), (some (22, true)), (.ld none (.t 31))⟩,
  ⟨(some 33), (some (22, true)), (.callv (.t 23) [(.t 27), (.t 32)])⟩,
  ⟨(some 34), (some (22, true)), (.bin .lss (.t 33) (.c (.i .i64 0)))⟩,
  ⟨(some 35), (some (22, true)), (.un .not (.t 34))⟩,
  ⟨(some 36), none, (.pick (.t 22) (.t 35) (.c (.b false)))⟩] t H) := runR_plain rfl
def d44_5 : List AOper := [
  ⟨(some 37), none, (.val (.t 9))⟩,
  ⟨(some 38), none, (.bin .add (.t 37) (.c (.i .i64 1)))⟩,
  ⟨(some 9), none, (.val (.t 38))⟩]
theorem r44_5 {fn : AFun} {K : List AItem} {t : Nat → AV} {H : AH} {T : Tbl} : runR T fn (.code (.reg d44_5) :: K) t H = regR T fn K (aops (callR T) [
  ⟨(some 37), none, (.val (.t 9))⟩,
  ⟨(some 38), none, (.bin .add (.t 37) (.c (.i .i64 1)))⟩,
  ⟨(some 9), none, (.val (.t 38))⟩] t H) := runR_reg'
def l44_6 : ACode := (.seq (.seq (.drw d44_4) (.cond (.t 36) .skip (.exit 2))) (.block 3 (.reg d44_5)))
def d44_7 : List AOper := [
  ⟨(some 39), none, (.val (.t 9))⟩,
  ⟨(some 40), none, (.val (.t 2))⟩,
  ⟨(some 41), none, (.bin .eql (.t 39) (.t 40))⟩]
theorem r44_7 {fn : AFun} {K : List AItem} {t : Nat → AV} {H : AH} {T : Tbl} : runR T fn (.code (.reg d44_7) :: K) t H = regR T fn K (aops (callR T) [
  ⟨(some 39), none, (.val (.t 9))⟩,
  ⟨(some 40), none, (.val (.t 2))⟩,
  ⟨(some 41), none, (.bin .eql (.t 39) (.t 40))⟩] t H) := runR_reg'
def d44_8 : List AOper := [
  ⟨(some 8), none, (.val (.c (.b true)))⟩]
theorem r44_8 {fn : AFun} {K : List AItem} {t : Nat → AV} {H : AH} {T : Tbl} : runR T fn (.code (.reg d44_8) :: K) t H = regR T fn K (aops (callR T) [
  ⟨(some 8), none, (.val (.c (.b true)))⟩] t H) := runR_reg'
def d44_9 : List AOper := [
  ⟨(some 42), none, (.val (.t 2))⟩,
  ⟨(some 43), none, (.val (.t 1))⟩,
  ⟨(some 44), none, (.bin .sub (.t 42) (.t 43))⟩,
  ⟨(some 45), none, (.bin .lss (.t 44) (.c (.i .i64 50)))⟩]
theorem r44_9 {fn : AFun} {K : List AItem} {t : Nat → AV} {H : AH} {T : Tbl} : runR T fn (.code (.reg d44_9) :: K) t H = regR T fn K (aops (callR T) [
  ⟨(some 42), none, (.val (.t 2))⟩,
  ⟨(some 43), none, (.val (.t 1))⟩,
  ⟨(some 44), none, (.bin .sub (.t 42) (.t 43))⟩,
  ⟨(some 45), none, (.bin .lss (.t 44) (.c (.i .i64 50)))⟩] t H) := runR_reg'
def d44_10 : List AOper := [
  ⟨(some 8), none, (.val (.c (.b false)))⟩]
theorem r44_10 {fn : AFun} {K : List AItem} {t : Nat → AV} {H : AH} {T : Tbl} : runR T fn (.code (.reg d44_10) :: K) t H = regR T fn K (aops (callR T) [
  ⟨(some 8), none, (.val (.c (.b false)))⟩] t H) := runR_reg'
def d44_11 : List (AOper × List Nat) := [
  (⟨(some 46), none, (.val (.t 0))⟩, []),
  (⟨(some 47), none, (.val (.t 9))⟩, []),
  (⟨(some 48), none, (.val (.t 0))⟩, []),
  (⟨(some 49), none, (.val (.t 9))⟩, []),
  (⟨(some 50), none, (.bin .sub (.t 49) (.c (.i .i64 1)))⟩, []),
  (⟨(some 51), none, (.val (.t 0))⟩, []),
  (⟨(some 52), none, (.val (.t 9))⟩, []),
  (⟨(some 53), none, (.bin .sub (.t 52) (.c (.i .i64 1)))⟩, []),
  (⟨(some 54), none, (.ia 1 (.t 51) (.t 53))⟩, []),
  (⟨(some 55), none, (.ld none (.t 54))⟩, [1]),
  (⟨(some 56), none, (.val (.t 0))⟩, []),
  (⟨(some 57), none, (.val (.t 9))⟩, []),
  (⟨(some 58), none, (.ia 1 (.t 56) (.t 57))⟩, []),
  (⟨(some 59), none, (.ld none (.t 58))⟩, [1]),
  (⟨(some 60), none, (.ia 1 (.t 46) (.t 47))⟩, []),
  (⟨none, none, (.st 1 (.t 60) (.t 55))⟩, []),
  (⟨(some 61), none, (.ia 1 (.t 48) (.t 50))⟩, []),
  (⟨none, none, (.st 1 (.t 61) (.t 59))⟩, [])]
theorem r44_11 {fn : AFun} {K : List AItem} {t : Nat → AV} {H : AH} {T : Tbl} : runR T fn (.code (.drw d44_11) :: K) t H = regR T fn K (aops (callR T) [
  ⟨(some 46), none, (.val (.t 0))⟩,
  ⟨(some 47), none, (.val (.t 9))⟩,
  ⟨(some 48), none, (.val (.t 0))⟩,
  ⟨(some 49), none, (.val (.t 9))⟩,
  ⟨(some 50), none, (.bin .sub (.t 49) (.c (.i .i64 1)))⟩,
  ⟨(some 51), none, (.val (.t 0))⟩,
  ⟨(some 52), none, (.val (.t 9))⟩,
  ⟨(some 53), none, (.bin .sub (.t 52) (.c (.i .i64 1)))⟩,
  ⟨(some 54), none, (.ia 1 (.t 51) (.t 53))⟩,
  ⟨(some 55), none, (.ld none (.t 54))⟩,
  ⟨(some 56), none, (.val (.t 0))⟩,
  ⟨(some 57), none, (.val (.t 9))⟩,
  ⟨(some 58), none, (.ia 1 (.t 56) (.t 57))⟩,
  ⟨(some 59), none, (.ld none (.t 58))⟩,
  ⟨(some 60), none, (.ia 1 (.t 46) (.t 47))⟩,
  ⟨none, none, (.st 1 (.t 60) (.t 55))⟩,
  ⟨(some 61), none, (.ia 1 (.t 48) (.t 50))⟩,
  ⟨none, none, (.st 1 (.t 61) (.t 59))⟩] t H) := runR_plain rfl
def d44_12 : List AOper := [
  ⟨(some 62), none, (.val (.t 9))⟩,
  ⟨(some 63), none, (.val (.t 1))⟩,
  ⟨(some 64), none, (.bin .sub (.t 62) (.t 63))⟩,
  ⟨(some 65), none, (.bin .geq (.t 64) (.c (.i .i64 2)))⟩]
theorem r44_12 {fn : AFun} {K : List AItem} {t : Nat → AV} {H : AH} {T : Tbl} : runR T fn (.code (.reg d44_12) :: K) t H = regR T fn K (aops (callR T) [
  ⟨(some 62), none, (.val (.t 9))⟩,
  ⟨(some 63), none, (.val (.t 1))⟩,
  ⟨(some 64), none, (.bin .sub (.t 62) (.t 63))⟩,
  ⟨(some 65), none, (.bin .geq (.t 64) (.c (.i .i64 2)))⟩] t H) := runR_reg'
def d44_13 : List AOper := [
  ⟨(some 66), none, (.val (.t 9))⟩,
  ⟨(some 67), none, (.bin .sub (.t 66) (.c (.i .i64 1)))⟩,
  ⟨(some 11), none, (.val (.t 67))⟩]
theorem r44_13 {fn : AFun} {K : List AItem} {t : Nat → AV} {H : AH} {T : Tbl} : runR T fn (.code (.reg d44_13) :: K) t H = regR T fn K (aops (callR T) [
  ⟨(some 66), none, (.val (.t 9))⟩,
  ⟨(some 67), none, (.bin .sub (.t 66) (.c (.i .i64 1)))⟩,
  ⟨(some 11), none, (.val (.t 67))⟩] t H) := runR_reg'
def d44_14 : List AOper := [
  ⟨(some 68), none, (.val (.t 11))⟩,
  ⟨(some 69), none, (.bin .geq (.t 68) (.c (.i .i64 1)))⟩]
theorem r44_14 {fn : AFun} {K : List AItem} {t : Nat → AV} {H : AH} {T : Tbl} : runR T fn (.code (.reg d44_14) :: K) t H = regR T fn K (aops (callR T) [
  ⟨(some 68), none, (.val (.t 11))⟩,
  ⟨(some 69), none, (.bin .geq (.t 68) (.c (.i .i64 1)))⟩] t H) := runR_reg'
def d44_15 : List (AOper × List Nat) := [
  (⟨(some 72), none, (.val (.t 3))⟩, []),
  (⟨(some 73), none, (.val (.t 0))⟩, []),
  (⟨(some 74), none, (.val (.t 11))⟩, []),
  (⟨(some 75), none, (.ia 1 (.t 73) (.t 74))⟩, []),
  (⟨(some 76), none, (.ld none (.t 75))⟩, [1]),
  (⟨(some 77), none, (.val (.t 0))⟩, []),
  (⟨(some 78), none, (.val (.t 11))⟩, []),
  (⟨(some 79), none, (.bin .sub (.t 78) (.c (.i .i64 1)))⟩, []),
  (⟨(some 80), none, (.ia 1 (.t 77) (.t 79))⟩, []),
  (⟨(some 81), none, (.ld none (.t 80))⟩, [1]),
  (⟨(some 82), none, (.callv (.t 72) [(.t 76), (.t 81)])⟩, []),
  (⟨(some 83), none, (.bin .lss (.t 82) (.c (.i .i64 0)))⟩, []),
  (⟨(some 84), none, (.un .not (.t 83))⟩, [])]
theorem r44_15 {fn : AFun} {K : List AItem} {t : Nat → AV} {H : AH} {T : Tbl} : runR T fn (.code (.drw d44_15) :: K) t H = regR T fn K (aops (callR T) [
  ⟨(some 72), none, (.val (.t 3))⟩,
  ⟨(some 73), none, (.val (.t 0))⟩,
  ⟨(some 74), none, (.val (.t 11))⟩,
  ⟨(some 75), none, (.ia 1 (.t 73) (.t 74))⟩,
  ⟨(some 76), none, (.ld none (.t 75))⟩,
  ⟨(some 77), none, (.val (.t 0))⟩,
  ⟨(some 78), none, (.val (.t 11))⟩,
  ⟨(some 79), none, (.bin .sub (.t 78) (.c (.i .i64 1)))⟩,
  ⟨(some 80), none, (.ia 1 (.t 77) (.t 79))⟩,
  ⟨(some 81), none, (.ld none (.t 80))⟩,
  ⟨(some 82), none, (.callv (.t 72) [(.t 76), (.t 81)])⟩,
  ⟨(some 83), none, (.bin .lss (.t 82) (.c (.i .i64 0)))⟩,
  ⟨(some 84), none, (.un .not (.t 83))⟩] t H) := runR_plain rfl
def d44_16 : List (AOper × List Nat) := [
  (⟨(some 85), none, (.val (.t 0))⟩, []),
  (⟨(some 86), none, (.val (.t 11))⟩, []),
  (⟨(some 87), none, (.val (.t 0))⟩, []),
  (⟨(some 88), none, (.val (.t 11))⟩, []),
  (⟨(some 89), none, (.bin .sub (.t 88) (.c (.i .i64 1)))⟩, []),
  (⟨(some 90), none, (.val (.t 0))⟩, []),
  (⟨(some 91), none, (.val (.t 11))⟩, []),
  (⟨(some 92), none, (.bin .sub (.t 91) (.c (.i .i64 1)))⟩, []),
  (⟨(some 93), none, (.ia 1 (.t 90) (.t 92))⟩, []),
  (⟨(some 94), none, (.ld none (.t 93))⟩, [1]),
  (⟨(some 95), none, (.val (.t 0))⟩, []),
  (⟨(some 96), none, (.val (.t 11))⟩, []),
  (⟨(some 97), none, (.ia 1 (.t 95) (.t 96))⟩, []),
  (⟨(some 98), none, (.ld none (.t 97))⟩, [1]),
  (⟨(some 99), none, (.ia 1 (.t 85) (.t 86))⟩, []),
  (⟨none, none, (.st 1 (.t 99) (.t 94))⟩, []),
  (⟨(some 100), none, (.ia 1 (.t 87) (.t 89))⟩, []),
  (⟨none, none, (.st 1 (.t 100) (.t 98))⟩, [])]
theorem r44_16 {fn : AFun} {K : List AItem} {t : Nat → AV} {H : AH} {T : Tbl} : runR T fn (.code (.drw d44_16) :: K) t H = regR T fn K (aops (callR T) [
  ⟨(some 85), none, (.val (.t 0))⟩,
  ⟨(some 86), none, (.val (.t 11))⟩,
  ⟨(some 87), none, (.val (.t 0))⟩,
  ⟨(some 88), none, (.val (.t 11))⟩,
  ⟨(some 89), none, (.bin .sub (.t 88) (.c (.i .i64 1)))⟩,
  ⟨(some 90), none, (.val (.t 0))⟩,
  ⟨(some 91), none, (.val (.t 11))⟩,
  ⟨(some 92), none, (.bin .sub (.t 91) (.c (.i .i64 1)))⟩,
  ⟨(some 93), none, (.ia 1 (.t 90) (.t 92))⟩,
  ⟨(some 94), none, (.ld none (.t 93))⟩,
  ⟨(some 95), none, (.val (.t 0))⟩,
  ⟨(some 96), none, (.val (.t 11))⟩,
  ⟨(some 97), none, (.ia 1 (.t 95) (.t 96))⟩,
  ⟨(some 98), none, (.ld none (.t 97))⟩,
  ⟨(some 99), none, (.ia 1 (.t 85) (.t 86))⟩,
  ⟨none, none, (.st 1 (.t 99) (.t 94))⟩,
  ⟨(some 100), none, (.ia 1 (.t 87) (.t 89))⟩,
  ⟨none, none, (.st 1 (.t 100) (.t 98))⟩] t H) := runR_plain rfl
def d44_17 : List AOper := [
  ⟨(some 70), none, (.val (.t 11))⟩,
  ⟨(some 71), none, (.bin .sub (.t 70) (.c (.i .i64 1)))⟩,
  ⟨(some 11), none, (.val (.t 71))⟩]
theorem r44_17 {fn : AFun} {K : List AItem} {t : Nat → AV} {H : AH} {T : Tbl} : runR T fn (.code (.reg d44_17) :: K) t H = regR T fn K (aops (callR T) [
  ⟨(some 70), none, (.val (.t 11))⟩,
  ⟨(some 71), none, (.bin .sub (.t 70) (.c (.i .i64 1)))⟩,
  ⟨(some 11), none, (.val (.t 71))⟩] t H) := runR_reg'
def l44_18 : ACode := (.seq (.seq (.reg d44_14) (.cond (.t 69) .skip (.exit 4))) (.seq (.block 5 (.seq (.seq (.drw d44_15) (.cond (.t 84) (.exit 4) .skip)) (.drw d44_16))) (.reg d44_17)))
def d44_19 : List AOper := [
  ⟨(some 101), none, (.val (.t 2))⟩,
  ⟨(some 102), none, (.val (.t 9))⟩,
  ⟨(some 103), none, (.bin .sub (.t 101) (.t 102))⟩,
  ⟨(some 104), none, (.bin .geq (.t 103) (.c (.i .i64 2)))⟩]
theorem r44_19 {fn : AFun} {K : List AItem} {t : Nat → AV} {H : AH} {T : Tbl} : runR T fn (.code (.reg d44_19) :: K) t H = regR T fn K (aops (callR T) [
  ⟨(some 101), none, (.val (.t 2))⟩,
  ⟨(some 102), none, (.val (.t 9))⟩,
  ⟨(some 103), none, (.bin .sub (.t 101) (.t 102))⟩,
  ⟨(some 104), none, (.bin .geq (.t 103) (.c (.i .i64 2)))⟩] t H) := runR_reg'
def d44_20 : List AOper := [
  ⟨(some 105), none, (.val (.t 9))⟩,
  ⟨(some 106), none, (.bin .add (.t 105) (.c (.i .i64 1)))⟩,
  ⟨(some 12), none, (.val (.t 106))⟩]
theorem r44_20 {fn : AFun} {K : List AItem} {t : Nat → AV} {H : AH} {T : Tbl} : runR T fn (.code (.reg d44_20) :: K) t H = regR T fn K (aops (callR T) [
  ⟨(some 105), none, (.val (.t 9))⟩,
  ⟨(some 106), none, (.bin .add (.t 105) (.c (.i .i64 1)))⟩,
  ⟨(some 12), none, (.val (.t 106))⟩] t H) := runR_reg'
def d44_21 : List AOper := [
  ⟨(some 107), none, (.val (.t 12))⟩,
  ⟨(some 108), none, (.val (.t 2))⟩,
  ⟨(some 109), none, (.bin .lss (.t 107) (.t 108))⟩]
theorem r44_21 {fn : AFun} {K : List AItem} {t : Nat → AV} {H : AH} {T : Tbl} : runR T fn (.code (.reg d44_21) :: K) t H = regR T fn K (aops (callR T) [
  ⟨(some 107), none, (.val (.t 12))⟩,
  ⟨(some 108), none, (.val (.t 2))⟩,
  ⟨(some 109), none, (.bin .lss (.t 107) (.t 108))⟩] t H) := runR_reg'
def d44_22 : List (AOper × List Nat) := [
  (⟨(some 112), none, (.val (.t 3))⟩, []),
  (⟨(some 113), none, (.val (.t 0))⟩, []),
  (⟨(some 114), none, (.val (.t 12))⟩, []),
  (⟨(some 115), none, (.ia 1 (.t 113) (.t 114))⟩, []),
  (⟨(some 116), none, (.ld none (.t 115))⟩, [1]),
  (⟨(some 117), none, (.val (.t 0))⟩, []),
  (⟨(some 118), none, (.val (.t 12))⟩, []),
  (⟨(some 119), none, (.bin .sub (.t 118) (.c (.i .i64 1)))⟩, []),
  (⟨(some 120), none, (.ia 1 (.t 117) (.t 119))⟩, []),
  (⟨(some 121), none, (.ld none (.t 120))⟩, [1]),
  (⟨(some 122), none, (.callv (.t 112) [(.t 116), (.t 121)])⟩, []),
  (⟨(some 123), none, (.bin .lss (.t 122) (.c (.i .i64 0)))⟩, []),
  (⟨(some 124), none, (.un .not (.t 123))⟩, [])]
theorem r44_22 {fn : AFun} {K : List AItem} {t : Nat → AV} {H : AH} {T : Tbl} : runR T fn (.code (.drw d44_22) :: K) t H = regR T fn K (aops (callR T) [
  ⟨(some 112), none, (.val (.t 3))⟩,
  ⟨(some 113), none, (.val (.t 0))⟩,
  ⟨(some 114), none, (.val (.t 12))⟩,
  ⟨(some 115), none, (.ia 1 (.t 113) (.t 114))⟩,
  ⟨(some 116), none, (.ld none (.t 115))⟩,
  ⟨(some 117), none, (.val (.t 0))⟩,
  ⟨(some 118), none, (.val (.t 12))⟩,
  ⟨(some 119), none, (.bin .sub (.t 118) (.c (.i .i64 1)))⟩,
  ⟨(some 120), none, (.ia 1 (.t 117) (.t 119))⟩,
  ⟨(some 121), none, (.ld none (.t 120))⟩,
  ⟨(some 122), none, (.callv (.t 112) [(.t 116), (.t 121)])⟩,
  ⟨(some 123), none, (.bin .lss (.t 122) (.c (.i .i64 0)))⟩,
  ⟨(some 124), none, (.un .not (.t 123))⟩] t H) := runR_plain rfl
def d44_23 : List (AOper × List Nat) := [
  (⟨(some 125), none, (.val (.t 0))⟩, []),
  (⟨(some 126), none, (.val (.t 12))⟩, []),
  (⟨(some 127), none, (.val (.t 0))⟩, []),
  (⟨(some 128), none, (.val (.t 12))⟩, []),
  (⟨(some 129), none, (.bin .sub (.t 128) (.c (.i .i64 1)))⟩, []),
  (⟨(some 130), none, (.val (.t 0))⟩, []),
  (⟨(some 131), none, (.val (.t 12))⟩, []),
  (⟨(some 132), none, (.bin .sub (.t 131) (.c (.i .i64 1)))⟩, []),
  (⟨(some 133), none, (.ia 1 (.t 130) (.t 132))⟩, []),
  (⟨(some 134), none, (.ld none (.t 133))⟩, [1]),
  (⟨(some 135), none, (.val (.t 0))⟩, []),
  (⟨(some 136), none, (.val (.t 12))⟩, []),
  (⟨(some 137), none, (.ia 1 (.t 135) (.t 136))⟩, []),
  (⟨(some 138), none, (.ld none (.t 137))⟩, [1]),
  (⟨(some 139), none, (.ia 1 (.t 125) (.t 126))⟩, []),
  (⟨none, none, (.st 1 (.t 139) (.t 134))⟩, []),
  (⟨(some 140), none, (.ia 1 (.t 127) (.t 129))⟩, []),
  (⟨none, none, (.st 1 (.t 140) (.t 138))⟩, [])]
theorem r44_23 {fn : AFun} {K : List AItem} {t : Nat → AV} {H : AH} {T : Tbl} : runR T fn (.code (.drw d44_23) :: K) t H = regR T fn K (aops (callR T) [
  ⟨(some 125), none, (.val (.t 0))⟩,
  ⟨(some 126), none, (.val (.t 12))⟩,
  ⟨(some 127), none, (.val (.t 0))⟩,
  ⟨(some 128), none, (.val (.t 12))⟩,
  ⟨(some 129), none, (.bin .sub (.t 128) (.c (.i .i64 1)))⟩,
  ⟨(some 130), none, (.val (.t 0))⟩,
  ⟨(some 131), none, (.val (.t 12))⟩,
  ⟨(some 132), none, (.bin .sub (.t 131) (.c (.i .i64 1)))⟩,
  ⟨(some 133), none, (.ia 1 (.t 130) (.t 132))⟩,
  ⟨(some 134), none, (.ld none (.t 133))⟩,
  ⟨(some 135), none, (.val (.t 0))⟩,
  ⟨(some 136), none, (.val (.t 12))⟩,
  ⟨(some 137), none, (.ia 1 (.t 135) (.t 136))⟩,
  ⟨(some 138), none, (.ld none (.t 137))⟩,
  ⟨(some 139), none, (.ia 1 (.t 125) (.t 126))⟩,
  ⟨none, none, (.st 1 (.t 139) (.t 134))⟩,
  ⟨(some 140), none, (.ia 1 (.t 127) (.t 129))⟩,
  ⟨none, none, (.st 1 (.t 140) (.t 138))⟩] t H) := runR_plain rfl
def d44_24 : List AOper := [
  ⟨(some 110), none, (.val (.t 12))⟩,
  ⟨(some 111), none, (.bin .add (.t 110) (.c (.i .i64 1)))⟩,
  ⟨(some 12), none, (.val (.t 111))⟩]
theorem r44_24 {fn : AFun} {K : List AItem} {t : Nat → AV} {H : AH} {T : Tbl} : runR T fn (.code (.reg d44_24) :: K) t H = regR T fn K (aops (callR T) [
  ⟨(some 110), none, (.val (.t 12))⟩,
  ⟨(some 111), none, (.bin .add (.t 110) (.c (.i .i64 1)))⟩,
  ⟨(some 12), none, (.val (.t 111))⟩] t H) := runR_reg'
def l44_25 : ACode := (.seq (.seq (.reg d44_21) (.cond (.t 109) .skip (.exit 6))) (.seq (.block 7 (.seq (.seq (.drw d44_22) (.cond (.t 124) (.exit 6) .skip)) (.drw d44_23))) (.reg d44_24)))
def d44_26 : List AOper := [
  ⟨(some 17), none, (.val (.t 10))⟩,
  ⟨(some 18), none, (.bin .add (.t 17) (.c (.i .i64 1)))⟩,
  ⟨(some 10), none, (.val (.t 18))⟩]
theorem r44_26 {fn : AFun} {K : List AItem} {t : Nat → AV} {H : AH} {T : Tbl} : runR T fn (.code (.reg d44_26) :: K) t H = regR T fn K (aops (callR T) [
  ⟨(some 17), none, (.val (.t 10))⟩,
  ⟨(some 18), none, (.bin .add (.t 17) (.c (.i .i64 1)))⟩,
  ⟨(some 10), none, (.val (.t 18))⟩] t H) := runR_reg'
def l44_27 : ACode := (.seq (.seq (.reg d44_3) (.cond (.t 16) .skip (.exit 0))) (.seq (.block 1 (.seq (.block 2 (.loop l44_6)) (.seq (.seq (.reg d44_7) (.cond (.t 41) (.seq (.reg d44_8) .ret) .skip)) (.seq (.seq (.reg d44_9) (.cond (.t 45) (.seq (.reg d44_10) .ret) .skip)) (.seq (.drw d44_11) (.seq (.seq (.reg d44_12) (.cond (.t 65) (.seq (.reg d44_13) (.block 4 (.loop l44_18))) .skip)) (.seq (.reg d44_19) (.cond (.t 104) (.seq (.reg d44_20) (.block 6 (.loop l44_25))) .skip)))))))) (.reg d44_26)))
def d44_28 : List AOper := [
  ⟨(some 8), none, (.val (.c (.b false)))⟩]
theorem r44_28 {fn : AFun} {K : List AItem} {t : Nat → AV} {H : AH} {T : Tbl} : runR T fn (.code (.reg d44_28) :: K) t H = regR T fn K (aops (callR T) [
  ⟨(some 8), none, (.val (.c (.b false)))⟩] t H) := runR_reg'
def a44 : AFun := ⟨141, [(.tmp 8)], (.seq (.reg d44_0) (.seq (.reg d44_1) (.seq (.seq (.reg d44_2) (.block 0 (.loop l44_27))) (.seq (.reg d44_28) .ret))))⟩
theorem a44_ok : cfun Try.prog 44 = some a44 := by kernel_rfl
/-- slices.partitionEqualCmpFunc[int] -/
def d45_0 : List AOper := [
  ⟨(some 10), none, (.val (.c (.i .i64 0)))⟩]
theorem r45_0 {fn : AFun} {K : List AItem} {t : Nat → AV} {H : AH} {T : Tbl} : runR T fn (.code (.reg d45_0) :: K) t H = regR T fn K (aops (callR T) [
  ⟨(some 10), none, (.val (.c (.i .i64 0)))⟩] t H) := runR_reg'
def d45_1 : List (AOper × List Nat) := [
  (⟨(some 13), none, (.val (.t 0))⟩, []),
  (⟨(some 14), none, (.val (.t 1))⟩, []),
  (⟨(some 15), none, (.val (.t 0))⟩, []),
  (⟨(some 16), none, (.val (.t 3))⟩, []),
  (⟨(some 17), none, (.val (.t 0))⟩, []),
  (⟨(some 18), none, (.val (.t 3))⟩, []),
  (⟨(some 19), none, (.ia 1 (.t 17) (.t 18))⟩, []),
  (⟨(some 20), none, (.ld none (.t 19))⟩, [1]),
  (⟨(some 21), none, (.val (.t 0))⟩, []),
  (⟨(some 22), none, (.val (.t 1))⟩, []),
  (⟨(some 23), none, (.ia 1 (.t 21) (.t 22))⟩, []),
  (⟨(some 24), none, (.ld none (.t 23))⟩, [1]),
  (⟨(some 25), none, (.ia 1 (.t 13) (.t 14))⟩, []),
  (⟨none, none, (.st 1 (.t 25) (.t 20))⟩, []),
  (⟨(some 26), none, (.ia 1 (.t 15) (.t 16))⟩, []),
  (⟨none, none, (.st 1 (.t 26) (.t 24))⟩, [])]
theorem r45_1 {fn : AFun} {K : List AItem} {t : Nat → AV} {H : AH} {T : Tbl} : runR T fn (.code (.drw d45_1) :: K) t H = regR T fn K (aops (callR T) [
  ⟨(some 13), none, (.val (.t 0))⟩,
  ⟨(some 14), none, (.val (.t 1))⟩,
  ⟨(some 15), none, (.val (.t 0))⟩,
  ⟨(some 16), none, (.val (.t 3))⟩,
  ⟨(some 17), none, (.val (.t 0))⟩,
  ⟨(some 18), none, (.val (.t 3))⟩,
  ⟨(some 19), none, (.ia 1 (.t 17) (.t 18))⟩,
  ⟨(some 20), none, (.ld none (.t 19))⟩,
  ⟨(some 21), none, (.val (.t 0))⟩,
  ⟨(some 22), none, (.val (.t 1))⟩,
  ⟨(some 23), none, (.ia 1 (.t 21) (.t 22))⟩,
  ⟨(some 24), none, (.ld none (.t 23))⟩,
  ⟨(some 25), none, (.ia 1 (.t 13) (.t 14))⟩,
  ⟨none, none, (.st 1 (.t 25) (.t 20))⟩,
  ⟨(some 26), none, (.ia 1 (.t 15) (.t 16))⟩,
  ⟨none, none, (.st 1 (.t 26) (.t 24))⟩] t H) := runR_plain rfl
def d45_2 : List AOper := [
  ⟨(some 27), none, (.val (.t 1))⟩,
  ⟨(some 28), none, (.bin .add (.t 27) (.c (.i .i64 1)))⟩,
  ⟨(some 29), none, (.val (.t 2))⟩,
  ⟨(some 30), none, (.bin .sub (.t 29) (.c (.i .i64 1)))⟩,
  ⟨(some 11), none, (.val (.t 28))⟩,
  ⟨(some 12), none, (.val (.t 30))⟩]
theorem r45_2 {fn : AFun} {K : List AItem} {t : Nat → AV} {H : AH} {T : Tbl} : runR T fn (.code (.reg d45_2) :: K) t H = regR T fn K (aops (callR T) [
  ⟨(some 27), none, (.val (.t 1))⟩,
  ⟨(some 28), none, (.bin .add (.t 27) (.c (.i .i64 1)))⟩,
  ⟨(some 29), none, (.val (.t 2))⟩,
  ⟨(some 30), none, (.bin .sub (.t 29) (.c (.i .i64 1)))⟩,
  ⟨(some 11), none, (.val (.t 28))⟩,
  ⟨(some 12), none, (.val (.t 30))⟩] t H) := runR_reg'
def d45_3 : List (AOper × List Nat) := [
  (⟨(some 31), none, (.val (.t 11))⟩, []),
  (⟨(some 32), none, (.val (.t 12))⟩, []),
  (⟨(some 33), none, (.bin .leq (.t 31) (.t 32))⟩, []),
  (⟨(some 34), none, (.val (.t 33))⟩, []),
  (⟨(some 35), (some (34, true)), (.val (.t 4))⟩, []),
  (⟨(some 36), (some (34, true)), (.val (.t 0))⟩, []),
  (⟨(some 37), (some (34, true)), (.val (.t 1))⟩, []),
  (⟨(some 38), (some (34, true)), (.ia 1 (.t 36) (.t 37))⟩, []),
  (⟨(some 39), (some (34, true)), (.ld none (.t 38))⟩, [1]),
  (⟨(some 40), (some (34, true)), (.val (.t 0))⟩, []),
  (⟨(some 41), (some (34, true)), (.val (.t 11))⟩, []),
  (⟨(some 42), (some (34, true)), (.ia 1 (.t 40) (.t 41))⟩, []),
  (⟨(some 43), (some (34, true)), (.ld none (.t 42))⟩, [1]),
  (⟨(some 44), (some (34, true)), (.callv (.t 35) [(.t 39), (.t 43)])⟩, []),
  (⟨(some 45), (some (34, true)), (.bin .lss (.t 44) (.c (.i .i64 0)))⟩, []),
  (⟨(some 46), (some (34, true)), (.un .not (.t 45))⟩, []),
  (⟨(some 47), none, (.pick (.t 34) (.t 46) (.c (.b false)))⟩, [])]
theorem r45_3 {fn : AFun} {K : List AItem} {t : Nat → AV} {H : AH} {T : Tbl} : runR T fn (.code (.drw d45_3) :: K) t H = regR T fn K (aops (callR T) [
  ⟨(some 31), none, (.val (.t 11))⟩,
  ⟨(some 32), none, (.val (.t 12))⟩,
  ⟨(some 33), none, (.bin .leq (.t 31) (.t 32))⟩,
  ⟨(some 34), none, (.val (.t 33))⟩,
  ⟨(some 35), (some (34, true)), (.val (.t 4))⟩,
  ⟨(some 36), (some (34, true)), (.val (.t 0))⟩,
  ⟨(some 37), (some (34, true)), (.val (.t 1))⟩,
  ⟨(some 38), (some (34, true)), (.ia 1 (.t 36) (.t 37))⟩,
  ⟨(some 39), (some (34, true)), (.ld none (.t 38))⟩,
  ⟨(some 40), (some (34, true)), (.val (.t 0))⟩,
  ⟨(some 41), (some (34, true)), (.val (.t 11))⟩,
  ⟨(some 42), (some (34, true)), (.ia 1 (.t 40) (.t 41))⟩,
  ⟨(some 43), (some (34, true)), (.ld none (.t 42))⟩,
  ⟨(some 44), (some (34, true)), (.callv (.t 35) [(.t 39), (.t 43)])⟩,
  ⟨(some 45), (some (34, true)), (.bin .lss (.t 44) (.c (.i .i64 0)))⟩,
  ⟨(some 46), (some (34, true)), (.un .not (.t 45))⟩,
  ⟨(some 47), none, (.pick (.t 34) (.t 46) (.c (.b false)))⟩] t H) := runR_plain rfl
def d45_4 : List AOper := [
  ⟨(some 48), none, (.val (.t 11))⟩,
  ⟨(some 49), none, (.bin .add (.t 48) (.c (.i .i64 1)))⟩,
  ⟨(some 11), none, (.val (.t 49))⟩]
theorem r45_4 {fn : AFun} {K : List AItem} {t : Nat → AV} {H : AH} {T : Tbl} : runR T fn (.code (.reg d45_4) :: K) t H = regR T fn K (aops (callR T) [
  ⟨(some 48), none, (.val (.t 11))⟩,
  ⟨(some 49), none, (.bin .add (.t 48) (.c (.i .i64 1)))⟩,
  ⟨(some 11), none, (.val (.t 49))⟩] t H) := runR_reg'
def l45_5 : ACode := (.seq (.seq (.drw d45_3) (.cond (.t 47) .skip (.exit 2))) (.block 3 (.reg d45_4)))
def d45_6 : List (AOper × List Nat) := [
  (⟨(some 50), none, (.val (.t 11))⟩, []),
  (⟨(some 51), none, (.val (.t 12))⟩, []),
  (⟨(some 52), none, (.bin .leq (.t 50) (.t 51))⟩, []),
  (⟨(some 53), none, (.val (.t 52))⟩, []),
  (⟨(some 54), (some (53, true)), (.val (.t 4))⟩, []),
  (⟨(some 55), (some (53, true)), (.val (.t 0))⟩, []),
  (⟨(some 56), (some (53, true)), (.val (.t 1))⟩, []),
  (⟨(some 57), (some (53, true)), (.ia 1 (.t 55) (.t 56))⟩, []),
  (⟨(some 58), (some (53, true)), (.ld none (.t 57))⟩, [1]),
  (⟨(some 59), (some (53, true)), (.val (.t 0))⟩, []),
  (⟨(some 60), (some (53, true)), (.val (.t 12))⟩, []),
  (⟨(some 61), (some (53, true)), (.ia 1 (.t 59) (.t 60))⟩, []),
  (⟨(some 62), (some (53, true)), (.ld none (.t 61))⟩, [1]),
  (⟨(some 63), (some (53, true)), (.callv (.t 54) [(.t 58), (.t 62)])⟩, []),
  (⟨(some 64), (some (53, true)), (.bin .lss (.t 63) (.c (.i .i64 0)))⟩, []),
  (⟨(some 65), none, (.pick (.t 53) (.t 64) (.c (.b false)))⟩, [])]
theorem r45_6 {fn : AFun} {K : List AItem} {t : Nat → AV} {H : AH} {T : Tbl} : runR T fn (.code (.drw d45_6) :: K) t H = regR T fn K (aops (callR T) [
  ⟨(some 50), none, (.val (.t 11))⟩,
  ⟨(some 51), none, (.val (.t 12))⟩,
  ⟨(some 52), none, (.bin .leq (.t 50) (.t 51))⟩,
  ⟨(some 53), none, (.val (.t 52))⟩,
  ⟨(some 54), (some (53, true)), (.val (.t 4))⟩,
  ⟨(some 55), (some (53, true)), (.val (.t 0))⟩,
  ⟨(some 56), (some (53, true)), (.val (.t 1))⟩,
  ⟨(some 57), (some (53, true)), (.ia 1 (.t 55) (.t 56))⟩,
  ⟨(some 58), (some (53, true)), (.ld none (.t 57))⟩,
  ⟨(some 59), (some (53, true)), (.val (.t 0))⟩,
  ⟨(some 60), (some (53, true)), (.val (.t 12))⟩,
  ⟨(some 61), (some (53, true)), (.ia 1 (.t 59) (.t 60))⟩,
  ⟨(some 62), (some (53, true)), (.ld none (.t 61))⟩,
  ⟨(some 63), (some (53, true)), (.callv (.t 54) [(.t 58), (.t 62)])⟩,
  ⟨(some 64), (some (53, true)), (.bin .lss (.t 63) (.c (.i .i64 0)))⟩,
  ⟨(some 65), none, (.pick (.t 53) (.t 64) (.c (.b false)))⟩] t H) := runR_plain rfl
def d45_7 : List AOper := [
  ⟨(some 66), none, (.val (.t 12))⟩,
  ⟨(some 67), none, (.bin .sub (.t 66) (.c (.i .i64 1)))⟩,
  ⟨(some 12), none, (.val (.t 67))⟩]
theorem r45_7 {fn : AFun} {K : List AItem} {t : Nat → AV} {H : AH} {T : Tbl} : runR T fn (.code (.reg d45_7) :: K) t H = regR T fn K (aops (callR T) [
  ⟨(some 66), none, (.val (.t 12))⟩,
  ⟨(some 67), none, (.bin .sub (.t 66) (.c (.i .i64 1)))⟩,
  ⟨(some 12), none, (.val (.t 67))⟩] t H) := runR_reg'
def l45_8 : ACode := (.seq (.seq (.drw d45_6) (.cond (.t 65) .skip (.exit 4))) (.block 5 (.reg d45_7)))
def d45_9 : List AOper := [
  ⟨(some 68), none, (.val (.t 11))⟩,
  ⟨(some 69), none, (.val (.t 12))⟩,
  ⟨(some 70), none, (.bin .gtr (.t 68) (.t 69))⟩]
theorem r45_9 {fn : AFun} {K : List AItem} {t : Nat → AV} {H : AH} {T : Tbl} : runR T fn (.code (.reg d45_9) :: K) t H = regR T fn K (aops (callR T) [
  ⟨(some 68), none, (.val (.t 11))⟩,
  ⟨(some 69), none, (.val (.t 12))⟩,
  ⟨(some 70), none, (.bin .gtr (.t 68) (.t 69))⟩] t H) := runR_reg'
def d45_10 : List (AOper × List Nat) := [
  (⟨(some 71), none, (.val (.t 0))⟩, []),
  (⟨(some 72), none, (.val (.t 11))⟩, []),
  (⟨(some 73), none, (.val (.t 0))⟩, []),
  (⟨(some 74), none, (.val (.t 12))⟩, []),
  (⟨(some 75), none, (.val (.t 0))⟩, []),
  (⟨(some 76), none, (.val (.t 12))⟩, []),
  (⟨(some 77), none, (.ia 1 (.t 75) (.t 76))⟩, []),
  (⟨(some 78), none, (.ld none (.t 77))⟩, [1]),
  (⟨(some 79), none, (.val (.t 0))⟩, []),
  (⟨(some 80), none, (.val (.t 11))⟩, []),
  (⟨(some 81), none, (.ia 1 (.t 79) (.t 80))⟩, []),
  (⟨(some 82), none, (.ld none (.t 81))⟩, [1]),
  (⟨(some 83), none, (.ia 1 (.t 71) (.t 72))⟩, []),
  (⟨none, none, (.st 1 (.t 83) (.t 78))⟩, []),
  (⟨(some 84), none, (.ia 1 (.t 73) (.t 74))⟩, []),
  (⟨none, none, (.st 1 (.t 84) (.t 82))⟩, [])]
theorem r45_10 {fn : AFun} {K : List AItem} {t : Nat → AV} {H : AH} {T : Tbl} : runR T fn (.code (.drw d45_10) :: K) t H = regR T fn K (aops (callR T) [
  ⟨(some 71), none, (.val (.t 0))⟩,
  ⟨(some 72), none, (.val (.t 11))⟩,
  ⟨(some 73), none, (.val (.t 0))⟩,
  ⟨(some 74), none, (.val (.t 12))⟩,
  ⟨(some 75), none, (.val (.t 0))⟩,
  ⟨(some 76), none, (.val (.t 12))⟩,
  ⟨(some 77), none, (.ia 1 (.t 75) (.t 76))⟩,
  ⟨(some 78), none, (.ld none (.t 77))⟩,
  ⟨(some 79), none, (.val (.t 0))⟩,
  ⟨(some 80), none, (.val (.t 11))⟩,
  ⟨(some 81), none, (.ia 1 (.t 79) (.t 80))⟩,
  ⟨(some 82), none, (.ld none (.t 81))⟩,
  ⟨(some 83), none, (.ia 1 (.t 71) (.t 72))⟩,
  ⟨none, none, (.st 1 (.t 83) (.t 78))⟩,
  ⟨(some 84), none, (.ia 1 (.t 73) (.t 74))⟩,
  ⟨none, none, (.st 1 (.t 84) (.t 82))⟩] t H) := runR_plain rfl
def d45_11 : List AOper := [
  ⟨(some 85), none, (.val (.t 11))⟩,
  ⟨(some 86), none, (.bin .add (.t 85) (.c (.i .i64 1)))⟩,
  ⟨(some 11), none, (.val (.t 86))⟩]
theorem r45_11 {fn : AFun} {K : List AItem} {t : Nat → AV} {H : AH} {T : Tbl} : runR T fn (.code (.reg d45_11) :: K) t H = regR T fn K (aops (callR T) [
  ⟨(some 85), none, (.val (.t 11))⟩,
  ⟨(some 86), none, (.bin .add (.t 85) (.c (.i .i64 1)))⟩,
  ⟨(some 11), none, (.val (.t 86))⟩] t H) := runR_reg'
def d45_12 : List AOper := [
  ⟨(some 87), none, (.val (.t 12))⟩,
  ⟨(some 88), none, (.bin .sub (.t 87) (.c (.i .i64 1)))⟩,
  ⟨(some 12), none, (.val (.t 88))⟩]
theorem r45_12 {fn : AFun} {K : List AItem} {t : Nat → AV} {H : AH} {T : Tbl} : runR T fn (.code (.reg d45_12) :: K) t H = regR T fn K (aops (callR T) [
  ⟨(some 87), none, (.val (.t 12))⟩,
  ⟨(some 88), none, (.bin .sub (.t 87) (.c (.i .i64 1)))⟩,
  ⟨(some 12), none, (.val (.t 88))⟩] t H) := runR_reg'
def l45_13 : ACode := (.block 1 (.seq (.block 2 (.loop l45_5)) (.seq (.block 4 (.loop l45_8)) (.seq (.seq (.reg d45_9) (.cond (.t 70) (.exit 0) .skip)) (.seq (.drw d45_10) (.seq (.reg d45_11) (.reg d45_12)))))))
def d45_14 : List AOper := [
  ⟨(some 89), none, (.val (.t 11))⟩,
  ⟨(some 10), none, (.val (.t 89))⟩]
theorem r45_14 {fn : AFun} {K : List AItem} {t : Nat → AV} {H : AH} {T : Tbl} : runR T fn (.code (.reg d45_14) :: K) t H = regR T fn K (aops (callR T) [
  ⟨(some 89), none, (.val (.t 11))⟩,
  ⟨(some 10), none, (.val (.t 89))⟩] t H) := runR_reg'
def a45 : AFun := ⟨90, [(.tmp 10)], (.seq (.reg d45_0) (.seq (.drw d45_1) (.seq (.reg d45_2) (.seq (.block 0 (.loop l45_13)) (.seq (.reg d45_14) .ret)))))⟩
theorem a45_ok : cfun Try.prog 45 = some a45 := by kernel_rfl
/-- slices.partitionCmpFunc[int] -/
def d46_0 : List AOper := [
  ⟨(some 10), none, (.val (.c (.i .i64 0)))⟩,
  ⟨(some 11), none, (.val (.c (.b false)))⟩]
theorem r46_0 {fn : AFun} {K : List AItem} {t : Nat → AV} {H : AH} {T : Tbl} : runR T fn (.code (.reg d46_0) :: K) t H = regR T fn K (aops (callR T) [
  ⟨(some 10), none, (.val (.c (.i .i64 0)))⟩,
  ⟨(some 11), none, (.val (.c (.b false)))⟩] t H) := runR_reg'
def d46_1 : List (AOper × List Nat) := [
  (⟨(some 14), none, (.val (.t 0))⟩, []),
  (⟨(some 15), none, (.val (.t 1))⟩, []),
  (⟨(some 16), none, (.val (.t 0))⟩, []),
  (⟨(some 17), none, (.val (.t 3))⟩, []),
  (⟨(some 18), none, (.val (.t 0))⟩, []),
  (⟨(some 19), none, (.val (.t 3))⟩, []),
  (⟨(some 20), none, (.ia 1 (.t 18) (.t 19))⟩, []),
  (⟨(some 21), none, (.ld none (.t 20))⟩, [1]),
  (⟨(some 22), none, (.val (.t 0))⟩, []),
  (⟨(some 23), none, (.val (.t 1))⟩, []),
  (⟨(some 24), none, (.ia 1 (.t 22) (.t 23))⟩, []),
  (⟨(some 25), none, (.ld none (.t 24))⟩, [1]),
  (⟨(some 26), none, (.ia 1 (.t 14) (.t 15))⟩, []),
  (⟨none, none, (.st 1 (.t 26) (.t 21))⟩, []),
  (⟨(some 27), none, (.ia 1 (.t 16) (.t 17))⟩, []),
  (⟨none, none, (.st 1 (.t 27) (.t 25))⟩, [])]
theorem r46_1 {fn : AFun} {K : List AItem} {t : Nat → AV} {H : AH} {T : Tbl} : runR T fn (.code (.drw d46_1) :: K) t H = regR T fn K (aops (callR T) [
  ⟨(some 14), none, (.val (.t 0))⟩,
  ⟨(some 15), none, (.val (.t 1))⟩,
  ⟨(some 16), none, (.val (.t 0))⟩,
  ⟨(some 17), none, (.val (.t 3))⟩,
  ⟨(some 18), none, (.val (.t 0))⟩,
  ⟨(some 19), none, (.val (.t 3))⟩,
  ⟨(some 20), none, (.ia 1 (.t 18) (.t 19))⟩,
  ⟨(some 21), none, (.ld none (.t 20))⟩,
  ⟨(some 22), none, (.val (.t 0))⟩,
  ⟨(some 23), none, (.val (.t 1))⟩,
  ⟨(some 24), none, (.ia 1 (.t 22) (.t 23))⟩,
  ⟨(some 25), none, (.ld none (.t 24))⟩,
  ⟨(some 26), none, (.ia 1 (.t 14) (.t 15))⟩,
  ⟨none, none, (.st 1 (.t 26) (.t 21))⟩,
  ⟨(some 27), none, (.ia 1 (.t 16) (.t 17))⟩,
  ⟨none, none, (.st 1 (.t 27) (.t 25))⟩] t H) := runR_plain rfl
def d46_2 : List AOper := [
  ⟨(some 28), none, (.val (.t 1))⟩,
  ⟨(some 29), none, (.bin .add (.t 28) (.c (.i .i64 1)))⟩,
  ⟨(some 30), none, (.val (.t 2))⟩,
  ⟨(some 31), none, (.bin .sub (.t 30) (.c (.i .i64 1)))⟩,
  ⟨(some 12), none, (.val (.t 29))⟩,
  ⟨(some 13), none, (.val (.t 31))⟩]
theorem r46_2 {fn : AFun} {K : List AItem} {t : Nat → AV} {H : AH} {T : Tbl} : runR T fn (.code (.reg d46_2) :: K) t H = regR T fn K (aops (callR T) [
  ⟨(some 28), none, (.val (.t 1))⟩,
  ⟨(some 29), none, (.bin .add (.t 28) (.c (.i .i64 1)))⟩,
  ⟨(some 30), none, (.val (.t 2))⟩,
  ⟨(some 31), none, (.bin .sub (.t 30) (.c (.i .i64 1)))⟩,
  ⟨(some 12), none, (.val (.t 29))⟩,
  ⟨(some 13), none, (.val (.t 31))⟩] t H) := runR_reg'
def d46_3 : List (AOper × List Nat) := [
  (⟨(some 32), none, (.val (.t 12))⟩, []),
  (⟨(some 33), none, (.val (.t 13))⟩, []),
  (⟨(some 34), none, (.bin .leq (.t 32) (.t 33))⟩, []),
  (⟨(some 35), none, (.val (.t 34))⟩, []),
  (⟨(some 36), (some (35, true)), (.val (.t 4))⟩, []),
  (⟨(some 37), (some (35, true)), (.val (.t 0))⟩, []),
  (⟨(some 38), (some (35, true)), (.val (.t 12))⟩, []),
  (⟨(some 39), (some (35, true)), (.ia 1 (.t 37) (.t 38))⟩, []),
  (⟨(some 40), (some (35, true)), (.ld none (.t 39))⟩, [1]),
  (⟨(some 41), (some (35, true)), (.val (.t 0))⟩, []),
  (⟨(some 42), (some (35, true)), (.val (.t 1))⟩, []),
  (⟨(some 43), (some (35, true)), (.ia 1 (.t 41) (.t 42))⟩, []),
  (⟨(some 44), (some (35, true)), (.ld none (.t 43))⟩, [1]),
  (⟨(some 45), (some (35, true)), (.callv (.t 36) [(.t 40), (.t 44)])⟩, []),
  (⟨(some 46), (some (35, true)), (.bin .lss (.t 45) (.c (.i .i64 0)))⟩, []),
  (⟨(some 47), none, (.pick (.t 35) (.t 46) (.c (.b false)))⟩, [])]
theorem r46_3 {fn : AFun} {K : List AItem} {t : Nat → AV} {H : AH} {T : Tbl} : runR T fn (.code (.drw d46_3) :: K) t H = regR T fn K (aops (callR T) [
  ⟨(some 32), none, (.val (.t 12))⟩,
  ⟨(some 33), none, (.val (.t 13))⟩,
  ⟨(some 34), none, (.bin .leq (.t 32) (.t 33))⟩,
  ⟨(some 35), none, (.val (.t 34))⟩,
  ⟨(some 36), (some (35, true)), (.val (.t 4))⟩,
  ⟨(some 37), (some (35, true)), (.val (.t 0))⟩,
  ⟨(some 38), (some (35, true)), (.val (.t 12))⟩,
  ⟨(some 39), (some (35, true)), (.ia 1 (.t 37) (.t 38))⟩,
  ⟨(some 40), (some (35, true)), (.ld none (.t 39))⟩,
  ⟨(some 41), (some (35, true)), (.val (.t 0))⟩,
  ⟨(some 42), (some (35, true)), (.val (.t 1))⟩,
  ⟨(some 43), (some (35, true)), (.ia 1 (.t 41) (.t 42))⟩,
  ⟨(some 44), (some (35, true)), (.ld none (.t 43))⟩,
  ⟨(some 45), (some (35, true)), (.callv (.t 36) [(.t 40), (.t 44)])⟩,
  ⟨(some 46), (some (35, true)), (.bin .lss (.t 45) (.c (.i .i64 0)))⟩,
  ⟨(some 47), none, (.pick (.t 35) (.t 46) (.c (.b false)))⟩] t H) := runR_plain rfl
def d46_4 : List AOper := [
  ⟨(some 48), none, (.val (.t 12))⟩,
  ⟨(some 49), none, (.bin .add (.t 48) (.c (.i .i64 1)))⟩,
  ⟨(some 12), none, (.val (.t 49))⟩]
theorem r46_4 {fn : AFun} {K : List AItem} {t : Nat → AV} {H : AH} {T : Tbl} : runR T fn (.code (.reg d46_4) :: K) t H = regR T fn K (aops (callR T) [
  ⟨(some 48), none, (.val (.t 12))⟩,
  ⟨(some 49), none, (.bin .add (.t 48) (.c (.i .i64 1)))⟩,
  ⟨(some 12), none, (.val (.t 49))⟩] t H) := runR_reg'
def l46_5 : ACode := (.seq (.seq (.drw d46_3) (.cond (.t 47) .skip (.exit 0))) (.block 1 (.reg d46_4)))
def d46_6 : List (AOper × List Nat) := [
  (⟨(some 50), none, (.val (.t 12))⟩, []),
  (⟨(some 51), none, (.val (.t 13))⟩, []),
  (⟨(some 52), none, (.bin .leq (.t 50) (.t 51))⟩, []),
  (⟨(some 53), none, (.val (.t 52))⟩, []),
  (⟨(some 54), (some (53, true)), (.val (.t 4))⟩, []),
  (⟨(some 55), (some (53, true)), (.val (.t 0))⟩, []),
  (⟨(some 56), (some (53, true)), (.val (.t 13))⟩, []),
  (⟨(some 57), (some (53, true)), (.ia 1 (.t 55) (.t 56))⟩, []),
  (⟨(some 58), (some (53, true)), (.ld none (.t 57))⟩, [1]),
  (⟨(some 59), (some (53, true)), (.val (.t 0))⟩, []),
  (⟨(some 60), (some (53, true)), (.val (.t 1))⟩, []),
  (⟨(some 61), (some (53, true)), (.ia 1 (.t 59) (.t 60))⟩, []),
  (⟨(some 62), (some (53, true)), (.ld none (.t 61))⟩, [1]),
  (⟨(some 63), (some (53, true)), (.callv (.t 54) [(.t 58), (.t 62)])⟩, []),
  (⟨(some 64), (some (53, true)), (.bin .lss (.t 63) (.c (.i .i64 0)))⟩, []),
  (⟨(some 65), (some (53, true)), (.un .not (.t 64))⟩, []),
  (⟨(some 66), none, (.pick (.t 53) (.t 65) (.c (.b false)))⟩, [])]
theorem r46_6 {fn : AFun} {K : List AItem} {t : Nat → AV} {H : AH} {T : Tbl} : runR T fn (.code (.drw d46_6) :: K) t H = regR T fn K (aops (callR T) [
  ⟨(some 50), none, (.val (.t 12))⟩,
  ⟨(some 51), none, (.val (.t 13))⟩,
  ⟨(some 52), none, (.bin .leq (.t 50) (.t 51))⟩,
  ⟨(some 53), none, (.val (.t 52))⟩,
  ⟨(some 54), (some (53, true)), (.val (.t 4))⟩,
  ⟨(some 55), (some (53, true)), (.val (.t 0))⟩,
  ⟨(some 56), (some (53, true)), (.val (.t 13))⟩,
  ⟨(some 57), (some (53, true)), (.ia 1 (.t 55) (.t 56))⟩,
  ⟨(some 58), (some (53, true)), (.ld none (.t 57))⟩,
  ⟨(some 59), (some (53, true)), (.val (.t 0))⟩,
  ⟨(some 60), (some (53, true)), (.val (.t 1))⟩,
  ⟨(some 61), (some (53, true)), (.ia 1 (.t 59) (.t 60))⟩,
  ⟨(some 62), (some (53, true)), (.ld none (.t 61))⟩,
  ⟨(some 63), (some (53, true)), (.callv (.t 54) [(.t 58), (.t 62)])⟩,
  ⟨(some 64), (some (53, true)), (.bin .lss (.t 63) (.c (.i .i64 0)))⟩,
  ⟨(some 65), (some (53, true)), (.un .not (.t 64))⟩,
  ⟨(some 66), none, (.pick (.t 53) (.t 65) (.c (.b false)))⟩] t H) := runR_plain rfl
def d46_7 : List AOper := [
  ⟨(some 67), none, (.val (.t 13))⟩,
  ⟨(some 68), none, (.bin .sub (.t 67) (.c (.i .i64 1)))⟩,
  ⟨(some 13), none, (.val (.t 68))⟩]
theorem r46_7 {fn : AFun} {K : List AItem} {t : Nat → AV} {H : AH} {T : Tbl} : runR T fn (.code (.reg d46_7) :: K) t H = regR T fn K (aops (callR T) [
  ⟨(some 67), none, (.val (.t 13))⟩,
  ⟨(some 68), none, (.bin .sub (.t 67) (.c (.i .i64 1)))⟩,
  ⟨(some 13), none, (.val (.t 68))⟩] t H) := runR_reg'
def l46_8 : ACode := (.seq (.seq (.drw d46_6) (.cond (.t 66) .skip (.exit 2))) (.block 3 (.reg d46_7)))
def d46_9 : List AOper := [
  ⟨(some 69), none, (.val (.t 12))⟩,
  ⟨(some 70), none, (.val (.t 13))⟩,
  ⟨(some 71), none, (.bin .gtr (.t 69) (.t 70))⟩]
theorem r46_9 {fn : AFun} {K : List AItem} {t : Nat → AV} {H : AH} {T : Tbl} : runR T fn (.code (.reg d46_9) :: K) t H = regR T fn K (aops (callR T) [
  ⟨(some 69), none, (.val (.t 12))⟩,
  ⟨(some 70), none, (.val (.t 13))⟩,
  ⟨(some 71), none, (.bin .gtr (.t 69) (.t 70))⟩] t H) := runR_reg'
def d46_10 : List (AOper × List Nat) := [
  (⟨(some 72), none, (.val (.t 0))⟩, []),
  (⟨(some 73), none, (.val (.t 13))⟩, []),
  (⟨(some 74), none, (.val (.t 0))⟩, []),
  (⟨(some 75), none, (.val (.t 1))⟩, []),
  (⟨(some 76), none, (.val (.t 0))⟩, []),
  (⟨(some 77), none, (.val (.t 1))⟩, []),
  (⟨(some 78), none, (.ia 1 (.t 76) (.t 77))⟩, []),
  (⟨(some 79), none, (.ld none (.t 78))⟩, [1]),
  (⟨(some 80), none, (.val (.t 0))⟩, []),
  (⟨(some 81), none, (.val (.t 13))⟩, []),
  (⟨(some 82), none, (.ia 1 (.t 80) (.t 81))⟩, []),
  (⟨(some 83), none, (.ld none (.t 82))⟩, [1]),
  (⟨(some 84), none, (.ia 1 (.t 72) (.t 73))⟩, []),
  (⟨none, none, (.st 1 (.t 84) (.t 79))⟩, []),
  (⟨(some 85), none, (.ia 1 (.t 74) (.t 75))⟩, []),
  (⟨none, none, (.st 1 (.t 85) (.t 83))⟩, [])]
theorem r46_10 {fn : AFun} {K : List AItem} {t : Nat → AV} {H : AH} {T : Tbl} : runR T fn (.code (.drw d46_10) :: K) t H = regR T fn K (aops (callR T) [
  ⟨(some 72), none, (.val (.t 0))⟩,
  ⟨(some 73), none, (.val (.t 13))⟩,
  ⟨(some 74), none, (.val (.t 0))⟩,
  ⟨(some 75), none, (.val (.t 1))⟩,
  ⟨(some 76), none, (.val (.t 0))⟩,
  ⟨(some 77), none, (.val (.t 1))⟩,
  ⟨(some 78), none, (.ia 1 (.t 76) (.t 77))⟩,
  ⟨(some 79), none, (.ld none (.t 78))⟩,
  ⟨(some 80), none, (.val (.t 0))⟩,
  ⟨(some 81), none, (.val (.t 13))⟩,
  ⟨(some 82), none, (.ia 1 (.t 80) (.t 81))⟩,
  ⟨(some 83), none, (.ld none (.t 82))⟩,
  ⟨(some 84), none, (.ia 1 (.t 72) (.t 73))⟩,
  ⟨none, none, (.st 1 (.t 84) (.t 79))⟩,
  ⟨(some 85), none, (.ia 1 (.t 74) (.t 75))⟩,
  ⟨none, none, (.st 1 (.t 85) (.t 83))⟩] t H) := runR_plain rfl
def d46_11 : List AOper := [
  ⟨(some 86), none, (.val (.t 13))⟩,
  ⟨(some 10), none, (.val (.t 86))⟩,
  ⟨(some 11), none, (.val (.c (.b true)))⟩]
theorem r46_11 {fn : AFun} {K : List AItem} {t : Nat → AV} {H : AH} {T : Tbl} : runR T fn (.code (.reg d46_11) :: K) t H = regR T fn K (aops (callR T) [
  ⟨(some 86), none, (.val (.t 13))⟩,
  ⟨(some 10), none, (.val (.t 86))⟩,
  ⟨(some 11), none, (.val (.c (.b true)))⟩] t H) := runR_reg'
def d46_12 : List (AOper × List Nat) := [
  (⟨(some 87), none, (.val (.t 0))⟩, []),
  (⟨(some 88), none, (.val (.t 12))⟩, []),
  (⟨(some 89), none, (.val (.t 0))⟩, []),
  (⟨(some 90), none, (.val (.t 13))⟩, []),
  (⟨(some 91), none, (.val (.t 0))⟩, []),
  (⟨(some 92), none, (.val (.t 13))⟩, []),
  (⟨(some 93), none, (.ia 1 (.t 91) (.t 92))⟩, []),
  (⟨(some 94), none, (.ld none (.t 93))⟩, [1]),
  (⟨(some 95), none, (.val (.t 0))⟩, []),
  (⟨(some 96), none, (.val (.t 12))⟩, []),
  (⟨(some 97), none, (.ia 1 (.t 95) (.t 96))⟩, []),
  (⟨(some 98), none, (.ld none (.t 97))⟩, [1]),
  (⟨(some 99), none, (.ia 1 (.t 87) (.t 88))⟩, []),
  (⟨none, none, (.st 1 (.t 99) (.t 94))⟩, []),
  (⟨(some 100), none, (.ia 1 (.t 89) (.t 90))⟩, []),
  (⟨none, none, (.st 1 (.t 100) (.t 98))⟩, [])]
theorem r46_12 {fn : AFun} {K : List AItem} {t : Nat → AV} {H : AH} {T : Tbl} : runR T fn (.code (.drw d46_12) :: K) t H = regR T fn K (aops (callR T) [
  ⟨(some 87), none, (.val (.t 0))⟩,
  ⟨(some 88), none, (.val (.t 12))⟩,
  ⟨(some 89), none, (.val (.t 0))⟩,
  ⟨(some 90), none, (.val (.t 13))⟩,
  ⟨(some 91), none, (.val (.t 0))⟩,
  ⟨(some 92), none, (.val (.t 13))⟩,
  ⟨(some 93), none, (.ia 1 (.t 91) (.t 92))⟩,
  ⟨(some 94), none, (.ld none (.t 93))⟩,
  ⟨(some 95), none, (.val (.t 0))⟩,
  ⟨(some 96), none, (.val (.t 12))⟩,
  ⟨(some 97), none, (.ia 1 (.t 95) (.t 96))⟩,
  ⟨(some 98), none, (.ld none (.t 97))⟩,
  ⟨(some 99), none, (.ia 1 (.t 87) (.t 88))⟩,
  ⟨none, none, (.st 1 (.t 99) (.t 94))⟩,
  ⟨(some 100), none, (.ia 1 (.t 89) (.t 90))⟩,
  ⟨none, none, (.st 1 (.t 100) (.t 98))⟩] t H) := runR_plain rfl
def d46_13 : List AOper := [
  ⟨(some 101), none, (.val (.t 12))⟩,
  ⟨(some 102), none, (.bin .add (.t 101) (.c (.i .i64 1)))⟩,
  ⟨(some 12), none, (.val (.t 102))⟩]
theorem r46_13 {fn : AFun} {K : List AItem} {t : Nat → AV} {H : AH} {T : Tbl} : runR T fn (.code (.reg d46_13) :: K) t H = regR T fn K (aops (callR T) [
  ⟨(some 101), none, (.val (.t 12))⟩,
  ⟨(some 102), none, (.bin .add (.t 101) (.c (.i .i64 1)))⟩,
  ⟨(some 12), none, (.val (.t 102))⟩] t H) := runR_reg'
def d46_14 : List AOper := [
  ⟨(some 103), none, (.val (.t 13))⟩,
  ⟨(some 104), none, (.bin .sub (.t 103) (.c (.i .i64 1)))⟩,
  ⟨(some 13), none, (.val (.t 104))⟩]
theorem r46_14 {fn : AFun} {K : List AItem} {t : Nat → AV} {H : AH} {T : Tbl} : runR T fn (.code (.reg d46_14) :: K) t H = regR T fn K (aops (callR T) [
  ⟨(some 103), none, (.val (.t 13))⟩,
  ⟨(some 104), none, (.bin .sub (.t 103) (.c (.i .i64 1)))⟩,
  ⟨(some 13), none, (.val (.t 104))⟩] t H) := runR_reg'
def d46_15 : List (AOper × List Nat) := [
  (⟨(some 105), none, (.val (.t 12))⟩, []),
  (⟨(some 106), none, (.val (.t 13))⟩, []),
  (⟨(some 107), none, (.bin .leq (.t 105) (.t 106))⟩, []),
  (⟨(some 108), none, (.val (.t 107))⟩, []),
  (⟨(some 109), (some (108, true)), (.val (.t 4))⟩, []),
  (⟨(some 110), (some (108, true)), (.val (.t 0))⟩, []),
  (⟨(some 111), (some (108, true)), (.val (.t 12))⟩, []),
  (⟨(some 112), (some (108, true)), (.ia 1 (.t 110) (.t 111))⟩, []),
  (⟨(some 113), (some (108, true)), (.ld none (.t 112))⟩, [1]),
  (⟨(some 114), (some (108, true)), (.val (.t 0))⟩, []),
  (⟨(some 115), (some (108, true)), (.val (.t 1))⟩, []),
  (⟨(some 116), (some (108, true)), (.ia 1 (.t 114) (.t 115))⟩, []),
  (⟨(some 117), (some (108, true)), (.ld none (.t 116))⟩, [1]),
  (⟨(some 118), (some (108, true)), (.callv (.t 109) [(.t 113), (.t 117)])⟩, []),
  (⟨(some 119), (some (108, true)), (.bin .lss (.t 118) (.c (.i .i64 0)))⟩, []),
  (⟨(some 120), none, (.pick (.t 108) (.t 119) (.c (.b false)))⟩, [])]
theorem r46_15 {fn : AFun} {K : List AItem} {t : Nat → AV} {H : AH} {T : Tbl} : runR T fn (.code (.drw d46_15) :: K) t H = regR T fn K (aops (callR T) [
  ⟨(some 105), none, (.val (.t 12))⟩,
  ⟨(some 106), none, (.val (.t 13))⟩,
  ⟨(some 107), none, (.bin .leq (.t 105) (.t 106))⟩,
  ⟨(some 108), none, (.val (.t 107))⟩,
  ⟨(some 109), (some (108, true)), (.val (.t 4))⟩,
  ⟨(some 110), (some (108, true)), (.val (.t 0))⟩,
  ⟨(some 111), (some (108, true)), (.val (.t 12))⟩,
  ⟨(some 112), (some (108, true)), (.ia 1 (.t 110) (.t 111))⟩,
  ⟨(some 113), (some (108, true)), (.ld none (.t 112))⟩,
  ⟨(some 114), (some (108, true)), (.val (.t 0))⟩,
  ⟨(some 115), (some (108, true)), (.val (.t 1))⟩,
  ⟨(some 116), (some (108, true)), (.ia 1 (.t 114) (.t 115))⟩,
  ⟨(some 117), (some (108, true)), (.ld none (.t 116))⟩,
  ⟨(some 118), (some (108, true)), (.callv (.t 109) [(.t 113), (.t 117)])⟩,
  ⟨(some 119), (some (108, true)), (.bin .lss (.t 118) (.c (.i .i64 0)))⟩,
  ⟨(some 120), none, (.pick (.t 108) (.t 119) (.c (.b false)))⟩] t H) := runR_plain rfl
def d46_16 : List AOper := [
  ⟨(some 121), none, (.val (.t 12))⟩,
  ⟨(some 122), none, (.bin .add (.t 121) (.c (.i .i64 1)))⟩,
  ⟨(some 12), none, (.val (.t 122))⟩]
theorem r46_16 {fn : AFun} {K : List AItem} {t : Nat → AV} {H : AH} {T : Tbl} : runR T fn (.code (.reg d46_16) :: K) t H = regR T fn K (aops (callR T) [
  ⟨(some 121), none, (.val (.t 12))⟩,
  ⟨(some 122), none, (.bin .add (.t 121) (.c (.i .i64 1)))⟩,
  ⟨(some 12), none, (.val (.t 122))⟩] t H) := runR_reg'
def l46_17 : ACode := (.seq (.seq (.drw d46_15) (.cond (.t 120) .skip (.exit 6))) (.block 7 (.reg d46_16)))
def d46_18 : List (AOper × List Nat) := [
  (⟨(some 123), none, (.val (.t 12))⟩, []),
  (⟨(some 124), none, (.val (.t 13))⟩, []),
  (⟨(some 125), none, (.bin .leq (.t 123) (.t 124))⟩, []),
  (⟨(some 126), none, (.val (.t 125))⟩, []),
  (⟨(some 127), (some (126, true)), (.val (.t 4))⟩, []),
  (⟨(some 128), (some (126, true)), (.val (.t 0))⟩, []),
  (⟨(some 129), (some (126, true)), (.val (.t 13))⟩, []),
  (⟨(some 130), (some (126, true)), (.ia 1 (.t 128) (.t 129))⟩, []),
  (⟨(some 131), (some (126, true)), (.ld none (.t 130))⟩, [1]),
  (⟨(some 132), (some (126, true)), (.val (.t 0))⟩, []),
  (⟨(some 133), (some (126, true)), (.val (.t 1))⟩, []),
  (⟨(some 134), (some (126, true)), (.ia 1 (.t 132) (.t 133))⟩, []),
  (⟨(some 135), (some (126, true)), (.ld none (.t 134))⟩, [1]),
  (⟨(some 136), (some (126, true)), (.callv (.t 127) [(.t 131), (.t 135)])⟩, []),
  (⟨(some 137), (some (126, true)), (.bin .lss (.t 136) (.c (.i .i64 0)))⟩, []),
  (⟨(some 138), (some (126, true)), (.un .not (.t 137))⟩, []),
  (⟨(some 139), none, (.pick (.t 126) (.t 138) (.c (.b false)))⟩, [])]
theorem r46_18 {fn : AFun} {K : List AItem} {t : Nat → AV} {H : AH} {T : Tbl} : runR T fn (.code (.drw d46_18) :: K) t H = regR T fn K (aops (callR T) [
  ⟨(some 123), none, (.val (.t 12))⟩,
  ⟨(some 124), none, (.val (.t 13))⟩,
  ⟨(some 125), none, (.bin .leq (.t 123) (.t 124))⟩,
  ⟨(some 126), none, (.val (.t 125))⟩,
  ⟨(some 127), (some (126, true)), (.val (.t 4))⟩,
  ⟨(some 128), (some (126, true)), (.val (.t 0))⟩,
  ⟨(some 129), (some (126, true)), (.val (.t 13))⟩,
  ⟨(some 130), (some (126, true)), (.ia 1 (.t 128) (.t 129))⟩,
  ⟨(some 131), (some (126, true)), (.ld none (.t 130))⟩,
  ⟨(some 132), (some (126, true)), (.val (.t 0))⟩,
  ⟨(some 133), (some (126, true)), (.val (.t 1))⟩,
  ⟨(some 134), (some (126, true)), (.ia 1 (.t 132) (.t 133))⟩,
  ⟨(some 135), (some (126, true)), (.ld none (.t 134))⟩,
  ⟨(some 136), (some (126, true)), (.callv (.t 127) [(.t 131), (.t 135)])⟩,
  ⟨(some 137), (some (126, true)), (.bin .lss (.t 136) (.c (.i .i64 0)))⟩,
  ⟨(some 138), (some (126, true)), (.un .not (.t 137))⟩,
  ⟨(some 139), none, (.pick (.t 126) (.t 138) (.c (.b false)))⟩] t H) := runR_plain rfl
def d46_19 : List AOper := [
  ⟨(some 140), none, (.val (.t 13))⟩,
  ⟨(some 141), none, (.bin .sub (.t 140) (.c (.i .i64 1)))⟩,
  ⟨(some 13), none, (.val (.t 141))⟩]
theorem r46_19 {fn : AFun} {K : List AItem} {t : Nat → AV} {H : AH} {T : Tbl} : runR T fn (.code (.reg d46_19) :: K) t H = regR T fn K (aops (callR T) [
  ⟨(some 140), none, (.val (.t 13))⟩,
  ⟨(some 141), none, (.bin .sub (.t 140) (.c (.i .i64 1)))⟩,
  ⟨(some 13), none, (.val (.t 141))⟩] t H) := runR_reg'
def l46_20 : ACode := (.seq (.seq (.drw d46_18) (.cond (.t 139) .skip (.exit 8))) (.block 9 (.reg d46_19)))
def d46_21 : List AOper := [
  ⟨(some 142), none, (.val (.t 12))⟩,
  ⟨(some 143), none, (.val (.t 13))⟩,
  ⟨(some 144), none, (.bin .gtr (.t 142) (.t 143))⟩]
theorem r46_21 {fn : AFun} {K : List AItem} {t : Nat → AV} {H : AH} {T : Tbl} : runR T fn (.code (.reg d46_21) :: K) t H = regR T fn K (aops (callR T) [
  ⟨(some 142), none, (.val (.t 12))⟩,
  ⟨(some 143), none, (.val (.t 13))⟩,
  ⟨(some 144), none, (.bin .gtr (.t 142) (.t 143))⟩] t H) := runR_reg'
def d46_22 : List (AOper × List Nat) := [
  (⟨(some 145), none, (.val (.t 0))⟩, []),
  (⟨(some 146), none, (.val (.t 12))⟩, []),
  (⟨(some 147), none, (.val (.t 0))⟩, []),
  (⟨(some 148), none, (.val (.t 13))⟩, []),
  (⟨(some 149), none, (.val (.t 0))⟩, []),
  (⟨(some 150), none, (.val (.t 13))⟩, []),
  (⟨(some 151), none, (.ia 1 (.t 149) (.t 150))⟩, []),
  (⟨(some 152), none, (.ld none (.t 151))⟩, [1]),
  (⟨(some 153), none, (.val (.t 0))⟩, []),
  (⟨(some 154), none, (.val (.t 12))⟩, []),
  (⟨(some 155), none, (.ia 1 (.t 153) (.t 154))⟩, []),
  (⟨(some 156), none, (.ld none (.t 155))⟩, [1]),
  (⟨(some 157), none, (.ia 1 (.t 145) (.t 146))⟩, []),
  (⟨none, none, (.st 1 (.t 157) (.t 152))⟩, []),
  (⟨(some 158), none, (.ia 1 (.t 147) (.t 148))⟩, []),
  (⟨none, none, (.st 1 (.t 158) (.t 156))⟩, [])]
theorem r46_22 {fn : AFun} {K : List AItem} {t : Nat → AV} {H : AH} {T : Tbl} : runR T fn (.code (.drw d46_22) :: K) t H = regR T fn K (aops (callR T) [
  ⟨(some 145), none, (.val (.t 0))⟩,
  ⟨(some 146), none, (.val (.t 12))⟩,
  ⟨(some 147), none, (.val (.t 0))⟩,
  ⟨(some 148), none, (.val (.t 13))⟩,
  ⟨(some 149), none, (.val (.t 0))⟩,
  ⟨(some 150), none, (.val (.t 13))⟩,
  ⟨(some 151), none, (.ia 1 (.t 149) (.t 150))⟩,
  ⟨(some 152), none, (.ld none (.t 151))⟩,
  ⟨(some 153), none, (.val (.t 0))⟩,
  ⟨(some 154), none, (.val (.t 12))⟩,
  ⟨(some 155), none, (.ia 1 (.t 153) (.t 154))⟩,
  ⟨(some 156), none, (.ld none (.t 155))⟩,
  ⟨(some 157), none, (.ia 1 (.t 145) (.t 146))⟩,
  ⟨none, none, (.st 1 (.t 157) (.t 152))⟩,
  ⟨(some 158), none, (.ia 1 (.t 147) (.t 148))⟩,
  ⟨none, none, (.st 1 (.t 158) (.t 156))⟩] t H) := runR_plain rfl
def d46_23 : List AOper := [
  ⟨(some 159), none, (.val (.t 12))⟩,
  ⟨(some 160), none, (.bin .add (.t 159) (.c (.i .i64 1)))⟩,
  ⟨(some 12), none, (.val (.t 160))⟩]
theorem r46_23 {fn : AFun} {K : List AItem} {t : Nat → AV} {H : AH} {T : Tbl} : runR T fn (.code (.reg d46_23) :: K) t H = regR T fn K (aops (callR T) [
  ⟨(some 159), none, (.val (.t 12))⟩,
  ⟨(some 160), none, (.bin .add (.t 159) (.c (.i .i64 1)))⟩,
  ⟨(some 12), none, (.val (.t 160))⟩] t H) := runR_reg'
def d46_24 : List AOper := [
  ⟨(some 161), none, (.val (.t 13))⟩,
  ⟨(some 162), none, (.bin .sub (.t 161) (.c (.i .i64 1)))⟩,
  ⟨(some 13), none, (.val (.t 162))⟩]
theorem r46_24 {fn : AFun} {K : List AItem} {t : Nat → AV} {H : AH} {T : Tbl} : runR T fn (.code (.reg d46_24) :: K) t H = regR T fn K (aops (callR T) [
  ⟨(some 161), none, (.val (.t 13))⟩,
  ⟨(some 162), none, (.bin .sub (.t 161) (.c (.i .i64 1)))⟩,
  ⟨(some 13), none, (.val (.t 162))⟩] t H) := runR_reg'
def l46_25 : ACode := (.block 5 (.seq (.block 6 (.loop l46_17)) (.seq (.block 8 (.loop l46_20)) (.seq (.seq (.reg d46_21) (.cond (.t 144) (.exit 4) .skip)) (.seq (.drw d46_22) (.seq (.reg d46_23) (.reg d46_24)))))))
def d46_26 : List (AOper × List Nat) := [
  (⟨(some 163), none, (.val (.t 0))⟩, []),
  (⟨(some 164), none, (.val (.t 13))⟩, []),
  (⟨(some 165), none, (.val (.t 0))⟩, []),
  (⟨(some 166), none, (.val (.t 1))⟩, []),
  (⟨(some 167), none, (.val (.t 0))⟩, []),
  (⟨(some 168), none, (.val (.t 1))⟩, []),
  (⟨(some 169), none, (.ia 1 (.t 167) (.t 168))⟩, []),
  (⟨(some 170), none, (.ld none (.t 169))⟩, [1]),
  (⟨(some 171), none, (.val (.t 0))⟩, []),
  (⟨(some 172), none, (.val (.t 13))⟩, []),
  (⟨(some 173), none, (.ia 1 (.t 171) (.t 172))⟩, []),
  (⟨(some 174), none, (.ld none (.t 173))⟩, [1]),
  (⟨(some 175), none, (.ia 1 (.t 163) (.t 164))⟩, []),
  (⟨none, none, (.st 1 (.t 175) (.t 170))⟩, []),
  (⟨(some 176), none, (.ia 1 (.t 165) (.t 166))⟩, []),
  (⟨none, none, (.st 1 (.t 176) (.t 174))⟩, [])]
theorem r46_26 {fn : AFun} {K : List AItem} {t : Nat → AV} {H : AH} {T : Tbl} : runR T fn (.code (.drw d46_26) :: K) t H = regR T fn K (aops (callR T) [
  ⟨(some 163), none, (.val (.t 0))⟩,
  ⟨(some 164), none, (.val (.t 13))⟩,
  ⟨(some 165), none, (.val (.t 0))⟩,
  ⟨(some 166), none, (.val (.t 1))⟩,
  ⟨(some 167), none, (.val (.t 0))⟩,
  ⟨(some 168), none, (.val (.t 1))⟩,
  ⟨(some 169), none, (.ia 1 (.t 167) (.t 168))⟩,
  ⟨(some 170), none, (.ld none (.t 169))⟩,
  ⟨(some 171), none, (.val (.t 0))⟩,
  ⟨(some 172), none, (.val (.t 13))⟩,
  ⟨(some 173), none, (.ia 1 (.t 171) (.t 172))⟩,
  ⟨(some 174), none, (.ld none (.t 173))⟩,
  ⟨(some 175), none, (.ia 1 (.t 163) (.t 164))⟩,
  ⟨none, none, (.st 1 (.t 175) (.t 170))⟩,
  ⟨(some 176), none, (.ia 1 (.t 165) (.t 166))⟩,
  ⟨none, none, (.st 1 (.t 176) (.t 174))⟩] t H) := runR_plain rfl
def d46_27 : List AOper := [
  ⟨(some 177), none, (.val (.t 13))⟩,
  ⟨(some 10), none, (.val (.t 177))⟩,
  ⟨(some 11), none, (.val (.c (.b false)))⟩]
theorem r46_27 {fn : AFun} {K : List AItem} {t : Nat → AV} {H : AH} {T : Tbl} : runR T fn (.code (.reg d46_27) :: K) t H = regR T fn K (aops (callR T) [
  ⟨(some 177), none, (.val (.t 13))⟩,
  ⟨(some 10), none, (.val (.t 177))⟩,
  ⟨(some 11), none, (.val (.c (.b false)))⟩] t H) := runR_reg'
def a46 : AFun := ⟨178, [(.tmp 10), (.tmp 11)], (.seq (.reg d46_0) (.seq (.drw d46_1) (.seq (.reg d46_2) (.seq (.block 0 (.loop l46_5)) (.seq (.block 2 (.loop l46_8)) (.seq (.seq (.reg d46_9) (.cond (.t 71) (.seq (.drw d46_10) (.seq (.reg d46_11) .ret)) .skip)) (.seq (.drw d46_12) (.seq (.reg d46_13) (.seq (.reg d46_14) (.seq (.block 4 (.loop l46_25)) (.seq (.drw d46_26) (.seq (.reg d46_27) .ret))))))))))))⟩
theorem a46_ok : cfun Try.prog 46 = some a46 := by kernel_rfl
/-- math/bits.Len32 -/
def d47_0 : List AOper := [
  ⟨(some 2), none, (.val (.c (.i .i64 0)))⟩]
theorem r47_0 {fn : AFun} {K : List AItem} {t : Nat → AV} {H : AH} {T : Tbl} : runR T fn (.code (.reg d47_0) :: K) t H = regR T fn K (aops (callR T) [
  ⟨(some 2), none, (.val (.c (.i .i64 0)))⟩] t H) := runR_reg'
def d47_1 : List AOper := [
  ⟨(some 3), none, (.val (.t 0))⟩,
  ⟨(some 4), none, (.bin .geq (.t 3) (.c (.i .u32 65536)))⟩]
theorem r47_1 {fn : AFun} {K : List AItem} {t : Nat → AV} {H : AH} {T : Tbl} : runR T fn (.code (.reg d47_1) :: K) t H = regR T fn K (aops (callR T) [
  ⟨(some 3), none, (.val (.t 0))⟩,
  ⟨(some 4), none, (.bin .geq (.t 3) (.c (.i .u32 65536)))⟩] t H) := runR_reg'
def d47_2 : List AOper := [
  ⟨(some 5), none, (.val (.t 0))⟩,
  ⟨(some 6), none, (.bin .shr (.t 5) (.c (.i .u64 16)))⟩,
  ⟨(some 0), none, (.val (.t 6))⟩]
theorem r47_2 {fn : AFun} {K : List AItem} {t : Nat → AV} {H : AH} {T : Tbl} : runR T fn (.code (.reg d47_2) :: K) t H = regR T fn K (aops (callR T) [
  ⟨(some 5), none, (.val (.t 0))⟩,
  ⟨(some 6), none, (.bin .shr (.t 5) (.c (.i .u64 16)))⟩,
  ⟨(some 0), none, (.val (.t 6))⟩] t H) := runR_reg'
def d47_3 : List AOper := [
  ⟨(some 2), none, (.val (.c (.i .i64 16)))⟩]
theorem r47_3 {fn : AFun} {K : List AItem} {t : Nat → AV} {H : AH} {T : Tbl} : runR T fn (.code (.reg d47_3) :: K) t H = regR T fn K (aops (callR T) [
  ⟨(some 2), none, (.val (.c (.i .i64 16)))⟩] t H) := runR_reg'
def d47_4 : List AOper := [
  ⟨(some 7), none, (.val (.t 0))⟩,
  ⟨(some 8), none, (.bin .geq (.t 7) (.c (.i .u32 256)))⟩]
theorem r47_4 {fn : AFun} {K : List AItem} {t : Nat → AV} {H : AH} {T : Tbl} : runR T fn (.code (.reg d47_4) :: K) t H = regR T fn K (aops (callR T) [
  ⟨(some 7), none, (.val (.t 0))⟩,
  ⟨(some 8), none, (.bin .geq (.t 7) (.c (.i .u32 256)))⟩] t H) := runR_reg'
def d47_5 : List AOper := [
  ⟨(some 9), none, (.val (.t 0))⟩,
  ⟨(some 10), none, (.bin .shr (.t 9) (.c (.i .u64 8)))⟩,
  ⟨(some 0), none, (.val (.t 10))⟩]
theorem r47_5 {fn : AFun} {K : List AItem} {t : Nat → AV} {H : AH} {T : Tbl} : runR T fn (.code (.reg d47_5) :: K) t H = regR T fn K (aops (callR T) [
  ⟨(some 9), none, (.val (.t 0))⟩,
  ⟨(some 10), none, (.bin .shr (.t 9) (.c (.i .u64 8)))⟩,
  ⟨(some 0), none, (.val (.t 10))⟩] t H) := runR_reg'
def d47_6 : List AOper := [
  ⟨(some 11), none, (.val (.t 2))⟩,
  ⟨(some 12), none, (.bin .add (.t 11) (.c (.i .i64 8)))⟩,
  ⟨(some 2), none, (.val (.t 12))⟩]
theorem r47_6 {fn : AFun} {K : List AItem} {t : Nat → AV} {H : AH} {T : Tbl} : runR T fn (.code (.reg d47_6) :: K) t H = regR T fn K (aops (callR T) [
  ⟨(some 11), none, (.val (.t 2))⟩,
  ⟨(some 12), none, (.bin .add (.t 11) (.c (.i .i64 8)))⟩,
  ⟨(some 2), none, (.val (.t 12))⟩] t H) := runR_reg'
def d47_7 : List AOper := [
  ⟨(some 13), none, (.val (.t 2))⟩,
  ⟨(some 14), none, (.val (.t 0))⟩,
  ⟨(some 15), none, (.cvi .u8 (.t 14))⟩,
  ⟨(some 16), none, (.ixs (.c (.s ⟨#[0, 1, 2, 2, 3, 3, 3, 3, 4, 4, 4, 4, 4, 4, 4, 4, 5, 5, 5, 5, 5, 5, 5, 5, 5, 5, 5, 5, 5, 5, 5, 5, 6, 6, 6, 6, 6, 6, 6, 6, 6, 6, 6, 6, 6, 6, 6, 6, 6, 6, 6, 6, 6, 6, 6, 6, 6, 6, 6, 6, 6, 6, 6, 6, 7, 7, 7, 7, 7, 7, 7, 7, 7, 7, 7, 7, 7, 7, 7, 7, 7, 7, 7, 7, 7, 7, 7, 7, 7, 7, 7, 7, 7, 7, 7, 7, 7, 7, 7, 7, 7, 7, 7, 7, 7, 7, 7, 7, 7, 7, 7, 7, 7, 7, 7, 7, 7, 7, 7, 7, 7, 7, 7, 7, 7, 7, 7, 7, 8, 8, 8, 8, 8, 8, 8, 8, 8, 8, 8, 8, 8, 8, 8, 8, 8, 8, 8, 8, 8, 8, 8, 8, 8, 8, 8, 8, 8, 8, 8, 8, 8, 8, 8, 8, 8, 8, 8, 8, 8, 8, 8, 8, 8, 8, 8, 8, 8, 8, 8, 8, 8, 8, 8, 8, 8, 8, 8, 8, 8, 8, 8, 8, 8, 8, 8, 8, 8, 8, 8, 8, 8, 8, 8, 8, 8, 8, 8, 8, 8, 8, 8, 8, 8, 8, 8, 8, 8, 8, 8, 8, 8, 8, 8, 8, 8, 8, 8, 8, 8, 8, 8, 8, 8, 8, 8, 8, 8, 8, 8, 8, 8, 8, 8, 8, 8, 8, 8, 8, 8, 8, 8, 8, 8, 8, 8, 8]⟩)) (.t 15))⟩,
  ⟨(some 17), none, (.cvi .i64 (.t 16))⟩,
  ⟨(some 18), none, (.bin .add (.t 13) (.t 17))⟩,
  ⟨(some 2), none, (.val (.t 18))⟩]
theorem r47_7 {fn : AFun} {K : List AItem} {t : Nat → AV} {H : AH} {T : Tbl} : runR T fn (.code (.reg d47_7) :: K) t H = regR T fn K (aops (callR T) [
  ⟨(some 13), none, (.val (.t 2))⟩,
  ⟨(some 14), none, (.val (.t 0))⟩,
  ⟨(some 15), none, (.cvi .u8 (.t 14))⟩,
  ⟨(some 16), none, (.ixs (.c (.s ⟨#[0, 1, 2, 2, 3, 3, 3, 3, 4, 4, 4, 4, 4, 4, 4, 4, 5, 5, 5, 5, 5, 5, 5, 5, 5, 5, 5, 5, 5, 5, 5, 5, 6, 6, 6, 6, 6, 6, 6, 6, 6, 6, 6, 6, 6, 6, 6, 6, 6, 6, 6, 6, 6, 6, 6, 6, 6, 6, 6, 6, 6, 6, 6, 6, 7, 7, 7, 7, 7, 7, 7, 7, 7, 7, 7, 7, 7, 7, 7, 7, 7, 7, 7, 7, 7, 7, 7, 7, 7, 7, 7, 7, 7, 7, 7, 7, 7, 7, 7, 7, 7, 7, 7, 7, 7, 7, 7, 7, 7, 7, 7, 7, 7, 7, 7, 7, 7, 7, 7, 7, 7, 7, 7, 7, 7, 7, 7, 7, 8, 8, 8, 8, 8, 8, 8, 8, 8, 8, 8, 8, 8, 8, 8, 8, 8, 8, 8, 8, 8, 8, 8, 8, 8, 8, 8, 8, 8, 8, 8, 8, 8, 8, 8, 8, 8, 8, 8, 8, 8, 8, 8, 8, 8, 8, 8, 8, 8, 8, 8, 8, 8, 8, 8, 8, 8, 8, 8, 8, 8, 8, 8, 8, 8, 8, 8, 8, 8, 8, 8, 8, 8, 8, 8, 8, 8, 8, 8, 8, 8, 8, 8, 8, 8, 8, 8, 8, 8, 8, 8, 8, 8, 8, 8, 8, 8, 8, 8, 8, 8, 8, 8, 8, 8, 8, 8, 8, 8, 8, 8, 8, 8, 8, 8, 8, 8, 8, 8, 8, 8, 8, 8, 8, 8, 8, 8, 8]⟩)) (.t 15))⟩,
  ⟨(some 17), none, (.cvi .i64 (.t 16))⟩,
  ⟨(some 18), none, (.bin .add (.t 13) (.t 17))⟩,
  ⟨(some 2), none, (.val (.t 18))⟩] t H) := runR_reg'
def a47 : AFun := ⟨19, [(.tmp 2)], (.seq (.reg d47_0) (.seq (.seq (.reg d47_1) (.cond (.t 4) (.seq (.reg d47_2) (.reg d47_3)) .skip)) (.seq (.seq (.reg d47_4) (.cond (.t 8) (.seq (.reg d47_5) (.reg d47_6)) .skip)) (.seq (.reg d47_7) .ret))))⟩
theorem a47_ok : cfun Try.prog 47 = some a47 := by kernel_rfl
/-- math/bits.Len64 -/
def d48_0 : List AOper := [
  ⟨(some 2), none, (.val (.c (.i .i64 0)))⟩]
theorem r48_0 {fn : AFun} {K : List AItem} {t : Nat → AV} {H : AH} {T : Tbl} : runR T fn (.code (.reg d48_0) :: K) t H = regR T fn K (aops (callR T) [
  ⟨(some 2), none, (.val (.c (.i .i64 0)))⟩] t H) := runR_reg'
def d48_1 : List AOper := [
  ⟨(some 3), none, (.val (.t 0))⟩,
  ⟨(some 4), none, (.bin .geq (.t 3) (.c (.i .u64 4294967296)))⟩]
theorem r48_1 {fn : AFun} {K : List AItem} {t : Nat → AV} {H : AH} {T : Tbl} : runR T fn (.code (.reg d48_1) :: K) t H = regR T fn K (aops (callR T) [
  ⟨(some 3), none, (.val (.t 0))⟩,
  ⟨(some 4), none, (.bin .geq (.t 3) (.c (.i .u64 4294967296)))⟩] t H) := runR_reg'
def d48_2 : List AOper := [
  ⟨(some 5), none, (.val (.t 0))⟩,
  ⟨(some 6), none, (.bin .shr (.t 5) (.c (.i .u64 32)))⟩,
  ⟨(some 0), none, (.val (.t 6))⟩]
theorem r48_2 {fn : AFun} {K : List AItem} {t : Nat → AV} {H : AH} {T : Tbl} : runR T fn (.code (.reg d48_2) :: K) t H = regR T fn K (aops (callR T) [
  ⟨(some 5), none, (.val (.t 0))⟩,
  ⟨(some 6), none, (.bin .shr (.t 5) (.c (.i .u64 32)))⟩,
  ⟨(some 0), none, (.val (.t 6))⟩] t H) := runR_reg'
def d48_3 : List AOper := [
  ⟨(some 2), none, (.val (.c (.i .i64 32)))⟩]
theorem r48_3 {fn : AFun} {K : List AItem} {t : Nat → AV} {H : AH} {T : Tbl} : runR T fn (.code (.reg d48_3) :: K) t H = regR T fn K (aops (callR T) [
  ⟨(some 2), none, (.val (.c (.i .i64 32)))⟩] t H) := runR_reg'
def d48_4 : List AOper := [
  ⟨(some 7), none, (.val (.t 0))⟩,
  ⟨(some 8), none, (.bin .geq (.t 7) (.c (.i .u64 65536)))⟩]
theorem r48_4 {fn : AFun} {K : List AItem} {t : Nat → AV} {H : AH} {T : Tbl} : runR T fn (.code (.reg d48_4) :: K) t H = regR T fn K (aops (callR T) [
  ⟨(some 7), none, (.val (.t 0))⟩,
  ⟨(some 8), none, (.bin .geq (.t 7) (.c (.i .u64 65536)))⟩] t H) := runR_reg'
def d48_5 : List AOper := [
  ⟨(some 9), none, (.val (.t 0))⟩,
  ⟨(some 10), none, (.bin .shr (.t 9) (.c (.i .u64 16)))⟩,
  ⟨(some 0), none, (.val (.t 10))⟩]
theorem r48_5 {fn : AFun} {K : List AItem} {t : Nat → AV} {H : AH} {T : Tbl} : runR T fn (.code (.reg d48_5) :: K) t H = regR T fn K (aops (callR T) [
  ⟨(some 9), none, (.val (.t 0))⟩,
  ⟨(some 10), none, (.bin .shr (.t 9) (.c (.i .u64 16)))⟩,
  ⟨(some 0), none, (.val (.t 10))⟩] t H) := runR_reg'
def d48_6 : List AOper := [
  ⟨(some 11), none, (.val (.t 2))⟩,
  ⟨(some 12), none, (.bin .add (.t 11) (.c (.i .i64 16)))⟩,
  ⟨(some 2), none, (.val (.t 12))⟩]
theorem r48_6 {fn : AFun} {K : List AItem} {t : Nat → AV} {H : AH} {T : Tbl} : runR T fn (.code (.reg d48_6) :: K) t H = regR T fn K (aops (callR T) [
  ⟨(some 11), none, (.val (.t 2))⟩,
  ⟨(some 12), none, (.bin .add (.t 11) (.c (.i .i64 16)))⟩,
  ⟨(some 2), none, (.val (.t 12))⟩] t H) := runR_reg'
def d48_7 : List AOper := [
  ⟨(some 13), none, (.val (.t 0))⟩,
  ⟨(some 14), none, (.bin .geq (.t 13) (.c (.i .u64 256)))⟩]
theorem r48_7 {fn : AFun} {K : List AItem} {t : Nat → AV} {H : AH} {T : Tbl} : runR T fn (.code (.reg d48_7) :: K) t H = regR T fn K (aops (callR T) [
  ⟨(some 13), none, (.val (.t 0))⟩,
  ⟨(some 14), none, (.bin .geq (.t 13) (.c (.i .u64 256)))⟩] t H) := runR_reg'
def d48_8 : List AOper := [
  ⟨(some 15), none, (.val (.t 0))⟩,
  ⟨(some 16), none, (.bin .shr (.t 15) (.c (.i .u64 8)))⟩,
  ⟨(some 0), none, (.val (.t 16))⟩]
theorem r48_8 {fn : AFun} {K : List AItem} {t : Nat → AV} {H : AH} {T : Tbl} : runR T fn (.code (.reg d48_8) :: K) t H = regR T fn K (aops (callR T) [
  ⟨(some 15), none, (.val (.t 0))⟩,
  ⟨(some 16), none, (.bin .shr (.t 15) (.c (.i .u64 8)))⟩,
  ⟨(some 0), none, (.val (.t 16))⟩] t H) := runR_reg'
def d48_9 : List AOper := [
  ⟨(some 17), none, (.val (.t 2))⟩,
  ⟨(some 18), none, (.bin .add (.t 17) (.c (.i .i64 8)))⟩,
  ⟨(some 2), none, (.val (.t 18))⟩]
theorem r48_9 {fn : AFun} {K : List AItem} {t : Nat → AV} {H : AH} {T : Tbl} : runR T fn (.code (.reg d48_9) :: K) t H = regR T fn K (aops (callR T) [
  ⟨(some 17), none, (.val (.t 2))⟩,
  ⟨(some 18), none, (.bin .add (.t 17) (.c (.i .i64 8)))⟩,
  ⟨(some 2), none, (.val (.t 18))⟩] t H) := runR_reg'
def d48_10 : List AOper := [
  ⟨(some 19), none, (.val (.t 2))⟩,
  ⟨(some 20), none, (.val (.t 0))⟩,
  ⟨(some 21), none, (.cvi .u8 (.t 20))⟩,
  ⟨(some 22), none, (.ixs (.c (.s ⟨#[0, 1, 2, 2, 3, 3, 3, 3, 4, 4, 4, 4, 4, 4, 4, 4, 5, 5, 5, 5, 5, 5, 5, 5, 5, 5, 5, 5, 5, 5, 5, 5, 6, 6, 6, 6, 6, 6, 6, 6, 6, 6, 6, 6, 6, 6, 6, 6, 6, 6, 6, 6, 6, 6, 6, 6, 6, 6, 6, 6, 6, 6, 6, 6, 7, 7, 7, 7, 7, 7, 7, 7, 7, 7, 7, 7, 7, 7, 7, 7, 7, 7, 7, 7, 7, 7, 7, 7, 7, 7, 7, 7, 7, 7, 7, 7, 7, 7, 7, 7, 7, 7, 7, 7, 7, 7, 7, 7, 7, 7, 7, 7, 7, 7, 7, 7, 7, 7, 7, 7, 7, 7, 7, 7, 7, 7, 7, 7, 8, 8, 8, 8, 8, 8, 8, 8, 8, 8, 8, 8, 8, 8, 8, 8, 8, 8, 8, 8, 8, 8, 8, 8, 8, 8, 8, 8, 8, 8, 8, 8, 8, 8, 8, 8, 8, 8, 8, 8, 8, 8, 8, 8, 8, 8, 8, 8, 8, 8, 8, 8, 8, 8, 8, 8, 8, 8, 8, 8, 8, 8, 8, 8, 8, 8, 8, 8, 8, 8, 8, 8, 8, 8, 8, 8, 8, 8, 8, 8, 8, 8, 8, 8, 8, 8, 8, 8, 8, 8, 8, 8, 8, 8, 8, 8, 8, 8, 8, 8, 8, 8, 8, 8, 8, 8, 8, 8, 8, 8, 8, 8, 8, 8, 8, 8, 8, 8, 8, 8, 8, 8, 8, 8, 8, 8, 8, 8]⟩)) (.t 21))⟩,
  ⟨(some 23), none, (.cvi .i64 (.t 22))⟩,
  ⟨(some 24), none, (.bin .add (.t 19) (.t 23))⟩,
  ⟨(some 2), none, (.val (.t 24))⟩]
theorem r48_10 {fn : AFun} {K : List AItem} {t : Nat → AV} {H : AH} {T : Tbl} : runR T fn (.code (.reg d48_10) :: K) t H = regR T fn K (aops (callR T) [
  ⟨(some 19), none, (.val (.t 2))⟩,
  ⟨(some 20), none, (.val (.t 0))⟩,
  ⟨(some 21), none, (.cvi .u8 (.t 20))⟩,
  ⟨(some 22), none, (.ixs (.c (.s ⟨#[0, 1, 2, 2, 3, 3, 3, 3, 4, 4, 4, 4, 4, 4, 4, 4, 5, 5, 5, 5, 5, 5, 5, 5, 5, 5, 5, 5, 5, 5, 5, 5, 6, 6, 6, 6, 6, 6, 6, 6, 6, 6, 6, 6, 6, 6, 6, 6, 6, 6, 6, 6, 6, 6, 6, 6, 6, 6, 6, 6, 6, 6, 6, 6, 7, 7, 7, 7, 7, 7, 7, 7, 7, 7, 7, 7, 7, 7, 7, 7, 7, 7, 7, 7, 7, 7, 7, 7, 7, 7, 7, 7, 7, 7, 7, 7, 7, 7, 7, 7, 7, 7, 7, 7, 7, 7, 7, 7, 7, 7, 7, 7, 7, 7, 7, 7, 7, 7, 7, 7, 7, 7, 7, 7, 7, 7, 7, 7, 8, 8, 8, 8, 8, 8, 8, 8, 8, 8, 8, 8, 8, 8, 8, 8, 8, 8, 8, 8, 8, 8, 8, 8, 8, 8, 8, 8, 8, 8, 8, 8, 8, 8, 8, 8, 8, 8, 8, 8, 8, 8, 8, 8, 8, 8, 8, 8, 8, 8, 8, 8, 8, 8, 8, 8, 8, 8, 8, 8, 8, 8, 8, 8, 8, 8, 8, 8, 8, 8, 8, 8, 8, 8, 8, 8, 8, 8, 8, 8, 8, 8, 8, 8, 8, 8, 8, 8, 8, 8, 8, 8, 8, 8, 8, 8, 8, 8, 8, 8, 8, 8, 8, 8, 8, 8, 8, 8, 8, 8, 8, 8, 8, 8, 8, 8, 8, 8, 8, 8, 8, 8, 8, 8, 8, 8, 8, 8]⟩)) (.t 21))⟩,
  ⟨(some 23), none, (.cvi .i64 (.t 22))⟩,
  ⟨(some 24), none, (.bin .add (.t 19) (.t 23))⟩,
  ⟨(some 2), none, (.val (.t 24))⟩] t H) := runR_reg'
def a48 : AFun := ⟨25, [(.tmp 2)], (.seq (.reg d48_0) (.seq (.seq (.reg d48_1) (.cond (.t 4) (.seq (.reg d48_2) (.reg d48_3)) .skip)) (.seq (.seq (.reg d48_4) (.cond (.t 8) (.seq (.reg d48_5) (.reg d48_6)) .skip)) (.seq (.seq (.reg d48_7) (.cond (.t 14) (.seq (.reg d48_8) (.reg d48_9)) .skip)) (.seq (.reg d48_10) .ret)))))⟩
theorem a48_ok : cfun Try.prog 48 = some a48 := by kernel_rfl
/-- slices.siftDownCmpFunc[int] -/
def d49_0 : List AOper := [
  ⟨(some 12), none, (.val (.t 1))⟩,
  ⟨(some 10), none, (.val (.t 12))⟩]
theorem r49_0 {fn : AFun} {K : List AItem} {t : Nat → AV} {H : AH} {T : Tbl} : runR T fn (.code (.reg d49_0) :: K) t H = regR T fn K (aops (callR T) [
  ⟨(some 12), none, (.val (.t 1))⟩,
  ⟨(some 10), none, (.val (.t 12))⟩] t H) := runR_reg'
def d49_1 : List AOper := [
  ⟨(some 13), none, (.val (.t 10))⟩,
  ⟨(some 14), none, (.bin .mul (.c (.i .i64 2)) (.t 13))⟩,
  ⟨(some 15), none, (.bin .add (.t 14) (.c (.i .i64 1)))⟩,
  ⟨(some 11), none, (.val (.t 15))⟩]
theorem r49_1 {fn : AFun} {K : List AItem} {t : Nat → AV} {H : AH} {T : Tbl} : runR T fn (.code (.reg d49_1) :: K) t H = regR T fn K (aops (callR T) [
  ⟨(some 13), none, (.val (.t 10))⟩,
  ⟨(some 14), none, (.bin .mul (.c (.i .i64 2)) (.t 13))⟩,
  ⟨(some 15), none, (.bin .add (.t 14) (.c (.i .i64 1)))⟩,
  ⟨(some 11), none, (.val (.t 15))⟩] t H) := runR_reg'
def d49_2 : List AOper := [
  ⟨(some 16), none, (.val (.t 11))⟩,
  ⟨(some 17), none, (.val (.t 2))⟩,
  ⟨(some 18), none, (.bin .geq (.t 16) (.t 17))⟩]
theorem r49_2 {fn : AFun} {K : List AItem} {t : Nat → AV} {H : AH} {T : Tbl} : runR T fn (.code (.reg d49_2) :: K) t H = regR T fn K (aops (callR T) [
  ⟨(some 16), none, (.val (.t 11))⟩,
  ⟨(some 17), none, (.val (.t 2))⟩,
  ⟨(some 18), none, (.bin .geq (.t 16) (.t 17))⟩] t H) := runR_reg'
def d49_3 : List (AOper × List Nat) := [
  (⟨(some 19), none, (.val (.t 11))⟩, []),
  (⟨(some 20), none, (.bin .add (.t 19) (.c (.i .i64 1)))⟩, []),
  (⟨(some 21), none, (.val (.t 2))⟩, []),
  (⟨(some 22), none, (.bin .lss (.t 20) (.t 21))⟩, []),
  (⟨(some 23), none, (.val (.t 22))⟩, []),
  (⟨(some 24), (some (23, true)), (.val (.t 4))⟩, []),
  (⟨(some 25), (some (23, true)), (.val (.t 0))⟩, []),
  (⟨(some 26), (some (23, true)), (.val (.t 3))⟩, []),
  (⟨(some 27), (some (23, true)), (.val (.t 11))⟩, []),
  (⟨(some 28), (some (23, true)), (.bin .add (.t 26) (.t 27))⟩, []),
  (⟨(some 29), (some (23, true)), (.ia 1 (.t 25) (.t 28))⟩, []),
  (⟨(some 30), (some (23, true)), (.ld none (.t 29))⟩, [1]),
  (⟨(some 31), (some (23, true)), (.val (.t 0))⟩, []),
  (⟨(some 32), (some (23, true)), (.val (.t 3))⟩, []),
  (⟨(some 33), (some (23, true)), (.val (.t 11))⟩, []),
  (⟨(some 34), (some (23, true)), (.bin .add (.t 32) (.t 33))⟩, []),
  (⟨(some 35), (some (23, true)), (.bin .add (.t 34) (.c (.i .i64 1)))⟩, []),
  (⟨(some 36), (some (23, true)), (.ia 1 (.t 31) (.t 35))⟩, []),
  (⟨(some 37), (some (23, true)), (.ld none (.t 36))⟩, [1]),
  (⟨(some 38), (some (23, true)), (.callv (.t 24) [(.t 30), (.t 37)])⟩, []),
  (⟨(some 39), (some (23, true)), (.bin .lss (.t 38) (.c (.i .i64 0)))⟩, []),
  (⟨(some 40), none, (.pick (.t 23) (.t 39) (.c (.b false)))⟩, [])]
theorem r49_3 {fn : AFun} {K : List AItem} {t : Nat → AV} {H : AH} {T : Tbl} : runR T fn (.code (.drw d49_3) :: K) t H = regR T fn K (aops (callR T) [
  ⟨(some 19), none, (.val (.t 11))⟩,
  ⟨(some 20), none, (.bin .add (.t 19) (.c (.i .i64 1)))⟩,
  ⟨(some 21), none, (.val (.t 2))⟩,
  ⟨(some 22), none, (.bin .lss (.t 20) (.t 21))⟩,
  ⟨(some 23), none, (.val (.t 22))⟩,
  ⟨(some 24), (some (23, true)), (.val (.t 4))⟩,
  ⟨(some 25), (some (23, true)), (.val (.t 0))⟩,
  ⟨(some 26), (some (23, true)), (.val (.t 3))⟩,
  ⟨(some 27), (some (23, true)), (.val (.t 11))⟩,
  ⟨(some 28), (some (23, true)), (.bin .add (.t 26) (.t 27))⟩,
  ⟨(some 29), (some (23, true)), (.ia 1 (.t 25) (.t 28))⟩,
  ⟨(some 30), (some (23, true)), (.ld none (.t 29))⟩,
  ⟨(some 31), (some (23, true)), (.val (.t 0))⟩,
  ⟨(some 32), (some (23, true)), (.val (.t 3))⟩,
  ⟨(some 33), (some (23, true)), (.val (.t 11))⟩,
  ⟨(some 34), (some (23, true)), (.bin .add (.t 32) (.t 33))⟩,
  ⟨(some 35), (some (23, true)), (.bin .add (.t 34) (.c (.i .i64 1)))⟩,
  ⟨(some 36), (some (23, true)), (.ia 1 (.t 31) (.t 35))⟩,
  ⟨(some 37), (some (23, true)), (.ld none (.t 36))⟩,
  ⟨(some 38), (some (23, true)), (.callv (.t 24) [(.t 30), (.t 37)])⟩,
  ⟨(some 39), (some (23, true)), (.bin .lss (.t 38) (.c (.i .i64 0)))⟩,
  ⟨(some 40), none, (.pick (.t 23) (.t 39) (.c (.b false)))⟩] t H) := runR_plain rfl
def d49_4 : List AOper := [
  ⟨(some 41), none, (.val (.t 11))⟩,
  ⟨(some 42), none, (.bin .add (.t 41) (.c (.i .i64 1)))⟩,
  ⟨(some 11), none, (.val (.t 42))⟩]
theorem r49_4 {fn : AFun} {K : List AItem} {t : Nat → AV} {H : AH} {T : Tbl} : runR T fn (.code (.reg d49_4) :: K) t H = regR T fn K (aops (callR T) [
  ⟨(some 41), none, (.val (.t 11))⟩,
  ⟨(some 42), none, (.bin .add (.t 41) (.c (.i .i64 1)))⟩,
  ⟨(some 11), none, (.val (.t 42))⟩] t H) := runR_reg'
def d49_5 : List (AOper × List Nat) := [
  (⟨(some 43), none, (.val (.t 4))⟩, []),
  (⟨(some 44), none, (.val (.t 0))⟩, []),
  (⟨(some 45), none, (.val (.t 3))⟩, []),
  (⟨(some 46), none, (.val (.t 10))⟩, []),
  (⟨(some 47), none, (.bin .add (.t 45) (.t 46))⟩, []),
  (⟨(some 48), none, (.ia 1 (.t 44) (.t 47))⟩, []),
  (⟨(some 49), none, (.ld none (.t 48))⟩, [1]),
  (⟨(some 50), none, (.val (.t 0))⟩, []),
  (⟨(some 51), none, (.val (.t 3))⟩, []),
  (⟨(some 52), none, (.val (.t 11))⟩, []),
  (⟨(some 53), none, (.bin .add (.t 51) (.t 52))⟩, []),
  (⟨(some 54), none, (.ia 1 (.t 50) (.t 53))⟩, []),
  (⟨(some 55), none, (.ld none (.t 54))⟩, [1]),
  (⟨(some 56), none, (.callv (.t 43) [(.t 49), (.t 55)])⟩, []),
  (⟨(some 57), none, (.bin .lss (.t 56) (.c (.i .i64 0)))⟩, []),
  (⟨(some 58), none, (.un .not (.t 57))⟩, [])]
theorem r49_5 {fn : AFun} {K : List AItem} {t : Nat → AV} {H : AH} {T : Tbl} : runR T fn (.code (.drw d49_5) :: K) t H = regR T fn K (aops (callR T) [
  ⟨(some 43), none, (.val (.t 4))⟩,
  ⟨(some 44), none, (.val (.t 0))⟩,
  ⟨(some 45), none, (.val (.t 3))⟩,
  ⟨(some 46), none, (.val (.t 10))⟩,
  ⟨(some 47), none, (.bin .add (.t 45) (.t 46))⟩,
  ⟨(some 48), none, (.ia 1 (.t 44) (.t 47))⟩,
  ⟨(some 49), none, (.ld none (.t 48))⟩,
  ⟨(some 50), none, (.val (.t 0))⟩,
  ⟨(some 51), none, (.val (.t 3))⟩,
  ⟨(some 52), none, (.val (.t 11))⟩,
  ⟨(some 53), none, (.bin .add (.t 51) (.t 52))⟩,
  ⟨(some 54), none, (.ia 1 (.t 50) (.t 53))⟩,
  ⟨(some 55), none, (.ld none (.t 54))⟩,
  ⟨(some 56), none, (.callv (.t 43) [(.t 49), (.t 55)])⟩,
  ⟨(some 57), none, (.bin .lss (.t 56) (.c (.i .i64 0)))⟩,
  ⟨(some 58), none, (.un .not (.t 57))⟩] t H) := runR_plain rfl
def d49_6 : List (AOper × List Nat) := [
  (⟨(some 59), none, (.val (.t 0))⟩, []),
  (⟨(some 60), none, (.val (.t 3))⟩, []),
  (⟨(some 61), none, (.val (.t 10))⟩, []),
  (⟨(some 62), none, (.bin .add (.t 60) (.t 61))⟩, []),
  (⟨(some 63), none, (.val (.t 0))⟩, []),
  (⟨(some 64), none, (.val (.t 3))⟩, []),
  (⟨(some 65), none, (.val (.t 11))⟩, []),
  (⟨(some 66), none, (.bin .add (.t 64) (.t 65))⟩, []),
  (⟨(some 67), none, (.val (.t 0))⟩, []),
  (⟨(some 68), none, (.val (.t 3))⟩, []),
  (⟨(some 69), none, (.val (.t 11))⟩, []),
  (⟨(some 70), none, (.bin .add (.t 68) (.t 69))⟩, []),
  (⟨(some 71), none, (.ia 1 (.t 67) (.t 70))⟩, []),
  (⟨(some 72), none, (.ld none (.t 71))⟩, [1]),
  (⟨(some 73), none, (.val (.t 0))⟩, []),
  (⟨(some 74), none, (.val (.t 3))⟩, []),
  (⟨(some 75), none, (.val (.t 10))⟩, []),
  (⟨(some 76), none, (.bin .add (.t 74) (.t 75))⟩, []),
  (⟨(some 77), none, (.ia 1 (.t 73) (.t 76))⟩, []),
  (⟨(some 78), none, (.ld none (.t 77))⟩, [1]),
  (⟨(some 79), none, (.ia 1 (.t 59) (.t 62))⟩, []),
  (⟨none, none, (.st 1 (.t 79) (.t 72))⟩, []),
  (⟨(some 80), none, (.ia 1 (.t 63) (.t 66))⟩, []),
  (⟨none, none, (.st 1 (.t 80) (.t 78))⟩, [])]
theorem r49_6 {fn : AFun} {K : List AItem} {t : Nat → AV} {H : AH} {T : Tbl} : runR T fn (.code (.drw d49_6) :: K) t H = regR T fn K (aops (callR T) [
  ⟨(some 59), none, (.val (.t 0))⟩,
  ⟨(some 60), none, (.val (.t 3))⟩,
  ⟨(some 61), none, (.val (.t 10))⟩,
  ⟨(some 62), none, (.bin .add (.t 60) (.t 61))⟩,
  ⟨(some 63), none, (.val (.t 0))⟩,
  ⟨(some 64), none, (.val (.t 3))⟩,
  ⟨(some 65), none, (.val (.t 11))⟩,
  ⟨(some 66), none, (.bin .add (.t 64) (.t 65))⟩,
  ⟨(some 67), none, (.val (.t 0))⟩,
  ⟨(some 68), none, (.val (.t 3))⟩,
  ⟨(some 69), none, (.val (.t 11))⟩,
  ⟨(some 70), none, (.bin .add (.t 68) (.t 69))⟩,
  ⟨(some 71), none, (.ia 1 (.t 67) (.t 70))⟩,
  ⟨(some 72), none, (.ld none (.t 71))⟩,
  ⟨(some 73), none, (.val (.t 0))⟩,
  ⟨(some 74), none, (.val (.t 3))⟩,
  ⟨(some 75), none, (.val (.t 10))⟩,
  ⟨(some 76), none, (.bin .add (.t 74) (.t 75))⟩,
  ⟨(some 77), none, (.ia 1 (.t 73) (.t 76))⟩,
  ⟨(some 78), none, (.ld none (.t 77))⟩,
  ⟨(some 79), none, (.ia 1 (.t 59) (.t 62))⟩,
  ⟨none, none, (.st 1 (.t 79) (.t 72))⟩,
  ⟨(some 80), none, (.ia 1 (.t 63) (.t 66))⟩,
  ⟨none, none, (.st 1 (.t 80) (.t 78))⟩] t H) := runR_plain rfl
def d49_7 : List AOper := [
  ⟨(some 81), none, (.val (.t 11))⟩,
  ⟨(some 10), none, (.val (.t 81))⟩]
theorem r49_7 {fn : AFun} {K : List AItem} {t : Nat → AV} {H : AH} {T : Tbl} : runR T fn (.code (.reg d49_7) :: K) t H = regR T fn K (aops (callR T) [
  ⟨(some 81), none, (.val (.t 11))⟩,
  ⟨(some 10), none, (.val (.t 81))⟩] t H) := runR_reg'
def l49_8 : ACode := (.block 1 (.seq (.reg d49_1) (.seq (.seq (.reg d49_2) (.cond (.t 18) (.exit 0) .skip)) (.seq (.seq (.drw d49_3) (.cond (.t 40) (.reg d49_4) .skip)) (.seq (.seq (.drw d49_5) (.cond (.t 58) .ret .skip)) (.seq (.drw d49_6) (.reg d49_7)))))))
def a49 : AFun := ⟨82, [], (.seq (.reg d49_0) (.block 0 (.loop l49_8)))⟩
theorem a49_ok : cfun Try.prog 49 = some a49 := by kernel_rfl
/-- slices.nextPowerOfTwo -/
def d50_0 : List AOper := [
  ⟨(some 2), none, (.val (.c (.i .u64 0)))⟩]
theorem r50_0 {fn : AFun} {K : List AItem} {t : Nat → AV} {H : AH} {T : Tbl} : runR T fn (.code (.reg d50_0) :: K) t H = regR T fn K (aops (callR T) [
  ⟨(some 2), none, (.val (.c (.i .u64 0)))⟩] t H) := runR_reg'
def d50_1 : List AOper := [
  ⟨(some 3), none, (.val (.t 0))⟩,
  ⟨(some 4), none, (.cvi .u64 (.t 3))⟩,
  ⟨(some 5), none, (.call 36 [(.t 4)])⟩,
  ⟨(some 6), none, (.bin .shl (.c (.i .u64 1)) (.t 5))⟩,
  ⟨(some 2), none, (.val (.t 6))⟩]
theorem r50_1 {fn : AFun} {K : List AItem} {t : Nat → AV} {H : AH} {T : Tbl} : runR T fn (.code (.reg d50_1) :: K) t H = regR T fn K (aops (callR T) [
  ⟨(some 3), none, (.val (.t 0))⟩,
  ⟨(some 4), none, (.cvi .u64 (.t 3))⟩,
  ⟨(some 5), none, (.call 36 [(.t 4)])⟩,
  ⟨(some 6), none, (.bin .shl (.c (.i .u64 1)) (.t 5))⟩,
  ⟨(some 2), none, (.val (.t 6))⟩] t H) := runR_reg'
def a50 : AFun := ⟨7, [(.tmp 2)], (.seq (.reg d50_0) (.seq (.reg d50_1) .ret))⟩
theorem a50_ok : cfun Try.prog 50 = some a50 := by kernel_rfl
/-- (*slices.xorshift).Next -/
def d51_0 : List AOper := [
  ⟨(some 2), none, (.val (.c (.i .u64 0)))⟩]
theorem r51_0 {fn : AFun} {K : List AItem} {t : Nat → AV} {H : AH} {T : Tbl} : runR T fn (.code (.reg d51_0) :: K) t H = regR T fn K (aops (callR T) [
  ⟨(some 2), none, (.val (.c (.i .u64 0)))⟩] t H) := runR_reg'
def d51_1 : List (AOper × List Nat) := [
  (⟨(some 3), none, (.val (.t 0))⟩, []),
  (⟨(some 4), none, (.nilc (.t 3))⟩, []),
  (⟨(some 5), none, (.ld none (.t 4))⟩, [1]),
  (⟨(some 6), none, (.val (.t 0))⟩, []),
  (⟨(some 7), none, (.nilc (.t 6))⟩, []),
  (⟨(some 8), none, (.ld none (.t 7))⟩, [1]),
  (⟨(some 9), none, (.bin .shl (.t 8) (.c (.i .u64 13)))⟩, []),
  (⟨(some 10), none, (.bin .xor (.t 5) (.t 9))⟩, []),
  (⟨(some 11), none, (.nilc (.t 3))⟩, []),
  (⟨none, none, (.st 1 (.t 11) (.t 10))⟩, [])]
theorem r51_1 {fn : AFun} {K : List AItem} {t : Nat → AV} {H : AH} {T : Tbl} : runR T fn (.code (.drw d51_1) :: K) t H = regR T fn K (aops (callR T) [
  ⟨(some 3), none, (.val (.t 0))⟩,
  ⟨(some 4), none, (.nilc (.t 3))⟩,
  ⟨(some 5), none, (.ld none (.t 4))⟩,
  ⟨(some 6), none, (.val (.t 0))⟩,
  ⟨(some 7), none, (.nilc (.t 6))⟩,
  ⟨(some 8), none, (.ld none (.t 7))⟩,
  ⟨(some 9), none, (.bin .shl (.t 8) (.c (.i .u64 13)))⟩,
  ⟨(some 10), none, (.bin .xor (.t 5) (.t 9))⟩,
  ⟨(some 11), none, (.nilc (.t 3))⟩,
  ⟨none, none, (.st 1 (.t 11) (.t 10))⟩] t H) := runR_plain rfl
def d51_2 : List (AOper × List Nat) := [
  (⟨(some 12), none, (.val (.t 0))⟩, []),
  (⟨(some 13), none, (.nilc (.t 12))⟩, []),
  (⟨(some 14), none, (.ld none (.t 13))⟩, [1]),
  (⟨(some 15), none, (.val (.t 0))⟩, []),
  (⟨(some 16), none, (.nilc (.t 15))⟩, []),
  (⟨(some 17), none, (.ld none (.t 16))⟩, [1]),
  (⟨(some 18), none, (.bin .shr (.t 17) (.c (.i .u64 7)))⟩, []),
  (⟨(some 19), none, (.bin .xor (.t 14) (.t 18))⟩, []),
  (⟨(some 20), none, (.nilc (.t 12))⟩, []),
  (⟨none, none, (.st 1 (.t 20) (.t 19))⟩, [])]
theorem r51_2 {fn : AFun} {K : List AItem} {t : Nat → AV} {H : AH} {T : Tbl} : runR T fn (.code (.drw d51_2) :: K) t H = regR T fn K (aops (callR T) [
  ⟨(some 12), none, (.val (.t 0))⟩,
  ⟨(some 13), none, (.nilc (.t 12))⟩,
  ⟨(some 14), none, (.ld none (.t 13))⟩,
  ⟨(some 15), none, (.val (.t 0))⟩,
  ⟨(some 16), none, (.nilc (.t 15))⟩,
  ⟨(some 17), none, (.ld none (.t 16))⟩,
  ⟨(some 18), none, (.bin .shr (.t 17) (.c (.i .u64 7)))⟩,
  ⟨(some 19), none, (.bin .xor (.t 14) (.t 18))⟩,
  ⟨(some 20), none, (.nilc (.t 12))⟩,
  ⟨none, none, (.st 1 (.t 20) (.t 19))⟩] t H) := runR_plain rfl
def d51_3 : List (AOper × List Nat) := [
  (⟨(some 21), none, (.val (.t 0))⟩, []),
  (⟨(some 22), none, (.nilc (.t 21))⟩, []),
  (⟨(some 23), none, (.ld none (.t 22))⟩, [1]),
  (⟨(some 24), none, (.val (.t 0))⟩, []),
  (⟨(some 25), none, (.nilc (.t 24))⟩, []),
  (⟨(some 26), none, (.ld none (.t 25))⟩, [1]),
  (⟨(some 27), none, (.bin .shl (.t 26) (.c (.i .u64 17)))⟩, []),
  (⟨(some 28), none, (.bin .xor (.t 23) (.t 27))⟩, []),
  (⟨(some 29), none, (.nilc (.t 21))⟩, []),
  (⟨none, none, (.st 1 (.t 29) (.t 28))⟩, [])]
theorem r51_3 {fn : AFun} {K : List AItem} {t : Nat → AV} {H : AH} {T : Tbl} : runR T fn (.code (.drw d51_3) :: K) t H = regR T fn K (aops (callR T) [
  ⟨(some 21), none, (.val (.t 0))⟩,
  ⟨(some 22), none, (.nilc (.t 21))⟩,
  ⟨(some 23), none, (.ld none (.t 22))⟩,
  ⟨(some 24), none, (.val (.t 0))⟩,
  ⟨(some 25), none, (.nilc (.t 24))⟩,
  ⟨(some 26), none, (.ld none (.t 25))⟩,
  ⟨(some 27), none, (.bin .shl (.t 26) (.c (.i .u64 17)))⟩,
  ⟨(some 28), none, (.bin .xor (.t 23) (.t 27))⟩,
  ⟨(some 29), none, (.nilc (.t 21))⟩,
  ⟨none, none, (.st 1 (.t 29) (.t 28))⟩] t H) := runR_plain rfl
def d51_4 : List AOper := [
  ⟨(some 30), none, (.val (.t 0))⟩,
  ⟨(some 31), none, (.nilc (.t 30))⟩,
  ⟨(some 32), none, (.ld none (.t 31))⟩,
  ⟨(some 2), none, (.val (.t 32))⟩]
theorem r51_4 {fn : AFun} {K : List AItem} {t : Nat → AV} {H : AH} {T : Tbl} : runR T fn (.code (.reg d51_4) :: K) t H = regR T fn K (aops (callR T) [
  ⟨(some 30), none, (.val (.t 0))⟩,
  ⟨(some 31), none, (.nilc (.t 30))⟩,
  ⟨(some 32), none, (.ld none (.t 31))⟩,
  ⟨(some 2), none, (.val (.t 32))⟩] t H) := runR_reg'
def a51 : AFun := ⟨33, [(.tmp 2)], (.seq (.reg d51_0) (.seq (.drw d51_1) (.seq (.drw d51_2) (.seq (.drw d51_3) (.seq (.reg d51_4) .ret)))))⟩
theorem a51_ok : cfun Try.prog 51 = some a51 := by kernel_rfl
/-- slices.medianAdjacentCmpFunc[int] -/
def d52_0 : List AOper := [
  ⟨(some 8), none, (.val (.c (.i .i64 0)))⟩]
theorem r52_0 {fn : AFun} {K : List AItem} {t : Nat → AV} {H : AH} {T : Tbl} : runR T fn (.code (.reg d52_0) :: K) t H = regR T fn K (aops (callR T) [
  ⟨(some 8), none, (.val (.c (.i .i64 0)))⟩] t H) := runR_reg'
def d52_1 : List AOper := [
  ⟨(some 9), none, (.val (.t 0))⟩,
  ⟨(some 10), none, (.val (.t 1))⟩,
  ⟨(some 11), none, (.bin .sub (.t 10) (.c (.i .i64 1)))⟩,
  ⟨(some 12), none, (.val (.t 1))⟩,
  ⟨(some 13), none, (.val (.t 1))⟩,
  ⟨(some 14), none, (.bin .add (.t 13) (.c (.i .i64 1)))⟩,
  ⟨(some 15), none, (.val (.t 2))⟩,
  ⟨(some 16), none, (.val (.t 3))⟩,
  ⟨(some 17), none, (.call 53 [(.t 9), (.t 11), (.t 12), (.t 14), (.t 15), (.t 16)])⟩,
  ⟨(some 8), none, (.val (.t 17))⟩]
theorem r52_1 {fn : AFun} {K : List AItem} {t : Nat → AV} {H : AH} {T : Tbl} : runR T fn (.code (.reg d52_1) :: K) t H = regR T fn K (aops (callR T) [
  ⟨(some 9), none, (.val (.t 0))⟩,
  ⟨(some 10), none, (.val (.t 1))⟩,
  ⟨(some 11), none, (.bin .sub (.t 10) (.c (.i .i64 1)))⟩,
  ⟨(some 12), none, (.val (.t 1))⟩,
  ⟨(some 13), none, (.val (.t 1))⟩,
  ⟨(some 14), none, (.bin .add (.t 13) (.c (.i .i64 1)))⟩,
  ⟨(some 15), none, (.val (.t 2))⟩,
  ⟨(some 16), none, (.val (.t 3))⟩,
  ⟨(some 17), none, (.call 53 [(.t 9), (.t 11), (.t 12), (.t 14), (.t 15), (.t 16)])⟩,
  ⟨(some 8), none, (.val (.t 17))⟩] t H) := runR_reg'
def a52 : AFun := ⟨18, [(.tmp 8)], (.seq (.reg d52_0) (.seq (.reg d52_1) .ret))⟩
theorem a52_ok : cfun Try.prog 52 = some a52 := by kernel_rfl
/-- slices.medianCmpFunc[int] -/
def d53_0 : List AOper := [
  ⟨(some 12), none, (.val (.c (.i .i64 0)))⟩]
theorem r53_0 {fn : AFun} {K : List AItem} {t : Nat → AV} {H : AH} {T : Tbl} : runR T fn (.code (.reg d53_0) :: K) t H = regR T fn K (aops (callR T) [
  ⟨(some 12), none, (.val (.c (.i .i64 0)))⟩] t H) := runR_reg'
def d53_1 : List AOper := [
  ⟨(some 14), none, (.val (.t 0))⟩,
  ⟨(some 15), none, (.val (.t 1))⟩,
  ⟨(some 16), none, (.val (.t 2))⟩,
  ⟨(some 17), none, (.val (.t 4))⟩,
  ⟨(some 18), none, (.val (.t 5))⟩,
  ⟨(some 19), none, (.call 54 [(.t 14), (.t 15), (.t 16), (.t 17), (.t 18)])⟩,
  ⟨(some 13), none, (.val (.t 19))⟩,
  ⟨(some 20), none, (.ext (.t 13) 0)⟩,
  ⟨(some 21), none, (.ext (.t 13) 1)⟩,
  ⟨(some 1), none, (.val (.t 20))⟩,
  ⟨(some 2), none, (.val (.t 21))⟩]
theorem r53_1 {fn : AFun} {K : List AItem} {t : Nat → AV} {H : AH} {T : Tbl} : runR T fn (.code (.reg d53_1) :: K) t H = regR T fn K (aops (callR T) [
  ⟨(some 14), none, (.val (.t 0))⟩,
  ⟨(some 15), none, (.val (.t 1))⟩,
  ⟨(some 16), none, (.val (.t 2))⟩,
  ⟨(some 17), none, (.val (.t 4))⟩,
  ⟨(some 18), none, (.val (.t 5))⟩,
  ⟨(some 19), none, (.call 54 [(.t 14), (.t 15), (.t 16), (.t 17), (.t 18)])⟩,
  ⟨(some 13), none, (.val (.t 19))⟩,
  ⟨(some 20), none, (.ext (.t 13) 0)⟩,
  ⟨(some 21), none, (.ext (.t 13) 1)⟩,
  ⟨(some 1), none, (.val (.t 20))⟩,
  ⟨(some 2), none, (.val (.t 21))⟩] t H) := runR_reg'
def d53_2 : List AOper := [
  ⟨(some 23), none, (.val (.t 0))⟩,
  ⟨(some 24), none, (.val (.t 2))⟩,
  ⟨(some 25), none, (.val (.t 3))⟩,
  ⟨(some 26), none, (.val (.t 4))⟩,
  ⟨(some 27), none, (.val (.t 5))⟩,
  ⟨(some 28), none, (.call 54 [(.t 23), (.t 24), (.t 25), (.t 26), (.t 27)])⟩,
  ⟨(some 22), none, (.val (.t 28))⟩,
  ⟨(some 29), none, (.ext (.t 22) 0)⟩,
  ⟨(some 30), none, (.ext (.t 22) 1)⟩,
  ⟨(some 2), none, (.val (.t 29))⟩,
  ⟨(some 3), none, (.val (.t 30))⟩]
theorem r53_2 {fn : AFun} {K : List AItem} {t : Nat → AV} {H : AH} {T : Tbl} : runR T fn (.code (.reg d53_2) :: K) t H = regR T fn K (aops (callR T) [
  ⟨(some 23), none, (.val (.t 0))⟩,
  ⟨(some 24), none, (.val (.t 2))⟩,
  ⟨(some 25), none, (.val (.t 3))⟩,
  ⟨(some 26), none, (.val (.t 4))⟩,
  ⟨(some 27), none, (.val (.t 5))⟩,
  ⟨(some 28), none, (.call 54 [(.t 23), (.t 24), (.t 25), (.t 26), (.t 27)])⟩,
  ⟨(some 22), none, (.val (.t 28))⟩,
  ⟨(some 29), none, (.ext (.t 22) 0)⟩,
  ⟨(some 30), none, (.ext (.t 22) 1)⟩,
  ⟨(some 2), none, (.val (.t 29))⟩,
  ⟨(some 3), none, (.val (.t 30))⟩] t H) := runR_reg'
def d53_3 : List AOper := [
  ⟨(some 32), none, (.val (.t 0))⟩,
  ⟨(some 33), none, (.val (.t 1))⟩,
  ⟨(some 34), none, (.val (.t 2))⟩,
  ⟨(some 35), none, (.val (.t 4))⟩,
  ⟨(some 36), none, (.val (.t 5))⟩,
  ⟨(some 37), none, (.call 54 [(.t 32), (.t 33), (.t 34), (.t 35), (.t 36)])⟩,
  ⟨(some 31), none, (.val (.t 37))⟩,
  ⟨(some 38), none, (.ext (.t 31) 0)⟩,
  ⟨(some 39), none, (.ext (.t 31) 1)⟩,
  ⟨(some 1), none, (.val (.t 38))⟩,
  ⟨(some 2), none, (.val (.t 39))⟩]
theorem r53_3 {fn : AFun} {K : List AItem} {t : Nat → AV} {H : AH} {T : Tbl} : runR T fn (.code (.reg d53_3) :: K) t H = regR T fn K (aops (callR T) [
  ⟨(some 32), none, (.val (.t 0))⟩,
  ⟨(some 33), none, (.val (.t 1))⟩,
  ⟨(some 34), none, (.val (.t 2))⟩,
  ⟨(some 35), none, (.val (.t 4))⟩,
  ⟨(some 36), none, (.val (.t 5))⟩,
  ⟨(some 37), none, (.call 54 [(.t 32), (.t 33), (.t 34), (.t 35), (.t 36)])⟩,
  ⟨(some 31), none, (.val (.t 37))⟩,
  ⟨(some 38), none, (.ext (.t 31) 0)⟩,
  ⟨(some 39), none, (.ext (.t 31) 1)⟩,
  ⟨(some 1), none, (.val (.t 38))⟩,
  ⟨(some 2), none, (.val (.t 39))⟩] t H) := runR_reg'
def d53_4 : List AOper := [
  ⟨(some 40), none, (.val (.t 2))⟩,
  ⟨(some 12), none, (.val (.t 40))⟩]
theorem r53_4 {fn : AFun} {K : List AItem} {t : Nat → AV} {H : AH} {T : Tbl} : runR T fn (.code (.reg d53_4) :: K) t H = regR T fn K (aops (callR T) [
  ⟨(some 40), none, (.val (.t 2))⟩,
  ⟨(some 12), none, (.val (.t 40))⟩] t H) := runR_reg'
def a53 : AFun := ⟨41, [(.tmp 12)], (.seq (.reg d53_0) (.seq (.reg d53_1) (.seq (.reg d53_2) (.seq (.reg d53_3) (.seq (.reg d53_4) .ret)))))⟩
theorem a53_ok : cfun Try.prog 53 = some a53 := by kernel_rfl
/-- slices.order2CmpFunc[int] -/
def d54_0 : List AOper := [
  ⟨(some 10), none, (.val (.c (.i .i64 0)))⟩,
  ⟨(some 11), none, (.val (.c (.i .i64 0)))⟩]
theorem r54_0 {fn : AFun} {K : List AItem} {t : Nat → AV} {H : AH} {T : Tbl} : runR T fn (.code (.reg d54_0) :: K) t H = regR T fn K (aops (callR T) [
  ⟨(some 10), none, (.val (.c (.i .i64 0)))⟩,
  ⟨(some 11), none, (.val (.c (.i .i64 0)))⟩] t H) := runR_reg'
def d54_1 : List (AOper × List Nat) := [
  (⟨(some 12), none, (.val (.t 4))⟩, []),
  (⟨(some 13), none, (.val (.t 0))⟩, []),
  (⟨(some 14), none, (.val (.t 2))⟩, []),
  (⟨(some 15), none, (.ia 1 (.t 13) (.t 14))⟩, []),
  (⟨(some 16), none, (.ld none (.t 15))⟩, [1]),
  (⟨(some 17), none, (.val (.t 0))⟩, []),
  (⟨(some 18), none, (.val (.t 1))⟩, []),
  (⟨(some 19), none, (.ia 1 (.t 17) (.t 18))⟩, []),
  (⟨(some 20), none, (.ld none (.t 19))⟩, [1]),
  (⟨(some 21), none, (.callv (.t 12) [(.t 16), (.t 20)])⟩, []),
  (⟨(some 22), none, (.bin .lss (.t 21) (.c (.i .i64 0)))⟩, [])]
theorem r54_1 {fn : AFun} {K : List AItem} {t : Nat → AV} {H : AH} {T : Tbl} : runR T fn (.code (.drw d54_1) :: K) t H = regR T fn K (aops (callR T) [
  ⟨(some 12), none, (.val (.t 4))⟩,
  ⟨(some 13), none, (.val (.t 0))⟩,
  ⟨(some 14), none, (.val (.t 2))⟩,
  ⟨(some 15), none, (.ia 1 (.t 13) (.t 14))⟩,
  ⟨(some 16), none, (.ld none (.t 15))⟩,
  ⟨(some 17), none, (.val (.t 0))⟩,
  ⟨(some 18), none, (.val (.t 1))⟩,
  ⟨(some 19), none, (.ia 1 (.t 17) (.t 18))⟩,
  ⟨(some 20), none, (.ld none (.t 19))⟩,
  ⟨(some 21), none, (.callv (.t 12) [(.t 16), (.t 20)])⟩,
  ⟨(some 22), none, (.bin .lss (.t 21) (.c (.i .i64 0)))⟩] t H) := runR_plain rfl
def d54_2 : List AOper := [
  ⟨(some 23), none, (.val (.t 3))⟩,
  ⟨(some 24), none, (.nilc (.t 23))⟩,
  ⟨(some 25), none, (.ld none (.t 24))⟩,
  ⟨(some 26), none, (.bin .add (.t 25) (.c (.i .i64 1)))⟩,
  ⟨(some 27), none, (.nilc (.t 23))⟩,
  ⟨none, none, (.st 1 (.t 27) (.t 26))⟩]
theorem r54_2 {fn : AFun} {K : List AItem} {t : Nat → AV} {H : AH} {T : Tbl} : runR T fn (.code (.reg d54_2) :: K) t H = regR T fn K (aops (callR T) [
  ⟨(some 23), none, (.val (.t 3))⟩,
  ⟨(some 24), none, (.nilc (.t 23))⟩,
  ⟨(some 25), none, (.ld none (.t 24))⟩,
  ⟨(some 26), none, (.bin .add (.t 25) (.c (.i .i64 1)))⟩,
  ⟨(some 27), none, (.nilc (.t 23))⟩,
  ⟨none, none, (.st 1 (.t 27) (.t 26))⟩] t H) := runR_reg'
def d54_3 : List AOper := [
  ⟨(some 28), none, (.val (.t 2))⟩,
  ⟨(some 29), none, (.val (.t 1))⟩,
  ⟨(some 10), none, (.val (.t 28))⟩,
  ⟨(some 11), none, (.val (.t 29))⟩]
theorem r54_3 {fn : AFun} {K : List AItem} {t : Nat → AV} {H : AH} {T : Tbl} : runR T fn (.code (.reg d54_3) :: K) t H = regR T fn K (aops (callR T) [
  ⟨(some 28), none, (.val (.t 2))⟩,
  ⟨(some 29), none, (.val (.t 1))⟩,
  ⟨(some 10), none, (.val (.t 28))⟩,
  ⟨(some 11), none, (.val (.t 29))⟩] t H) := runR_reg'
def d54_4 : List AOper := [
  ⟨(some 30), none, (.val (.t 1))⟩,
  ⟨(some 31), none, (.val (.t 2))⟩,
  ⟨(some 10), none, (.val (.t 30))⟩,
  ⟨(some 11), none, (.val (.t 31))⟩]
theorem r54_4 {fn : AFun} {K : List AItem} {t : Nat → AV} {H : AH} {T : Tbl} : runR T fn (.code (.reg d54_4) :: K) t H = regR T fn K (aops (callR T) [
  ⟨(some 30), none, (.val (.t 1))⟩,
  ⟨(some 31), none, (.val (.t 2))⟩,
  ⟨(some 10), none, (.val (.t 30))⟩,
  ⟨(some 11), none, (.val (.t 31))⟩] t H) := runR_reg'
def a54 : AFun := ⟨32, [(.tmp 10), (.tmp 11)], (.seq (.reg d54_0) (.seq (.seq (.drw d54_1) (.cond (.t 22) (.seq (.reg d54_2) (.seq (.reg d54_3) .ret)) .skip)) (.seq (.reg d54_4) .ret)))⟩
theorem a54_ok : cfun Try.prog 54 = some a54 := by kernel_rfl
/-- All of them. -/
def tblE : FuncId → Option AFun
  | 3 => some a3
  | 4 => some a4
  | 5 => some a5
  | 6 => some a6
  | 7 => some a7
  | 8 => some a8
  | 9 => some a9
  | 10 => some a10
  | 11 => some a11
  | 12 => some a12
  | 13 => some a13
  | 14 => some a14
  | 15 => some a15
  | 16 => some a16
  | 17 => some a17
  | 18 => some a18
  | 19 => some a19
  | 20 => some a20
  | 21 => some a21
  | 22 => some a22
  | 23 => some a23
  | 24 => some a24
  | 25 => some a25
  | 26 => some a26
  | 27 => some a27
  | 28 => some a28
  | 29 => some a29
  | 30 => some a30
  | 31 => some a31
  | 32 => some a32
  | 33 => some a33
  | 34 => some a34
  | 35 => some a35
  | 36 => some a36
  | 37 => some a37
  | 38 => some a38
  | 39 => some a39
  | 40 => some a40
  | 41 => some a41
  | 42 => some a42
  | 43 => some a43
  | 44 => some a44
  | 45 => some a45
  | 46 => some a46
  | 47 => some a47
  | 48 => some a48
  | 49 => some a49
  | 50 => some a50
  | 51 => some a51
  | 52 => some a52
  | 53 => some a53
  | 54 => some a54
  | _ => none
/-- Those that the plain machine runs. -/
def tblF : FuncId → Option AFun
  | 3 => some a3
  | 4 => some a4
  | 5 => some a5
  | 6 => some a6
  | 7 => some a7
  | 8 => some a8
  | 9 => some a9
  | 10 => some a10
  | 12 => some a12
  | 13 => some a13
  | 14 => some a14
  | 15 => some a15
  | 16 => some a16
  | 17 => some a17
  | 18 => some a18
  | 19 => some a19
  | 20 => some a20
  | 21 => some a21
  | 22 => some a22
  | 23 => some a23
  | 25 => some a25
  | 26 => some a26
  | 27 => some a27
  | 28 => some a28
  | 29 => some a29
  | 30 => some a30
  | 31 => some a31
  | 32 => some a32
  | 33 => some a33
  | 34 => some a34
  | 35 => some a35
  | 36 => some a36
  | 37 => some a37
  | 38 => some a38
  | 39 => some a39
  | 40 => some a40
  | 41 => some a41
  | 42 => some a42
  | 43 => some a43
  | 44 => some a44
  | 45 => some a45
  | 46 => some a46
  | 47 => some a47
  | 48 => some a48
  | 49 => some a49
  | 50 => some a50
  | 51 => some a51
  | 52 => some a52
  | 53 => some a53
  | 54 => some a54
  | _ => none
structure Prm where
  p : PrimF
  up : ∀ f a H v H', p f a H = some (v, H') → H.n ≤ H'.n
def tblP (q : Prm) : Tbl := ⟨tblF, q.p, q.up⟩
theorem tbl3 {q : Prm} : (tblP q).f 3 = some a3 := rfl
theorem c3 {q : Prm} {x0 : AV} {H : AH} : callR (tblP q) 3 [x0] H = runR (tblP q) a3 [.code a3.body] (ainit [x0]) H := callR_of tbl3 (Nat.le_of_ble_eq_true rfl)
theorem b3 : a3.body = (.seq (.reg d3_0) (.seq (.reg d3_1) (.seq (.seq (.reg d3_2) (.cond (.t 11) (.seq (.reg d3_3) .ret) .skip)) (.seq (.seq (.reg d3_4) (.block 0 (.loop l3_11))) (.seq (.reg d3_12) (.seq (.seq (.reg d3_13) (.cond (.t 47) (.seq (.reg d3_14) .ret) .skip)) (.seq (.seq (.reg d3_15) (.cond (.t 64) (.seq (.reg d3_16) .ret) .skip)) (.seq (.reg d3_17) (.seq (.reg d3_18) .ret))))))))) := rfl
theorem s3 : a3.res = [(.tmp 2)] := rfl
theorem tbl4 {q : Prm} : (tblP q).f 4 = some a4 := rfl
theorem c4 {q : Prm} {x0 : AV} {H : AH} : callR (tblP q) 4 [x0] H = runR (tblP q) a4 [.code a4.body] (ainit [x0]) H := callR_of tbl4 (Nat.le_of_ble_eq_true rfl)
theorem b4 : a4.body = (.seq (.reg d4_0) (.seq (.reg d4_1) (.seq (.reg d4_2) (.seq (.seq (.reg d4_3) (.cond (.t 17) (.seq (.reg d4_4) .ret) .skip)) (.seq (.seq (.reg d4_5) (.block 0 (.loop l4_24))) (.seq (.reg d4_25) .ret)))))) := rfl
theorem s4 : a4.res = [(.tmp 2)] := rfl
theorem tbl5 {q : Prm} : (tblP q).f 5 = some a5 := rfl
theorem c5 {q : Prm} {x0 : AV} {H : AH} : callR (tblP q) 5 [x0] H = runR (tblP q) a5 [.code a5.body] (ainit [x0]) H := callR_of tbl5 (Nat.le_of_ble_eq_true rfl)
theorem b5 : a5.body = (.seq (.reg d5_0) (.seq (.reg d5_1) (.seq (.seq (.reg d5_2) (.cond (.t 15) (.seq (.reg d5_3) .ret) .skip)) (.seq (.reg d5_4) (.seq (.seq (.reg d5_5) (.block 0 (.loop l5_37))) (.seq (.reg d5_38) .ret)))))) := rfl
theorem s5 : a5.res = [(.tmp 2)] := rfl
theorem tbl6 {q : Prm} : (tblP q).f 6 = some a6 := rfl
theorem c6 {q : Prm} {x0 : AV} {H : AH} : callR (tblP q) 6 [x0] H = runR (tblP q) a6 [.code a6.body] (ainit [x0]) H := callR_of tbl6 (Nat.le_of_ble_eq_true rfl)
theorem b6 : a6.body = (.seq (.reg d6_0) (.seq (.seq (.reg d6_1) (.block 0 (.loop l6_9))) (.seq (.reg d6_10) .ret))) := rfl
theorem s6 : a6.res = [(.tmp 2)] := rfl
theorem tbl7 {q : Prm} : (tblP q).f 7 = some a7 := rfl
theorem c7 {q : Prm} {H : AH} : callR (tblP q) 7 [] H = runR (tblP q) a7 [.code a7.body] (ainit []) H := callR_of tbl7 (Nat.le_of_ble_eq_true rfl)
theorem b7 : a7.body = (.seq (.reg d7_0) (.seq (.reg d7_1) .ret)) := rfl
theorem s7 : a7.res = [(.tmp 0)] := rfl
theorem tbl8 {q : Prm} : (tblP q).f 8 = some a8 := rfl
theorem c8 {q : Prm} {x0 : AV} {H : AH} : callR (tblP q) 8 [x0] H = runR (tblP q) a8 [.code a8.body] (ainit [x0]) H := callR_of tbl8 (Nat.le_of_ble_eq_true rfl)
theorem b8 : a8.body = (.seq (.reg d8_0) (.seq (.reg d8_1) .ret)) := rfl
theorem s8 : a8.res = [(.tmp 2)] := rfl
theorem tbl9 {q : Prm} : (tblP q).f 9 = some a9 := rfl
theorem c9 {q : Prm} {x0 x1 : AV} {H : AH} : callR (tblP q) 9 [x0, x1] H = runR (tblP q) a9 [.code a9.body] (ainit [x0, x1]) H := callR_of tbl9 (Nat.le_of_ble_eq_true rfl)
theorem b9 : a9.body = (.seq (.reg d9_0) (.seq (.seq (.reg d9_1) (.cond (.t 12) (.seq (.reg d9_2) .ret) .skip)) (.seq (.drw d9_3) (.seq (.reg d9_4) (.seq (.seq (.reg d9_5) (.block 0 (.loop l9_11))) (.seq (.seq (.reg d9_12) (.block 2 (.loop l9_17))) (.seq (.reg d9_18) .ret))))))) := rfl
theorem s9 : a9.res = [(.tmp 4)] := rfl
theorem tbl10 {q : Prm} : (tblP q).f 10 = some a10 := rfl
theorem c10 {q : Prm} {x0 x1 x2 : AV} {H : AH} : callR (tblP q) 10 [x0, x1, x2] H = runR (tblP q) a10 [.code a10.body] (ainit [x0, x1, x2]) H := callR_of tbl10 (Nat.le_of_ble_eq_true rfl)
theorem b10 : a10.body = (.seq (.reg d10_0) (.seq (.block 0 (.seq (.reg d10_1) (.cond (.t 7) (.seq (.reg d10_2) .ret) (.seq (.reg d10_3) (.cond (.t 11) (.seq (.reg d10_4) .ret) .skip))))) (.seq (.drw d10_5) (.seq (.reg d10_6) .ret)))) := rfl
theorem s10 : a10.res = [(.tmp 6)] := rfl
theorem b11 : a11.body = (.seq (.reg d11_0) (.seq (.seq (.reg d11_1) (.cond (.t 9) (.seq (.reg d11_2) .ret) .skip)) (.seq (.reg d11_3) (.seq (.seq (.reg d11_4) (.block 0 (.loop l11_8))) (.seq (.reg d11_9) .ret))))) := rfl
theorem s11 : a11.res = [(.tmp 2), (.tmp 3)] := rfl
theorem tbl12 {q : Prm} : (tblP q).f 12 = some a12 := rfl
theorem c12 {q : Prm} {x0 : AV} {H : AH} : callR (tblP q) 12 [x0] H = runR (tblP q) a12 [.code a12.body] (ainit [x0]) H := callR_of tbl12 (Nat.le_of_ble_eq_true rfl)
theorem b12 : a12.body = (.seq (.reg d12_0) (.seq (.seq (.reg d12_1) (.cond (.t 5) (.seq (.reg d12_2) .ret) .skip)) (.seq (.reg d12_3) .ret))) := rfl
theorem s12 : a12.res = [(.tmp 2)] := rfl
theorem tbl13 {q : Prm} : (tblP q).f 13 = some a13 := rfl
theorem c13 {q : Prm} {H : AH} : callR (tblP q) 13 [] H = runR (tblP q) a13 [.code a13.body] (ainit []) H := callR_of tbl13 (Nat.le_of_ble_eq_true rfl)
theorem b13 : a13.body = (.seq (.reg d13_0) (.seq (.reg d13_1) (.seq (.seq (.reg d13_2) (.cond (.t 17) (.seq (.reg d13_3) .ret) .skip)) (.seq (.reg d13_4) (.seq (.reg d13_5) (.seq (.reg d13_6) .ret)))))) := rfl
theorem s13 : a13.res = [(.tmp 0)] := rfl
theorem tbl14 {q : Prm} : (tblP q).f 14 = some a14 := rfl
theorem c14 {q : Prm} {x0 x1 : AV} {H : AH} : callR (tblP q) 14 [x0, x1] H = runR (tblP q) a14 [.code a14.body] (ainit [x0, x1]) H := callR_of tbl14 (Nat.le_of_ble_eq_true rfl)
theorem b14 : a14.body = (.seq (.reg d14_0) (.seq (.reg d14_1) (.seq (.seq (.reg d14_2) (.cond (.t 13) (.reg d14_3) .skip)) (.seq (.reg d14_4) .ret)))) := rfl
theorem s14 : a14.res = [(.tmp 4)] := rfl
theorem tbl15 {q : Prm} : (tblP q).f 15 = some a15 := rfl
theorem c15 {q : Prm} {x0 x1 : AV} {H : AH} : callR (tblP q) 15 [x0, x1] H = runR (tblP q) a15 [.code a15.body] (ainit [x0, x1]) H := callR_of tbl15 (Nat.le_of_ble_eq_true rfl)
theorem b15 : a15.body = (.seq (.reg d15_0) (.seq (.seq (.reg d15_1) (.cond (.t 16) (.seq (.reg d15_2) .ret) .skip)) (.seq (.reg d15_3) (.seq (.reg d15_4) .ret)))) := rfl
theorem s15 : a15.res = [(.tmp 4)] := rfl
theorem tbl16 {q : Prm} : (tblP q).f 16 = some a16 := rfl
theorem c16 {q : Prm} {x0 x1 : AV} {H : AH} : callR (tblP q) 16 [x0, x1] H = runR (tblP q) a16 [.code a16.body] (ainit [x0, x1]) H := callR_of tbl16 (Nat.le_of_ble_eq_true rfl)
theorem b16 : a16.body = (.seq (.reg d16_0) (.seq (.seq (.reg d16_1) (.cond (.t 10) (.seq (.reg d16_2) .ret) .skip)) (.seq (.seq (.reg d16_3) (.block 0 (.loop l16_9))) (.seq (.reg d16_10) .ret)))) := rfl
theorem s16 : a16.res = [(.tmp 4)] := rfl
theorem tbl17 {q : Prm} : (tblP q).f 17 = some a17 := rfl
theorem c17 {q : Prm} {x0 x1 : AV} {H : AH} : callR (tblP q) 17 [x0, x1] H = runR (tblP q) a17 [.code a17.body] (ainit [x0, x1]) H := callR_of tbl17 (Nat.le_of_ble_eq_true rfl)
theorem b17 : a17.body = (.seq (.reg d17_0) (.seq (.seq (.reg d17_1) (.cond (.t 16) (.reg d17_2) .skip)) (.seq (.seq (.reg d17_3) (.cond (.t 23) (.reg d17_4) .skip)) (.seq (.reg d17_5) (.seq (.seq (.reg d17_6) (.block 0 (.loop l17_19))) (.seq (.reg d17_20) .ret)))))) := rfl
theorem s17 : a17.res = [(.tmp 4)] := rfl
theorem tbl18 {q : Prm} : (tblP q).f 18 = some a18 := rfl
theorem c18 {q : Prm} {x0 x1 x2 : AV} {H : AH} : callR (tblP q) 18 [x0, x1, x2] H = runR (tblP q) a18 [.code a18.body] (ainit [x0, x1, x2]) H := callR_of tbl18 (Nat.le_of_ble_eq_true rfl)
theorem b18 : a18.body = (.seq (.reg d18_0) (.seq (.seq (.reg d18_1) (.cond (.t 13) (.seq (.reg d18_2) .ret) .skip)) (.seq (.reg d18_3) (.seq (.seq (.reg d18_4) (.cond (.t 25) (.drw d18_5) .skip)) (.seq (.reg d18_6) .ret))))) := rfl
theorem s18 : a18.res = [(.tmp 6)] := rfl
theorem tbl19 {q : Prm} : (tblP q).f 19 = some a19 := rfl
theorem c19 {q : Prm} {x0 x1 : AV} {H : AH} : callR (tblP q) 19 [x0, x1] H = runR (tblP q) a19 [.code a19.body] (ainit [x0, x1]) H := callR_of tbl19 (Nat.le_of_ble_eq_true rfl)
theorem b19 : a19.body = (.seq (.reg d19_0) (.seq (.seq (.reg d19_1) (.cond (.t 10) (.seq (.reg d19_2) .ret) .skip)) (.seq (.reg d19_3) (.seq (.reg d19_4) .ret)))) := rfl
theorem s19 : a19.res = [(.tmp 4), (.tmp 5)] := rfl
theorem tbl20 {q : Prm} : (tblP q).f 20 = some a20 := rfl
theorem c20 {q : Prm} {x0 : AV} {H : AH} : callR (tblP q) 20 [x0] H = runR (tblP q) a20 [.code a20.body] (ainit [x0]) H := callR_of tbl20 (Nat.le_of_ble_eq_true rfl)
theorem b20 : a20.body = (.seq (.reg d20_0) (.seq (.reg d20_1) (.seq (.seq (.reg d20_2) (.block 0 (.loop l20_7))) (.seq (.reg d20_8) .ret)))) := rfl
theorem s20 : a20.res = [(.tmp 2), (.tmp 3)] := rfl
theorem tbl21 {q : Prm} : (tblP q).f 21 = some a21 := rfl
theorem c21 {q : Prm} {x0 : AV} {H : AH} : callR (tblP q) 21 [x0] H = runR (tblP q) a21 [.code a21.body] (ainit [x0]) H := callR_of tbl21 (Nat.le_of_ble_eq_true rfl)
theorem b21 : a21.body = (.seq (.reg d21_0) (.seq (.seq (.reg d21_1) (.cond (.t 5) (.seq (.reg d21_2) .ret) .skip)) (.seq (.reg d21_3) .ret))) := rfl
theorem s21 : a21.res = [(.tmp 2)] := rfl
theorem tbl22 {q : Prm} : (tblP q).f 22 = some a22 := rfl
theorem c22 {q : Prm} {x0 : AV} {H : AH} : callR (tblP q) 22 [x0] H = runR (tblP q) a22 [.code a22.body] (ainit [x0]) H := callR_of tbl22 (Nat.le_of_ble_eq_true rfl)
theorem b22 : a22.body = (.seq (.reg d22_0) (.seq (.reg d22_1) (.seq (.seq (.reg d22_2) (.block 0 (.loop l22_7))) (.seq (.reg d22_8) .ret)))) := rfl
theorem s22 : a22.res = [(.tmp 2)] := rfl
theorem tbl23 {q : Prm} : (tblP q).f 23 = some a23 := rfl
theorem c23 {q : Prm} {x0 : AV} {H : AH} : callR (tblP q) 23 [x0] H = runR (tblP q) a23 [.code a23.body] (ainit [x0]) H := callR_of tbl23 (Nat.le_of_ble_eq_true rfl)
theorem b23 : a23.body = (.seq (.reg d23_0) (.seq (.reg d23_1) .ret)) := rfl
theorem s23 : a23.res = [(.tmp 2)] := rfl
theorem b24 : a24.body = (.seq (.reg d24_0) (.seq (.reg d24_1) (.seq (.reg d24_2) (.seq (.reg d24_3) .ret)))) := rfl
theorem s24 : a24.res = [(.tmp 4)] := rfl
theorem tbl25 {q : Prm} : (tblP q).f 25 = some a25 := rfl
theorem c25 {q : Prm} {x0 : AV} {H : AH} : callR (tblP q) 25 [x0] H = runR (tblP q) a25 [.code a25.body] (ainit [x0]) H := callR_of tbl25 (Nat.le_of_ble_eq_true rfl)
theorem b25 : a25.body = (.seq (.reg d25_0) (.seq (.reg d25_1) .ret)) := rfl
theorem s25 : a25.res = [(.tmp 2)] := rfl
theorem tbl26 {q : Prm} : (tblP q).f 26 = some a26 := rfl
theorem c26 {q : Prm} {x0 x1 x2 : AV} {H : AH} : callR (tblP q) 26 [x0, x1, x2] H = runR (tblP q) a26 [.code a26.body] (ainit [x0, x1, x2]) H := callR_of tbl26 (Nat.le_of_ble_eq_true rfl)
theorem b26 : a26.body = (.seq (.reg d26_0) (.seq (.drw d26_1) .ret)) := rfl
theorem s26 : a26.res = [(.tmp 6)] := rfl
theorem tbl27 {q : Prm} : (tblP q).f 27 = some a27 := rfl
theorem c27 {q : Prm} {x0 : AV} {H : AH} : callR (tblP q) 27 [x0] H = runR (tblP q) a27 [.code a27.body] (ainit [x0]) H := callR_of tbl27 (Nat.le_of_ble_eq_true rfl)
theorem b27 : a27.body = (.seq (.reg d27_0) (.seq (.reg d27_1) .ret)) := rfl
theorem s27 : a27.res = [(.tmp 2)] := rfl
theorem tbl28 {q : Prm} : (tblP q).f 28 = some a28 := rfl
theorem c28 {q : Prm} {x0 : AV} {H : AH} : callR (tblP q) 28 [x0] H = runR (tblP q) a28 [.code a28.body] (ainit [x0]) H := callR_of tbl28 (Nat.le_of_ble_eq_true rfl)
theorem b28 : a28.body = (.seq (.reg d28_0) (.seq (.reg d28_1) .ret)) := rfl
theorem s28 : a28.res = [(.tmp 2)] := rfl
theorem tbl29 {q : Prm} : (tblP q).f 29 = some a29 := rfl
theorem c29 {q : Prm} {x0 x1 : AV} {H : AH} : callR (tblP q) 29 [x0, x1] H = runR (tblP q) a29 [.code a29.body] (ainit [x0, x1]) H := callR_of tbl29 (Nat.le_of_ble_eq_true rfl)
theorem b29 : a29.body = (.seq (.reg d29_0) (.reg d29_1)) := rfl
theorem s29 : a29.res = [] := rfl
theorem tbl30 {q : Prm} : (tblP q).f 30 = some a30 := rfl
theorem c30 {q : Prm} {x0 x1 : AV} {H : AH} : callR (tblP q) 30 [x0, x1] H = runR (tblP q) a30 [.code a30.body] (ainit [x0, x1]) H := callR_of tbl30 (Nat.le_of_ble_eq_true rfl)
theorem b30 : a30.body = (.seq (.reg d30_0) (.block 0 (.loop l30_4))) := rfl
theorem s30 : a30.res = [] := rfl
theorem tbl31 {q : Prm} : (tblP q).f 31 = some a31 := rfl
theorem c31 {q : Prm} {x0 : AV} {H : AH} : callR (tblP q) 31 [x0] H = runR (tblP q) a31 [.code a31.body] (ainit [x0]) H := callR_of tbl31 (Nat.le_of_ble_eq_true rfl)
theorem b31 : a31.body = (.seq (.reg d31_0) (.seq (.reg d31_1) (.seq (.seq (.reg d31_2) (.block 0 (.loop l31_8))) (.seq (.reg d31_9) .ret)))) := rfl
theorem s31 : a31.res = [(.tmp 2)] := rfl
theorem tbl32 {q : Prm} : (tblP q).f 32 = some a32 := rfl
theorem c32 {q : Prm} {x0 x1 : AV} {H : AH} : callR (tblP q) 32 [x0, x1] H = runR (tblP q) a32 [.code a32.body] (ainit [x0, x1]) H := callR_of tbl32 (Nat.le_of_ble_eq_true rfl)
theorem b32 : a32.body = (.seq (.reg d32_0) (.seq (.reg d32_1) (.seq (.reg d32_2) (.seq (.seq (.reg d32_3) (.cond (.t 11) (.seq (.seq (.reg d32_4) (.cond (.t 12) (.seq (.reg d32_5) .ret) .skip)) (.seq (.reg d32_6) .ret)) .skip)) (.seq (.seq (.reg d32_7) (.cond (.t 13) (.seq (.reg d32_8) .ret) .skip)) (.seq (.seq (.reg d32_9) (.cond (.t 16) (.seq (.reg d32_10) .ret) .skip)) (.seq (.seq (.reg d32_11) (.cond (.t 19) (.seq (.reg d32_12) .ret) .skip)) (.seq (.reg d32_13) .ret)))))))) := rfl
theorem s32 : a32.res = [(.tmp 4)] := rfl
theorem tbl33 {q : Prm} : (tblP q).f 33 = some a33 := rfl
theorem c33 {q : Prm} {x0 x1 : AV} {H : AH} : callR (tblP q) 33 [x0, x1] H = runR (tblP q) a33 [.code a33.body] (ainit [x0, x1]) H := callR_of tbl33 (Nat.le_of_ble_eq_true rfl)
theorem b33 : a33.body = (.seq (.reg d33_0) (.seq (.reg d33_1) (.seq (.reg d33_2) (.seq (.seq (.reg d33_3) (.cond (.t 11) (.seq (.seq (.reg d33_4) (.cond (.t 12) (.seq (.reg d33_5) .ret) .skip)) (.seq (.reg d33_6) .ret)) .skip)) (.seq (.seq (.reg d33_7) (.cond (.t 13) (.seq (.reg d33_8) .ret) .skip)) (.seq (.seq (.reg d33_9) (.cond (.t 16) (.seq (.reg d33_10) .ret) .skip)) (.seq (.seq (.reg d33_11) (.cond (.t 19) (.seq (.reg d33_12) .ret) .skip)) (.seq (.reg d33_13) .ret)))))))) := rfl
theorem s33 : a33.res = [(.tmp 4)] := rfl
theorem tbl34 {q : Prm} : (tblP q).f 34 = some a34 := rfl
theorem c34 {q : Prm} {x0 x1 : AV} {H : AH} : callR (tblP q) 34 [x0, x1] H = runR (tblP q) a34 [.code a34.body] (ainit [x0, x1]) H := callR_of tbl34 (Nat.le_of_ble_eq_true rfl)
theorem b34 : a34.body = (.seq (.reg d34_0) (.seq (.seq (.reg d34_1) (.block 0 (.rf (.t 6) [7] f34_4a f34_4b))) (.seq (.reg d34_5) .ret))) := rfl
theorem s34 : a34.res = [(.tmp 4)] := rfl
theorem tbl35 {q : Prm} : (tblP q).f 35 = some a35 := rfl
theorem c35 {q : Prm} {x0 x1 x2 x3 x4 : AV} {H : AH} : callR (tblP q) 35 [x0, x1, x2, x3, x4] H = runR (tblP q) a35 [.code a35.body] (ainit [x0, x1, x2, x3, x4]) H := callR_of tbl35 (Nat.le_of_ble_eq_true rfl)
theorem b35 : a35.body = (.seq (.reg d35_0) (.seq (.reg d35_1) (.block 0 (.loop l35_31)))) := rfl
theorem s35 : a35.res = [] := rfl
theorem tbl36 {q : Prm} : (tblP q).f 36 = some a36 := rfl
theorem c36 {q : Prm} {x0 : AV} {H : AH} : callR (tblP q) 36 [x0] H = runR (tblP q) a36 [.code a36.body] (ainit [x0]) H := callR_of tbl36 (Nat.le_of_ble_eq_true rfl)
theorem b36 : a36.body = (.seq (.reg d36_0) (.seq (.cond (.c (.b false)) (.seq (.reg d36_1) .ret) .skip) (.seq (.reg d36_2) .ret))) := rfl
theorem s36 : a36.res = [(.tmp 2)] := rfl
theorem tbl37 {q : Prm} : (tblP q).f 37 = some a37 := rfl
theorem c37 {q : Prm} {x0 : AV} {H : AH} : callR (tblP q) 37 [x0] H = runR (tblP q) a37 [.code a37.body] (ainit [x0]) H := callR_of tbl37 (Nat.le_of_ble_eq_true rfl)
theorem b37 : a37.body = (.seq (.reg d37_0) (.seq (.reg d37_1) .ret)) := rfl
theorem s37 : a37.res = [(.tmp 2)] := rfl
theorem tbl38 {q : Prm} : (tblP q).f 38 = some a38 := rfl
theorem c38 {q : Prm} {x0 : AV} {H : AH} : callR (tblP q) 38 [x0] H = runR (tblP q) a38 [.code a38.body] (ainit [x0]) H := callR_of tbl38 (Nat.le_of_ble_eq_true rfl)
theorem b38 : a38.body = (.seq (.reg d38_0) (.seq (.reg d38_1) .ret)) := rfl
theorem s38 : a38.res = [(.tmp 2)] := rfl
theorem tbl39 {q : Prm} : (tblP q).f 39 = some a39 := rfl
theorem c39 {q : Prm} {x0 x1 x2 x3 : AV} {H : AH} : callR (tblP q) 39 [x0, x1, x2, x3] H = runR (tblP q) a39 [.code a39.body] (ainit [x0, x1, x2, x3]) H := callR_of tbl39 (Nat.le_of_ble_eq_true rfl)
theorem b39 : a39.body = (.seq (.reg d39_0) (.block 0 (.loop l39_8))) := rfl
theorem s39 : a39.res = [] := rfl
theorem tbl40 {q : Prm} : (tblP q).f 40 = some a40 := rfl
theorem c40 {q : Prm} {x0 x1 x2 x3 : AV} {H : AH} : callR (tblP q) 40 [x0, x1, x2, x3] H = runR (tblP q) a40 [.code a40.body] (ainit [x0, x1, x2, x3]) H := callR_of tbl40 (Nat.le_of_ble_eq_true rfl)
theorem b40 : a40.body = (.seq (.reg d40_0) (.seq (.reg d40_1) (.seq (.reg d40_2) (.seq (.seq (.reg d40_3) (.block 0 (.loop l40_7))) (.seq (.reg d40_8) (.block 2 (.loop l40_13))))))) := rfl
theorem s40 : a40.res = [] := rfl
theorem tbl41 {q : Prm} : (tblP q).f 41 = some a41 := rfl
theorem c41 {q : Prm} {x0 x1 x2 x3 : AV} {H : AH} : callR (tblP q) 41 [x0, x1, x2, x3] H = runR (tblP q) a41 [.code a41.body] (ainit [x0, x1, x2, x3]) H := callR_of tbl41 (Nat.le_of_ble_eq_true rfl)
theorem b41 : a41.body = (.seq (.reg d41_0) (.seq (.reg d41_1) (.cond (.t 17) (.seq (.reg d41_2) (.seq (.reg d41_3) (.seq (.reg d41_4) (.block 0 (.loop l41_11))))) .skip))) := rfl
theorem s41 : a41.res = [] := rfl
theorem tbl42 {q : Prm} : (tblP q).f 42 = some a42 := rfl
theorem c42 {q : Prm} {x0 x1 x2 x3 : AV} {H : AH} : callR (tblP q) 42 [x0, x1, x2, x3] H = runR (tblP q) a42 [.code a42.body] (ainit [x0, x1, x2, x3]) H := callR_of tbl42 (Nat.le_of_ble_eq_true rfl)
theorem b42 : a42.body = (.seq (.reg d42_0) (.seq (.reg d42_1) (.seq (.reg d42_2) (.seq (.reg d42_3) (.seq (.reg d42_4) (.seq (.reg d42_5) (.seq (.seq (.reg d42_6) (.cond (.t 34) (.seq (.seq (.reg d42_7) (.cond (.t 36) (.seq (.reg d42_8) (.seq (.reg d42_9) (.reg d42_10))) .skip)) (.reg d42_11)) .skip)) (.seq (.reg d42_12) (.block 0 (.seq (.reg d42_13) (.cond (.t 57) (.seq (.reg d42_14) .ret) (.seq (.reg d42_15) (.cond (.t 60) (.seq (.reg d42_16) .ret) (.seq (.reg d42_17) .ret)))))))))))))) := rfl
theorem s42 : a42.res = [(.tmp 8), (.tmp 9)] := rfl
theorem tbl43 {q : Prm} : (tblP q).f 43 = some a43 := rfl
theorem c43 {q : Prm} {x0 x1 x2 x3 : AV} {H : AH} : callR (tblP q) 43 [x0, x1, x2, x3] H = runR (tblP q) a43 [.code a43.body] (ainit [x0, x1, x2, x3]) H := callR_of tbl43 (Nat.le_of_ble_eq_true rfl)
theorem b43 : a43.body = (.seq (.reg d43_0) (.seq (.reg d43_1) (.block 0 (.loop l43_6)))) := rfl
theorem s43 : a43.res = [] := rfl
theorem tbl44 {q : Prm} : (tblP q).f 44 = some a44 := rfl
theorem c44 {q : Prm} {x0 x1 x2 x3 : AV} {H : AH} : callR (tblP q) 44 [x0, x1, x2, x3] H = runR (tblP q) a44 [.code a44.body] (ainit [x0, x1, x2, x3]) H := callR_of tbl44 (Nat.le_of_ble_eq_true rfl)
theorem b44 : a44.body = (.seq (.reg d44_0) (.seq (.reg d44_1) (.seq (.seq (.reg d44_2) (.block 0 (.loop l44_27))) (.seq (.reg d44_28) .ret)))) := rfl
theorem s44 : a44.res = [(.tmp 8)] := rfl
theorem tbl45 {q : Prm} : (tblP q).f 45 = some a45 := rfl
theorem c45 {q : Prm} {x0 x1 x2 x3 x4 : AV} {H : AH} : callR (tblP q) 45 [x0, x1, x2, x3, x4] H = runR (tblP q) a45 [.code a45.body] (ainit [x0, x1, x2, x3, x4]) H := callR_of tbl45 (Nat.le_of_ble_eq_true rfl)
theorem b45 : a45.body = (.seq (.reg d45_0) (.seq (.drw d45_1) (.seq (.reg d45_2) (.seq (.block 0 (.loop l45_13)) (.seq (.reg d45_14) .ret))))) := rfl
theorem s45 : a45.res = [(.tmp 10)] := rfl
theorem tbl46 {q : Prm} : (tblP q).f 46 = some a46 := rfl
theorem c46 {q : Prm} {x0 x1 x2 x3 x4 : AV} {H : AH} : callR (tblP q) 46 [x0, x1, x2, x3, x4] H = runR (tblP q) a46 [.code a46.body] (ainit [x0, x1, x2, x3, x4]) H := callR_of tbl46 (Nat.le_of_ble_eq_true rfl)
theorem b46 : a46.body = (.seq (.reg d46_0) (.seq (.drw d46_1) (.seq (.reg d46_2) (.seq (.block 0 (.loop l46_5)) (.seq (.block 2 (.loop l46_8)) (.seq (.seq (.reg d46_9) (.cond (.t 71) (.seq (.drw d46_10) (.seq (.reg d46_11) .ret)) .skip)) (.seq (.drw d46_12) (.seq (.reg d46_13) (.seq (.reg d46_14) (.seq (.block 4 (.loop l46_25)) (.seq (.drw d46_26) (.seq (.reg d46_27) .ret)))))))))))) := rfl
theorem s46 : a46.res = [(.tmp 10), (.tmp 11)] := rfl
theorem tbl47 {q : Prm} : (tblP q).f 47 = some a47 := rfl
theorem c47 {q : Prm} {x0 : AV} {H : AH} : callR (tblP q) 47 [x0] H = runR (tblP q) a47 [.code a47.body] (ainit [x0]) H := callR_of tbl47 (Nat.le_of_ble_eq_true rfl)
theorem b47 : a47.body = (.seq (.reg d47_0) (.seq (.seq (.reg d47_1) (.cond (.t 4) (.seq (.reg d47_2) (.reg d47_3)) .skip)) (.seq (.seq (.reg d47_4) (.cond (.t 8) (.seq (.reg d47_5) (.reg d47_6)) .skip)) (.seq (.reg d47_7) .ret)))) := rfl
theorem s47 : a47.res = [(.tmp 2)] := rfl
theorem tbl48 {q : Prm} : (tblP q).f 48 = some a48 := rfl
theorem c48 {q : Prm} {x0 : AV} {H : AH} : callR (tblP q) 48 [x0] H = runR (tblP q) a48 [.code a48.body] (ainit [x0]) H := callR_of tbl48 (Nat.le_of_ble_eq_true rfl)
theorem b48 : a48.body = (.seq (.reg d48_0) (.seq (.seq (.reg d48_1) (.cond (.t 4) (.seq (.reg d48_2) (.reg d48_3)) .skip)) (.seq (.seq (.reg d48_4) (.cond (.t 8) (.seq (.reg d48_5) (.reg d48_6)) .skip)) (.seq (.seq (.reg d48_7) (.cond (.t 14) (.seq (.reg d48_8) (.reg d48_9)) .skip)) (.seq (.reg d48_10) .ret))))) := rfl
theorem s48 : a48.res = [(.tmp 2)] := rfl
theorem tbl49 {q : Prm} : (tblP q).f 49 = some a49 := rfl
theorem c49 {q : Prm} {x0 x1 x2 x3 x4 : AV} {H : AH} : callR (tblP q) 49 [x0, x1, x2, x3, x4] H = runR (tblP q) a49 [.code a49.body] (ainit [x0, x1, x2, x3, x4]) H := callR_of tbl49 (Nat.le_of_ble_eq_true rfl)
theorem b49 : a49.body = (.seq (.reg d49_0) (.block 0 (.loop l49_8))) := rfl
theorem s49 : a49.res = [] := rfl
theorem tbl50 {q : Prm} : (tblP q).f 50 = some a50 := rfl
theorem c50 {q : Prm} {x0 : AV} {H : AH} : callR (tblP q) 50 [x0] H = runR (tblP q) a50 [.code a50.body] (ainit [x0]) H := callR_of tbl50 (Nat.le_of_ble_eq_true rfl)
theorem b50 : a50.body = (.seq (.reg d50_0) (.seq (.reg d50_1) .ret)) := rfl
theorem s50 : a50.res = [(.tmp 2)] := rfl
theorem tbl51 {q : Prm} : (tblP q).f 51 = some a51 := rfl
theorem c51 {q : Prm} {x0 : AV} {H : AH} : callR (tblP q) 51 [x0] H = runR (tblP q) a51 [.code a51.body] (ainit [x0]) H := callR_of tbl51 (Nat.le_of_ble_eq_true rfl)
theorem b51 : a51.body = (.seq (.reg d51_0) (.seq (.drw d51_1) (.seq (.drw d51_2) (.seq (.drw d51_3) (.seq (.reg d51_4) .ret))))) := rfl
theorem s51 : a51.res = [(.tmp 2)] := rfl
theorem tbl52 {q : Prm} : (tblP q).f 52 = some a52 := rfl
theorem c52 {q : Prm} {x0 x1 x2 x3 : AV} {H : AH} : callR (tblP q) 52 [x0, x1, x2, x3] H = runR (tblP q) a52 [.code a52.body] (ainit [x0, x1, x2, x3]) H := callR_of tbl52 (Nat.le_of_ble_eq_true rfl)
theorem b52 : a52.body = (.seq (.reg d52_0) (.seq (.reg d52_1) .ret)) := rfl
theorem s52 : a52.res = [(.tmp 8)] := rfl
theorem tbl53 {q : Prm} : (tblP q).f 53 = some a53 := rfl
theorem c53 {q : Prm} {x0 x1 x2 x3 x4 x5 : AV} {H : AH} : callR (tblP q) 53 [x0, x1, x2, x3, x4, x5] H = runR (tblP q) a53 [.code a53.body] (ainit [x0, x1, x2, x3, x4, x5]) H := callR_of tbl53 (Nat.le_of_ble_eq_true rfl)
theorem b53 : a53.body = (.seq (.reg d53_0) (.seq (.reg d53_1) (.seq (.reg d53_2) (.seq (.reg d53_3) (.seq (.reg d53_4) .ret))))) := rfl
theorem s53 : a53.res = [(.tmp 12)] := rfl
theorem tbl54 {q : Prm} : (tblP q).f 54 = some a54 := rfl
theorem c54 {q : Prm} {x0 x1 x2 x3 x4 : AV} {H : AH} : callR (tblP q) 54 [x0, x1, x2, x3, x4] H = runR (tblP q) a54 [.code a54.body] (ainit [x0, x1, x2, x3, x4]) H := callR_of tbl54 (Nat.le_of_ble_eq_true rfl)
theorem b54 : a54.body = (.seq (.reg d54_0) (.seq (.seq (.drw d54_1) (.cond (.t 22) (.seq (.reg d54_2) (.seq (.reg d54_3) .ret)) .skip)) (.seq (.reg d54_4) .ret))) := rfl
theorem s54 : a54.res = [(.tmp 10), (.tmp 11)] := rfl
theorem tblE_ok : ∀ f a, tblE f = some a → cfun Try.prog f = some a := by
  intro f a h
  unfold tblE at h
  split at h
  · cases h; exact a3_ok
  · cases h; exact a4_ok
  · cases h; exact a5_ok
  · cases h; exact a6_ok
  · cases h; exact a7_ok
  · cases h; exact a8_ok
  · cases h; exact a9_ok
  · cases h; exact a10_ok
  · cases h; exact a11_ok
  · cases h; exact a12_ok
  · cases h; exact a13_ok
  · cases h; exact a14_ok
  · cases h; exact a15_ok
  · cases h; exact a16_ok
  · cases h; exact a17_ok
  · cases h; exact a18_ok
  · cases h; exact a19_ok
  · cases h; exact a20_ok
  · cases h; exact a21_ok
  · cases h; exact a22_ok
  · cases h; exact a23_ok
  · cases h; exact a24_ok
  · cases h; exact a25_ok
  · cases h; exact a26_ok
  · cases h; exact a27_ok
  · cases h; exact a28_ok
  · cases h; exact a29_ok
  · cases h; exact a30_ok
  · cases h; exact a31_ok
  · cases h; exact a32_ok
  · cases h; exact a33_ok
  · cases h; exact a34_ok
  · cases h; exact a35_ok
  · cases h; exact a36_ok
  · cases h; exact a37_ok
  · cases h; exact a38_ok
  · cases h; exact a39_ok
  · cases h; exact a40_ok
  · cases h; exact a41_ok
  · cases h; exact a42_ok
  · cases h; exact a43_ok
  · cases h; exact a44_ok
  · cases h; exact a45_ok
  · cases h; exact a46_ok
  · cases h; exact a47_ok
  · cases h; exact a48_ok
  · cases h; exact a49_ok
  · cases h; exact a50_ok
  · cases h; exact a51_ok
  · cases h; exact a52_ok
  · cases h; exact a53_ok
  · cases h; exact a54_ok
  · cases h
theorem tblF_ok : ∀ f a, tblF f = some a → cfun Try.prog f = some a := by
  intro f a h
  unfold tblF at h
  split at h
  · cases h; exact a3_ok
  · cases h; exact a4_ok
  · cases h; exact a5_ok
  · cases h; exact a6_ok
  · cases h; exact a7_ok
  · cases h; exact a8_ok
  · cases h; exact a9_ok
  · cases h; exact a10_ok
  · cases h; exact a12_ok
  · cases h; exact a13_ok
  · cases h; exact a14_ok
  · cases h; exact a15_ok
  · cases h; exact a16_ok
  · cases h; exact a17_ok
  · cases h; exact a18_ok
  · cases h; exact a19_ok
  · cases h; exact a20_ok
  · cases h; exact a21_ok
  · cases h; exact a22_ok
  · cases h; exact a23_ok
  · cases h; exact a25_ok
  · cases h; exact a26_ok
  · cases h; exact a27_ok
  · cases h; exact a28_ok
  · cases h; exact a29_ok
  · cases h; exact a30_ok
  · cases h; exact a31_ok
  · cases h; exact a32_ok
  · cases h; exact a33_ok
  · cases h; exact a34_ok
  · cases h; exact a35_ok
  · cases h; exact a36_ok
  · cases h; exact a37_ok
  · cases h; exact a38_ok
  · cases h; exact a39_ok
  · cases h; exact a40_ok
  · cases h; exact a41_ok
  · cases h; exact a42_ok
  · cases h; exact a43_ok
  · cases h; exact a44_ok
  · cases h; exact a45_ok
  · cases h; exact a46_ok
  · cases h; exact a47_ok
  · cases h; exact a48_ok
  · cases h; exact a49_ok
  · cases h; exact a50_ok
  · cases h; exact a51_ok
  · cases h; exact a52_ok
  · cases h; exact a53_ok
  · cases h; exact a54_ok
  · cases h
end Go.Proofs.Ytaolkpkaiidmeaa.Abs
