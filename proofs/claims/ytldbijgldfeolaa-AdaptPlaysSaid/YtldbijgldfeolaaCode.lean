/- The functions that the laws of this seat reach, in the plain machine's form, and that they are the loaded ones. Printed by a program of this seat's own (gencode.py). No condition of its own. -/
import Derived.Test.YtldbijgldfeolaaProg
import Derived.Test.YtldbijgldfeolaaAbs3
import Derived.Test.YtldbijgldfeolaaEval
import Derived.KernelRfl
namespace Go.Proofs.Ytldbijgldfeolaa.Abs
set_option linter.unusedVariables false
set_option maxRecDepth 100000
/-- futtock/futtocklaw33.AdaptEnds -/
def d3_0 : List AOper := [
  ⟨(some 2), none, (.box (.t 0))⟩,
  ⟨(some 4), none, (.val (.c (.b false)))⟩]
theorem r3_0 {fn : AFun} {K : List AItem} {t : Nat → AV} {H : AH} {T : Tbl} : runR T fn (.code (.reg d3_0) :: K) t H = regR T fn K (aops (callR T) [
  ⟨(some 2), none, (.box (.t 0))⟩,
  ⟨(some 4), none, (.val (.c (.b false)))⟩] t H) := runR_reg'
def d3_1 : List AOper := [
  ⟨(some 10), none, (.ld (some 4) (.t 2))⟩,
  ⟨(some 11), none, (.call 8 [(.t 10)])⟩,
  ⟨(some 12), none, (.call 7 [(.t 11)])⟩,
  ⟨(some 9), none, (.val (.t 12))⟩,
  ⟨(some 13), none, (.ext (.t 9) 0)⟩,
  ⟨(some 14), none, (.ext (.t 9) 1)⟩,
  ⟨(some 5), none, (.val (.t 13))⟩,
  ⟨(some 6), none, (.val (.t 14))⟩]
theorem r3_1 {fn : AFun} {K : List AItem} {t : Nat → AV} {H : AH} {T : Tbl} : runR T fn (.code (.reg d3_1) :: K) t H = regR T fn K (aops (callR T) [
  ⟨(some 10), none, (.ld (some 4) (.t 2))⟩,
  ⟨(some 11), none, (.call 8 [(.t 10)])⟩,
  ⟨(some 12), none, (.call 7 [(.t 11)])⟩,
  ⟨(some 9), none, (.val (.t 12))⟩,
  ⟨(some 13), none, (.ext (.t 9) 0)⟩,
  ⟨(some 14), none, (.ext (.t 9) 1)⟩,
  ⟨(some 5), none, (.val (.t 13))⟩,
  ⟨(some 6), none, (.val (.t 14))⟩] t H) := runR_reg'
def d3_2 : List AOper := [
  ⟨(some 15), none, (.val (.t 6))⟩,
  ⟨(some 16), none, (.bin .neq (.t 15) (.c (.i .i64 0)))⟩,
  ⟨(some 17), none, (.val (.t 16))⟩,
  ⟨(some 18), (some (17, false)), (.val (.t 1))⟩,
  ⟨(some 19), (some (17, false)), (.bin .lss (.t 18) (.c (.i .i64 0)))⟩,
  ⟨(some 20), none, (.pick (.t 17) (.c (.b true)) (.t 19))⟩,
  ⟨(some 21), none, (.val (.t 20))⟩,
  ⟨(some 22), (some (21, false)), (.val (.t 1))⟩,
  ⟨(some 23), (some (21, false)), (.bin .gtr (.t 22) (.c (.i .i64 65535)))⟩,
  ⟨(some 24), none, (.pick (.t 21) (.c (.b true)) (.t 23))⟩]
theorem r3_2 {fn : AFun} {K : List AItem} {t : Nat → AV} {H : AH} {T : Tbl} : runR T fn (.code (.reg d3_2) :: K) t H = regR T fn K (aops (callR T) [
  ⟨(some 15), none, (.val (.t 6))⟩,
  ⟨(some 16), none, (.bin .neq (.t 15) (.c (.i .i64 0)))⟩,
  ⟨(some 17), none, (.val (.t 16))⟩,
  ⟨(some 18), (some (17, false)), (.val (.t 1))⟩,
  ⟨(some 19), (some (17, false)), (.bin .lss (.t 18) (.c (.i .i64 0)))⟩,
  ⟨(some 20), none, (.pick (.t 17) (.c (.b true)) (.t 19))⟩,
  ⟨(some 21), none, (.val (.t 20))⟩,
  ⟨(some 22), (some (21, false)), (.val (.t 1))⟩,
  ⟨(some 23), (some (21, false)), (.bin .gtr (.t 22) (.c (.i .i64 65535)))⟩,
  ⟨(some 24), none, (.pick (.t 21) (.c (.b true)) (.t 23))⟩] t H) := runR_reg'
def d3_3 : List AOper := [
  ⟨(some 25), none, (.val (.t 5))⟩,
  ⟨(some 26), none, (.eqn 0 false (.t 25) (.c (.p none)))⟩,
  ⟨(some 27), none, (.val (.t 6))⟩,
  ⟨(some 28), none, (.bin .neq (.t 27) (.c (.i .i64 0)))⟩,
  ⟨(some 29), none, (.eqb false (.t 26) (.t 28))⟩,
  ⟨(some 30), none, (.val (.t 29))⟩,
  ⟨(some 31), (some (30, true)), (.call 9 [])⟩,
  ⟨(some 32), none, (.pick (.t 30) (.t 31) (.c (.b false)))⟩,
  ⟨(some 4), none, (.val (.t 32))⟩]
theorem r3_3 {fn : AFun} {K : List AItem} {t : Nat → AV} {H : AH} {T : Tbl} : runR T fn (.code (.reg d3_3) :: K) t H = regR T fn K (aops (callR T) [
  ⟨(some 25), none, (.val (.t 5))⟩,
  ⟨(some 26), none, (.eqn 0 false (.t 25) (.c (.p none)))⟩,
  ⟨(some 27), none, (.val (.t 6))⟩,
  ⟨(some 28), none, (.bin .neq (.t 27) (.c (.i .i64 0)))⟩,
  ⟨(some 29), none, (.eqb false (.t 26) (.t 28))⟩,
  ⟨(some 30), none, (.val (.t 29))⟩,
  ⟨(some 31), (some (30, true)), (.call 9 [])⟩,
  ⟨(some 32), none, (.pick (.t 30) (.t 31) (.c (.b false)))⟩,
  ⟨(some 4), none, (.val (.t 32))⟩] t H) := runR_reg'
def d3_4 : List AOper := [
  ⟨(some 33), none, (.val (.c (.i .i64 0)))⟩]
theorem r3_4 {fn : AFun} {K : List AItem} {t : Nat → AV} {H : AH} {T : Tbl} : runR T fn (.code (.reg d3_4) :: K) t H = regR T fn K (aops (callR T) [
  ⟨(some 33), none, (.val (.c (.i .i64 0)))⟩] t H) := runR_reg'
def d3_5 : List AOper := [
  ⟨(some 34), none, (.bin .lss (.t 33) (.c (.i .i64 1001)))⟩]
theorem r3_5 {fn : AFun} {K : List AItem} {t : Nat → AV} {H : AH} {T : Tbl} : runR T fn (.code (.reg d3_5) :: K) t H = regR T fn K (aops (callR T) [
  ⟨(some 34), none, (.bin .lss (.t 33) (.c (.i .i64 1001)))⟩] t H) := runR_reg'
def d3_6 : List AOper := [
  ⟨(some 35), none, (.val (.t 5))⟩,
  ⟨(some 36), none, (.val (.t 1))⟩,
  ⟨(some 37), none, (.call 10 [(.t 35), (.t 36), (.c (.i .i64 0))])⟩]
theorem r3_6 {fn : AFun} {K : List AItem} {t : Nat → AV} {H : AH} {T : Tbl} : runR T fn (.code (.reg d3_6) :: K) t H = regR T fn K (aops (callR T) [
  ⟨(some 35), none, (.val (.t 5))⟩,
  ⟨(some 36), none, (.val (.t 1))⟩,
  ⟨(some 37), none, (.call 10 [(.t 35), (.t 36), (.c (.i .i64 0))])⟩] t H) := runR_reg'
def d3_7 : List AOper := [
  ⟨(some 38), none, (.bin .add (.t 33) (.c (.i .i64 1)))⟩,
  ⟨(some 33), none, (.val (.t 38))⟩]
theorem r3_7 {fn : AFun} {K : List AItem} {t : Nat → AV} {H : AH} {T : Tbl} : runR T fn (.code (.reg d3_7) :: K) t H = regR T fn K (aops (callR T) [
  ⟨(some 38), none, (.bin .add (.t 33) (.c (.i .i64 1)))⟩,
  ⟨(some 33), none, (.val (.t 38))⟩] t H) := runR_reg'
def l3_8 : ACode := (.seq (.reg d3_5) (.seq (.cond (.t 34) .skip (.exit 0)) (.seq (.block 1 (.reg d3_6)) (.reg d3_7))))
def d3_9 : List (AOper × List Nat) := [
  (⟨(some 39), none, (.val (.t 5))⟩, []),
  (⟨(some 40), none, (.val (.t 1))⟩, []),
  (⟨(some 41), none, (.call 11 [(.t 39), (.t 40)])⟩, []),
  (⟨(some 42), none, (.fa 1 (.t 2))⟩, []),
  (⟨(some 43), none, (.ld none (.t 42))⟩, [2]),
  (⟨(some 44), none, (.bin .neq (.t 41) (.t 43))⟩, [])]
theorem r3_9 {fn : AFun} {K : List AItem} {t : Nat → AV} {H : AH} {T : Tbl} : runR T fn (.code (.drw d3_9) :: K) t H = regR T fn K (adrn (callR T) [
  (⟨(some 39), none, (.val (.t 5))⟩, []),
  (⟨(some 40), none, (.val (.t 1))⟩, []),
  (⟨(some 41), none, (.call 11 [(.t 39), (.t 40)])⟩, []),
  (⟨(some 42), none, (.fa 1 (.t 2))⟩, []),
  (⟨(some 43), none, (.ld none (.t 42))⟩, [2]),
  (⟨(some 44), none, (.bin .neq (.t 41) (.t 43))⟩, [])] t H [H]) := runR_free rfl
def d3_10 : List AOper := [
  ⟨(some 4), none, (.val (.c (.b false)))⟩]
theorem r3_10 {fn : AFun} {K : List AItem} {t : Nat → AV} {H : AH} {T : Tbl} : runR T fn (.code (.reg d3_10) :: K) t H = regR T fn K (aops (callR T) [
  ⟨(some 4), none, (.val (.c (.b false)))⟩] t H) := runR_reg'
def d3_11 : List AOper := [
  ⟨(some 45), none, (.val (.c (.i .i64 0)))⟩]
theorem r3_11 {fn : AFun} {K : List AItem} {t : Nat → AV} {H : AH} {T : Tbl} : runR T fn (.code (.reg d3_11) :: K) t H = regR T fn K (aops (callR T) [
  ⟨(some 45), none, (.val (.c (.i .i64 0)))⟩] t H) := runR_reg'
def d3_12 : List AOper := [
  ⟨(some 46), none, (.bin .lss (.t 45) (.c (.i .i64 1001)))⟩]
theorem r3_12 {fn : AFun} {K : List AItem} {t : Nat → AV} {H : AH} {T : Tbl} : runR T fn (.code (.reg d3_12) :: K) t H = regR T fn K (aops (callR T) [
  ⟨(some 46), none, (.bin .lss (.t 45) (.c (.i .i64 1001)))⟩] t H) := runR_reg'
def d3_13 : List AOper := [
  ⟨(some 47), none, (.val (.t 5))⟩,
  ⟨(some 48), none, (.val (.t 1))⟩,
  ⟨(some 49), none, (.call 12 [(.t 47), (.t 48)])⟩]
theorem r3_13 {fn : AFun} {K : List AItem} {t : Nat → AV} {H : AH} {T : Tbl} : runR T fn (.code (.reg d3_13) :: K) t H = regR T fn K (aops (callR T) [
  ⟨(some 47), none, (.val (.t 5))⟩,
  ⟨(some 48), none, (.val (.t 1))⟩,
  ⟨(some 49), none, (.call 12 [(.t 47), (.t 48)])⟩] t H) := runR_reg'
def d3_14 : List AOper := [
  ⟨(some 50), none, (.bin .add (.t 45) (.c (.i .i64 1)))⟩,
  ⟨(some 45), none, (.val (.t 50))⟩]
theorem r3_14 {fn : AFun} {K : List AItem} {t : Nat → AV} {H : AH} {T : Tbl} : runR T fn (.code (.reg d3_14) :: K) t H = regR T fn K (aops (callR T) [
  ⟨(some 50), none, (.bin .add (.t 45) (.c (.i .i64 1)))⟩,
  ⟨(some 45), none, (.val (.t 50))⟩] t H) := runR_reg'
def l3_15 : ACode := (.seq (.reg d3_12) (.seq (.cond (.t 46) .skip (.exit 2)) (.seq (.block 3 (.reg d3_13)) (.reg d3_14))))
def d3_16 : List AOper := [
  ⟨(some 52), none, (.val (.t 5))⟩,
  ⟨(some 53), none, (.val (.t 1))⟩,
  ⟨(some 54), none, (.call 13 [(.t 52), (.t 53)])⟩,
  ⟨(some 51), none, (.val (.t 54))⟩,
  ⟨(some 55), none, (.ext (.t 51) 0)⟩,
  ⟨(some 56), none, (.ext (.t 51) 1)⟩,
  ⟨(some 7), none, (.val (.t 55))⟩,
  ⟨(some 8), none, (.val (.t 56))⟩]
theorem r3_16 {fn : AFun} {K : List AItem} {t : Nat → AV} {H : AH} {T : Tbl} : runR T fn (.code (.reg d3_16) :: K) t H = regR T fn K (aops (callR T) [
  ⟨(some 52), none, (.val (.t 5))⟩,
  ⟨(some 53), none, (.val (.t 1))⟩,
  ⟨(some 54), none, (.call 13 [(.t 52), (.t 53)])⟩,
  ⟨(some 51), none, (.val (.t 54))⟩,
  ⟨(some 55), none, (.ext (.t 51) 0)⟩,
  ⟨(some 56), none, (.ext (.t 51) 1)⟩,
  ⟨(some 7), none, (.val (.t 55))⟩,
  ⟨(some 8), none, (.val (.t 56))⟩] t H) := runR_reg'
def d3_17 : List (AOper × List Nat) := [
  (⟨(some 57), none, (.val (.t 5))⟩, []),
  (⟨(some 58), none, (.val (.t 1))⟩, []),
  (⟨(some 59), none, (.call 11 [(.t 57), (.t 58)])⟩, []),
  (⟨(some 60), none, (.fa 0 (.t 2))⟩, []),
  (⟨(some 61), none, (.ld none (.t 60))⟩, [2]),
  (⟨(some 62), none, (.bin .eql (.t 59) (.t 61))⟩, []),
  (⟨(some 63), none, (.val (.t 62))⟩, []),
  (⟨(some 64), (some (63, true)), (.val (.t 7))⟩, []),
  (⟨(some 65), (some (63, true)), (.bin .eql (.t 64) (.c (.i .i64 1001)))⟩, []),
  (⟨(some 66), none, (.pick (.t 63) (.t 65) (.c (.b false)))⟩, []),
  (⟨(some 67), none, (.val (.t 66))⟩, []),
  (⟨(some 68), (some (67, true)), (.val (.t 8))⟩, []),
  (⟨(some 69), (some (67, true)), (.bin .eql (.t 68) (.c (.i .i64 1001)))⟩, []),
  (⟨(some 70), none, (.pick (.t 67) (.t 69) (.c (.b false)))⟩, []),
  (⟨(some 71), none, (.val (.t 70))⟩, []),
  (⟨(some 72), (some (71, true)), (.val (.t 5))⟩, []),
  (⟨(some 73), (some (71, true)), (.val (.t 1))⟩, []),
  (⟨(some 74), (some (71, true)), (.call 14 [(.t 72), (.t 73)])⟩, []),
  (⟨(some 75), (some (71, true)), (.bin .eql (.t 74) (.c (.i .i64 500)))⟩, []),
  (⟨(some 76), none, (.pick (.t 71) (.t 75) (.c (.b false)))⟩, []),
  (⟨(some 77), none, (.val (.t 76))⟩, []),
  (⟨(some 78), (some (77, true)), (.call 9 [])⟩, []),
  (⟨(some 79), none, (.pick (.t 77) (.t 78) (.c (.b false)))⟩, []),
  (⟨(some 4), none, (.val (.t 79))⟩, [])]
theorem r3_17 {fn : AFun} {K : List AItem} {t : Nat → AV} {H : AH} {T : Tbl} : runR T fn (.code (.drw d3_17) :: K) t H = regR T fn K (adrn (callR T) [
  (⟨(some 57), none, (.val (.t 5))⟩, []),
  (⟨(some 58), none, (.val (.t 1))⟩, []),
  (⟨(some 59), none, (.call 11 [(.t 57), (.t 58)])⟩, []),
  (⟨(some 60), none, (.fa 0 (.t 2))⟩, []),
  (⟨(some 61), none, (.ld none (.t 60))⟩, [2]),
  (⟨(some 62), none, (.bin .eql (.t 59) (.t 61))⟩, []),
  (⟨(some 63), none, (.val (.t 62))⟩, []),
  (⟨(some 64), (some (63, true)), (.val (.t 7))⟩, []),
  (⟨(some 65), (some (63, true)), (.bin .eql (.t 64) (.c (.i .i64 1001)))⟩, []),
  (⟨(some 66), none, (.pick (.t 63) (.t 65) (.c (.b false)))⟩, []),
  (⟨(some 67), none, (.val (.t 66))⟩, []),
  (⟨(some 68), (some (67, true)), (.val (.t 8))⟩, []),
  (⟨(some 69), (some (67, true)), (.bin .eql (.t 68) (.c (.i .i64 1001)))⟩, []),
  (⟨(some 70), none, (.pick (.t 67) (.t 69) (.c (.b false)))⟩, []),
  (⟨(some 71), none, (.val (.t 70))⟩, []),
  (⟨(some 72), (some (71, true)), (.val (.t 5))⟩, []),
  (⟨(some 73), (some (71, true)), (.val (.t 1))⟩, []),
  (⟨(some 74), (some (71, true)), (.call 14 [(.t 72), (.t 73)])⟩, []),
  (⟨(some 75), (some (71, true)), (.bin .eql (.t 74) (.c (.i .i64 500)))⟩, []),
  (⟨(some 76), none, (.pick (.t 71) (.t 75) (.c (.b false)))⟩, []),
  (⟨(some 77), none, (.val (.t 76))⟩, []),
  (⟨(some 78), (some (77, true)), (.call 9 [])⟩, []),
  (⟨(some 79), none, (.pick (.t 77) (.t 78) (.c (.b false)))⟩, []),
  (⟨(some 4), none, (.val (.t 79))⟩, [])] t H [H]) := runR_free rfl
def a3 : AFun := ⟨80, [(.tmp 4)], (.seq (.reg d3_0) (.seq (.reg d3_1) (.seq (.seq (.reg d3_2) (.cond (.t 24) (.seq (.reg d3_3) .ret) .skip)) (.seq (.seq (.reg d3_4) (.block 0 (.loop l3_8))) (.seq (.seq (.drw d3_9) (.cond (.t 44) (.seq (.reg d3_10) .ret) .skip)) (.seq (.seq (.reg d3_11) (.block 2 (.loop l3_15))) (.seq (.reg d3_16) (.seq (.drw d3_17) .ret))))))))⟩
theorem a3_ok : cfun Try.prog 3 = some a3 := by kernel_rfl
/-- futtock/futtocklaw33.AdaptPlays -/
def d4_0 : List AOper := [
  ⟨(some 2), none, (.box (.t 0))⟩,
  ⟨(some 4), none, (.val (.c (.b false)))⟩]
theorem r4_0 {fn : AFun} {K : List AItem} {t : Nat → AV} {H : AH} {T : Tbl} : runR T fn (.code (.reg d4_0) :: K) t H = regR T fn K (aops (callR T) [
  ⟨(some 2), none, (.box (.t 0))⟩,
  ⟨(some 4), none, (.val (.c (.b false)))⟩] t H) := runR_reg'
def d4_1 : List AOper := [
  ⟨(some 19), none, (.ld (some 4) (.t 2))⟩,
  ⟨(some 20), none, (.call 8 [(.t 19)])⟩,
  ⟨(some 21), none, (.call 7 [(.t 20)])⟩,
  ⟨(some 18), none, (.val (.t 21))⟩,
  ⟨(some 22), none, (.ext (.t 18) 0)⟩,
  ⟨(some 23), none, (.ext (.t 18) 1)⟩,
  ⟨(some 5), none, (.val (.t 22))⟩,
  ⟨(some 6), none, (.val (.t 23))⟩]
theorem r4_1 {fn : AFun} {K : List AItem} {t : Nat → AV} {H : AH} {T : Tbl} : runR T fn (.code (.reg d4_1) :: K) t H = regR T fn K (aops (callR T) [
  ⟨(some 19), none, (.ld (some 4) (.t 2))⟩,
  ⟨(some 20), none, (.call 8 [(.t 19)])⟩,
  ⟨(some 21), none, (.call 7 [(.t 20)])⟩,
  ⟨(some 18), none, (.val (.t 21))⟩,
  ⟨(some 22), none, (.ext (.t 18) 0)⟩,
  ⟨(some 23), none, (.ext (.t 18) 1)⟩,
  ⟨(some 5), none, (.val (.t 22))⟩,
  ⟨(some 6), none, (.val (.t 23))⟩] t H) := runR_reg'
def d4_2 : List AOper := [
  ⟨(some 24), none, (.ld (some 4) (.t 2))⟩,
  ⟨(some 25), none, (.call 15 [(.t 24)])⟩,
  ⟨(some 26), none, (.un .not (.t 25))⟩,
  ⟨(some 27), none, (.val (.t 26))⟩,
  ⟨(some 28), (some (27, false)), (.val (.t 5))⟩,
  ⟨(some 29), (some (27, false)), (.eqn 0 false (.t 28) (.c (.p none)))⟩,
  ⟨(some 30), none, (.pick (.t 27) (.c (.b true)) (.t 29))⟩]
theorem r4_2 {fn : AFun} {K : List AItem} {t : Nat → AV} {H : AH} {T : Tbl} : runR T fn (.code (.reg d4_2) :: K) t H = regR T fn K (aops (callR T) [
  ⟨(some 24), none, (.ld (some 4) (.t 2))⟩,
  ⟨(some 25), none, (.call 15 [(.t 24)])⟩,
  ⟨(some 26), none, (.un .not (.t 25))⟩,
  ⟨(some 27), none, (.val (.t 26))⟩,
  ⟨(some 28), (some (27, false)), (.val (.t 5))⟩,
  ⟨(some 29), (some (27, false)), (.eqn 0 false (.t 28) (.c (.p none)))⟩,
  ⟨(some 30), none, (.pick (.t 27) (.c (.b true)) (.t 29))⟩] t H) := runR_reg'
def d4_3 : List AOper := [
  ⟨(some 31), none, (.ld (some 4) (.t 2))⟩,
  ⟨(some 32), none, (.call 15 [(.t 31)])⟩,
  ⟨(some 33), none, (.un .not (.t 32))⟩,
  ⟨(some 34), none, (.val (.t 33))⟩,
  ⟨(some 35), (some (34, true)), (.val (.t 5))⟩,
  ⟨(some 36), (some (34, true)), (.eqn 0 false (.t 35) (.c (.p none)))⟩,
  ⟨(some 37), none, (.pick (.t 34) (.t 36) (.c (.b false)))⟩,
  ⟨(some 38), none, (.val (.t 37))⟩,
  ⟨(some 39), (some (38, true)), (.val (.t 6))⟩,
  ⟨(some 40), (some (38, true)), (.bin .eql (.t 39) (.c (.i .i64 1)))⟩,
  ⟨(some 41), none, (.pick (.t 38) (.t 40) (.c (.b false)))⟩,
  ⟨(some 42), none, (.val (.t 41))⟩,
  ⟨(some 43), (some (42, true)), (.call 9 [])⟩,
  ⟨(some 44), none, (.pick (.t 42) (.t 43) (.c (.b false)))⟩,
  ⟨(some 4), none, (.val (.t 44))⟩]
theorem r4_3 {fn : AFun} {K : List AItem} {t : Nat → AV} {H : AH} {T : Tbl} : runR T fn (.code (.reg d4_3) :: K) t H = regR T fn K (aops (callR T) [
  ⟨(some 31), none, (.ld (some 4) (.t 2))⟩,
  ⟨(some 32), none, (.call 15 [(.t 31)])⟩,
  ⟨(some 33), none, (.un .not (.t 32))⟩,
  ⟨(some 34), none, (.val (.t 33))⟩,
  ⟨(some 35), (some (34, true)), (.val (.t 5))⟩,
  ⟨(some 36), (some (34, true)), (.eqn 0 false (.t 35) (.c (.p none)))⟩,
  ⟨(some 37), none, (.pick (.t 34) (.t 36) (.c (.b false)))⟩,
  ⟨(some 38), none, (.val (.t 37))⟩,
  ⟨(some 39), (some (38, true)), (.val (.t 6))⟩,
  ⟨(some 40), (some (38, true)), (.bin .eql (.t 39) (.c (.i .i64 1)))⟩,
  ⟨(some 41), none, (.pick (.t 38) (.t 40) (.c (.b false)))⟩,
  ⟨(some 42), none, (.val (.t 41))⟩,
  ⟨(some 43), (some (42, true)), (.call 9 [])⟩,
  ⟨(some 44), none, (.pick (.t 42) (.t 43) (.c (.b false)))⟩,
  ⟨(some 4), none, (.val (.t 44))⟩] t H) := runR_reg'
def d4_4 : List AOper := [
  ⟨(some 45), none, (.ld (some 4) (.t 2))⟩,
  ⟨(some 46), none, (.build [(.i .i64 0), (.i .i64 0), (.i .i64 0), (.i .i64 0), (.sl none 0 0 true 0)] [(0, 4, (.t 45))])⟩,
  ⟨(some 7), none, (.alloc [(.i .i64 0), (.i .i64 0), (.i .i64 0), (.i .i64 0), (.sl none 0 0 true 0)])⟩,
  ⟨none, none, (.st 5 (.t 7) (.t 46))⟩]
theorem r4_4 {fn : AFun} {K : List AItem} {t : Nat → AV} {H : AH} {T : Tbl} : runR T fn (.code (.reg d4_4) :: K) t H = regR T fn K (aops (callR T) [
  ⟨(some 45), none, (.ld (some 4) (.t 2))⟩,
  ⟨(some 46), none, (.build [(.i .i64 0), (.i .i64 0), (.i .i64 0), (.i .i64 0), (.sl none 0 0 true 0)] [(0, 4, (.t 45))])⟩,
  ⟨(some 7), none, (.alloc [(.i .i64 0), (.i .i64 0), (.i .i64 0), (.i .i64 0), (.sl none 0 0 true 0)])⟩,
  ⟨none, none, (.st 5 (.t 7) (.t 46))⟩] t H) := runR_reg'
def d4_5 : List AOper := [
  ⟨(some 47), none, (.val (.t 1))⟩,
  ⟨(some 48), none, (.call 16 [(.t 47)])⟩,
  ⟨(some 49), none, (.len (.t 48))⟩,
  ⟨(some 50), none, (.val (.c (.i .i64 0)))⟩]
theorem r4_5 {fn : AFun} {K : List AItem} {t : Nat → AV} {H : AH} {T : Tbl} : runR T fn (.code (.reg d4_5) :: K) t H = regR T fn K (aops (callR T) [
  ⟨(some 47), none, (.val (.t 1))⟩,
  ⟨(some 48), none, (.call 16 [(.t 47)])⟩,
  ⟨(some 49), none, (.len (.t 48))⟩,
  ⟨(some 50), none, (.val (.c (.i .i64 0)))⟩] t H) := runR_reg'
def d4_6 : List AOper := [
  ⟨(some 51), none, (.bin .lss (.t 50) (.t 49))⟩]
theorem r4_6 {fn : AFun} {K : List AItem} {t : Nat → AV} {H : AH} {T : Tbl} : runR T fn (.code (.reg d4_6) :: K) t H = regR T fn K (aops (callR T) [
  ⟨(some 51), none, (.bin .lss (.t 50) (.t 49))⟩] t H) := runR_reg'
def d4_7 : List AOper := [
  ⟨(some 52), none, (.ia 3 (.t 48) (.t 50))⟩,
  ⟨(some 53), none, (.ld (some 3) (.t 52))⟩,
  ⟨(some 9), none, (.alloc [(.b false), (.i .i64 0), (.i .i64 0)])⟩,
  ⟨none, none, (.st 3 (.t 9) (.t 53))⟩]
theorem r4_7 {fn : AFun} {K : List AItem} {t : Nat → AV} {H : AH} {T : Tbl} : runR T fn (.code (.reg d4_7) :: K) t H = regR T fn K (aops (callR T) [
  ⟨(some 52), none, (.ia 3 (.t 48) (.t 50))⟩,
  ⟨(some 53), none, (.ld (some 3) (.t 52))⟩,
  ⟨(some 9), none, (.alloc [(.b false), (.i .i64 0), (.i .i64 0)])⟩,
  ⟨none, none, (.st 3 (.t 9) (.t 53))⟩] t H) := runR_reg'
def d4_8 : List AOper := [
  ⟨(some 10), none, (.val (.c (.b false)))⟩]
theorem r4_8 {fn : AFun} {K : List AItem} {t : Nat → AV} {H : AH} {T : Tbl} : runR T fn (.code (.reg d4_8) :: K) t H = regR T fn K (aops (callR T) [
  ⟨(some 10), none, (.val (.c (.b false)))⟩] t H) := runR_reg'
def d4_9 : List AOper := [
  ⟨(some 54), none, (.fa 0 (.t 9))⟩,
  ⟨(some 55), none, (.ld none (.t 54))⟩]
theorem r4_9 {fn : AFun} {K : List AItem} {t : Nat → AV} {H : AH} {T : Tbl} : runR T fn (.code (.reg d4_9) :: K) t H = regR T fn K (aops (callR T) [
  ⟨(some 54), none, (.fa 0 (.t 9))⟩,
  ⟨(some 55), none, (.ld none (.t 54))⟩] t H) := runR_reg'
def d4_10 : List (AOper × List Nat) := [
  (⟨(some 56), none, (.val (.t 5))⟩, []),
  (⟨(some 57), none, (.fa 1 (.t 9))⟩, []),
  (⟨(some 58), none, (.ld none (.t 57))⟩, [1]),
  (⟨(some 59), none, (.fa 2 (.t 9))⟩, []),
  (⟨(some 60), none, (.ld none (.t 59))⟩, [1]),
  (⟨(some 61), none, (.call 10 [(.t 56), (.t 58), (.t 60)])⟩, []),
  (⟨(some 62), none, (.fa 1 (.t 9))⟩, []),
  (⟨(some 63), none, (.ld none (.t 62))⟩, [2]),
  (⟨(some 64), none, (.fa 2 (.t 9))⟩, []),
  (⟨(some 65), none, (.ld none (.t 64))⟩, [2]),
  (⟨(some 66), none, (.call 17 [(.t 7), (.t 63), (.t 65)])⟩, []),
  (⟨(some 67), none, (.bin .eql (.t 61) (.t 66))⟩, []),
  (⟨(some 10), none, (.val (.t 67))⟩, [])]
theorem r4_10 {fn : AFun} {K : List AItem} {t : Nat → AV} {H : AH} {T : Tbl} : runR T fn (.code (.drw d4_10) :: K) t H = regR T fn K (adrn (callR T) [
  (⟨(some 56), none, (.val (.t 5))⟩, []),
  (⟨(some 57), none, (.fa 1 (.t 9))⟩, []),
  (⟨(some 58), none, (.ld none (.t 57))⟩, [1]),
  (⟨(some 59), none, (.fa 2 (.t 9))⟩, []),
  (⟨(some 60), none, (.ld none (.t 59))⟩, [1]),
  (⟨(some 61), none, (.call 10 [(.t 56), (.t 58), (.t 60)])⟩, []),
  (⟨(some 62), none, (.fa 1 (.t 9))⟩, []),
  (⟨(some 63), none, (.ld none (.t 62))⟩, [2]),
  (⟨(some 64), none, (.fa 2 (.t 9))⟩, []),
  (⟨(some 65), none, (.ld none (.t 64))⟩, [2]),
  (⟨(some 66), none, (.call 17 [(.t 7), (.t 63), (.t 65)])⟩, []),
  (⟨(some 67), none, (.bin .eql (.t 61) (.t 66))⟩, []),
  (⟨(some 10), none, (.val (.t 67))⟩, [])] t H [H]) := runR_free rfl
def d4_11 : List (AOper × List Nat) := [
  (⟨(some 68), none, (.val (.t 5))⟩, []),
  (⟨(some 69), none, (.fa 1 (.t 9))⟩, []),
  (⟨(some 70), none, (.ld none (.t 69))⟩, [1]),
  (⟨(some 71), none, (.call 12 [(.t 68), (.t 70)])⟩, []),
  (⟨(some 72), none, (.fa 1 (.t 9))⟩, []),
  (⟨(some 73), none, (.ld none (.t 72))⟩, [2]),
  (⟨(some 74), none, (.call 18 [(.t 7), (.t 73)])⟩, []),
  (⟨(some 75), none, (.bin .eql (.t 71) (.t 74))⟩, []),
  (⟨(some 10), none, (.val (.t 75))⟩, [])]
theorem r4_11 {fn : AFun} {K : List AItem} {t : Nat → AV} {H : AH} {T : Tbl} : runR T fn (.code (.drw d4_11) :: K) t H = regR T fn K (adrn (callR T) [
  (⟨(some 68), none, (.val (.t 5))⟩, []),
  (⟨(some 69), none, (.fa 1 (.t 9))⟩, []),
  (⟨(some 70), none, (.ld none (.t 69))⟩, [1]),
  (⟨(some 71), none, (.call 12 [(.t 68), (.t 70)])⟩, []),
  (⟨(some 72), none, (.fa 1 (.t 9))⟩, []),
  (⟨(some 73), none, (.ld none (.t 72))⟩, [2]),
  (⟨(some 74), none, (.call 18 [(.t 7), (.t 73)])⟩, []),
  (⟨(some 75), none, (.bin .eql (.t 71) (.t 74))⟩, []),
  (⟨(some 10), none, (.val (.t 75))⟩, [])] t H [H]) := runR_free rfl
def d4_12 : List AOper := [
  ⟨(some 77), none, (.fa 1 (.t 9))⟩,
  ⟨(some 78), none, (.ld none (.t 77))⟩,
  ⟨(some 79), none, (.call 19 [(.t 7), (.t 78)])⟩,
  ⟨(some 76), none, (.val (.t 79))⟩,
  ⟨(some 80), none, (.ext (.t 76) 0)⟩,
  ⟨(some 81), none, (.ext (.t 76) 1)⟩,
  ⟨(some 11), none, (.alloc [(.i .i64 0), (.i .i64 0), (.i .i64 0), (.i .i64 0)])⟩,
  ⟨none, none, (.st 4 (.t 11) (.t 80))⟩,
  ⟨(some 12), none, (.val (.t 81))⟩]
theorem r4_12 {fn : AFun} {K : List AItem} {t : Nat → AV} {H : AH} {T : Tbl} : runR T fn (.code (.reg d4_12) :: K) t H = regR T fn K (aops (callR T) [
  ⟨(some 77), none, (.fa 1 (.t 9))⟩,
  ⟨(some 78), none, (.ld none (.t 77))⟩,
  ⟨(some 79), none, (.call 19 [(.t 7), (.t 78)])⟩,
  ⟨(some 76), none, (.val (.t 79))⟩,
  ⟨(some 80), none, (.ext (.t 76) 0)⟩,
  ⟨(some 81), none, (.ext (.t 76) 1)⟩,
  ⟨(some 11), none, (.alloc [(.i .i64 0), (.i .i64 0), (.i .i64 0), (.i .i64 0)])⟩,
  ⟨none, none, (.st 4 (.t 11) (.t 80))⟩,
  ⟨(some 12), none, (.val (.t 81))⟩] t H) := runR_reg'
def d4_13 : List AOper := [
  ⟨(some 83), none, (.val (.t 5))⟩,
  ⟨(some 84), none, (.fa 1 (.t 9))⟩,
  ⟨(some 85), none, (.ld none (.t 84))⟩,
  ⟨(some 86), none, (.call 13 [(.t 83), (.t 85)])⟩,
  ⟨(some 82), none, (.val (.t 86))⟩,
  ⟨(some 87), none, (.ext (.t 82) 0)⟩,
  ⟨(some 88), none, (.ext (.t 82) 1)⟩,
  ⟨(some 13), none, (.val (.t 87))⟩,
  ⟨(some 14), none, (.val (.t 88))⟩]
theorem r4_13 {fn : AFun} {K : List AItem} {t : Nat → AV} {H : AH} {T : Tbl} : runR T fn (.code (.reg d4_13) :: K) t H = regR T fn K (aops (callR T) [
  ⟨(some 83), none, (.val (.t 5))⟩,
  ⟨(some 84), none, (.fa 1 (.t 9))⟩,
  ⟨(some 85), none, (.ld none (.t 84))⟩,
  ⟨(some 86), none, (.call 13 [(.t 83), (.t 85)])⟩,
  ⟨(some 82), none, (.val (.t 86))⟩,
  ⟨(some 87), none, (.ext (.t 82) 0)⟩,
  ⟨(some 88), none, (.ext (.t 82) 1)⟩,
  ⟨(some 13), none, (.val (.t 87))⟩,
  ⟨(some 14), none, (.val (.t 88))⟩] t H) := runR_reg'
def d4_14 : List AOper := [
  ⟨(some 89), none, (.val (.t 5))⟩,
  ⟨(some 90), none, (.call 20 [(.t 89)])⟩,
  ⟨(some 15), none, (.val (.t 90))⟩]
theorem r4_14 {fn : AFun} {K : List AItem} {t : Nat → AV} {H : AH} {T : Tbl} : runR T fn (.code (.reg d4_14) :: K) t H = regR T fn K (aops (callR T) [
  ⟨(some 89), none, (.val (.t 5))⟩,
  ⟨(some 90), none, (.call 20 [(.t 89)])⟩,
  ⟨(some 15), none, (.val (.t 90))⟩] t H) := runR_reg'
def d4_15 : List (AOper × List Nat) := [
  (⟨(some 91), none, (.val (.t 10))⟩, []),
  (⟨(some 92), none, (.un .not (.t 91))⟩, []),
  (⟨(some 93), none, (.val (.t 92))⟩, []),
  (⟨(some 94), (some (93, false)), (.val (.t 5))⟩, []),
  (⟨(some 95), (some (93, false)), (.fa 1 (.t 9))⟩, []),
  (⟨(some 96), (some (93, false)), (.ld none (.t 95))⟩, [1]),
  (⟨(some 97), (some (93, false)), (.call 11 [(.t 94), (.t 96)])⟩, []),
  (⟨(some 98), (some (93, false)), (.fa 1 (.t 9))⟩, []),
  (⟨(some 99), (some (93, false)), (.ld none (.t 98))⟩, [2]),
  (⟨(some 100), (some (93, false)), (.call 21 [(.t 7), (.t 99)])⟩, []),
  (⟨(some 101), (some (93, false)), (.bin .neq (.t 97) (.t 100))⟩, []),
  (⟨(some 102), none, (.pick (.t 93) (.c (.b true)) (.t 101))⟩, []),
  (⟨(some 103), none, (.val (.t 102))⟩, []),
  (⟨(some 104), (some (103, false)), (.val (.t 13))⟩, []),
  (⟨(some 105), (some (103, false)), (.fa 2 (.t 11))⟩, []),
  (⟨(some 106), (some (103, false)), (.ld none (.t 105))⟩, [1]),
  (⟨(some 107), (some (103, false)), (.bin .neq (.t 104) (.t 106))⟩, []),
  (⟨(some 108), none, (.pick (.t 103) (.c (.b true)) (.t 107))⟩, []),
  (⟨(some 109), none, (.val (.t 108))⟩, []),
  (⟨(some 110), (some (109, false)), (.val (.t 14))⟩, []),
  (⟨(some 111), (some (109, false)), (.fa 3 (.t 11))⟩, []),
  (⟨(some 112), (some (109, false)), (.ld none (.t 111))⟩, [1]),
  (⟨(some 113), (some (109, false)), (.bin .neq (.t 110) (.t 112))⟩, []),
  (⟨(some 114), none, (.pick (.t 109) (.c (.b true)) (.t 113))⟩, []),
  (⟨(some 115), none, (.val (.t 114))⟩, []),
  (⟨(some 116), (some (115, false)), (.val (.t 5))⟩, []),
  (⟨(some 117), (some (115, false)), (.fa 1 (.t 9))⟩, []),
  (⟨(some 118), (some (115, false)), (.ld none (.t 117))⟩, [1]),
  (⟨(some 119), (some (115, false)), (.call 14 [(.t 116), (.t 118)])⟩, []),
  (⟨(some 120), (some (115, false)), (.fa 1 (.t 9))⟩, []),
  (⟨(some 121), (some (115, false)), (.ld none (.t 120))⟩, [2]),
  (⟨(some 122), (some (115, false)), (.call 22 [(.t 7), (.t 121)])⟩, []),
  (⟨(some 123), (some (115, false)), (.bin .neq (.t 119) (.t 122))⟩, []),
  (⟨(some 124), none, (.pick (.t 115) (.c (.b true)) (.t 123))⟩, []),
  (⟨(some 125), none, (.val (.t 124))⟩, []),
  (⟨(some 126), (some (125, false)), (.val (.t 5))⟩, []),
  (⟨(some 127), (some (125, false)), (.call 23 [(.t 126)])⟩, []),
  (⟨(some 128), (some (125, false)), (.fa 4 (.t 7))⟩, []),
  (⟨(some 129), (some (125, false)), (.ld none (.t 128))⟩, [2]),
  (⟨(some 130), (some (125, false)), (.len (.t 129))⟩, []),
  (⟨(some 131), (some (125, false)), (.bin .neq (.t 127) (.t 130))⟩, []),
  (⟨(some 132), none, (.pick (.t 125) (.c (.b true)) (.t 131))⟩, []),
  (⟨(some 133), none, (.val (.t 132))⟩, []),
  (⟨(some 134), (some (133, false)), (.val (.t 15))⟩, []),
  (⟨(some 135), (some (133, false)), (.len (.t 134))⟩, []),
  (⟨(some 136), (some (133, false)), (.fa 4 (.t 7))⟩, []),
  (⟨(some 137), (some (133, false)), (.ld none (.t 136))⟩, [1]),
  (⟨(some 138), (some (133, false)), (.len (.t 137))⟩, []),
  (⟨(some 139), (some (133, false)), (.bin .neq (.t 135) (.t 138))⟩, []),
  (⟨(some 140), none, (.pick (.t 133) (.c (.b true)) (.t 139))⟩, [])]
theorem r4_15 {fn : AFun} {K : List AItem} {t : Nat → AV} {H : AH} {T : Tbl} : runR T fn (.code (.drw d4_15) :: K) t H = regR T fn K (adrn (callR T) [
  (⟨(some 91), none, (.val (.t 10))⟩, []),
  (⟨(some 92), none, (.un .not (.t 91))⟩, []),
  (⟨(some 93), none, (.val (.t 92))⟩, []),
  (⟨(some 94), (some (93, false)), (.val (.t 5))⟩, []),
  (⟨(some 95), (some (93, false)), (.fa 1 (.t 9))⟩, []),
  (⟨(some 96), (some (93, false)), (.ld none (.t 95))⟩, [1]),
  (⟨(some 97), (some (93, false)), (.call 11 [(.t 94), (.t 96)])⟩, []),
  (⟨(some 98), (some (93, false)), (.fa 1 (.t 9))⟩, []),
  (⟨(some 99), (some (93, false)), (.ld none (.t 98))⟩, [2]),
  (⟨(some 100), (some (93, false)), (.call 21 [(.t 7), (.t 99)])⟩, []),
  (⟨(some 101), (some (93, false)), (.bin .neq (.t 97) (.t 100))⟩, []),
  (⟨(some 102), none, (.pick (.t 93) (.c (.b true)) (.t 101))⟩, []),
  (⟨(some 103), none, (.val (.t 102))⟩, []),
  (⟨(some 104), (some (103, false)), (.val (.t 13))⟩, []),
  (⟨(some 105), (some (103, false)), (.fa 2 (.t 11))⟩, []),
  (⟨(some 106), (some (103, false)), (.ld none (.t 105))⟩, [1]),
  (⟨(some 107), (some (103, false)), (.bin .neq (.t 104) (.t 106))⟩, []),
  (⟨(some 108), none, (.pick (.t 103) (.c (.b true)) (.t 107))⟩, []),
  (⟨(some 109), none, (.val (.t 108))⟩, []),
  (⟨(some 110), (some (109, false)), (.val (.t 14))⟩, []),
  (⟨(some 111), (some (109, false)), (.fa 3 (.t 11))⟩, []),
  (⟨(some 112), (some (109, false)), (.ld none (.t 111))⟩, [1]),
  (⟨(some 113), (some (109, false)), (.bin .neq (.t 110) (.t 112))⟩, []),
  (⟨(some 114), none, (.pick (.t 109) (.c (.b true)) (.t 113))⟩, []),
  (⟨(some 115), none, (.val (.t 114))⟩, []),
  (⟨(some 116), (some (115, false)), (.val (.t 5))⟩, []),
  (⟨(some 117), (some (115, false)), (.fa 1 (.t 9))⟩, []),
  (⟨(some 118), (some (115, false)), (.ld none (.t 117))⟩, [1]),
  (⟨(some 119), (some (115, false)), (.call 14 [(.t 116), (.t 118)])⟩, []),
  (⟨(some 120), (some (115, false)), (.fa 1 (.t 9))⟩, []),
  (⟨(some 121), (some (115, false)), (.ld none (.t 120))⟩, [2]),
  (⟨(some 122), (some (115, false)), (.call 22 [(.t 7), (.t 121)])⟩, []),
  (⟨(some 123), (some (115, false)), (.bin .neq (.t 119) (.t 122))⟩, []),
  (⟨(some 124), none, (.pick (.t 115) (.c (.b true)) (.t 123))⟩, []),
  (⟨(some 125), none, (.val (.t 124))⟩, []),
  (⟨(some 126), (some (125, false)), (.val (.t 5))⟩, []),
  (⟨(some 127), (some (125, false)), (.call 23 [(.t 126)])⟩, []),
  (⟨(some 128), (some (125, false)), (.fa 4 (.t 7))⟩, []),
  (⟨(some 129), (some (125, false)), (.ld none (.t 128))⟩, [2]),
  (⟨(some 130), (some (125, false)), (.len (.t 129))⟩, []),
  (⟨(some 131), (some (125, false)), (.bin .neq (.t 127) (.t 130))⟩, []),
  (⟨(some 132), none, (.pick (.t 125) (.c (.b true)) (.t 131))⟩, []),
  (⟨(some 133), none, (.val (.t 132))⟩, []),
  (⟨(some 134), (some (133, false)), (.val (.t 15))⟩, []),
  (⟨(some 135), (some (133, false)), (.len (.t 134))⟩, []),
  (⟨(some 136), (some (133, false)), (.fa 4 (.t 7))⟩, []),
  (⟨(some 137), (some (133, false)), (.ld none (.t 136))⟩, [1]),
  (⟨(some 138), (some (133, false)), (.len (.t 137))⟩, []),
  (⟨(some 139), (some (133, false)), (.bin .neq (.t 135) (.t 138))⟩, []),
  (⟨(some 140), none, (.pick (.t 133) (.c (.b true)) (.t 139))⟩, [])] t H [H]) := runR_free rfl
def d4_16 : List AOper := [
  ⟨(some 4), none, (.val (.c (.b false)))⟩]
theorem r4_16 {fn : AFun} {K : List AItem} {t : Nat → AV} {H : AH} {T : Tbl} : runR T fn (.code (.reg d4_16) :: K) t H = regR T fn K (aops (callR T) [
  ⟨(some 4), none, (.val (.c (.b false)))⟩] t H) := runR_reg'
def d4_17 : List AOper := [
  ⟨(some 141), none, (.fa 4 (.t 7))⟩,
  ⟨(some 142), none, (.ld none (.t 141))⟩,
  ⟨(some 143), none, (.len (.t 142))⟩,
  ⟨(some 144), none, (.val (.c (.i .i64 0)))⟩]
theorem r4_17 {fn : AFun} {K : List AItem} {t : Nat → AV} {H : AH} {T : Tbl} : runR T fn (.code (.reg d4_17) :: K) t H = regR T fn K (aops (callR T) [
  ⟨(some 141), none, (.fa 4 (.t 7))⟩,
  ⟨(some 142), none, (.ld none (.t 141))⟩,
  ⟨(some 143), none, (.len (.t 142))⟩,
  ⟨(some 144), none, (.val (.c (.i .i64 0)))⟩] t H) := runR_reg'
def d4_18 : List AOper := [
  ⟨(some 145), none, (.bin .lss (.t 144) (.t 143))⟩]
theorem r4_18 {fn : AFun} {K : List AItem} {t : Nat → AV} {H : AH} {T : Tbl} : runR T fn (.code (.reg d4_18) :: K) t H = regR T fn K (aops (callR T) [
  ⟨(some 145), none, (.bin .lss (.t 144) (.t 143))⟩] t H) := runR_reg'
def d4_19 : List AOper := [
  ⟨(some 146), none, (.val (.t 144))⟩,
  ⟨(some 147), none, (.ia 4 (.t 142) (.t 144))⟩,
  ⟨(some 148), none, (.ld (some 4) (.t 147))⟩,
  ⟨(some 17), none, (.alloc [(.i .i64 0), (.i .i64 0), (.i .i64 0), (.i .i64 0)])⟩,
  ⟨(some 16), none, (.val (.t 146))⟩,
  ⟨none, none, (.st 4 (.t 17) (.t 148))⟩]
theorem r4_19 {fn : AFun} {K : List AItem} {t : Nat → AV} {H : AH} {T : Tbl} : runR T fn (.code (.reg d4_19) :: K) t H = regR T fn K (aops (callR T) [
  ⟨(some 146), none, (.val (.t 144))⟩,
  ⟨(some 147), none, (.ia 4 (.t 142) (.t 144))⟩,
  ⟨(some 148), none, (.ld (some 4) (.t 147))⟩,
  ⟨(some 17), none, (.alloc [(.i .i64 0), (.i .i64 0), (.i .i64 0), (.i .i64 0)])⟩,
  ⟨(some 16), none, (.val (.t 146))⟩,
  ⟨none, none, (.st 4 (.t 17) (.t 148))⟩] t H) := runR_reg'
def d4_20 : List (AOper × List Nat) := [
  (⟨(some 149), none, (.val (.t 15))⟩, []),
  (⟨(some 150), none, (.val (.t 16))⟩, []),
  (⟨(some 151), none, (.ia 1 (.t 149) (.t 150))⟩, []),
  (⟨(some 152), none, (.ld none (.t 151))⟩, [1]),
  (⟨(some 153), none, (.fa 0 (.t 17))⟩, []),
  (⟨(some 154), none, (.ld none (.t 153))⟩, [1]),
  (⟨(some 155), none, (.bin .neq (.t 152) (.t 154))⟩, [])]
theorem r4_20 {fn : AFun} {K : List AItem} {t : Nat → AV} {H : AH} {T : Tbl} : runR T fn (.code (.drw d4_20) :: K) t H = regR T fn K (aops (callR T) [
  ⟨(some 149), none, (.val (.t 15))⟩,
  ⟨(some 150), none, (.val (.t 16))⟩,
  ⟨(some 151), none, (.ia 1 (.t 149) (.t 150))⟩,
  ⟨(some 152), none, (.ld none (.t 151))⟩,
  ⟨(some 153), none, (.fa 0 (.t 17))⟩,
  ⟨(some 154), none, (.ld none (.t 153))⟩,
  ⟨(some 155), none, (.bin .neq (.t 152) (.t 154))⟩] t H) := runR_plain rfl
def d4_21 : List AOper := [
  ⟨(some 4), none, (.val (.c (.b false)))⟩]
theorem r4_21 {fn : AFun} {K : List AItem} {t : Nat → AV} {H : AH} {T : Tbl} : runR T fn (.code (.reg d4_21) :: K) t H = regR T fn K (aops (callR T) [
  ⟨(some 4), none, (.val (.c (.b false)))⟩] t H) := runR_reg'
def d4_22 : List AOper := [
  ⟨(some 156), none, (.bin .add (.t 144) (.c (.i .i64 1)))⟩,
  ⟨(some 144), none, (.val (.t 156))⟩]
theorem r4_22 {fn : AFun} {K : List AItem} {t : Nat → AV} {H : AH} {T : Tbl} : runR T fn (.code (.reg d4_22) :: K) t H = regR T fn K (aops (callR T) [
  ⟨(some 156), none, (.bin .add (.t 144) (.c (.i .i64 1)))⟩,
  ⟨(some 144), none, (.val (.t 156))⟩] t H) := runR_reg'
def l4_23 : ACode := (.seq (.reg d4_18) (.seq (.cond (.t 145) .skip (.exit 2)) (.seq (.block 3 (.seq (.reg d4_19) (.seq (.drw d4_20) (.cond (.t 155) (.seq (.reg d4_21) .ret) .skip)))) (.reg d4_22))))
def d4_24 : List AOper := [
  ⟨(some 157), none, (.bin .add (.t 50) (.c (.i .i64 1)))⟩,
  ⟨(some 50), none, (.val (.t 157))⟩]
theorem r4_24 {fn : AFun} {K : List AItem} {t : Nat → AV} {H : AH} {T : Tbl} : runR T fn (.code (.reg d4_24) :: K) t H = regR T fn K (aops (callR T) [
  ⟨(some 157), none, (.bin .add (.t 50) (.c (.i .i64 1)))⟩,
  ⟨(some 50), none, (.val (.t 157))⟩] t H) := runR_reg'
def l4_25 : ACode := (.seq (.reg d4_6) (.seq (.cond (.t 51) .skip (.exit 0)) (.seq (.block 1 (.seq (.reg d4_7) (.seq (.reg d4_8) (.seq (.seq (.reg d4_9) (.cond (.t 55) (.drw d4_10) (.drw d4_11))) (.seq (.reg d4_12) (.seq (.reg d4_13) (.seq (.reg d4_14) (.seq (.seq (.drw d4_15) (.cond (.t 140) (.seq (.reg d4_16) .ret) .skip)) (.seq (.reg d4_17) (.block 2 (.loop l4_23))))))))))) (.reg d4_24))))
def d4_26 : List AOper := [
  ⟨(some 158), none, (.call 9 [])⟩,
  ⟨(some 4), none, (.val (.t 158))⟩]
theorem r4_26 {fn : AFun} {K : List AItem} {t : Nat → AV} {H : AH} {T : Tbl} : runR T fn (.code (.reg d4_26) :: K) t H = regR T fn K (aops (callR T) [
  ⟨(some 158), none, (.call 9 [])⟩,
  ⟨(some 4), none, (.val (.t 158))⟩] t H) := runR_reg'
def a4 : AFun := ⟨159, [(.tmp 4)], (.seq (.reg d4_0) (.seq (.reg d4_1) (.seq (.seq (.reg d4_2) (.cond (.t 30) (.seq (.reg d4_3) .ret) .skip)) (.seq (.reg d4_4) (.seq (.seq (.reg d4_5) (.block 0 (.loop l4_25))) (.seq (.reg d4_26) .ret))))))⟩
theorem a4_ok : cfun Try.prog 4 = some a4 := by kernel_rfl
/-- futtock/futtocklaw33.AdaptBounds -/
def d5_0 : List AOper := [
  ⟨(some 3), none, (.box (.t 0))⟩,
  ⟨(some 6), none, (.val (.c (.b false)))⟩]
theorem r5_0 {fn : AFun} {K : List AItem} {t : Nat → AV} {H : AH} {T : Tbl} : runR T fn (.code (.reg d5_0) :: K) t H = regR T fn K (aops (callR T) [
  ⟨(some 3), none, (.box (.t 0))⟩,
  ⟨(some 6), none, (.val (.c (.b false)))⟩] t H) := runR_reg'
def d5_1 : List AOper := [
  ⟨(some 17), none, (.ld (some 4) (.t 3))⟩,
  ⟨(some 18), none, (.call 8 [(.t 17)])⟩,
  ⟨(some 19), none, (.call 7 [(.t 18)])⟩,
  ⟨(some 16), none, (.val (.t 19))⟩,
  ⟨(some 20), none, (.ext (.t 16) 0)⟩,
  ⟨(some 21), none, (.ext (.t 16) 1)⟩,
  ⟨(some 7), none, (.val (.t 20))⟩,
  ⟨(some 8), none, (.val (.t 21))⟩]
theorem r5_1 {fn : AFun} {K : List AItem} {t : Nat → AV} {H : AH} {T : Tbl} : runR T fn (.code (.reg d5_1) :: K) t H = regR T fn K (aops (callR T) [
  ⟨(some 17), none, (.ld (some 4) (.t 3))⟩,
  ⟨(some 18), none, (.call 8 [(.t 17)])⟩,
  ⟨(some 19), none, (.call 7 [(.t 18)])⟩,
  ⟨(some 16), none, (.val (.t 19))⟩,
  ⟨(some 20), none, (.ext (.t 16) 0)⟩,
  ⟨(some 21), none, (.ext (.t 16) 1)⟩,
  ⟨(some 7), none, (.val (.t 20))⟩,
  ⟨(some 8), none, (.val (.t 21))⟩] t H) := runR_reg'
def d5_2 : List AOper := [
  ⟨(some 22), none, (.val (.t 8))⟩,
  ⟨(some 23), none, (.bin .neq (.t 22) (.c (.i .i64 0)))⟩]
theorem r5_2 {fn : AFun} {K : List AItem} {t : Nat → AV} {H : AH} {T : Tbl} : runR T fn (.code (.reg d5_2) :: K) t H = regR T fn K (aops (callR T) [
  ⟨(some 22), none, (.val (.t 8))⟩,
  ⟨(some 23), none, (.bin .neq (.t 22) (.c (.i .i64 0)))⟩] t H) := runR_reg'
def d5_3 : List AOper := [
  ⟨(some 24), none, (.val (.t 7))⟩,
  ⟨(some 25), none, (.eqn 0 false (.t 24) (.c (.p none)))⟩,
  ⟨(some 26), none, (.val (.t 25))⟩,
  ⟨(some 27), (some (26, true)), (.call 9 [])⟩,
  ⟨(some 28), none, (.pick (.t 26) (.t 27) (.c (.b false)))⟩,
  ⟨(some 6), none, (.val (.t 28))⟩]
theorem r5_3 {fn : AFun} {K : List AItem} {t : Nat → AV} {H : AH} {T : Tbl} : runR T fn (.code (.reg d5_3) :: K) t H = regR T fn K (aops (callR T) [
  ⟨(some 24), none, (.val (.t 7))⟩,
  ⟨(some 25), none, (.eqn 0 false (.t 24) (.c (.p none)))⟩,
  ⟨(some 26), none, (.val (.t 25))⟩,
  ⟨(some 27), (some (26, true)), (.call 9 [])⟩,
  ⟨(some 28), none, (.pick (.t 26) (.t 27) (.c (.b false)))⟩,
  ⟨(some 6), none, (.val (.t 28))⟩] t H) := runR_reg'
def d5_4 : List AOper := [
  ⟨(some 29), none, (.val (.t 1))⟩,
  ⟨(some 30), none, (.call 16 [(.t 29)])⟩,
  ⟨(some 31), none, (.len (.t 30))⟩,
  ⟨(some 32), none, (.val (.c (.i .i64 0)))⟩]
theorem r5_4 {fn : AFun} {K : List AItem} {t : Nat → AV} {H : AH} {T : Tbl} : runR T fn (.code (.reg d5_4) :: K) t H = regR T fn K (aops (callR T) [
  ⟨(some 29), none, (.val (.t 1))⟩,
  ⟨(some 30), none, (.call 16 [(.t 29)])⟩,
  ⟨(some 31), none, (.len (.t 30))⟩,
  ⟨(some 32), none, (.val (.c (.i .i64 0)))⟩] t H) := runR_reg'
def d5_5 : List AOper := [
  ⟨(some 33), none, (.bin .lss (.t 32) (.t 31))⟩]
theorem r5_5 {fn : AFun} {K : List AItem} {t : Nat → AV} {H : AH} {T : Tbl} : runR T fn (.code (.reg d5_5) :: K) t H = regR T fn K (aops (callR T) [
  ⟨(some 33), none, (.bin .lss (.t 32) (.t 31))⟩] t H) := runR_reg'
def d5_6 : List AOper := [
  ⟨(some 34), none, (.ia 3 (.t 30) (.t 32))⟩,
  ⟨(some 35), none, (.ld (some 3) (.t 34))⟩,
  ⟨(some 10), none, (.alloc [(.b false), (.i .i64 0), (.i .i64 0)])⟩,
  ⟨none, none, (.st 3 (.t 10) (.t 35))⟩]
theorem r5_6 {fn : AFun} {K : List AItem} {t : Nat → AV} {H : AH} {T : Tbl} : runR T fn (.code (.reg d5_6) :: K) t H = regR T fn K (aops (callR T) [
  ⟨(some 34), none, (.ia 3 (.t 30) (.t 32))⟩,
  ⟨(some 35), none, (.ld (some 3) (.t 34))⟩,
  ⟨(some 10), none, (.alloc [(.b false), (.i .i64 0), (.i .i64 0)])⟩,
  ⟨none, none, (.st 3 (.t 10) (.t 35))⟩] t H) := runR_reg'
def d5_7 : List AOper := [
  ⟨(some 36), none, (.fa 0 (.t 10))⟩,
  ⟨(some 37), none, (.ld none (.t 36))⟩]
theorem r5_7 {fn : AFun} {K : List AItem} {t : Nat → AV} {H : AH} {T : Tbl} : runR T fn (.code (.reg d5_7) :: K) t H = regR T fn K (aops (callR T) [
  ⟨(some 36), none, (.fa 0 (.t 10))⟩,
  ⟨(some 37), none, (.ld none (.t 36))⟩] t H) := runR_reg'
def d5_8 : List AOper := [
  ⟨(some 38), none, (.val (.t 7))⟩,
  ⟨(some 39), none, (.fa 1 (.t 10))⟩,
  ⟨(some 40), none, (.ld none (.t 39))⟩,
  ⟨(some 41), none, (.fa 2 (.t 10))⟩,
  ⟨(some 42), none, (.ld none (.t 41))⟩,
  ⟨(some 43), none, (.call 10 [(.t 38), (.t 40), (.t 42)])⟩]
theorem r5_8 {fn : AFun} {K : List AItem} {t : Nat → AV} {H : AH} {T : Tbl} : runR T fn (.code (.reg d5_8) :: K) t H = regR T fn K (aops (callR T) [
  ⟨(some 38), none, (.val (.t 7))⟩,
  ⟨(some 39), none, (.fa 1 (.t 10))⟩,
  ⟨(some 40), none, (.ld none (.t 39))⟩,
  ⟨(some 41), none, (.fa 2 (.t 10))⟩,
  ⟨(some 42), none, (.ld none (.t 41))⟩,
  ⟨(some 43), none, (.call 10 [(.t 38), (.t 40), (.t 42)])⟩] t H) := runR_reg'
def d5_9 : List AOper := [
  ⟨(some 44), none, (.val (.t 7))⟩,
  ⟨(some 45), none, (.fa 1 (.t 10))⟩,
  ⟨(some 46), none, (.ld none (.t 45))⟩,
  ⟨(some 47), none, (.call 12 [(.t 44), (.t 46)])⟩]
theorem r5_9 {fn : AFun} {K : List AItem} {t : Nat → AV} {H : AH} {T : Tbl} : runR T fn (.code (.reg d5_9) :: K) t H = regR T fn K (aops (callR T) [
  ⟨(some 44), none, (.val (.t 7))⟩,
  ⟨(some 45), none, (.fa 1 (.t 10))⟩,
  ⟨(some 46), none, (.ld none (.t 45))⟩,
  ⟨(some 47), none, (.call 12 [(.t 44), (.t 46)])⟩] t H) := runR_reg'
def d5_10 : List AOper := [
  ⟨(some 48), none, (.val (.t 7))⟩,
  ⟨(some 49), none, (.fa 1 (.t 10))⟩,
  ⟨(some 50), none, (.ld none (.t 49))⟩,
  ⟨(some 51), none, (.call 11 [(.t 48), (.t 50)])⟩,
  ⟨(some 11), none, (.val (.t 51))⟩]
theorem r5_10 {fn : AFun} {K : List AItem} {t : Nat → AV} {H : AH} {T : Tbl} : runR T fn (.code (.reg d5_10) :: K) t H = regR T fn K (aops (callR T) [
  ⟨(some 48), none, (.val (.t 7))⟩,
  ⟨(some 49), none, (.fa 1 (.t 10))⟩,
  ⟨(some 50), none, (.ld none (.t 49))⟩,
  ⟨(some 51), none, (.call 11 [(.t 48), (.t 50)])⟩,
  ⟨(some 11), none, (.val (.t 51))⟩] t H) := runR_reg'
def d5_11 : List AOper := [
  ⟨(some 52), none, (.fa 1 (.t 10))⟩,
  ⟨(some 53), none, (.ld none (.t 52))⟩,
  ⟨(some 54), none, (.bin .geq (.t 53) (.c (.i .i64 0)))⟩,
  ⟨(some 55), none, (.val (.t 54))⟩,
  ⟨(some 56), (some (55, true)), (.fa 1 (.t 10))⟩,
  ⟨(some 57), (some (55, true)), (.ld none (.t 56))⟩,
  ⟨(some 58), (some (55, true)), (.bin .lss (.t 57) (.c (.i .i64 65536)))⟩,
  ⟨(some 59), none, (.pick (.t 55) (.t 58) (.c (.b false)))⟩,
  ⟨(some 60), none, (.val (.t 59))⟩,
  ⟨(some 61), (some (60, true)), (.val (.t 11))⟩,
  ⟨(some 62), (some (60, true)), (.fa 0 (.t 3))⟩,
  ⟨(some 63), (some (60, true)), (.ld none (.t 62))⟩,
  ⟨(some 64), (some (60, true)), (.bin .lss (.t 61) (.t 63))⟩,
  ⟨(some 65), (some (60, true)), (.val (.t 64))⟩,
  ⟨(some 66), (some (65, false)), (.val (.t 11))⟩,
  ⟨(some 67), (some (65, false)), (.fa 1 (.t 3))⟩,
  ⟨(some 68), (some (65, false)), (.ld none (.t 67))⟩,
  ⟨(some 69), (some (65, false)), (.bin .gtr (.t 66) (.t 68))⟩,
  ⟨(some 70), (some (60, true)), (.pick (.t 65) (.c (.b true)) (.t 69))⟩,
  ⟨(some 71), none, (.pick (.t 60) (.t 70) (.c (.b false)))⟩]
theorem r5_11 {fn : AFun} {K : List AItem} {t : Nat → AV} {H : AH} {T : Tbl} : runR T fn (.code (.reg d5_11) :: K) t H = regR T fn K (aops (callR T) [
  ⟨(some 52), none, (.fa 1 (.t 10))⟩,
  ⟨(some 53), none, (.ld none (.t 52))⟩,
  ⟨(some 54), none, (.bin .geq (.t 53) (.c (.i .i64 0)))⟩,
  ⟨(some 55), none, (.val (.t 54))⟩,
  ⟨(some 56), (some (55, true)), (.fa 1 (.t 10))⟩,
  ⟨(some 57), (some (55, true)), (.ld none (.t 56))⟩,
  ⟨(some 58), (some (55, true)), (.bin .lss (.t 57) (.c (.i .i64 65536)))⟩,
  ⟨(some 59), none, (.pick (.t 55) (.t 58) (.c (.b false)))⟩,
  ⟨(some 60), none, (.val (.t 59))⟩,
  ⟨(some 61), (some (60, true)), (.val (.t 11))⟩,
  ⟨(some 62), (some (60, true)), (.fa 0 (.t 3))⟩,
  ⟨(some 63), (some (60, true)), (.ld none (.t 62))⟩,
  ⟨(some 64), (some (60, true)), (.bin .lss (.t 61) (.t 63))⟩,
  ⟨(some 65), (some (60, true)), (.val (.t 64))⟩,
  ⟨(some 66), (some (65, false)), (.val (.t 11))⟩,
  ⟨(some 67), (some (65, false)), (.fa 1 (.t 3))⟩,
  ⟨(some 68), (some (65, false)), (.ld none (.t 67))⟩,
  ⟨(some 69), (some (65, false)), (.bin .gtr (.t 66) (.t 68))⟩,
  ⟨(some 70), (some (60, true)), (.pick (.t 65) (.c (.b true)) (.t 69))⟩,
  ⟨(some 71), none, (.pick (.t 60) (.t 70) (.c (.b false)))⟩] t H) := runR_reg'
def d5_12 : List AOper := [
  ⟨(some 6), none, (.val (.c (.b false)))⟩]
theorem r5_12 {fn : AFun} {K : List AItem} {t : Nat → AV} {H : AH} {T : Tbl} : runR T fn (.code (.reg d5_12) :: K) t H = regR T fn K (aops (callR T) [
  ⟨(some 6), none, (.val (.c (.b false)))⟩] t H) := runR_reg'
def d5_13 : List AOper := [
  ⟨(some 72), none, (.bin .add (.t 32) (.c (.i .i64 1)))⟩,
  ⟨(some 32), none, (.val (.t 72))⟩]
theorem r5_13 {fn : AFun} {K : List AItem} {t : Nat → AV} {H : AH} {T : Tbl} : runR T fn (.code (.reg d5_13) :: K) t H = regR T fn K (aops (callR T) [
  ⟨(some 72), none, (.bin .add (.t 32) (.c (.i .i64 1)))⟩,
  ⟨(some 32), none, (.val (.t 72))⟩] t H) := runR_reg'
def l5_14 : ACode := (.seq (.reg d5_5) (.seq (.cond (.t 33) .skip (.exit 0)) (.seq (.block 1 (.seq (.reg d5_6) (.seq (.seq (.reg d5_7) (.cond (.t 37) (.reg d5_8) (.reg d5_9))) (.seq (.reg d5_10) (.seq (.reg d5_11) (.cond (.t 71) (.seq (.reg d5_12) .ret) .skip)))))) (.reg d5_13))))
def d5_15 : List AOper := [
  ⟨(some 73), none, (.val (.t 2))⟩,
  ⟨(some 74), none, (.cvi .i64 (.t 73))⟩,
  ⟨(some 75), none, (.bin .rem (.t 74) (.c (.i .i64 400)))⟩,
  ⟨(some 76), none, (.val (.c (.i .i64 0)))⟩]
theorem r5_15 {fn : AFun} {K : List AItem} {t : Nat → AV} {H : AH} {T : Tbl} : runR T fn (.code (.reg d5_15) :: K) t H = regR T fn K (aops (callR T) [
  ⟨(some 73), none, (.val (.t 2))⟩,
  ⟨(some 74), none, (.cvi .i64 (.t 73))⟩,
  ⟨(some 75), none, (.bin .rem (.t 74) (.c (.i .i64 400)))⟩,
  ⟨(some 76), none, (.val (.c (.i .i64 0)))⟩] t H) := runR_reg'
def d5_16 : List AOper := [
  ⟨(some 77), none, (.bin .lss (.t 76) (.t 75))⟩]
theorem r5_16 {fn : AFun} {K : List AItem} {t : Nat → AV} {H : AH} {T : Tbl} : runR T fn (.code (.reg d5_16) :: K) t H = regR T fn K (aops (callR T) [
  ⟨(some 77), none, (.bin .lss (.t 76) (.t 75))⟩] t H) := runR_reg'
def d5_17 : List AOper := [
  ⟨(some 78), none, (.val (.t 76))⟩,
  ⟨(some 12), none, (.val (.t 78))⟩]
theorem r5_17 {fn : AFun} {K : List AItem} {t : Nat → AV} {H : AH} {T : Tbl} : runR T fn (.code (.reg d5_17) :: K) t H = regR T fn K (aops (callR T) [
  ⟨(some 78), none, (.val (.t 76))⟩,
  ⟨(some 12), none, (.val (.t 78))⟩] t H) := runR_reg'
def d5_18 : List AOper := [
  ⟨(some 79), none, (.val (.t 7))⟩,
  ⟨(some 80), none, (.val (.t 12))⟩,
  ⟨(some 81), none, (.call 12 [(.t 79), (.t 80)])⟩]
theorem r5_18 {fn : AFun} {K : List AItem} {t : Nat → AV} {H : AH} {T : Tbl} : runR T fn (.code (.reg d5_18) :: K) t H = regR T fn K (aops (callR T) [
  ⟨(some 79), none, (.val (.t 7))⟩,
  ⟨(some 80), none, (.val (.t 12))⟩,
  ⟨(some 81), none, (.call 12 [(.t 79), (.t 80)])⟩] t H) := runR_reg'
def d5_19 : List AOper := [
  ⟨(some 82), none, (.bin .add (.t 76) (.c (.i .i64 1)))⟩,
  ⟨(some 76), none, (.val (.t 82))⟩]
theorem r5_19 {fn : AFun} {K : List AItem} {t : Nat → AV} {H : AH} {T : Tbl} : runR T fn (.code (.reg d5_19) :: K) t H = regR T fn K (aops (callR T) [
  ⟨(some 82), none, (.bin .add (.t 76) (.c (.i .i64 1)))⟩,
  ⟨(some 76), none, (.val (.t 82))⟩] t H) := runR_reg'
def l5_20 : ACode := (.seq (.reg d5_16) (.seq (.cond (.t 77) .skip (.exit 2)) (.seq (.block 3 (.seq (.reg d5_17) (.reg d5_18))) (.reg d5_19))))
def d5_21 : List AOper := [
  ⟨(some 83), none, .mkm⟩,
  ⟨(some 13), none, (.val (.t 83))⟩]
theorem r5_21 {fn : AFun} {K : List AItem} {t : Nat → AV} {H : AH} {T : Tbl} : runR T fn (.code (.reg d5_21) :: K) t H = regR T fn K (aops (callR T) [
  ⟨(some 83), none, .mkm⟩,
  ⟨(some 13), none, (.val (.t 83))⟩] t H) := runR_reg'
def d5_22 : List AOper := [
  ⟨(some 84), none, (.val (.t 7))⟩,
  ⟨(some 85), none, (.call 20 [(.t 84)])⟩,
  ⟨(some 86), none, (.len (.t 85))⟩,
  ⟨(some 87), none, (.val (.c (.i .i64 0)))⟩]
theorem r5_22 {fn : AFun} {K : List AItem} {t : Nat → AV} {H : AH} {T : Tbl} : runR T fn (.code (.reg d5_22) :: K) t H = regR T fn K (aops (callR T) [
  ⟨(some 84), none, (.val (.t 7))⟩,
  ⟨(some 85), none, (.call 20 [(.t 84)])⟩,
  ⟨(some 86), none, (.len (.t 85))⟩,
  ⟨(some 87), none, (.val (.c (.i .i64 0)))⟩] t H) := runR_reg'
def d5_23 : List AOper := [
  ⟨(some 88), none, (.bin .lss (.t 87) (.t 86))⟩]
theorem r5_23 {fn : AFun} {K : List AItem} {t : Nat → AV} {H : AH} {T : Tbl} : runR T fn (.code (.reg d5_23) :: K) t H = regR T fn K (aops (callR T) [
  ⟨(some 88), none, (.bin .lss (.t 87) (.t 86))⟩] t H) := runR_reg'
def d5_24 : List AOper := [
  ⟨(some 89), none, (.ia 1 (.t 85) (.t 87))⟩,
  ⟨(some 90), none, (.ld none (.t 89))⟩,
  ⟨(some 15), none, (.val (.t 90))⟩]
theorem r5_24 {fn : AFun} {K : List AItem} {t : Nat → AV} {H : AH} {T : Tbl} : runR T fn (.code (.reg d5_24) :: K) t H = regR T fn K (aops (callR T) [
  ⟨(some 89), none, (.ia 1 (.t 85) (.t 87))⟩,
  ⟨(some 90), none, (.ld none (.t 89))⟩,
  ⟨(some 15), none, (.val (.t 90))⟩] t H) := runR_reg'
def d5_25 : List AOper := [
  ⟨(some 91), none, (.val (.t 13))⟩,
  ⟨(some 92), none, (.val (.t 15))⟩,
  ⟨(some 93), none, (.lk [0] (.b false) (.t 91) (.t 92) false)⟩]
theorem r5_25 {fn : AFun} {K : List AItem} {t : Nat → AV} {H : AH} {T : Tbl} : runR T fn (.code (.reg d5_25) :: K) t H = regR T fn K (aops (callR T) [
  ⟨(some 91), none, (.val (.t 13))⟩,
  ⟨(some 92), none, (.val (.t 15))⟩,
  ⟨(some 93), none, (.lk [0] (.b false) (.t 91) (.t 92) false)⟩] t H) := runR_reg'
def d5_26 : List AOper := [
  ⟨(some 6), none, (.val (.c (.b false)))⟩]
theorem r5_26 {fn : AFun} {K : List AItem} {t : Nat → AV} {H : AH} {T : Tbl} : runR T fn (.code (.reg d5_26) :: K) t H = regR T fn K (aops (callR T) [
  ⟨(some 6), none, (.val (.c (.b false)))⟩] t H) := runR_reg'
def d5_27 : List AOper := [
  ⟨(some 94), none, (.val (.t 13))⟩,
  ⟨(some 95), none, (.val (.t 15))⟩,
  ⟨none, none, (.mu [0] (.t 94) (.t 95) (.c (.b true)))⟩]
theorem r5_27 {fn : AFun} {K : List AItem} {t : Nat → AV} {H : AH} {T : Tbl} : runR T fn (.code (.reg d5_27) :: K) t H = regR T fn K (aops (callR T) [
  ⟨(some 94), none, (.val (.t 13))⟩,
  ⟨(some 95), none, (.val (.t 15))⟩,
  ⟨none, none, (.mu [0] (.t 94) (.t 95) (.c (.b true)))⟩] t H) := runR_reg'
def d5_28 : List AOper := [
  ⟨(some 96), none, (.bin .add (.t 87) (.c (.i .i64 1)))⟩,
  ⟨(some 87), none, (.val (.t 96))⟩]
theorem r5_28 {fn : AFun} {K : List AItem} {t : Nat → AV} {H : AH} {T : Tbl} : runR T fn (.code (.reg d5_28) :: K) t H = regR T fn K (aops (callR T) [
  ⟨(some 96), none, (.bin .add (.t 87) (.c (.i .i64 1)))⟩,
  ⟨(some 87), none, (.val (.t 96))⟩] t H) := runR_reg'
def l5_29 : ACode := (.seq (.reg d5_23) (.seq (.cond (.t 88) .skip (.exit 4)) (.seq (.block 5 (.seq (.reg d5_24) (.seq (.seq (.reg d5_25) (.cond (.t 93) (.seq (.reg d5_26) .ret) .skip)) (.reg d5_27)))) (.reg d5_28))))
def d5_30 : List AOper := [
  ⟨(some 97), none, (.val (.t 7))⟩,
  ⟨(some 98), none, (.call 23 [(.t 97)])⟩,
  ⟨(some 99), none, (.bin .leq (.t 98) (.c (.i .i64 256)))⟩,
  ⟨(some 100), none, (.val (.t 99))⟩,
  ⟨(some 101), (some (100, true)), (.call 9 [])⟩,
  ⟨(some 102), none, (.pick (.t 100) (.t 101) (.c (.b false)))⟩,
  ⟨(some 6), none, (.val (.t 102))⟩]
theorem r5_30 {fn : AFun} {K : List AItem} {t : Nat → AV} {H : AH} {T : Tbl} : runR T fn (.code (.reg d5_30) :: K) t H = regR T fn K (aops (callR T) [
  ⟨(some 97), none, (.val (.t 7))⟩,
  ⟨(some 98), none, (.call 23 [(.t 97)])⟩,
  ⟨(some 99), none, (.bin .leq (.t 98) (.c (.i .i64 256)))⟩,
  ⟨(some 100), none, (.val (.t 99))⟩,
  ⟨(some 101), (some (100, true)), (.call 9 [])⟩,
  ⟨(some 102), none, (.pick (.t 100) (.t 101) (.c (.b false)))⟩,
  ⟨(some 6), none, (.val (.t 102))⟩] t H) := runR_reg'
def a5 : AFun := ⟨103, [(.tmp 6)], (.seq (.reg d5_0) (.seq (.reg d5_1) (.seq (.seq (.reg d5_2) (.cond (.t 23) (.seq (.reg d5_3) .ret) .skip)) (.seq (.seq (.reg d5_4) (.block 0 (.loop l5_14))) (.seq (.seq (.reg d5_15) (.block 2 (.loop l5_20))) (.seq (.reg d5_21) (.seq (.seq (.reg d5_22) (.block 4 (.loop l5_29))) (.seq (.reg d5_30) .ret))))))))⟩
theorem a5_ok : cfun Try.prog 5 = some a5 := by kernel_rfl
/-- futtock/futtocklaw33.AdaptNobody -/
def d6_0 : List AOper := [
  ⟨(some 1), none, (.box (.t 0))⟩,
  ⟨(some 2), none, (.val (.c (.b false)))⟩]
theorem r6_0 {fn : AFun} {K : List AItem} {t : Nat → AV} {H : AH} {T : Tbl} : runR T fn (.code (.reg d6_0) :: K) t H = regR T fn K (aops (callR T) [
  ⟨(some 1), none, (.box (.t 0))⟩,
  ⟨(some 2), none, (.val (.c (.b false)))⟩] t H) := runR_reg'
def d6_1 : List AOper := [
  ⟨(some 7), none, (.build [(.i .i64 0), (.i .i64 0), (.i .i64 0), (.i .i64 0), (.mp none), (.sl none 0 0 true 0)] [])⟩,
  ⟨(some 8), none, (.box (.t 7))⟩,
  ⟨(some 9), none, (.bsl [(.p none)] 2 [(0, 1, (.c (.p none))), (1, 1, (.t 8))])⟩,
  ⟨(some 10), none, (.len (.t 9))⟩,
  ⟨(some 11), none, (.val (.c (.i .i64 0)))⟩]
theorem r6_1 {fn : AFun} {K : List AItem} {t : Nat → AV} {H : AH} {T : Tbl} : runR T fn (.code (.reg d6_1) :: K) t H = regR T fn K (aops (callR T) [
  ⟨(some 7), none, (.build [(.i .i64 0), (.i .i64 0), (.i .i64 0), (.i .i64 0), (.mp none), (.sl none 0 0 true 0)] [])⟩,
  ⟨(some 8), none, (.box (.t 7))⟩,
  ⟨(some 9), none, (.bsl [(.p none)] 2 [(0, 1, (.c (.p none))), (1, 1, (.t 8))])⟩,
  ⟨(some 10), none, (.len (.t 9))⟩,
  ⟨(some 11), none, (.val (.c (.i .i64 0)))⟩] t H) := runR_reg'
def d6_2 : List AOper := [
  ⟨(some 12), none, (.bin .lss (.t 11) (.t 10))⟩]
theorem r6_2 {fn : AFun} {K : List AItem} {t : Nat → AV} {H : AH} {T : Tbl} : runR T fn (.code (.reg d6_2) :: K) t H = regR T fn K (aops (callR T) [
  ⟨(some 12), none, (.bin .lss (.t 11) (.t 10))⟩] t H) := runR_reg'
def d6_3 : List AOper := [
  ⟨(some 13), none, (.ia 1 (.t 9) (.t 11))⟩,
  ⟨(some 14), none, (.ld none (.t 13))⟩,
  ⟨(some 4), none, (.val (.t 14))⟩]
theorem r6_3 {fn : AFun} {K : List AItem} {t : Nat → AV} {H : AH} {T : Tbl} : runR T fn (.code (.reg d6_3) :: K) t H = regR T fn K (aops (callR T) [
  ⟨(some 13), none, (.ia 1 (.t 9) (.t 11))⟩,
  ⟨(some 14), none, (.ld none (.t 13))⟩,
  ⟨(some 4), none, (.val (.t 14))⟩] t H) := runR_reg'
def d6_4 : List AOper := [
  ⟨(some 16), none, (.val (.t 4))⟩,
  ⟨(some 17), none, (.fa 1 (.t 1))⟩,
  ⟨(some 18), none, (.ld none (.t 17))⟩,
  ⟨(some 19), none, (.call 13 [(.t 16), (.t 18)])⟩,
  ⟨(some 15), none, (.val (.t 19))⟩,
  ⟨(some 20), none, (.ext (.t 15) 0)⟩,
  ⟨(some 21), none, (.ext (.t 15) 1)⟩,
  ⟨(some 5), none, (.val (.t 20))⟩,
  ⟨(some 6), none, (.val (.t 21))⟩]
theorem r6_4 {fn : AFun} {K : List AItem} {t : Nat → AV} {H : AH} {T : Tbl} : runR T fn (.code (.reg d6_4) :: K) t H = regR T fn K (aops (callR T) [
  ⟨(some 16), none, (.val (.t 4))⟩,
  ⟨(some 17), none, (.fa 1 (.t 1))⟩,
  ⟨(some 18), none, (.ld none (.t 17))⟩,
  ⟨(some 19), none, (.call 13 [(.t 16), (.t 18)])⟩,
  ⟨(some 15), none, (.val (.t 19))⟩,
  ⟨(some 20), none, (.ext (.t 15) 0)⟩,
  ⟨(some 21), none, (.ext (.t 15) 1)⟩,
  ⟨(some 5), none, (.val (.t 20))⟩,
  ⟨(some 6), none, (.val (.t 21))⟩] t H) := runR_reg'
def d6_5 : List (AOper × List Nat) := [
  (⟨(some 22), none, (.val (.t 4))⟩, []),
  (⟨(some 23), none, (.fa 1 (.t 1))⟩, []),
  (⟨(some 24), none, (.ld none (.t 23))⟩, [1]),
  (⟨(some 25), none, (.call 11 [(.t 22), (.t 24)])⟩, []),
  (⟨(some 26), none, (.val (.t 5))⟩, []),
  (⟨(some 27), none, (.bin .add (.t 25) (.t 26))⟩, []),
  (⟨(some 28), none, (.val (.t 6))⟩, []),
  (⟨(some 29), none, (.bin .add (.t 27) (.t 28))⟩, []),
  (⟨(some 30), none, (.val (.t 4))⟩, []),
  (⟨(some 31), none, (.call 23 [(.t 30)])⟩, []),
  (⟨(some 32), none, (.bin .add (.t 29) (.t 31))⟩, []),
  (⟨(some 33), none, (.val (.t 4))⟩, []),
  (⟨(some 34), none, (.call 20 [(.t 33)])⟩, []),
  (⟨(some 35), none, (.len (.t 34))⟩, []),
  (⟨(some 36), none, (.bin .add (.t 32) (.t 35))⟩, []),
  (⟨(some 37), none, (.val (.t 4))⟩, []),
  (⟨(some 38), none, (.fa 1 (.t 1))⟩, []),
  (⟨(some 39), none, (.ld none (.t 38))⟩, [4]),
  (⟨(some 40), none, (.call 14 [(.t 37), (.t 39)])⟩, []),
  (⟨(some 41), none, (.bin .add (.t 36) (.t 40))⟩, []),
  (⟨(some 42), none, (.bin .neq (.t 41) (.c (.i .i64 0)))⟩, []),
  (⟨(some 43), none, (.val (.t 42))⟩, []),
  (⟨(some 44), (some (43, false)), (.val (.t 4))⟩, []),
  (⟨(some 45), (some (43, false)), (.fa 1 (.t 1))⟩, []),
  (⟨(some 46), (some (43, false)), (.ld none (.t 45))⟩, [1]),
  (⟨(some 47), (some (43, false)), (.fa 2 (.t 1))⟩, []),
  (⟨(some 48), (some (43, false)), (.ld none (.t 47))⟩, [1]),
  (⟨(some 49), (some (43, false)), (.call 10 [(.t 44), (.t 46), (.t 48)])⟩, []),
  (⟨(some 50), (some (43, false)), (.bin .neq (.t 49) (.c (.i .i64 2)))⟩, []),
  (⟨(some 51), none, (.pick (.t 43) (.c (.b true)) (.t 50))⟩, []),
  (⟨(some 52), none, (.val (.t 51))⟩, []),
  (⟨(some 53), (some (52, false)), (.val (.t 4))⟩, []),
  (⟨(some 54), (some (52, false)), (.fa 1 (.t 1))⟩, []),
  (⟨(some 55), (some (52, false)), (.ld none (.t 54))⟩, [1]),
  (⟨(some 56), (some (52, false)), (.call 12 [(.t 53), (.t 55)])⟩, []),
  (⟨(some 57), (some (52, false)), (.bin .neq (.t 56) (.c (.i .i64 2)))⟩, []),
  (⟨(some 58), none, (.pick (.t 52) (.c (.b true)) (.t 57))⟩, [])]
theorem r6_5 {fn : AFun} {K : List AItem} {t : Nat → AV} {H : AH} {T : Tbl} : runR T fn (.code (.drw d6_5) :: K) t H = regR T fn K (adrn (callR T) [
  (⟨(some 22), none, (.val (.t 4))⟩, []),
  (⟨(some 23), none, (.fa 1 (.t 1))⟩, []),
  (⟨(some 24), none, (.ld none (.t 23))⟩, [1]),
  (⟨(some 25), none, (.call 11 [(.t 22), (.t 24)])⟩, []),
  (⟨(some 26), none, (.val (.t 5))⟩, []),
  (⟨(some 27), none, (.bin .add (.t 25) (.t 26))⟩, []),
  (⟨(some 28), none, (.val (.t 6))⟩, []),
  (⟨(some 29), none, (.bin .add (.t 27) (.t 28))⟩, []),
  (⟨(some 30), none, (.val (.t 4))⟩, []),
  (⟨(some 31), none, (.call 23 [(.t 30)])⟩, []),
  (⟨(some 32), none, (.bin .add (.t 29) (.t 31))⟩, []),
  (⟨(some 33), none, (.val (.t 4))⟩, []),
  (⟨(some 34), none, (.call 20 [(.t 33)])⟩, []),
  (⟨(some 35), none, (.len (.t 34))⟩, []),
  (⟨(some 36), none, (.bin .add (.t 32) (.t 35))⟩, []),
  (⟨(some 37), none, (.val (.t 4))⟩, []),
  (⟨(some 38), none, (.fa 1 (.t 1))⟩, []),
  (⟨(some 39), none, (.ld none (.t 38))⟩, [4]),
  (⟨(some 40), none, (.call 14 [(.t 37), (.t 39)])⟩, []),
  (⟨(some 41), none, (.bin .add (.t 36) (.t 40))⟩, []),
  (⟨(some 42), none, (.bin .neq (.t 41) (.c (.i .i64 0)))⟩, []),
  (⟨(some 43), none, (.val (.t 42))⟩, []),
  (⟨(some 44), (some (43, false)), (.val (.t 4))⟩, []),
  (⟨(some 45), (some (43, false)), (.fa 1 (.t 1))⟩, []),
  (⟨(some 46), (some (43, false)), (.ld none (.t 45))⟩, [1]),
  (⟨(some 47), (some (43, false)), (.fa 2 (.t 1))⟩, []),
  (⟨(some 48), (some (43, false)), (.ld none (.t 47))⟩, [1]),
  (⟨(some 49), (some (43, false)), (.call 10 [(.t 44), (.t 46), (.t 48)])⟩, []),
  (⟨(some 50), (some (43, false)), (.bin .neq (.t 49) (.c (.i .i64 2)))⟩, []),
  (⟨(some 51), none, (.pick (.t 43) (.c (.b true)) (.t 50))⟩, []),
  (⟨(some 52), none, (.val (.t 51))⟩, []),
  (⟨(some 53), (some (52, false)), (.val (.t 4))⟩, []),
  (⟨(some 54), (some (52, false)), (.fa 1 (.t 1))⟩, []),
  (⟨(some 55), (some (52, false)), (.ld none (.t 54))⟩, [1]),
  (⟨(some 56), (some (52, false)), (.call 12 [(.t 53), (.t 55)])⟩, []),
  (⟨(some 57), (some (52, false)), (.bin .neq (.t 56) (.c (.i .i64 2)))⟩, []),
  (⟨(some 58), none, (.pick (.t 52) (.c (.b true)) (.t 57))⟩, [])] t H [H]) := runR_free rfl
def d6_6 : List AOper := [
  ⟨(some 2), none, (.val (.c (.b false)))⟩]
theorem r6_6 {fn : AFun} {K : List AItem} {t : Nat → AV} {H : AH} {T : Tbl} : runR T fn (.code (.reg d6_6) :: K) t H = regR T fn K (aops (callR T) [
  ⟨(some 2), none, (.val (.c (.b false)))⟩] t H) := runR_reg'
def d6_7 : List AOper := [
  ⟨(some 59), none, (.bin .add (.t 11) (.c (.i .i64 1)))⟩,
  ⟨(some 11), none, (.val (.t 59))⟩]
theorem r6_7 {fn : AFun} {K : List AItem} {t : Nat → AV} {H : AH} {T : Tbl} : runR T fn (.code (.reg d6_7) :: K) t H = regR T fn K (aops (callR T) [
  ⟨(some 59), none, (.bin .add (.t 11) (.c (.i .i64 1)))⟩,
  ⟨(some 11), none, (.val (.t 59))⟩] t H) := runR_reg'
def l6_8 : ACode := (.seq (.reg d6_2) (.seq (.cond (.t 12) .skip (.exit 0)) (.seq (.block 1 (.seq (.reg d6_3) (.seq (.reg d6_4) (.seq (.drw d6_5) (.cond (.t 58) (.seq (.reg d6_6) .ret) .skip))))) (.reg d6_7))))
def d6_9 : List AOper := [
  ⟨(some 60), none, (.call 9 [])⟩,
  ⟨(some 2), none, (.val (.t 60))⟩]
theorem r6_9 {fn : AFun} {K : List AItem} {t : Nat → AV} {H : AH} {T : Tbl} : runR T fn (.code (.reg d6_9) :: K) t H = regR T fn K (aops (callR T) [
  ⟨(some 60), none, (.call 9 [])⟩,
  ⟨(some 2), none, (.val (.t 60))⟩] t H) := runR_reg'
def a6 : AFun := ⟨61, [(.tmp 2)], (.seq (.reg d6_0) (.seq (.seq (.reg d6_1) (.block 0 (.loop l6_8))) (.seq (.reg d6_9) .ret)))⟩
theorem a6_ok : cfun Try.prog 6 = some a6 := by kernel_rfl
/-- futtock/adapt.New -/
def d7_0 : List AOper := [
  ⟨(some 1), none, (.box (.t 0))⟩,
  ⟨(some 2), none, (.val (.c (.p none)))⟩,
  ⟨(some 3), none, (.val (.c (.i .i64 0)))⟩]
theorem r7_0 {fn : AFun} {K : List AItem} {t : Nat → AV} {H : AH} {T : Tbl} : runR T fn (.code (.reg d7_0) :: K) t H = regR T fn K (aops (callR T) [
  ⟨(some 1), none, (.box (.t 0))⟩,
  ⟨(some 2), none, (.val (.c (.p none)))⟩,
  ⟨(some 3), none, (.val (.c (.i .i64 0)))⟩] t H) := runR_reg'
def d7_1 : List AOper := [
  ⟨(some 4), none, (.fa 0 (.t 1))⟩,
  ⟨(some 5), none, (.ld none (.t 4))⟩,
  ⟨(some 6), none, (.fa 1 (.t 1))⟩,
  ⟨(some 7), none, (.ld none (.t 6))⟩,
  ⟨(some 8), none, (.call 24 [(.t 5), (.c (.i .i64 0)), (.t 7)])⟩,
  ⟨(some 9), none, (.un .not (.t 8))⟩,
  ⟨(some 10), none, (.val (.t 9))⟩,
  ⟨(some 11), (some (10, false)), (.fa 1 (.t 1))⟩,
  ⟨(some 12), (some (10, false)), (.ld none (.t 11))⟩,
  ⟨(some 13), (some (10, false)), (.bin .gtr (.t 12) (.c (.i .i64 1000)))⟩,
  ⟨(some 14), none, (.pick (.t 10) (.c (.b true)) (.t 13))⟩,
  ⟨(some 15), none, (.val (.t 14))⟩,
  ⟨(some 16), (some (15, false)), (.fa 2 (.t 1))⟩,
  ⟨(some 17), (some (15, false)), (.ld none (.t 16))⟩,
  ⟨(some 18), (some (15, false)), (.call 24 [(.t 17), (.c (.i .i64 1)), (.c (.i .i64 1000))])⟩,
  ⟨(some 19), (some (15, false)), (.un .not (.t 18))⟩,
  ⟨(some 20), none, (.pick (.t 15) (.c (.b true)) (.t 19))⟩,
  ⟨(some 21), none, (.val (.t 20))⟩,
  ⟨(some 22), (some (21, false)), (.fa 3 (.t 1))⟩,
  ⟨(some 23), (some (21, false)), (.ld none (.t 22))⟩,
  ⟨(some 24), (some (21, false)), (.call 24 [(.t 23), (.c (.i .i64 1)), (.c (.i .i64 1000))])⟩,
  ⟨(some 25), (some (21, false)), (.un .not (.t 24))⟩,
  ⟨(some 26), none, (.pick (.t 21) (.c (.b true)) (.t 25))⟩]
theorem r7_1 {fn : AFun} {K : List AItem} {t : Nat → AV} {H : AH} {T : Tbl} : runR T fn (.code (.reg d7_1) :: K) t H = regR T fn K (aops (callR T) [
  ⟨(some 4), none, (.fa 0 (.t 1))⟩,
  ⟨(some 5), none, (.ld none (.t 4))⟩,
  ⟨(some 6), none, (.fa 1 (.t 1))⟩,
  ⟨(some 7), none, (.ld none (.t 6))⟩,
  ⟨(some 8), none, (.call 24 [(.t 5), (.c (.i .i64 0)), (.t 7)])⟩,
  ⟨(some 9), none, (.un .not (.t 8))⟩,
  ⟨(some 10), none, (.val (.t 9))⟩,
  ⟨(some 11), (some (10, false)), (.fa 1 (.t 1))⟩,
  ⟨(some 12), (some (10, false)), (.ld none (.t 11))⟩,
  ⟨(some 13), (some (10, false)), (.bin .gtr (.t 12) (.c (.i .i64 1000)))⟩,
  ⟨(some 14), none, (.pick (.t 10) (.c (.b true)) (.t 13))⟩,
  ⟨(some 15), none, (.val (.t 14))⟩,
  ⟨(some 16), (some (15, false)), (.fa 2 (.t 1))⟩,
  ⟨(some 17), (some (15, false)), (.ld none (.t 16))⟩,
  ⟨(some 18), (some (15, false)), (.call 24 [(.t 17), (.c (.i .i64 1)), (.c (.i .i64 1000))])⟩,
  ⟨(some 19), (some (15, false)), (.un .not (.t 18))⟩,
  ⟨(some 20), none, (.pick (.t 15) (.c (.b true)) (.t 19))⟩,
  ⟨(some 21), none, (.val (.t 20))⟩,
  ⟨(some 22), (some (21, false)), (.fa 3 (.t 1))⟩,
  ⟨(some 23), (some (21, false)), (.ld none (.t 22))⟩,
  ⟨(some 24), (some (21, false)), (.call 24 [(.t 23), (.c (.i .i64 1)), (.c (.i .i64 1000))])⟩,
  ⟨(some 25), (some (21, false)), (.un .not (.t 24))⟩,
  ⟨(some 26), none, (.pick (.t 21) (.c (.b true)) (.t 25))⟩] t H) := runR_reg'
def d7_2 : List AOper := [
  ⟨(some 2), none, (.val (.c (.p none)))⟩,
  ⟨(some 3), none, (.val (.c (.i .i64 1)))⟩]
theorem r7_2 {fn : AFun} {K : List AItem} {t : Nat → AV} {H : AH} {T : Tbl} : runR T fn (.code (.reg d7_2) :: K) t H = regR T fn K (aops (callR T) [
  ⟨(some 2), none, (.val (.c (.p none)))⟩,
  ⟨(some 3), none, (.val (.c (.i .i64 1)))⟩] t H) := runR_reg'
def d7_3 : List AOper := [
  ⟨(some 27), none, (.ld (some 4) (.t 1))⟩,
  ⟨(some 28), none, .mkm⟩,
  ⟨(some 29), none, (.build [(.i .i64 0), (.i .i64 0), (.i .i64 0), (.i .i64 0), (.mp none), (.sl none 0 0 true 0)] [(0, 4, (.t 27)), (4, 1, (.t 28))])⟩,
  ⟨(some 30), none, (.box (.t 29))⟩,
  ⟨(some 2), none, (.val (.t 30))⟩,
  ⟨(some 3), none, (.val (.c (.i .i64 0)))⟩]
theorem r7_3 {fn : AFun} {K : List AItem} {t : Nat → AV} {H : AH} {T : Tbl} : runR T fn (.code (.reg d7_3) :: K) t H = regR T fn K (aops (callR T) [
  ⟨(some 27), none, (.ld (some 4) (.t 1))⟩,
  ⟨(some 28), none, .mkm⟩,
  ⟨(some 29), none, (.build [(.i .i64 0), (.i .i64 0), (.i .i64 0), (.i .i64 0), (.mp none), (.sl none 0 0 true 0)] [(0, 4, (.t 27)), (4, 1, (.t 28))])⟩,
  ⟨(some 30), none, (.box (.t 29))⟩,
  ⟨(some 2), none, (.val (.t 30))⟩,
  ⟨(some 3), none, (.val (.c (.i .i64 0)))⟩] t H) := runR_reg'
def a7 : AFun := ⟨31, [(.tmp 2), (.tmp 3)], (.seq (.reg d7_0) (.seq (.seq (.reg d7_1) (.cond (.t 26) (.seq (.reg d7_2) .ret) .skip)) (.seq (.reg d7_3) .ret)))⟩
theorem a7_ok : cfun Try.prog 7 = some a7 := by kernel_rfl
/-- futtock/futtocklaw33.theirs -/
def d8_0 : List AOper := [
  ⟨(some 1), none, (.box (.t 0))⟩,
  ⟨(some 2), none, (.alloc [(.i .i64 0), (.i .i64 0), (.i .i64 0), (.i .i64 0)])⟩]
theorem r8_0 {fn : AFun} {K : List AItem} {t : Nat → AV} {H : AH} {T : Tbl} : runR T fn (.code (.reg d8_0) :: K) t H = regR T fn K (aops (callR T) [
  ⟨(some 1), none, (.box (.t 0))⟩,
  ⟨(some 2), none, (.alloc [(.i .i64 0), (.i .i64 0), (.i .i64 0), (.i .i64 0)])⟩] t H) := runR_reg'
def d8_1 : List AOper := [
  ⟨(some 3), none, (.fa 0 (.t 1))⟩,
  ⟨(some 4), none, (.ld none (.t 3))⟩,
  ⟨(some 5), none, (.fa 1 (.t 1))⟩,
  ⟨(some 6), none, (.ld none (.t 5))⟩,
  ⟨(some 7), none, (.fa 2 (.t 1))⟩,
  ⟨(some 8), none, (.ld none (.t 7))⟩,
  ⟨(some 9), none, (.fa 3 (.t 1))⟩,
  ⟨(some 10), none, (.ld none (.t 9))⟩,
  ⟨(some 11), none, (.build [(.i .i64 0), (.i .i64 0), (.i .i64 0), (.i .i64 0)] [(0, 1, (.t 4)), (1, 1, (.t 6)), (2, 1, (.t 8)), (3, 1, (.t 10))])⟩,
  ⟨none, none, (.st 4 (.t 2) (.t 11))⟩]
theorem r8_1 {fn : AFun} {K : List AItem} {t : Nat → AV} {H : AH} {T : Tbl} : runR T fn (.code (.reg d8_1) :: K) t H = regR T fn K (aops (callR T) [
  ⟨(some 3), none, (.fa 0 (.t 1))⟩,
  ⟨(some 4), none, (.ld none (.t 3))⟩,
  ⟨(some 5), none, (.fa 1 (.t 1))⟩,
  ⟨(some 6), none, (.ld none (.t 5))⟩,
  ⟨(some 7), none, (.fa 2 (.t 1))⟩,
  ⟨(some 8), none, (.ld none (.t 7))⟩,
  ⟨(some 9), none, (.fa 3 (.t 1))⟩,
  ⟨(some 10), none, (.ld none (.t 9))⟩,
  ⟨(some 11), none, (.build [(.i .i64 0), (.i .i64 0), (.i .i64 0), (.i .i64 0)] [(0, 1, (.t 4)), (1, 1, (.t 6)), (2, 1, (.t 8)), (3, 1, (.t 10))])⟩,
  ⟨none, none, (.st 4 (.t 2) (.t 11))⟩] t H) := runR_reg'
def a8 : AFun := ⟨12, [(.cell 2 (some 4))], (.seq (.reg d8_0) (.seq (.reg d8_1) .ret))⟩
theorem a8_ok : cfun Try.prog 8 = some a8 := by kernel_rfl
/-- futtock/futtocklaw33.alive -/
def d9_0 : List AOper := [
  ⟨(some 0), none, (.val (.c (.b false)))⟩]
theorem r9_0 {fn : AFun} {K : List AItem} {t : Nat → AV} {H : AH} {T : Tbl} : runR T fn (.code (.reg d9_0) :: K) t H = regR T fn K (aops (callR T) [
  ⟨(some 0), none, (.val (.c (.b false)))⟩] t H) := runR_reg'
def d9_1 : List AOper := [
  ⟨(some 4), none, (.build [(.i .i64 0), (.i .i64 0), (.i .i64 0), (.i .i64 0)] [(1, 1, (.c (.i .i64 8))), (2, 1, (.c (.i .i64 2))), (3, 1, (.c (.i .i64 1)))])⟩,
  ⟨(some 5), none, (.call 7 [(.t 4)])⟩,
  ⟨(some 3), none, (.val (.t 5))⟩,
  ⟨(some 6), none, (.ext (.t 3) 0)⟩,
  ⟨(some 7), none, (.ext (.t 3) 1)⟩,
  ⟨(some 1), none, (.val (.t 6))⟩,
  ⟨(some 2), none, (.val (.t 7))⟩]
theorem r9_1 {fn : AFun} {K : List AItem} {t : Nat → AV} {H : AH} {T : Tbl} : runR T fn (.code (.reg d9_1) :: K) t H = regR T fn K (aops (callR T) [
  ⟨(some 4), none, (.build [(.i .i64 0), (.i .i64 0), (.i .i64 0), (.i .i64 0)] [(1, 1, (.c (.i .i64 8))), (2, 1, (.c (.i .i64 2))), (3, 1, (.c (.i .i64 1)))])⟩,
  ⟨(some 5), none, (.call 7 [(.t 4)])⟩,
  ⟨(some 3), none, (.val (.t 5))⟩,
  ⟨(some 6), none, (.ext (.t 3) 0)⟩,
  ⟨(some 7), none, (.ext (.t 3) 1)⟩,
  ⟨(some 1), none, (.val (.t 6))⟩,
  ⟨(some 2), none, (.val (.t 7))⟩] t H) := runR_reg'
def d9_2 : List AOper := [
  ⟨(some 8), none, (.val (.t 1))⟩,
  ⟨(some 9), none, (.eqn 0 true (.t 8) (.c (.p none)))⟩,
  ⟨(some 10), none, (.val (.t 9))⟩,
  ⟨(some 11), (some (10, true)), (.val (.t 2))⟩,
  ⟨(some 12), (some (10, true)), (.bin .eql (.t 11) (.c (.i .i64 0)))⟩,
  ⟨(some 13), none, (.pick (.t 10) (.t 12) (.c (.b false)))⟩,
  ⟨(some 14), none, (.val (.t 13))⟩,
  ⟨(some 15), (some (14, true)), (.val (.t 1))⟩,
  ⟨(some 16), (some (14, true)), (.call 10 [(.t 15), (.c (.i .i64 3)), (.c (.i .i64 1))])⟩,
  ⟨(some 17), (some (14, true)), (.bin .eql (.t 16) (.c (.i .i64 0)))⟩,
  ⟨(some 18), none, (.pick (.t 14) (.t 17) (.c (.b false)))⟩,
  ⟨(some 19), none, (.val (.t 18))⟩,
  ⟨(some 20), (some (19, true)), (.val (.t 1))⟩,
  ⟨(some 21), (some (19, true)), (.call 11 [(.t 20), (.c (.i .i64 3))])⟩,
  ⟨(some 22), (some (19, true)), (.bin .eql (.t 21) (.c (.i .i64 3)))⟩,
  ⟨(some 23), none, (.pick (.t 19) (.t 22) (.c (.b false)))⟩,
  ⟨(some 24), none, (.val (.t 23))⟩,
  ⟨(some 25), (some (24, true)), (.val (.t 1))⟩,
  ⟨(some 26), (some (24, true)), (.call 12 [(.t 25), (.c (.i .i64 3))])⟩,
  ⟨(some 27), (some (24, true)), (.bin .eql (.t 26) (.c (.i .i64 0)))⟩,
  ⟨(some 28), none, (.pick (.t 24) (.t 27) (.c (.b false)))⟩,
  ⟨(some 29), none, (.val (.t 28))⟩,
  ⟨(some 30), (some (29, true)), (.val (.t 1))⟩,
  ⟨(some 31), (some (29, true)), (.call 11 [(.t 30), (.c (.i .i64 3))])⟩,
  ⟨(some 32), (some (29, true)), (.bin .eql (.t 31) (.c (.i .i64 2)))⟩,
  ⟨(some 33), none, (.pick (.t 29) (.t 32) (.c (.b false)))⟩,
  ⟨(some 34), none, (.val (.t 33))⟩,
  ⟨(some 35), (some (34, true)), (.val (.t 1))⟩,
  ⟨(some 36), (some (34, true)), (.call 14 [(.t 35), (.c (.i .i64 3))])⟩,
  ⟨(some 37), (some (34, true)), (.bin .eql (.t 36) (.c (.i .i64 500)))⟩,
  ⟨(some 38), none, (.pick (.t 34) (.t 37) (.c (.b false)))⟩,
  ⟨(some 0), none, (.val (.t 38))⟩]
theorem r9_2 {fn : AFun} {K : List AItem} {t : Nat → AV} {H : AH} {T : Tbl} : runR T fn (.code (.reg d9_2) :: K) t H = regR T fn K (aops (callR T) [
  ⟨(some 8), none, (.val (.t 1))⟩,
  ⟨(some 9), none, (.eqn 0 true (.t 8) (.c (.p none)))⟩,
  ⟨(some 10), none, (.val (.t 9))⟩,
  ⟨(some 11), (some (10, true)), (.val (.t 2))⟩,
  ⟨(some 12), (some (10, true)), (.bin .eql (.t 11) (.c (.i .i64 0)))⟩,
  ⟨(some 13), none, (.pick (.t 10) (.t 12) (.c (.b false)))⟩,
  ⟨(some 14), none, (.val (.t 13))⟩,
  ⟨(some 15), (some (14, true)), (.val (.t 1))⟩,
  ⟨(some 16), (some (14, true)), (.call 10 [(.t 15), (.c (.i .i64 3)), (.c (.i .i64 1))])⟩,
  ⟨(some 17), (some (14, true)), (.bin .eql (.t 16) (.c (.i .i64 0)))⟩,
  ⟨(some 18), none, (.pick (.t 14) (.t 17) (.c (.b false)))⟩,
  ⟨(some 19), none, (.val (.t 18))⟩,
  ⟨(some 20), (some (19, true)), (.val (.t 1))⟩,
  ⟨(some 21), (some (19, true)), (.call 11 [(.t 20), (.c (.i .i64 3))])⟩,
  ⟨(some 22), (some (19, true)), (.bin .eql (.t 21) (.c (.i .i64 3)))⟩,
  ⟨(some 23), none, (.pick (.t 19) (.t 22) (.c (.b false)))⟩,
  ⟨(some 24), none, (.val (.t 23))⟩,
  ⟨(some 25), (some (24, true)), (.val (.t 1))⟩,
  ⟨(some 26), (some (24, true)), (.call 12 [(.t 25), (.c (.i .i64 3))])⟩,
  ⟨(some 27), (some (24, true)), (.bin .eql (.t 26) (.c (.i .i64 0)))⟩,
  ⟨(some 28), none, (.pick (.t 24) (.t 27) (.c (.b false)))⟩,
  ⟨(some 29), none, (.val (.t 28))⟩,
  ⟨(some 30), (some (29, true)), (.val (.t 1))⟩,
  ⟨(some 31), (some (29, true)), (.call 11 [(.t 30), (.c (.i .i64 3))])⟩,
  ⟨(some 32), (some (29, true)), (.bin .eql (.t 31) (.c (.i .i64 2)))⟩,
  ⟨(some 33), none, (.pick (.t 29) (.t 32) (.c (.b false)))⟩,
  ⟨(some 34), none, (.val (.t 33))⟩,
  ⟨(some 35), (some (34, true)), (.val (.t 1))⟩,
  ⟨(some 36), (some (34, true)), (.call 14 [(.t 35), (.c (.i .i64 3))])⟩,
  ⟨(some 37), (some (34, true)), (.bin .eql (.t 36) (.c (.i .i64 500)))⟩,
  ⟨(some 38), none, (.pick (.t 34) (.t 37) (.c (.b false)))⟩,
  ⟨(some 0), none, (.val (.t 38))⟩] t H) := runR_reg'
def a9 : AFun := ⟨39, [(.tmp 0)], (.seq (.reg d9_0) (.seq (.reg d9_1) (.seq (.reg d9_2) .ret)))⟩
theorem a9_ok : cfun Try.prog 9 = some a9 := by kernel_rfl
/-- (*futtock/adapt.Table).Helped -/
def d10_0 : List AOper := [
  ⟨(some 6), none, (.val (.c (.i .i64 0)))⟩]
theorem r10_0 {fn : AFun} {K : List AItem} {t : Nat → AV} {H : AH} {T : Tbl} : runR T fn (.code (.reg d10_0) :: K) t H = regR T fn K (aops (callR T) [
  ⟨(some 6), none, (.val (.c (.i .i64 0)))⟩] t H) := runR_reg'
def d10_1 : List AOper := [
  ⟨(some 9), none, (.val (.t 0))⟩,
  ⟨(some 10), none, (.call 25 [(.t 9)])⟩,
  ⟨(some 11), none, (.un .not (.t 10))⟩,
  ⟨(some 8), none, (.val (.t 11))⟩]
theorem r10_1 {fn : AFun} {K : List AItem} {t : Nat → AV} {H : AH} {T : Tbl} : runR T fn (.code (.reg d10_1) :: K) t H = regR T fn K (aops (callR T) [
  ⟨(some 9), none, (.val (.t 0))⟩,
  ⟨(some 10), none, (.call 25 [(.t 9)])⟩,
  ⟨(some 11), none, (.un .not (.t 10))⟩,
  ⟨(some 8), none, (.val (.t 11))⟩] t H) := runR_reg'
def d10_2 : List AOper := [
  ⟨(some 6), none, (.val (.c (.i .i64 2)))⟩]
theorem r10_2 {fn : AFun} {K : List AItem} {t : Nat → AV} {H : AH} {T : Tbl} : runR T fn (.code (.reg d10_2) :: K) t H = regR T fn K (aops (callR T) [
  ⟨(some 6), none, (.val (.c (.i .i64 2)))⟩] t H) := runR_reg'
def d10_3 : List AOper := [
  ⟨(some 13), none, (.val (.t 1))⟩,
  ⟨(some 14), none, (.call 26 [(.t 13)])⟩,
  ⟨(some 15), none, (.un .not (.t 14))⟩,
  ⟨(some 16), none, (.val (.t 15))⟩,
  ⟨(some 17), (some (16, false)), (.val (.t 2))⟩,
  ⟨(some 18), (some (16, false)), (.bin .lss (.t 17) (.c (.i .i64 0)))⟩,
  ⟨(some 19), none, (.pick (.t 16) (.c (.b true)) (.t 18))⟩,
  ⟨(some 12), none, (.val (.t 19))⟩]
theorem r10_3 {fn : AFun} {K : List AItem} {t : Nat → AV} {H : AH} {T : Tbl} : runR T fn (.code (.reg d10_3) :: K) t H = regR T fn K (aops (callR T) [
  ⟨(some 13), none, (.val (.t 1))⟩,
  ⟨(some 14), none, (.call 26 [(.t 13)])⟩,
  ⟨(some 15), none, (.un .not (.t 14))⟩,
  ⟨(some 16), none, (.val (.t 15))⟩,
  ⟨(some 17), (some (16, false)), (.val (.t 2))⟩,
  ⟨(some 18), (some (16, false)), (.bin .lss (.t 17) (.c (.i .i64 0)))⟩,
  ⟨(some 19), none, (.pick (.t 16) (.c (.b true)) (.t 18))⟩,
  ⟨(some 12), none, (.val (.t 19))⟩] t H) := runR_reg'
def d10_4 : List AOper := [
  ⟨(some 6), none, (.val (.c (.i .i64 1)))⟩]
theorem r10_4 {fn : AFun} {K : List AItem} {t : Nat → AV} {H : AH} {T : Tbl} : runR T fn (.code (.reg d10_4) :: K) t H = regR T fn K (aops (callR T) [
  ⟨(some 6), none, (.val (.c (.i .i64 1)))⟩] t H) := runR_reg'
def d10_5 : List AOper := [
  ⟨(some 20), none, (.val (.t 0))⟩,
  ⟨(some 21), none, (.val (.t 1))⟩,
  ⟨(some 22), none, (.call 27 [(.t 20), (.t 21)])⟩,
  ⟨(some 7), none, (.alloc [(.i .i64 0), (.i .i64 0), (.i .i64 0)])⟩,
  ⟨none, none, (.st 3 (.t 7) (.t 22))⟩]
theorem r10_5 {fn : AFun} {K : List AItem} {t : Nat → AV} {H : AH} {T : Tbl} : runR T fn (.code (.reg d10_5) :: K) t H = regR T fn K (aops (callR T) [
  ⟨(some 20), none, (.val (.t 0))⟩,
  ⟨(some 21), none, (.val (.t 1))⟩,
  ⟨(some 22), none, (.call 27 [(.t 20), (.t 21)])⟩,
  ⟨(some 7), none, (.alloc [(.i .i64 0), (.i .i64 0), (.i .i64 0)])⟩,
  ⟨none, none, (.st 3 (.t 7) (.t 22))⟩] t H) := runR_reg'
def d10_6 : List AOper := [
  ⟨(some 23), none, (.fa 1 (.t 7))⟩,
  ⟨(some 24), none, (.ld none (.t 23))⟩,
  ⟨(some 25), none, (.bin .add (.t 24) (.c (.i .i64 1)))⟩,
  ⟨(some 26), none, (.mm false [(.t 25), (.c (.i .i64 2147483647))])⟩,
  ⟨(some 27), none, (.fa 1 (.t 7))⟩,
  ⟨none, none, (.st 1 (.t 27) (.t 26))⟩]
theorem r10_6 {fn : AFun} {K : List AItem} {t : Nat → AV} {H : AH} {T : Tbl} : runR T fn (.code (.reg d10_6) :: K) t H = regR T fn K (aops (callR T) [
  ⟨(some 23), none, (.fa 1 (.t 7))⟩,
  ⟨(some 24), none, (.ld none (.t 23))⟩,
  ⟨(some 25), none, (.bin .add (.t 24) (.c (.i .i64 1)))⟩,
  ⟨(some 26), none, (.mm false [(.t 25), (.c (.i .i64 2147483647))])⟩,
  ⟨(some 27), none, (.fa 1 (.t 7))⟩,
  ⟨none, none, (.st 1 (.t 27) (.t 26))⟩] t H) := runR_reg'
def d10_7 : List (AOper × List Nat) := [
  (⟨(some 28), none, (.fa 0 (.t 7))⟩, []),
  (⟨(some 29), none, (.ld none (.t 28))⟩, [1]),
  (⟨(some 30), none, (.val (.t 2))⟩, []),
  (⟨(some 31), none, (.val (.t 0))⟩, []),
  (⟨(some 32), none, (.nilc (.t 31))⟩, []),
  (⟨(some 33), none, (.fa 0 (.t 32))⟩, []),
  (⟨(some 34), none, (.fa 1 (.t 33))⟩, []),
  (⟨(some 35), none, (.ld none (.t 34))⟩, [1]),
  (⟨(some 36), none, (.mm false [(.t 30), (.t 35)])⟩, []),
  (⟨(some 37), none, (.mm true [(.t 29), (.t 36)])⟩, []),
  (⟨(some 38), none, (.val (.t 0))⟩, []),
  (⟨(some 39), none, (.nilc (.t 38))⟩, []),
  (⟨(some 40), none, (.fa 0 (.t 39))⟩, []),
  (⟨(some 41), none, (.fa 2 (.t 40))⟩, []),
  (⟨(some 42), none, (.ld none (.t 41))⟩, [1]),
  (⟨(some 43), none, (.bin .add (.t 37) (.t 42))⟩, []),
  (⟨(some 44), none, (.val (.t 0))⟩, []),
  (⟨(some 45), none, (.nilc (.t 44))⟩, []),
  (⟨(some 46), none, (.fa 0 (.t 45))⟩, []),
  (⟨(some 47), none, (.fa 1 (.t 46))⟩, []),
  (⟨(some 48), none, (.ld none (.t 47))⟩, [1]),
  (⟨(some 49), none, (.mm false [(.t 43), (.t 48)])⟩, []),
  (⟨(some 50), none, (.fa 0 (.t 7))⟩, []),
  (⟨none, none, (.st 1 (.t 50) (.t 49))⟩, [])]
theorem r10_7 {fn : AFun} {K : List AItem} {t : Nat → AV} {H : AH} {T : Tbl} : runR T fn (.code (.drw d10_7) :: K) t H = regR T fn K (aops (callR T) [
  ⟨(some 28), none, (.fa 0 (.t 7))⟩,
  ⟨(some 29), none, (.ld none (.t 28))⟩,
  ⟨(some 30), none, (.val (.t 2))⟩,
  ⟨(some 31), none, (.val (.t 0))⟩,
  ⟨(some 32), none, (.nilc (.t 31))⟩,
  ⟨(some 33), none, (.fa 0 (.t 32))⟩,
  ⟨(some 34), none, (.fa 1 (.t 33))⟩,
  ⟨(some 35), none, (.ld none (.t 34))⟩,
  ⟨(some 36), none, (.mm false [(.t 30), (.t 35)])⟩,
  ⟨(some 37), none, (.mm true [(.t 29), (.t 36)])⟩,
  ⟨(some 38), none, (.val (.t 0))⟩,
  ⟨(some 39), none, (.nilc (.t 38))⟩,
  ⟨(some 40), none, (.fa 0 (.t 39))⟩,
  ⟨(some 41), none, (.fa 2 (.t 40))⟩,
  ⟨(some 42), none, (.ld none (.t 41))⟩,
  ⟨(some 43), none, (.bin .add (.t 37) (.t 42))⟩,
  ⟨(some 44), none, (.val (.t 0))⟩,
  ⟨(some 45), none, (.nilc (.t 44))⟩,
  ⟨(some 46), none, (.fa 0 (.t 45))⟩,
  ⟨(some 47), none, (.fa 1 (.t 46))⟩,
  ⟨(some 48), none, (.ld none (.t 47))⟩,
  ⟨(some 49), none, (.mm false [(.t 43), (.t 48)])⟩,
  ⟨(some 50), none, (.fa 0 (.t 7))⟩,
  ⟨none, none, (.st 1 (.t 50) (.t 49))⟩] t H) := runR_plain rfl
def d10_8 : List AOper := [
  ⟨(some 51), none, (.val (.t 0))⟩,
  ⟨(some 52), none, (.val (.t 1))⟩,
  ⟨(some 53), none, (.ld (some 3) (.t 7))⟩,
  ⟨(some 54), none, (.call 28 [(.t 51), (.t 52), (.t 53)])⟩]
theorem r10_8 {fn : AFun} {K : List AItem} {t : Nat → AV} {H : AH} {T : Tbl} : runR T fn (.code (.reg d10_8) :: K) t H = regR T fn K (aops (callR T) [
  ⟨(some 51), none, (.val (.t 0))⟩,
  ⟨(some 52), none, (.val (.t 1))⟩,
  ⟨(some 53), none, (.ld (some 3) (.t 7))⟩,
  ⟨(some 54), none, (.call 28 [(.t 51), (.t 52), (.t 53)])⟩] t H) := runR_reg'
def d10_9 : List AOper := [
  ⟨(some 6), none, (.val (.c (.i .i64 0)))⟩]
theorem r10_9 {fn : AFun} {K : List AItem} {t : Nat → AV} {H : AH} {T : Tbl} : runR T fn (.code (.reg d10_9) :: K) t H = regR T fn K (aops (callR T) [
  ⟨(some 6), none, (.val (.c (.i .i64 0)))⟩] t H) := runR_reg'
def a10 : AFun := ⟨55, [(.tmp 6)], (.seq (.reg d10_0) (.seq (.block 0 (.seq (.reg d10_1) (.cond (.t 8) (.seq (.reg d10_2) .ret) (.seq (.reg d10_3) (.cond (.t 12) (.seq (.reg d10_4) .ret) .skip))))) (.seq (.reg d10_5) (.seq (.reg d10_6) (.seq (.drw d10_7) (.seq (.reg d10_8) (.seq (.reg d10_9) .ret)))))))⟩
theorem a10_ok : cfun Try.prog 10 = some a10 := by kernel_rfl
/-- (*futtock/adapt.Table).Spins -/
def d11_0 : List AOper := [
  ⟨(some 4), none, (.val (.c (.i .i64 0)))⟩]
theorem r11_0 {fn : AFun} {K : List AItem} {t : Nat → AV} {H : AH} {T : Tbl} : runR T fn (.code (.reg d11_0) :: K) t H = regR T fn K (aops (callR T) [
  ⟨(some 4), none, (.val (.c (.i .i64 0)))⟩] t H) := runR_reg'
def d11_1 : List AOper := [
  ⟨(some 5), none, (.val (.t 0))⟩,
  ⟨(some 6), none, (.call 25 [(.t 5)])⟩,
  ⟨(some 7), none, (.un .not (.t 6))⟩,
  ⟨(some 8), none, (.val (.t 7))⟩,
  ⟨(some 9), (some (8, false)), (.val (.t 1))⟩,
  ⟨(some 10), (some (8, false)), (.call 26 [(.t 9)])⟩,
  ⟨(some 11), (some (8, false)), (.un .not (.t 10))⟩,
  ⟨(some 12), none, (.pick (.t 8) (.c (.b true)) (.t 11))⟩]
theorem r11_1 {fn : AFun} {K : List AItem} {t : Nat → AV} {H : AH} {T : Tbl} : runR T fn (.code (.reg d11_1) :: K) t H = regR T fn K (aops (callR T) [
  ⟨(some 5), none, (.val (.t 0))⟩,
  ⟨(some 6), none, (.call 25 [(.t 5)])⟩,
  ⟨(some 7), none, (.un .not (.t 6))⟩,
  ⟨(some 8), none, (.val (.t 7))⟩,
  ⟨(some 9), (some (8, false)), (.val (.t 1))⟩,
  ⟨(some 10), (some (8, false)), (.call 26 [(.t 9)])⟩,
  ⟨(some 11), (some (8, false)), (.un .not (.t 10))⟩,
  ⟨(some 12), none, (.pick (.t 8) (.c (.b true)) (.t 11))⟩] t H) := runR_reg'
def d11_2 : List AOper := [
  ⟨(some 4), none, (.val (.c (.i .i64 0)))⟩]
theorem r11_2 {fn : AFun} {K : List AItem} {t : Nat → AV} {H : AH} {T : Tbl} : runR T fn (.code (.reg d11_2) :: K) t H = regR T fn K (aops (callR T) [
  ⟨(some 4), none, (.val (.c (.i .i64 0)))⟩] t H) := runR_reg'
def d11_3 : List AOper := [
  ⟨(some 13), none, (.val (.t 0))⟩,
  ⟨(some 14), none, (.val (.t 1))⟩,
  ⟨(some 15), none, (.call 27 [(.t 13), (.t 14)])⟩,
  ⟨(some 16), none, (.fd none 0 (.t 15))⟩,
  ⟨(some 4), none, (.val (.t 16))⟩]
theorem r11_3 {fn : AFun} {K : List AItem} {t : Nat → AV} {H : AH} {T : Tbl} : runR T fn (.code (.reg d11_3) :: K) t H = regR T fn K (aops (callR T) [
  ⟨(some 13), none, (.val (.t 0))⟩,
  ⟨(some 14), none, (.val (.t 1))⟩,
  ⟨(some 15), none, (.call 27 [(.t 13), (.t 14)])⟩,
  ⟨(some 16), none, (.fd none 0 (.t 15))⟩,
  ⟨(some 4), none, (.val (.t 16))⟩] t H) := runR_reg'
def a11 : AFun := ⟨17, [(.tmp 4)], (.seq (.reg d11_0) (.seq (.seq (.reg d11_1) (.cond (.t 12) (.seq (.reg d11_2) .ret) .skip)) (.seq (.reg d11_3) .ret)))⟩
theorem a11_ok : cfun Try.prog 11 = some a11 := by kernel_rfl
/-- (*futtock/adapt.Table).Failed -/
def d12_0 : List AOper := [
  ⟨(some 4), none, (.val (.c (.i .i64 0)))⟩]
theorem r12_0 {fn : AFun} {K : List AItem} {t : Nat → AV} {H : AH} {T : Tbl} : runR T fn (.code (.reg d12_0) :: K) t H = regR T fn K (aops (callR T) [
  ⟨(some 4), none, (.val (.c (.i .i64 0)))⟩] t H) := runR_reg'
def d12_1 : List AOper := [
  ⟨(some 7), none, (.val (.t 0))⟩,
  ⟨(some 8), none, (.call 25 [(.t 7)])⟩,
  ⟨(some 9), none, (.un .not (.t 8))⟩,
  ⟨(some 6), none, (.val (.t 9))⟩]
theorem r12_1 {fn : AFun} {K : List AItem} {t : Nat → AV} {H : AH} {T : Tbl} : runR T fn (.code (.reg d12_1) :: K) t H = regR T fn K (aops (callR T) [
  ⟨(some 7), none, (.val (.t 0))⟩,
  ⟨(some 8), none, (.call 25 [(.t 7)])⟩,
  ⟨(some 9), none, (.un .not (.t 8))⟩,
  ⟨(some 6), none, (.val (.t 9))⟩] t H) := runR_reg'
def d12_2 : List AOper := [
  ⟨(some 4), none, (.val (.c (.i .i64 2)))⟩]
theorem r12_2 {fn : AFun} {K : List AItem} {t : Nat → AV} {H : AH} {T : Tbl} : runR T fn (.code (.reg d12_2) :: K) t H = regR T fn K (aops (callR T) [
  ⟨(some 4), none, (.val (.c (.i .i64 2)))⟩] t H) := runR_reg'
def d12_3 : List AOper := [
  ⟨(some 11), none, (.val (.t 1))⟩,
  ⟨(some 12), none, (.call 26 [(.t 11)])⟩,
  ⟨(some 13), none, (.un .not (.t 12))⟩,
  ⟨(some 10), none, (.val (.t 13))⟩]
theorem r12_3 {fn : AFun} {K : List AItem} {t : Nat → AV} {H : AH} {T : Tbl} : runR T fn (.code (.reg d12_3) :: K) t H = regR T fn K (aops (callR T) [
  ⟨(some 11), none, (.val (.t 1))⟩,
  ⟨(some 12), none, (.call 26 [(.t 11)])⟩,
  ⟨(some 13), none, (.un .not (.t 12))⟩,
  ⟨(some 10), none, (.val (.t 13))⟩] t H) := runR_reg'
def d12_4 : List AOper := [
  ⟨(some 4), none, (.val (.c (.i .i64 1)))⟩]
theorem r12_4 {fn : AFun} {K : List AItem} {t : Nat → AV} {H : AH} {T : Tbl} : runR T fn (.code (.reg d12_4) :: K) t H = regR T fn K (aops (callR T) [
  ⟨(some 4), none, (.val (.c (.i .i64 1)))⟩] t H) := runR_reg'
def d12_5 : List AOper := [
  ⟨(some 14), none, (.val (.t 0))⟩,
  ⟨(some 15), none, (.val (.t 1))⟩,
  ⟨(some 16), none, (.call 27 [(.t 14), (.t 15)])⟩,
  ⟨(some 5), none, (.alloc [(.i .i64 0), (.i .i64 0), (.i .i64 0)])⟩,
  ⟨none, none, (.st 3 (.t 5) (.t 16))⟩]
theorem r12_5 {fn : AFun} {K : List AItem} {t : Nat → AV} {H : AH} {T : Tbl} : runR T fn (.code (.reg d12_5) :: K) t H = regR T fn K (aops (callR T) [
  ⟨(some 14), none, (.val (.t 0))⟩,
  ⟨(some 15), none, (.val (.t 1))⟩,
  ⟨(some 16), none, (.call 27 [(.t 14), (.t 15)])⟩,
  ⟨(some 5), none, (.alloc [(.i .i64 0), (.i .i64 0), (.i .i64 0)])⟩,
  ⟨none, none, (.st 3 (.t 5) (.t 16))⟩] t H) := runR_reg'
def d12_6 : List AOper := [
  ⟨(some 17), none, (.fa 2 (.t 5))⟩,
  ⟨(some 18), none, (.ld none (.t 17))⟩,
  ⟨(some 19), none, (.bin .add (.t 18) (.c (.i .i64 1)))⟩,
  ⟨(some 20), none, (.mm false [(.t 19), (.c (.i .i64 2147483647))])⟩,
  ⟨(some 21), none, (.fa 2 (.t 5))⟩,
  ⟨none, none, (.st 1 (.t 21) (.t 20))⟩]
theorem r12_6 {fn : AFun} {K : List AItem} {t : Nat → AV} {H : AH} {T : Tbl} : runR T fn (.code (.reg d12_6) :: K) t H = regR T fn K (aops (callR T) [
  ⟨(some 17), none, (.fa 2 (.t 5))⟩,
  ⟨(some 18), none, (.ld none (.t 17))⟩,
  ⟨(some 19), none, (.bin .add (.t 18) (.c (.i .i64 1)))⟩,
  ⟨(some 20), none, (.mm false [(.t 19), (.c (.i .i64 2147483647))])⟩,
  ⟨(some 21), none, (.fa 2 (.t 5))⟩,
  ⟨none, none, (.st 1 (.t 21) (.t 20))⟩] t H) := runR_reg'
def d12_7 : List (AOper × List Nat) := [
  (⟨(some 22), none, (.fa 0 (.t 5))⟩, []),
  (⟨(some 23), none, (.ld none (.t 22))⟩, [1]),
  (⟨(some 24), none, (.val (.t 0))⟩, []),
  (⟨(some 25), none, (.nilc (.t 24))⟩, []),
  (⟨(some 26), none, (.fa 0 (.t 25))⟩, []),
  (⟨(some 27), none, (.fa 3 (.t 26))⟩, []),
  (⟨(some 28), none, (.ld none (.t 27))⟩, [1]),
  (⟨(some 29), none, (.bin .sub (.t 23) (.t 28))⟩, []),
  (⟨(some 30), none, (.val (.t 0))⟩, []),
  (⟨(some 31), none, (.nilc (.t 30))⟩, []),
  (⟨(some 32), none, (.fa 0 (.t 31))⟩, []),
  (⟨(some 33), none, (.fa 0 (.t 32))⟩, []),
  (⟨(some 34), none, (.ld none (.t 33))⟩, [1]),
  (⟨(some 35), none, (.mm true [(.t 29), (.t 34)])⟩, []),
  (⟨(some 36), none, (.fa 0 (.t 5))⟩, []),
  (⟨none, none, (.st 1 (.t 36) (.t 35))⟩, [])]
theorem r12_7 {fn : AFun} {K : List AItem} {t : Nat → AV} {H : AH} {T : Tbl} : runR T fn (.code (.drw d12_7) :: K) t H = regR T fn K (aops (callR T) [
  ⟨(some 22), none, (.fa 0 (.t 5))⟩,
  ⟨(some 23), none, (.ld none (.t 22))⟩,
  ⟨(some 24), none, (.val (.t 0))⟩,
  ⟨(some 25), none, (.nilc (.t 24))⟩,
  ⟨(some 26), none, (.fa 0 (.t 25))⟩,
  ⟨(some 27), none, (.fa 3 (.t 26))⟩,
  ⟨(some 28), none, (.ld none (.t 27))⟩,
  ⟨(some 29), none, (.bin .sub (.t 23) (.t 28))⟩,
  ⟨(some 30), none, (.val (.t 0))⟩,
  ⟨(some 31), none, (.nilc (.t 30))⟩,
  ⟨(some 32), none, (.fa 0 (.t 31))⟩,
  ⟨(some 33), none, (.fa 0 (.t 32))⟩,
  ⟨(some 34), none, (.ld none (.t 33))⟩,
  ⟨(some 35), none, (.mm true [(.t 29), (.t 34)])⟩,
  ⟨(some 36), none, (.fa 0 (.t 5))⟩,
  ⟨none, none, (.st 1 (.t 36) (.t 35))⟩] t H) := runR_plain rfl
def d12_8 : List AOper := [
  ⟨(some 37), none, (.val (.t 0))⟩,
  ⟨(some 38), none, (.val (.t 1))⟩,
  ⟨(some 39), none, (.ld (some 3) (.t 5))⟩,
  ⟨(some 40), none, (.call 28 [(.t 37), (.t 38), (.t 39)])⟩]
theorem r12_8 {fn : AFun} {K : List AItem} {t : Nat → AV} {H : AH} {T : Tbl} : runR T fn (.code (.reg d12_8) :: K) t H = regR T fn K (aops (callR T) [
  ⟨(some 37), none, (.val (.t 0))⟩,
  ⟨(some 38), none, (.val (.t 1))⟩,
  ⟨(some 39), none, (.ld (some 3) (.t 5))⟩,
  ⟨(some 40), none, (.call 28 [(.t 37), (.t 38), (.t 39)])⟩] t H) := runR_reg'
def d12_9 : List AOper := [
  ⟨(some 4), none, (.val (.c (.i .i64 0)))⟩]
theorem r12_9 {fn : AFun} {K : List AItem} {t : Nat → AV} {H : AH} {T : Tbl} : runR T fn (.code (.reg d12_9) :: K) t H = regR T fn K (aops (callR T) [
  ⟨(some 4), none, (.val (.c (.i .i64 0)))⟩] t H) := runR_reg'
def a12 : AFun := ⟨41, [(.tmp 4)], (.seq (.reg d12_0) (.seq (.block 0 (.seq (.reg d12_1) (.cond (.t 6) (.seq (.reg d12_2) .ret) (.seq (.reg d12_3) (.cond (.t 10) (.seq (.reg d12_4) .ret) .skip))))) (.seq (.reg d12_5) (.seq (.reg d12_6) (.seq (.drw d12_7) (.seq (.reg d12_8) (.seq (.reg d12_9) .ret)))))))⟩
theorem a12_ok : cfun Try.prog 12 = some a12 := by kernel_rfl
/-- (*futtock/adapt.Table).Counts -/
def d13_0 : List AOper := [
  ⟨(some 4), none, (.val (.c (.i .i64 0)))⟩,
  ⟨(some 5), none, (.val (.c (.i .i64 0)))⟩]
theorem r13_0 {fn : AFun} {K : List AItem} {t : Nat → AV} {H : AH} {T : Tbl} : runR T fn (.code (.reg d13_0) :: K) t H = regR T fn K (aops (callR T) [
  ⟨(some 4), none, (.val (.c (.i .i64 0)))⟩,
  ⟨(some 5), none, (.val (.c (.i .i64 0)))⟩] t H) := runR_reg'
def d13_1 : List AOper := [
  ⟨(some 7), none, (.val (.t 0))⟩,
  ⟨(some 8), none, (.call 25 [(.t 7)])⟩,
  ⟨(some 9), none, (.un .not (.t 8))⟩]
theorem r13_1 {fn : AFun} {K : List AItem} {t : Nat → AV} {H : AH} {T : Tbl} : runR T fn (.code (.reg d13_1) :: K) t H = regR T fn K (aops (callR T) [
  ⟨(some 7), none, (.val (.t 0))⟩,
  ⟨(some 8), none, (.call 25 [(.t 7)])⟩,
  ⟨(some 9), none, (.un .not (.t 8))⟩] t H) := runR_reg'
def d13_2 : List AOper := [
  ⟨(some 4), none, (.val (.c (.i .i64 0)))⟩,
  ⟨(some 5), none, (.val (.c (.i .i64 0)))⟩]
theorem r13_2 {fn : AFun} {K : List AItem} {t : Nat → AV} {H : AH} {T : Tbl} : runR T fn (.code (.reg d13_2) :: K) t H = regR T fn K (aops (callR T) [
  ⟨(some 4), none, (.val (.c (.i .i64 0)))⟩,
  ⟨(some 5), none, (.val (.c (.i .i64 0)))⟩] t H) := runR_reg'
def d13_3 : List AOper := [
  ⟨(some 10), none, (.val (.t 0))⟩,
  ⟨(some 11), none, (.nilc (.t 10))⟩,
  ⟨(some 12), none, (.fa 4 (.t 11))⟩,
  ⟨(some 13), none, (.ld none (.t 12))⟩,
  ⟨(some 14), none, (.val (.t 1))⟩,
  ⟨(some 15), none, (.lk [0] (.agg [(.i .i64 0), (.i .i64 0), (.i .i64 0)]) (.t 13) (.t 14) false)⟩,
  ⟨(some 6), none, (.alloc [(.i .i64 0), (.i .i64 0), (.i .i64 0)])⟩,
  ⟨none, none, (.st 3 (.t 6) (.t 15))⟩]
theorem r13_3 {fn : AFun} {K : List AItem} {t : Nat → AV} {H : AH} {T : Tbl} : runR T fn (.code (.reg d13_3) :: K) t H = regR T fn K (aops (callR T) [
  ⟨(some 10), none, (.val (.t 0))⟩,
  ⟨(some 11), none, (.nilc (.t 10))⟩,
  ⟨(some 12), none, (.fa 4 (.t 11))⟩,
  ⟨(some 13), none, (.ld none (.t 12))⟩,
  ⟨(some 14), none, (.val (.t 1))⟩,
  ⟨(some 15), none, (.lk [0] (.agg [(.i .i64 0), (.i .i64 0), (.i .i64 0)]) (.t 13) (.t 14) false)⟩,
  ⟨(some 6), none, (.alloc [(.i .i64 0), (.i .i64 0), (.i .i64 0)])⟩,
  ⟨none, none, (.st 3 (.t 6) (.t 15))⟩] t H) := runR_reg'
def d13_4 : List (AOper × List Nat) := [
  (⟨(some 16), none, (.fa 1 (.t 6))⟩, []),
  (⟨(some 17), none, (.ld none (.t 16))⟩, [1]),
  (⟨(some 18), none, (.fa 2 (.t 6))⟩, []),
  (⟨(some 19), none, (.ld none (.t 18))⟩, [1]),
  (⟨(some 4), none, (.val (.t 17))⟩, []),
  (⟨(some 5), none, (.val (.t 19))⟩, [])]
theorem r13_4 {fn : AFun} {K : List AItem} {t : Nat → AV} {H : AH} {T : Tbl} : runR T fn (.code (.drw d13_4) :: K) t H = regR T fn K (aops (callR T) [
  ⟨(some 16), none, (.fa 1 (.t 6))⟩,
  ⟨(some 17), none, (.ld none (.t 16))⟩,
  ⟨(some 18), none, (.fa 2 (.t 6))⟩,
  ⟨(some 19), none, (.ld none (.t 18))⟩,
  ⟨(some 4), none, (.val (.t 17))⟩,
  ⟨(some 5), none, (.val (.t 19))⟩] t H) := runR_plain rfl
def a13 : AFun := ⟨20, [(.tmp 4), (.tmp 5)], (.seq (.reg d13_0) (.seq (.seq (.reg d13_1) (.cond (.t 9) (.seq (.reg d13_2) .ret) .skip)) (.seq (.reg d13_3) (.seq (.drw d13_4) .ret))))⟩
theorem a13_ok : cfun Try.prog 13 = some a13 := by kernel_rfl
/-- (*futtock/adapt.Table).Rate -/
def d14_0 : List AOper := [
  ⟨(some 4), none, (.val (.c (.i .i64 0)))⟩]
theorem r14_0 {fn : AFun} {K : List AItem} {t : Nat → AV} {H : AH} {T : Tbl} : runR T fn (.code (.reg d14_0) :: K) t H = regR T fn K (aops (callR T) [
  ⟨(some 4), none, (.val (.c (.i .i64 0)))⟩] t H) := runR_reg'
def d14_1 : List AOper := [
  ⟨(some 8), none, (.val (.t 0))⟩,
  ⟨(some 9), none, (.val (.t 1))⟩,
  ⟨(some 10), none, (.call 13 [(.t 8), (.t 9)])⟩,
  ⟨(some 7), none, (.val (.t 10))⟩,
  ⟨(some 11), none, (.ext (.t 7) 0)⟩,
  ⟨(some 12), none, (.ext (.t 7) 1)⟩,
  ⟨(some 5), none, (.val (.t 11))⟩,
  ⟨(some 6), none, (.val (.t 12))⟩]
theorem r14_1 {fn : AFun} {K : List AItem} {t : Nat → AV} {H : AH} {T : Tbl} : runR T fn (.code (.reg d14_1) :: K) t H = regR T fn K (aops (callR T) [
  ⟨(some 8), none, (.val (.t 0))⟩,
  ⟨(some 9), none, (.val (.t 1))⟩,
  ⟨(some 10), none, (.call 13 [(.t 8), (.t 9)])⟩,
  ⟨(some 7), none, (.val (.t 10))⟩,
  ⟨(some 11), none, (.ext (.t 7) 0)⟩,
  ⟨(some 12), none, (.ext (.t 7) 1)⟩,
  ⟨(some 5), none, (.val (.t 11))⟩,
  ⟨(some 6), none, (.val (.t 12))⟩] t H) := runR_reg'
def d14_2 : List AOper := [
  ⟨(some 13), none, (.val (.t 5))⟩,
  ⟨(some 14), none, (.val (.t 6))⟩,
  ⟨(some 15), none, (.bin .add (.t 13) (.t 14))⟩,
  ⟨(some 16), none, (.bin .eql (.t 15) (.c (.i .i64 0)))⟩]
theorem r14_2 {fn : AFun} {K : List AItem} {t : Nat → AV} {H : AH} {T : Tbl} : runR T fn (.code (.reg d14_2) :: K) t H = regR T fn K (aops (callR T) [
  ⟨(some 13), none, (.val (.t 5))⟩,
  ⟨(some 14), none, (.val (.t 6))⟩,
  ⟨(some 15), none, (.bin .add (.t 13) (.t 14))⟩,
  ⟨(some 16), none, (.bin .eql (.t 15) (.c (.i .i64 0)))⟩] t H) := runR_reg'
def d14_3 : List AOper := [
  ⟨(some 4), none, (.val (.c (.i .i64 0)))⟩]
theorem r14_3 {fn : AFun} {K : List AItem} {t : Nat → AV} {H : AH} {T : Tbl} : runR T fn (.code (.reg d14_3) :: K) t H = regR T fn K (aops (callR T) [
  ⟨(some 4), none, (.val (.c (.i .i64 0)))⟩] t H) := runR_reg'
def d14_4 : List AOper := [
  ⟨(some 17), none, (.val (.t 5))⟩,
  ⟨(some 18), none, (.bin .mul (.c (.i .i64 1000)) (.t 17))⟩,
  ⟨(some 19), none, (.val (.t 5))⟩,
  ⟨(some 20), none, (.val (.t 6))⟩,
  ⟨(some 21), none, (.bin .add (.t 19) (.t 20))⟩,
  ⟨(some 22), none, (.bin .quo (.t 18) (.t 21))⟩,
  ⟨(some 4), none, (.val (.t 22))⟩]
theorem r14_4 {fn : AFun} {K : List AItem} {t : Nat → AV} {H : AH} {T : Tbl} : runR T fn (.code (.reg d14_4) :: K) t H = regR T fn K (aops (callR T) [
  ⟨(some 17), none, (.val (.t 5))⟩,
  ⟨(some 18), none, (.bin .mul (.c (.i .i64 1000)) (.t 17))⟩,
  ⟨(some 19), none, (.val (.t 5))⟩,
  ⟨(some 20), none, (.val (.t 6))⟩,
  ⟨(some 21), none, (.bin .add (.t 19) (.t 20))⟩,
  ⟨(some 22), none, (.bin .quo (.t 18) (.t 21))⟩,
  ⟨(some 4), none, (.val (.t 22))⟩] t H) := runR_reg'
def a14 : AFun := ⟨23, [(.tmp 4)], (.seq (.reg d14_0) (.seq (.reg d14_1) (.seq (.seq (.reg d14_2) (.cond (.t 16) (.seq (.reg d14_3) .ret) .skip)) (.seq (.reg d14_4) .ret))))⟩
theorem a14_ok : cfun Try.prog 14 = some a14 := by kernel_rfl
/-- futtock/futtockref33.May -/
def d15_0 : List AOper := [
  ⟨(some 1), none, (.box (.t 0))⟩,
  ⟨(some 2), none, (.val (.c (.b false)))⟩]
theorem r15_0 {fn : AFun} {K : List AItem} {t : Nat → AV} {H : AH} {T : Tbl} : runR T fn (.code (.reg d15_0) :: K) t H = regR T fn K (aops (callR T) [
  ⟨(some 1), none, (.box (.t 0))⟩,
  ⟨(some 2), none, (.val (.c (.b false)))⟩] t H) := runR_reg'
def d15_1 : List AOper := [
  ⟨(some 3), none, (.fa 0 (.t 1))⟩,
  ⟨(some 4), none, (.ld none (.t 3))⟩,
  ⟨(some 5), none, (.bin .geq (.t 4) (.c (.i .i64 0)))⟩,
  ⟨(some 6), none, (.val (.t 5))⟩,
  ⟨(some 7), (some (6, true)), (.fa 0 (.t 1))⟩,
  ⟨(some 8), (some (6, true)), (.ld none (.t 7))⟩,
  ⟨(some 9), (some (6, true)), (.fa 1 (.t 1))⟩,
  ⟨(some 10), (some (6, true)), (.ld none (.t 9))⟩,
  ⟨(some 11), (some (6, true)), (.bin .leq (.t 8) (.t 10))⟩,
  ⟨(some 12), none, (.pick (.t 6) (.t 11) (.c (.b false)))⟩,
  ⟨(some 13), none, (.val (.t 12))⟩,
  ⟨(some 14), (some (13, true)), (.fa 1 (.t 1))⟩,
  ⟨(some 15), (some (13, true)), (.ld none (.t 14))⟩,
  ⟨(some 16), (some (13, true)), (.bin .leq (.t 15) (.c (.i .i64 1000)))⟩,
  ⟨(some 17), none, (.pick (.t 13) (.t 16) (.c (.b false)))⟩,
  ⟨(some 18), none, (.val (.t 17))⟩,
  ⟨(some 19), (some (18, true)), (.fa 2 (.t 1))⟩,
  ⟨(some 20), (some (18, true)), (.ld none (.t 19))⟩,
  ⟨(some 21), (some (18, true)), (.bin .geq (.t 20) (.c (.i .i64 1)))⟩,
  ⟨(some 22), none, (.pick (.t 18) (.t 21) (.c (.b false)))⟩,
  ⟨(some 23), none, (.val (.t 22))⟩,
  ⟨(some 24), (some (23, true)), (.fa 2 (.t 1))⟩,
  ⟨(some 25), (some (23, true)), (.ld none (.t 24))⟩,
  ⟨(some 26), (some (23, true)), (.bin .leq (.t 25) (.c (.i .i64 1000)))⟩,
  ⟨(some 27), none, (.pick (.t 23) (.t 26) (.c (.b false)))⟩,
  ⟨(some 28), none, (.val (.t 27))⟩,
  ⟨(some 29), (some (28, true)), (.fa 3 (.t 1))⟩,
  ⟨(some 30), (some (28, true)), (.ld none (.t 29))⟩,
  ⟨(some 31), (some (28, true)), (.bin .geq (.t 30) (.c (.i .i64 1)))⟩,
  ⟨(some 32), none, (.pick (.t 28) (.t 31) (.c (.b false)))⟩,
  ⟨(some 33), none, (.val (.t 32))⟩,
  ⟨(some 34), (some (33, true)), (.fa 3 (.t 1))⟩,
  ⟨(some 35), (some (33, true)), (.ld none (.t 34))⟩,
  ⟨(some 36), (some (33, true)), (.bin .leq (.t 35) (.c (.i .i64 1000)))⟩,
  ⟨(some 37), none, (.pick (.t 33) (.t 36) (.c (.b false)))⟩,
  ⟨(some 2), none, (.val (.t 37))⟩]
theorem r15_1 {fn : AFun} {K : List AItem} {t : Nat → AV} {H : AH} {T : Tbl} : runR T fn (.code (.reg d15_1) :: K) t H = regR T fn K (aops (callR T) [
  ⟨(some 3), none, (.fa 0 (.t 1))⟩,
  ⟨(some 4), none, (.ld none (.t 3))⟩,
  ⟨(some 5), none, (.bin .geq (.t 4) (.c (.i .i64 0)))⟩,
  ⟨(some 6), none, (.val (.t 5))⟩,
  ⟨(some 7), (some (6, true)), (.fa 0 (.t 1))⟩,
  ⟨(some 8), (some (6, true)), (.ld none (.t 7))⟩,
  ⟨(some 9), (some (6, true)), (.fa 1 (.t 1))⟩,
  ⟨(some 10), (some (6, true)), (.ld none (.t 9))⟩,
  ⟨(some 11), (some (6, true)), (.bin .leq (.t 8) (.t 10))⟩,
  ⟨(some 12), none, (.pick (.t 6) (.t 11) (.c (.b false)))⟩,
  ⟨(some 13), none, (.val (.t 12))⟩,
  ⟨(some 14), (some (13, true)), (.fa 1 (.t 1))⟩,
  ⟨(some 15), (some (13, true)), (.ld none (.t 14))⟩,
  ⟨(some 16), (some (13, true)), (.bin .leq (.t 15) (.c (.i .i64 1000)))⟩,
  ⟨(some 17), none, (.pick (.t 13) (.t 16) (.c (.b false)))⟩,
  ⟨(some 18), none, (.val (.t 17))⟩,
  ⟨(some 19), (some (18, true)), (.fa 2 (.t 1))⟩,
  ⟨(some 20), (some (18, true)), (.ld none (.t 19))⟩,
  ⟨(some 21), (some (18, true)), (.bin .geq (.t 20) (.c (.i .i64 1)))⟩,
  ⟨(some 22), none, (.pick (.t 18) (.t 21) (.c (.b false)))⟩,
  ⟨(some 23), none, (.val (.t 22))⟩,
  ⟨(some 24), (some (23, true)), (.fa 2 (.t 1))⟩,
  ⟨(some 25), (some (23, true)), (.ld none (.t 24))⟩,
  ⟨(some 26), (some (23, true)), (.bin .leq (.t 25) (.c (.i .i64 1000)))⟩,
  ⟨(some 27), none, (.pick (.t 23) (.t 26) (.c (.b false)))⟩,
  ⟨(some 28), none, (.val (.t 27))⟩,
  ⟨(some 29), (some (28, true)), (.fa 3 (.t 1))⟩,
  ⟨(some 30), (some (28, true)), (.ld none (.t 29))⟩,
  ⟨(some 31), (some (28, true)), (.bin .geq (.t 30) (.c (.i .i64 1)))⟩,
  ⟨(some 32), none, (.pick (.t 28) (.t 31) (.c (.b false)))⟩,
  ⟨(some 33), none, (.val (.t 32))⟩,
  ⟨(some 34), (some (33, true)), (.fa 3 (.t 1))⟩,
  ⟨(some 35), (some (33, true)), (.ld none (.t 34))⟩,
  ⟨(some 36), (some (33, true)), (.bin .leq (.t 35) (.c (.i .i64 1000)))⟩,
  ⟨(some 37), none, (.pick (.t 33) (.t 36) (.c (.b false)))⟩,
  ⟨(some 2), none, (.val (.t 37))⟩] t H) := runR_reg'
def a15 : AFun := ⟨38, [(.tmp 2)], (.seq (.reg d15_0) (.seq (.reg d15_1) .ret))⟩
theorem a15_ok : cfun Try.prog 15 = some a15 := by kernel_rfl
/-- futtock/futtocklaw33.short -/
def d16_0 : List AOper := [
  ⟨(some 2), none, (.val (.c (.sl none 0 0 true 0)))⟩]
theorem r16_0 {fn : AFun} {K : List AItem} {t : Nat → AV} {H : AH} {T : Tbl} : runR T fn (.code (.reg d16_0) :: K) t H = regR T fn K (aops (callR T) [
  ⟨(some 2), none, (.val (.c (.sl none 0 0 true 0)))⟩] t H) := runR_reg'
def d16_1 : List AOper := [
  ⟨(some 3), none, (.val (.t 0))⟩,
  ⟨(some 4), none, (.val (.t 0))⟩,
  ⟨(some 5), none, (.len (.t 4))⟩,
  ⟨(some 6), none, (.mm false [(.t 5), (.c (.i .i64 400))])⟩,
  ⟨(some 7), none, (.sls 3 (.t 3) none (some (.t 6)) none)⟩,
  ⟨(some 2), none, (.val (.t 7))⟩]
theorem r16_1 {fn : AFun} {K : List AItem} {t : Nat → AV} {H : AH} {T : Tbl} : runR T fn (.code (.reg d16_1) :: K) t H = regR T fn K (aops (callR T) [
  ⟨(some 3), none, (.val (.t 0))⟩,
  ⟨(some 4), none, (.val (.t 0))⟩,
  ⟨(some 5), none, (.len (.t 4))⟩,
  ⟨(some 6), none, (.mm false [(.t 5), (.c (.i .i64 400))])⟩,
  ⟨(some 7), none, (.sls 3 (.t 3) none (some (.t 6)) none)⟩,
  ⟨(some 2), none, (.val (.t 7))⟩] t H) := runR_reg'
def a16 : AFun := ⟨8, [(.tmp 2)], (.seq (.reg d16_0) (.seq (.reg d16_1) .ret))⟩
theorem a16_ok : cfun Try.prog 16 = some a16 := by kernel_rfl
/-- (*futtock/futtockref33.Table).Helped -/
def d17_0 : List AOper := [
  ⟨(some 6), none, (.val (.c (.i .i64 0)))⟩]
theorem r17_0 {fn : AFun} {K : List AItem} {t : Nat → AV} {H : AH} {T : Tbl} : runR T fn (.code (.reg d17_0) :: K) t H = regR T fn K (aops (callR T) [
  ⟨(some 6), none, (.val (.c (.i .i64 0)))⟩] t H) := runR_reg'
def d17_1 : List AOper := [
  ⟨(some 9), none, (.val (.t 1))⟩,
  ⟨(some 10), none, (.call 29 [(.t 9)])⟩,
  ⟨(some 11), none, (.un .not (.t 10))⟩,
  ⟨(some 12), none, (.val (.t 11))⟩,
  ⟨(some 13), (some (12, false)), (.val (.t 2))⟩,
  ⟨(some 14), (some (12, false)), (.bin .lss (.t 13) (.c (.i .i64 0)))⟩,
  ⟨(some 15), none, (.pick (.t 12) (.c (.b true)) (.t 14))⟩]
theorem r17_1 {fn : AFun} {K : List AItem} {t : Nat → AV} {H : AH} {T : Tbl} : runR T fn (.code (.reg d17_1) :: K) t H = regR T fn K (aops (callR T) [
  ⟨(some 9), none, (.val (.t 1))⟩,
  ⟨(some 10), none, (.call 29 [(.t 9)])⟩,
  ⟨(some 11), none, (.un .not (.t 10))⟩,
  ⟨(some 12), none, (.val (.t 11))⟩,
  ⟨(some 13), (some (12, false)), (.val (.t 2))⟩,
  ⟨(some 14), (some (12, false)), (.bin .lss (.t 13) (.c (.i .i64 0)))⟩,
  ⟨(some 15), none, (.pick (.t 12) (.c (.b true)) (.t 14))⟩] t H) := runR_reg'
def d17_2 : List AOper := [
  ⟨(some 6), none, (.val (.c (.i .i64 1)))⟩]
theorem r17_2 {fn : AFun} {K : List AItem} {t : Nat → AV} {H : AH} {T : Tbl} : runR T fn (.code (.reg d17_2) :: K) t H = regR T fn K (aops (callR T) [
  ⟨(some 6), none, (.val (.c (.i .i64 1)))⟩] t H) := runR_reg'
def d17_3 : List AOper := [
  ⟨(some 17), none, (.val (.t 0))⟩,
  ⟨(some 18), none, (.val (.t 1))⟩,
  ⟨(some 19), none, (.call 19 [(.t 17), (.t 18)])⟩,
  ⟨(some 16), none, (.val (.t 19))⟩,
  ⟨(some 20), none, (.ext (.t 16) 0)⟩,
  ⟨(some 21), none, (.ext (.t 16) 1)⟩,
  ⟨(some 7), none, (.alloc [(.i .i64 0), (.i .i64 0), (.i .i64 0), (.i .i64 0)])⟩,
  ⟨none, none, (.st 4 (.t 7) (.t 20))⟩,
  ⟨(some 8), none, (.val (.t 21))⟩]
theorem r17_3 {fn : AFun} {K : List AItem} {t : Nat → AV} {H : AH} {T : Tbl} : runR T fn (.code (.reg d17_3) :: K) t H = regR T fn K (aops (callR T) [
  ⟨(some 17), none, (.val (.t 0))⟩,
  ⟨(some 18), none, (.val (.t 1))⟩,
  ⟨(some 19), none, (.call 19 [(.t 17), (.t 18)])⟩,
  ⟨(some 16), none, (.val (.t 19))⟩,
  ⟨(some 20), none, (.ext (.t 16) 0)⟩,
  ⟨(some 21), none, (.ext (.t 16) 1)⟩,
  ⟨(some 7), none, (.alloc [(.i .i64 0), (.i .i64 0), (.i .i64 0), (.i .i64 0)])⟩,
  ⟨none, none, (.st 4 (.t 7) (.t 20))⟩,
  ⟨(some 8), none, (.val (.t 21))⟩] t H) := runR_reg'
def d17_4 : List AOper := [
  ⟨(some 22), none, (.fa 2 (.t 7))⟩,
  ⟨(some 23), none, (.ld none (.t 22))⟩,
  ⟨(some 24), none, (.bin .add (.t 23) (.c (.i .i64 1)))⟩,
  ⟨(some 25), none, (.mm false [(.t 24), (.c (.i .i64 2147483647))])⟩,
  ⟨(some 26), none, (.fa 2 (.t 7))⟩,
  ⟨none, none, (.st 1 (.t 26) (.t 25))⟩]
theorem r17_4 {fn : AFun} {K : List AItem} {t : Nat → AV} {H : AH} {T : Tbl} : runR T fn (.code (.reg d17_4) :: K) t H = regR T fn K (aops (callR T) [
  ⟨(some 22), none, (.fa 2 (.t 7))⟩,
  ⟨(some 23), none, (.ld none (.t 22))⟩,
  ⟨(some 24), none, (.bin .add (.t 23) (.c (.i .i64 1)))⟩,
  ⟨(some 25), none, (.mm false [(.t 24), (.c (.i .i64 2147483647))])⟩,
  ⟨(some 26), none, (.fa 2 (.t 7))⟩,
  ⟨none, none, (.st 1 (.t 26) (.t 25))⟩] t H) := runR_reg'
def d17_5 : List (AOper × List Nat) := [
  (⟨(some 27), none, (.fa 1 (.t 7))⟩, []),
  (⟨(some 28), none, (.ld none (.t 27))⟩, [1]),
  (⟨(some 29), none, (.val (.t 2))⟩, []),
  (⟨(some 30), none, (.val (.t 0))⟩, []),
  (⟨(some 31), none, (.nilc (.t 30))⟩, []),
  (⟨(some 32), none, (.fa 0 (.t 31))⟩, []),
  (⟨(some 33), none, (.fa 1 (.t 32))⟩, []),
  (⟨(some 34), none, (.ld none (.t 33))⟩, [1]),
  (⟨(some 35), none, (.mm false [(.t 29), (.t 34)])⟩, []),
  (⟨(some 36), none, (.mm true [(.t 28), (.t 35)])⟩, []),
  (⟨(some 37), none, (.val (.t 0))⟩, []),
  (⟨(some 38), none, (.nilc (.t 37))⟩, []),
  (⟨(some 39), none, (.fa 0 (.t 38))⟩, []),
  (⟨(some 40), none, (.fa 2 (.t 39))⟩, []),
  (⟨(some 41), none, (.ld none (.t 40))⟩, [1]),
  (⟨(some 42), none, (.bin .add (.t 36) (.t 41))⟩, []),
  (⟨(some 43), none, (.val (.t 0))⟩, []),
  (⟨(some 44), none, (.nilc (.t 43))⟩, []),
  (⟨(some 45), none, (.fa 0 (.t 44))⟩, []),
  (⟨(some 46), none, (.fa 1 (.t 45))⟩, []),
  (⟨(some 47), none, (.ld none (.t 46))⟩, [1]),
  (⟨(some 48), none, (.mm false [(.t 42), (.t 47)])⟩, []),
  (⟨(some 49), none, (.fa 1 (.t 7))⟩, []),
  (⟨none, none, (.st 1 (.t 49) (.t 48))⟩, [])]
theorem r17_5 {fn : AFun} {K : List AItem} {t : Nat → AV} {H : AH} {T : Tbl} : runR T fn (.code (.drw d17_5) :: K) t H = regR T fn K (aops (callR T) [
  ⟨(some 27), none, (.fa 1 (.t 7))⟩,
  ⟨(some 28), none, (.ld none (.t 27))⟩,
  ⟨(some 29), none, (.val (.t 2))⟩,
  ⟨(some 30), none, (.val (.t 0))⟩,
  ⟨(some 31), none, (.nilc (.t 30))⟩,
  ⟨(some 32), none, (.fa 0 (.t 31))⟩,
  ⟨(some 33), none, (.fa 1 (.t 32))⟩,
  ⟨(some 34), none, (.ld none (.t 33))⟩,
  ⟨(some 35), none, (.mm false [(.t 29), (.t 34)])⟩,
  ⟨(some 36), none, (.mm true [(.t 28), (.t 35)])⟩,
  ⟨(some 37), none, (.val (.t 0))⟩,
  ⟨(some 38), none, (.nilc (.t 37))⟩,
  ⟨(some 39), none, (.fa 0 (.t 38))⟩,
  ⟨(some 40), none, (.fa 2 (.t 39))⟩,
  ⟨(some 41), none, (.ld none (.t 40))⟩,
  ⟨(some 42), none, (.bin .add (.t 36) (.t 41))⟩,
  ⟨(some 43), none, (.val (.t 0))⟩,
  ⟨(some 44), none, (.nilc (.t 43))⟩,
  ⟨(some 45), none, (.fa 0 (.t 44))⟩,
  ⟨(some 46), none, (.fa 1 (.t 45))⟩,
  ⟨(some 47), none, (.ld none (.t 46))⟩,
  ⟨(some 48), none, (.mm false [(.t 42), (.t 47)])⟩,
  ⟨(some 49), none, (.fa 1 (.t 7))⟩,
  ⟨none, none, (.st 1 (.t 49) (.t 48))⟩] t H) := runR_plain rfl
def d17_6 : List AOper := [
  ⟨(some 50), none, (.val (.t 0))⟩,
  ⟨(some 51), none, (.ld (some 4) (.t 7))⟩,
  ⟨(some 52), none, (.call 30 [(.t 50), (.t 51)])⟩]
theorem r17_6 {fn : AFun} {K : List AItem} {t : Nat → AV} {H : AH} {T : Tbl} : runR T fn (.code (.reg d17_6) :: K) t H = regR T fn K (aops (callR T) [
  ⟨(some 50), none, (.val (.t 0))⟩,
  ⟨(some 51), none, (.ld (some 4) (.t 7))⟩,
  ⟨(some 52), none, (.call 30 [(.t 50), (.t 51)])⟩] t H) := runR_reg'
def d17_7 : List AOper := [
  ⟨(some 6), none, (.val (.c (.i .i64 0)))⟩]
theorem r17_7 {fn : AFun} {K : List AItem} {t : Nat → AV} {H : AH} {T : Tbl} : runR T fn (.code (.reg d17_7) :: K) t H = regR T fn K (aops (callR T) [
  ⟨(some 6), none, (.val (.c (.i .i64 0)))⟩] t H) := runR_reg'
def a17 : AFun := ⟨53, [(.tmp 6)], (.seq (.reg d17_0) (.seq (.seq (.reg d17_1) (.cond (.t 15) (.seq (.reg d17_2) .ret) .skip)) (.seq (.reg d17_3) (.seq (.reg d17_4) (.seq (.drw d17_5) (.seq (.reg d17_6) (.seq (.reg d17_7) .ret)))))))⟩
theorem a17_ok : cfun Try.prog 17 = some a17 := by kernel_rfl
/-- (*futtock/futtockref33.Table).Failed -/
def d18_0 : List AOper := [
  ⟨(some 4), none, (.val (.c (.i .i64 0)))⟩]
theorem r18_0 {fn : AFun} {K : List AItem} {t : Nat → AV} {H : AH} {T : Tbl} : runR T fn (.code (.reg d18_0) :: K) t H = regR T fn K (aops (callR T) [
  ⟨(some 4), none, (.val (.c (.i .i64 0)))⟩] t H) := runR_reg'
def d18_1 : List AOper := [
  ⟨(some 7), none, (.val (.t 1))⟩,
  ⟨(some 8), none, (.call 29 [(.t 7)])⟩,
  ⟨(some 9), none, (.un .not (.t 8))⟩]
theorem r18_1 {fn : AFun} {K : List AItem} {t : Nat → AV} {H : AH} {T : Tbl} : runR T fn (.code (.reg d18_1) :: K) t H = regR T fn K (aops (callR T) [
  ⟨(some 7), none, (.val (.t 1))⟩,
  ⟨(some 8), none, (.call 29 [(.t 7)])⟩,
  ⟨(some 9), none, (.un .not (.t 8))⟩] t H) := runR_reg'
def d18_2 : List AOper := [
  ⟨(some 4), none, (.val (.c (.i .i64 1)))⟩]
theorem r18_2 {fn : AFun} {K : List AItem} {t : Nat → AV} {H : AH} {T : Tbl} : runR T fn (.code (.reg d18_2) :: K) t H = regR T fn K (aops (callR T) [
  ⟨(some 4), none, (.val (.c (.i .i64 1)))⟩] t H) := runR_reg'
def d18_3 : List AOper := [
  ⟨(some 11), none, (.val (.t 0))⟩,
  ⟨(some 12), none, (.val (.t 1))⟩,
  ⟨(some 13), none, (.call 19 [(.t 11), (.t 12)])⟩,
  ⟨(some 10), none, (.val (.t 13))⟩,
  ⟨(some 14), none, (.ext (.t 10) 0)⟩,
  ⟨(some 15), none, (.ext (.t 10) 1)⟩,
  ⟨(some 5), none, (.alloc [(.i .i64 0), (.i .i64 0), (.i .i64 0), (.i .i64 0)])⟩,
  ⟨none, none, (.st 4 (.t 5) (.t 14))⟩,
  ⟨(some 6), none, (.val (.t 15))⟩]
theorem r18_3 {fn : AFun} {K : List AItem} {t : Nat → AV} {H : AH} {T : Tbl} : runR T fn (.code (.reg d18_3) :: K) t H = regR T fn K (aops (callR T) [
  ⟨(some 11), none, (.val (.t 0))⟩,
  ⟨(some 12), none, (.val (.t 1))⟩,
  ⟨(some 13), none, (.call 19 [(.t 11), (.t 12)])⟩,
  ⟨(some 10), none, (.val (.t 13))⟩,
  ⟨(some 14), none, (.ext (.t 10) 0)⟩,
  ⟨(some 15), none, (.ext (.t 10) 1)⟩,
  ⟨(some 5), none, (.alloc [(.i .i64 0), (.i .i64 0), (.i .i64 0), (.i .i64 0)])⟩,
  ⟨none, none, (.st 4 (.t 5) (.t 14))⟩,
  ⟨(some 6), none, (.val (.t 15))⟩] t H) := runR_reg'
def d18_4 : List AOper := [
  ⟨(some 16), none, (.fa 3 (.t 5))⟩,
  ⟨(some 17), none, (.ld none (.t 16))⟩,
  ⟨(some 18), none, (.bin .add (.t 17) (.c (.i .i64 1)))⟩,
  ⟨(some 19), none, (.mm false [(.t 18), (.c (.i .i64 2147483647))])⟩,
  ⟨(some 20), none, (.fa 3 (.t 5))⟩,
  ⟨none, none, (.st 1 (.t 20) (.t 19))⟩]
theorem r18_4 {fn : AFun} {K : List AItem} {t : Nat → AV} {H : AH} {T : Tbl} : runR T fn (.code (.reg d18_4) :: K) t H = regR T fn K (aops (callR T) [
  ⟨(some 16), none, (.fa 3 (.t 5))⟩,
  ⟨(some 17), none, (.ld none (.t 16))⟩,
  ⟨(some 18), none, (.bin .add (.t 17) (.c (.i .i64 1)))⟩,
  ⟨(some 19), none, (.mm false [(.t 18), (.c (.i .i64 2147483647))])⟩,
  ⟨(some 20), none, (.fa 3 (.t 5))⟩,
  ⟨none, none, (.st 1 (.t 20) (.t 19))⟩] t H) := runR_reg'
def d18_5 : List (AOper × List Nat) := [
  (⟨(some 21), none, (.fa 1 (.t 5))⟩, []),
  (⟨(some 22), none, (.ld none (.t 21))⟩, [1]),
  (⟨(some 23), none, (.val (.t 0))⟩, []),
  (⟨(some 24), none, (.nilc (.t 23))⟩, []),
  (⟨(some 25), none, (.fa 0 (.t 24))⟩, []),
  (⟨(some 26), none, (.fa 3 (.t 25))⟩, []),
  (⟨(some 27), none, (.ld none (.t 26))⟩, [1]),
  (⟨(some 28), none, (.bin .sub (.t 22) (.t 27))⟩, []),
  (⟨(some 29), none, (.val (.t 0))⟩, []),
  (⟨(some 30), none, (.nilc (.t 29))⟩, []),
  (⟨(some 31), none, (.fa 0 (.t 30))⟩, []),
  (⟨(some 32), none, (.fa 0 (.t 31))⟩, []),
  (⟨(some 33), none, (.ld none (.t 32))⟩, [1]),
  (⟨(some 34), none, (.mm true [(.t 28), (.t 33)])⟩, []),
  (⟨(some 35), none, (.fa 1 (.t 5))⟩, []),
  (⟨none, none, (.st 1 (.t 35) (.t 34))⟩, [])]
theorem r18_5 {fn : AFun} {K : List AItem} {t : Nat → AV} {H : AH} {T : Tbl} : runR T fn (.code (.drw d18_5) :: K) t H = regR T fn K (aops (callR T) [
  ⟨(some 21), none, (.fa 1 (.t 5))⟩,
  ⟨(some 22), none, (.ld none (.t 21))⟩,
  ⟨(some 23), none, (.val (.t 0))⟩,
  ⟨(some 24), none, (.nilc (.t 23))⟩,
  ⟨(some 25), none, (.fa 0 (.t 24))⟩,
  ⟨(some 26), none, (.fa 3 (.t 25))⟩,
  ⟨(some 27), none, (.ld none (.t 26))⟩,
  ⟨(some 28), none, (.bin .sub (.t 22) (.t 27))⟩,
  ⟨(some 29), none, (.val (.t 0))⟩,
  ⟨(some 30), none, (.nilc (.t 29))⟩,
  ⟨(some 31), none, (.fa 0 (.t 30))⟩,
  ⟨(some 32), none, (.fa 0 (.t 31))⟩,
  ⟨(some 33), none, (.ld none (.t 32))⟩,
  ⟨(some 34), none, (.mm true [(.t 28), (.t 33)])⟩,
  ⟨(some 35), none, (.fa 1 (.t 5))⟩,
  ⟨none, none, (.st 1 (.t 35) (.t 34))⟩] t H) := runR_plain rfl
def d18_6 : List AOper := [
  ⟨(some 36), none, (.val (.t 0))⟩,
  ⟨(some 37), none, (.ld (some 4) (.t 5))⟩,
  ⟨(some 38), none, (.call 30 [(.t 36), (.t 37)])⟩]
theorem r18_6 {fn : AFun} {K : List AItem} {t : Nat → AV} {H : AH} {T : Tbl} : runR T fn (.code (.reg d18_6) :: K) t H = regR T fn K (aops (callR T) [
  ⟨(some 36), none, (.val (.t 0))⟩,
  ⟨(some 37), none, (.ld (some 4) (.t 5))⟩,
  ⟨(some 38), none, (.call 30 [(.t 36), (.t 37)])⟩] t H) := runR_reg'
def d18_7 : List AOper := [
  ⟨(some 4), none, (.val (.c (.i .i64 0)))⟩]
theorem r18_7 {fn : AFun} {K : List AItem} {t : Nat → AV} {H : AH} {T : Tbl} : runR T fn (.code (.reg d18_7) :: K) t H = regR T fn K (aops (callR T) [
  ⟨(some 4), none, (.val (.c (.i .i64 0)))⟩] t H) := runR_reg'
def a18 : AFun := ⟨39, [(.tmp 4)], (.seq (.reg d18_0) (.seq (.seq (.reg d18_1) (.cond (.t 9) (.seq (.reg d18_2) .ret) .skip)) (.seq (.reg d18_3) (.seq (.reg d18_4) (.seq (.drw d18_5) (.seq (.reg d18_6) (.seq (.reg d18_7) .ret)))))))⟩
theorem a18_ok : cfun Try.prog 18 = some a18 := by kernel_rfl
/-- (*futtock/futtockref33.Table).Get -/
def d19_0 : List AOper := [
  ⟨(some 4), none, (.alloc [(.i .i64 0), (.i .i64 0), (.i .i64 0), (.i .i64 0)])⟩,
  ⟨(some 5), none, (.val (.c (.b false)))⟩]
theorem r19_0 {fn : AFun} {K : List AItem} {t : Nat → AV} {H : AH} {T : Tbl} : runR T fn (.code (.reg d19_0) :: K) t H = regR T fn K (aops (callR T) [
  ⟨(some 4), none, (.alloc [(.i .i64 0), (.i .i64 0), (.i .i64 0), (.i .i64 0)])⟩,
  ⟨(some 5), none, (.val (.c (.b false)))⟩] t H) := runR_reg'
def d19_1 : List AOper := [
  ⟨(some 6), none, (.val (.c (.i .i64 0)))⟩]
theorem r19_1 {fn : AFun} {K : List AItem} {t : Nat → AV} {H : AH} {T : Tbl} : runR T fn (.code (.reg d19_1) :: K) t H = regR T fn K (aops (callR T) [
  ⟨(some 6), none, (.val (.c (.i .i64 0)))⟩] t H) := runR_reg'
def d19_2 : List AOper := [
  ⟨(some 7), none, (.val (.t 6))⟩,
  ⟨(some 8), none, (.val (.t 0))⟩,
  ⟨(some 9), none, (.nilc (.t 8))⟩,
  ⟨(some 10), none, (.fa 4 (.t 9))⟩,
  ⟨(some 11), none, (.ld none (.t 10))⟩,
  ⟨(some 12), none, (.len (.t 11))⟩,
  ⟨(some 13), none, (.bin .lss (.t 7) (.t 12))⟩]
theorem r19_2 {fn : AFun} {K : List AItem} {t : Nat → AV} {H : AH} {T : Tbl} : runR T fn (.code (.reg d19_2) :: K) t H = regR T fn K (aops (callR T) [
  ⟨(some 7), none, (.val (.t 6))⟩,
  ⟨(some 8), none, (.val (.t 0))⟩,
  ⟨(some 9), none, (.nilc (.t 8))⟩,
  ⟨(some 10), none, (.fa 4 (.t 9))⟩,
  ⟨(some 11), none, (.ld none (.t 10))⟩,
  ⟨(some 12), none, (.len (.t 11))⟩,
  ⟨(some 13), none, (.bin .lss (.t 7) (.t 12))⟩] t H) := runR_reg'
def d19_3 : List AOper := [
  ⟨(some 16), none, (.val (.t 0))⟩,
  ⟨(some 17), none, (.nilc (.t 16))⟩,
  ⟨(some 18), none, (.fa 4 (.t 17))⟩,
  ⟨(some 19), none, (.ld none (.t 18))⟩,
  ⟨(some 20), none, (.val (.t 6))⟩,
  ⟨(some 21), none, (.ia 4 (.t 19) (.t 20))⟩,
  ⟨(some 22), none, (.fa 0 (.t 21))⟩,
  ⟨(some 23), none, (.ld none (.t 22))⟩,
  ⟨(some 24), none, (.val (.t 1))⟩,
  ⟨(some 25), none, (.bin .eql (.t 23) (.t 24))⟩]
theorem r19_3 {fn : AFun} {K : List AItem} {t : Nat → AV} {H : AH} {T : Tbl} : runR T fn (.code (.reg d19_3) :: K) t H = regR T fn K (aops (callR T) [
  ⟨(some 16), none, (.val (.t 0))⟩,
  ⟨(some 17), none, (.nilc (.t 16))⟩,
  ⟨(some 18), none, (.fa 4 (.t 17))⟩,
  ⟨(some 19), none, (.ld none (.t 18))⟩,
  ⟨(some 20), none, (.val (.t 6))⟩,
  ⟨(some 21), none, (.ia 4 (.t 19) (.t 20))⟩,
  ⟨(some 22), none, (.fa 0 (.t 21))⟩,
  ⟨(some 23), none, (.ld none (.t 22))⟩,
  ⟨(some 24), none, (.val (.t 1))⟩,
  ⟨(some 25), none, (.bin .eql (.t 23) (.t 24))⟩] t H) := runR_reg'
def d19_4 : List AOper := [
  ⟨(some 26), none, (.val (.t 0))⟩,
  ⟨(some 27), none, (.nilc (.t 26))⟩,
  ⟨(some 28), none, (.fa 4 (.t 27))⟩,
  ⟨(some 29), none, (.ld none (.t 28))⟩,
  ⟨(some 30), none, (.val (.t 6))⟩,
  ⟨(some 31), none, (.ia 4 (.t 29) (.t 30))⟩,
  ⟨(some 32), none, (.ld (some 4) (.t 31))⟩,
  ⟨none, none, (.st 4 (.t 4) (.t 32))⟩,
  ⟨(some 5), none, (.val (.c (.b true)))⟩]
theorem r19_4 {fn : AFun} {K : List AItem} {t : Nat → AV} {H : AH} {T : Tbl} : runR T fn (.code (.reg d19_4) :: K) t H = regR T fn K (aops (callR T) [
  ⟨(some 26), none, (.val (.t 0))⟩,
  ⟨(some 27), none, (.nilc (.t 26))⟩,
  ⟨(some 28), none, (.fa 4 (.t 27))⟩,
  ⟨(some 29), none, (.ld none (.t 28))⟩,
  ⟨(some 30), none, (.val (.t 6))⟩,
  ⟨(some 31), none, (.ia 4 (.t 29) (.t 30))⟩,
  ⟨(some 32), none, (.ld (some 4) (.t 31))⟩,
  ⟨none, none, (.st 4 (.t 4) (.t 32))⟩,
  ⟨(some 5), none, (.val (.c (.b true)))⟩] t H) := runR_reg'
def d19_5 : List AOper := [
  ⟨(some 14), none, (.val (.t 6))⟩,
  ⟨(some 15), none, (.bin .add (.t 14) (.c (.i .i64 1)))⟩,
  ⟨(some 6), none, (.val (.t 15))⟩]
theorem r19_5 {fn : AFun} {K : List AItem} {t : Nat → AV} {H : AH} {T : Tbl} : runR T fn (.code (.reg d19_5) :: K) t H = regR T fn K (aops (callR T) [
  ⟨(some 14), none, (.val (.t 6))⟩,
  ⟨(some 15), none, (.bin .add (.t 14) (.c (.i .i64 1)))⟩,
  ⟨(some 6), none, (.val (.t 15))⟩] t H) := runR_reg'
def l19_6 : ACode := (.seq (.seq (.reg d19_2) (.cond (.t 13) .skip (.exit 0))) (.seq (.block 1 (.seq (.reg d19_3) (.cond (.t 25) (.seq (.reg d19_4) .ret) .skip))) (.reg d19_5)))
def d19_7 : List AOper := [
  ⟨(some 33), none, (.val (.t 1))⟩,
  ⟨(some 34), none, (.val (.t 0))⟩,
  ⟨(some 35), none, (.nilc (.t 34))⟩,
  ⟨(some 36), none, (.fa 0 (.t 35))⟩,
  ⟨(some 37), none, (.fa 0 (.t 36))⟩,
  ⟨(some 38), none, (.ld none (.t 37))⟩,
  ⟨(some 39), none, (.build [(.i .i64 0), (.i .i64 0), (.i .i64 0), (.i .i64 0)] [(0, 1, (.t 33)), (1, 1, (.t 38))])⟩,
  ⟨none, none, (.st 4 (.t 4) (.t 39))⟩,
  ⟨(some 5), none, (.val (.c (.b false)))⟩]
theorem r19_7 {fn : AFun} {K : List AItem} {t : Nat → AV} {H : AH} {T : Tbl} : runR T fn (.code (.reg d19_7) :: K) t H = regR T fn K (aops (callR T) [
  ⟨(some 33), none, (.val (.t 1))⟩,
  ⟨(some 34), none, (.val (.t 0))⟩,
  ⟨(some 35), none, (.nilc (.t 34))⟩,
  ⟨(some 36), none, (.fa 0 (.t 35))⟩,
  ⟨(some 37), none, (.fa 0 (.t 36))⟩,
  ⟨(some 38), none, (.ld none (.t 37))⟩,
  ⟨(some 39), none, (.build [(.i .i64 0), (.i .i64 0), (.i .i64 0), (.i .i64 0)] [(0, 1, (.t 33)), (1, 1, (.t 38))])⟩,
  ⟨none, none, (.st 4 (.t 4) (.t 39))⟩,
  ⟨(some 5), none, (.val (.c (.b false)))⟩] t H) := runR_reg'
def a19 : AFun := ⟨40, [(.cell 4 (some 4)), (.tmp 5)], (.seq (.reg d19_0) (.seq (.seq (.reg d19_1) (.block 0 (.loop l19_6))) (.seq (.reg d19_7) .ret)))⟩
theorem a19_ok : cfun Try.prog 19 = some a19 := by kernel_rfl
/-- (*futtock/adapt.Table).Objects -/
def d20_0 : List AOper := [
  ⟨(some 2), none, (.val (.c (.sl none 0 0 true 0)))⟩]
theorem r20_0 {fn : AFun} {K : List AItem} {t : Nat → AV} {H : AH} {T : Tbl} : runR T fn (.code (.reg d20_0) :: K) t H = regR T fn K (aops (callR T) [
  ⟨(some 2), none, (.val (.c (.sl none 0 0 true 0)))⟩] t H) := runR_reg'
def d20_1 : List AOper := [
  ⟨(some 3), none, (.val (.t 0))⟩,
  ⟨(some 4), none, (.call 25 [(.t 3)])⟩,
  ⟨(some 5), none, (.un .not (.t 4))⟩]
theorem r20_1 {fn : AFun} {K : List AItem} {t : Nat → AV} {H : AH} {T : Tbl} : runR T fn (.code (.reg d20_1) :: K) t H = regR T fn K (aops (callR T) [
  ⟨(some 3), none, (.val (.t 0))⟩,
  ⟨(some 4), none, (.call 25 [(.t 3)])⟩,
  ⟨(some 5), none, (.un .not (.t 4))⟩] t H) := runR_reg'
def d20_2 : List AOper := [
  ⟨(some 2), none, (.val (.c (.sl none 0 0 true 0)))⟩]
theorem r20_2 {fn : AFun} {K : List AItem} {t : Nat → AV} {H : AH} {T : Tbl} : runR T fn (.code (.reg d20_2) :: K) t H = regR T fn K (aops (callR T) [
  ⟨(some 2), none, (.val (.c (.sl none 0 0 true 0)))⟩] t H) := runR_reg'
def d20_3 : List AOper := [
  ⟨(some 6), none, (.val (.t 0))⟩,
  ⟨(some 7), none, (.nilc (.t 6))⟩,
  ⟨(some 8), none, (.fa 5 (.t 7))⟩,
  ⟨(some 9), none, (.ld none (.t 8))⟩,
  ⟨(some 10), none, (.call 31 [(.t 9)])⟩,
  ⟨(some 2), none, (.val (.t 10))⟩]
theorem r20_3 {fn : AFun} {K : List AItem} {t : Nat → AV} {H : AH} {T : Tbl} : runR T fn (.code (.reg d20_3) :: K) t H = regR T fn K (aops (callR T) [
  ⟨(some 6), none, (.val (.t 0))⟩,
  ⟨(some 7), none, (.nilc (.t 6))⟩,
  ⟨(some 8), none, (.fa 5 (.t 7))⟩,
  ⟨(some 9), none, (.ld none (.t 8))⟩,
  ⟨(some 10), none, (.call 31 [(.t 9)])⟩,
  ⟨(some 2), none, (.val (.t 10))⟩] t H) := runR_reg'
def a20 : AFun := ⟨11, [(.tmp 2)], (.seq (.reg d20_0) (.seq (.seq (.reg d20_1) (.cond (.t 5) (.seq (.reg d20_2) .ret) .skip)) (.seq (.reg d20_3) .ret)))⟩
theorem a20_ok : cfun Try.prog 20 = some a20 := by kernel_rfl
/-- (*futtock/futtockref33.Table).Spins -/
def d21_0 : List AOper := [
  ⟨(some 4), none, (.val (.c (.i .i64 0)))⟩]
theorem r21_0 {fn : AFun} {K : List AItem} {t : Nat → AV} {H : AH} {T : Tbl} : runR T fn (.code (.reg d21_0) :: K) t H = regR T fn K (aops (callR T) [
  ⟨(some 4), none, (.val (.c (.i .i64 0)))⟩] t H) := runR_reg'
def d21_1 : List AOper := [
  ⟨(some 7), none, (.val (.t 1))⟩,
  ⟨(some 8), none, (.call 29 [(.t 7)])⟩,
  ⟨(some 9), none, (.un .not (.t 8))⟩]
theorem r21_1 {fn : AFun} {K : List AItem} {t : Nat → AV} {H : AH} {T : Tbl} : runR T fn (.code (.reg d21_1) :: K) t H = regR T fn K (aops (callR T) [
  ⟨(some 7), none, (.val (.t 1))⟩,
  ⟨(some 8), none, (.call 29 [(.t 7)])⟩,
  ⟨(some 9), none, (.un .not (.t 8))⟩] t H) := runR_reg'
def d21_2 : List AOper := [
  ⟨(some 4), none, (.val (.c (.i .i64 0)))⟩]
theorem r21_2 {fn : AFun} {K : List AItem} {t : Nat → AV} {H : AH} {T : Tbl} : runR T fn (.code (.reg d21_2) :: K) t H = regR T fn K (aops (callR T) [
  ⟨(some 4), none, (.val (.c (.i .i64 0)))⟩] t H) := runR_reg'
def d21_3 : List AOper := [
  ⟨(some 11), none, (.val (.t 0))⟩,
  ⟨(some 12), none, (.val (.t 1))⟩,
  ⟨(some 13), none, (.call 19 [(.t 11), (.t 12)])⟩,
  ⟨(some 10), none, (.val (.t 13))⟩,
  ⟨(some 14), none, (.ext (.t 10) 0)⟩,
  ⟨(some 15), none, (.ext (.t 10) 1)⟩,
  ⟨(some 5), none, (.alloc [(.i .i64 0), (.i .i64 0), (.i .i64 0), (.i .i64 0)])⟩,
  ⟨none, none, (.st 4 (.t 5) (.t 14))⟩,
  ⟨(some 6), none, (.val (.t 15))⟩]
theorem r21_3 {fn : AFun} {K : List AItem} {t : Nat → AV} {H : AH} {T : Tbl} : runR T fn (.code (.reg d21_3) :: K) t H = regR T fn K (aops (callR T) [
  ⟨(some 11), none, (.val (.t 0))⟩,
  ⟨(some 12), none, (.val (.t 1))⟩,
  ⟨(some 13), none, (.call 19 [(.t 11), (.t 12)])⟩,
  ⟨(some 10), none, (.val (.t 13))⟩,
  ⟨(some 14), none, (.ext (.t 10) 0)⟩,
  ⟨(some 15), none, (.ext (.t 10) 1)⟩,
  ⟨(some 5), none, (.alloc [(.i .i64 0), (.i .i64 0), (.i .i64 0), (.i .i64 0)])⟩,
  ⟨none, none, (.st 4 (.t 5) (.t 14))⟩,
  ⟨(some 6), none, (.val (.t 15))⟩] t H) := runR_reg'
def d21_4 : List AOper := [
  ⟨(some 16), none, (.fa 1 (.t 5))⟩,
  ⟨(some 17), none, (.ld none (.t 16))⟩,
  ⟨(some 4), none, (.val (.t 17))⟩]
theorem r21_4 {fn : AFun} {K : List AItem} {t : Nat → AV} {H : AH} {T : Tbl} : runR T fn (.code (.reg d21_4) :: K) t H = regR T fn K (aops (callR T) [
  ⟨(some 16), none, (.fa 1 (.t 5))⟩,
  ⟨(some 17), none, (.ld none (.t 16))⟩,
  ⟨(some 4), none, (.val (.t 17))⟩] t H) := runR_reg'
def a21 : AFun := ⟨18, [(.tmp 4)], (.seq (.reg d21_0) (.seq (.seq (.reg d21_1) (.cond (.t 9) (.seq (.reg d21_2) .ret) .skip)) (.seq (.reg d21_3) (.seq (.reg d21_4) .ret))))⟩
theorem a21_ok : cfun Try.prog 21 = some a21 := by kernel_rfl
/-- (*futtock/futtockref33.Table).Rate -/
def d22_0 : List AOper := [
  ⟨(some 4), none, (.val (.c (.i .i64 0)))⟩]
theorem r22_0 {fn : AFun} {K : List AItem} {t : Nat → AV} {H : AH} {T : Tbl} : runR T fn (.code (.reg d22_0) :: K) t H = regR T fn K (aops (callR T) [
  ⟨(some 4), none, (.val (.c (.i .i64 0)))⟩] t H) := runR_reg'
def d22_1 : List AOper := [
  ⟨(some 8), none, (.val (.t 0))⟩,
  ⟨(some 9), none, (.val (.t 1))⟩,
  ⟨(some 10), none, (.call 19 [(.t 8), (.t 9)])⟩,
  ⟨(some 7), none, (.val (.t 10))⟩,
  ⟨(some 11), none, (.ext (.t 7) 0)⟩,
  ⟨(some 12), none, (.ext (.t 7) 1)⟩,
  ⟨(some 5), none, (.alloc [(.i .i64 0), (.i .i64 0), (.i .i64 0), (.i .i64 0)])⟩,
  ⟨none, none, (.st 4 (.t 5) (.t 11))⟩,
  ⟨(some 6), none, (.val (.t 12))⟩]
theorem r22_1 {fn : AFun} {K : List AItem} {t : Nat → AV} {H : AH} {T : Tbl} : runR T fn (.code (.reg d22_1) :: K) t H = regR T fn K (aops (callR T) [
  ⟨(some 8), none, (.val (.t 0))⟩,
  ⟨(some 9), none, (.val (.t 1))⟩,
  ⟨(some 10), none, (.call 19 [(.t 8), (.t 9)])⟩,
  ⟨(some 7), none, (.val (.t 10))⟩,
  ⟨(some 11), none, (.ext (.t 7) 0)⟩,
  ⟨(some 12), none, (.ext (.t 7) 1)⟩,
  ⟨(some 5), none, (.alloc [(.i .i64 0), (.i .i64 0), (.i .i64 0), (.i .i64 0)])⟩,
  ⟨none, none, (.st 4 (.t 5) (.t 11))⟩,
  ⟨(some 6), none, (.val (.t 12))⟩] t H) := runR_reg'
def d22_2 : List AOper := [
  ⟨(some 13), none, (.fa 2 (.t 5))⟩,
  ⟨(some 14), none, (.ld none (.t 13))⟩,
  ⟨(some 15), none, (.fa 3 (.t 5))⟩,
  ⟨(some 16), none, (.ld none (.t 15))⟩,
  ⟨(some 17), none, (.bin .add (.t 14) (.t 16))⟩,
  ⟨(some 18), none, (.bin .eql (.t 17) (.c (.i .i64 0)))⟩]
theorem r22_2 {fn : AFun} {K : List AItem} {t : Nat → AV} {H : AH} {T : Tbl} : runR T fn (.code (.reg d22_2) :: K) t H = regR T fn K (aops (callR T) [
  ⟨(some 13), none, (.fa 2 (.t 5))⟩,
  ⟨(some 14), none, (.ld none (.t 13))⟩,
  ⟨(some 15), none, (.fa 3 (.t 5))⟩,
  ⟨(some 16), none, (.ld none (.t 15))⟩,
  ⟨(some 17), none, (.bin .add (.t 14) (.t 16))⟩,
  ⟨(some 18), none, (.bin .eql (.t 17) (.c (.i .i64 0)))⟩] t H) := runR_reg'
def d22_3 : List AOper := [
  ⟨(some 4), none, (.val (.c (.i .i64 0)))⟩]
theorem r22_3 {fn : AFun} {K : List AItem} {t : Nat → AV} {H : AH} {T : Tbl} : runR T fn (.code (.reg d22_3) :: K) t H = regR T fn K (aops (callR T) [
  ⟨(some 4), none, (.val (.c (.i .i64 0)))⟩] t H) := runR_reg'
def d22_4 : List AOper := [
  ⟨(some 19), none, (.fa 2 (.t 5))⟩,
  ⟨(some 20), none, (.ld none (.t 19))⟩,
  ⟨(some 21), none, (.bin .mul (.c (.i .i64 1000)) (.t 20))⟩,
  ⟨(some 22), none, (.fa 2 (.t 5))⟩,
  ⟨(some 23), none, (.ld none (.t 22))⟩,
  ⟨(some 24), none, (.fa 3 (.t 5))⟩,
  ⟨(some 25), none, (.ld none (.t 24))⟩,
  ⟨(some 26), none, (.bin .add (.t 23) (.t 25))⟩,
  ⟨(some 27), none, (.bin .quo (.t 21) (.t 26))⟩,
  ⟨(some 4), none, (.val (.t 27))⟩]
theorem r22_4 {fn : AFun} {K : List AItem} {t : Nat → AV} {H : AH} {T : Tbl} : runR T fn (.code (.reg d22_4) :: K) t H = regR T fn K (aops (callR T) [
  ⟨(some 19), none, (.fa 2 (.t 5))⟩,
  ⟨(some 20), none, (.ld none (.t 19))⟩,
  ⟨(some 21), none, (.bin .mul (.c (.i .i64 1000)) (.t 20))⟩,
  ⟨(some 22), none, (.fa 2 (.t 5))⟩,
  ⟨(some 23), none, (.ld none (.t 22))⟩,
  ⟨(some 24), none, (.fa 3 (.t 5))⟩,
  ⟨(some 25), none, (.ld none (.t 24))⟩,
  ⟨(some 26), none, (.bin .add (.t 23) (.t 25))⟩,
  ⟨(some 27), none, (.bin .quo (.t 21) (.t 26))⟩,
  ⟨(some 4), none, (.val (.t 27))⟩] t H) := runR_reg'
def a22 : AFun := ⟨28, [(.tmp 4)], (.seq (.reg d22_0) (.seq (.reg d22_1) (.seq (.seq (.reg d22_2) (.cond (.t 18) (.seq (.reg d22_3) .ret) .skip)) (.seq (.reg d22_4) .ret))))⟩
theorem a22_ok : cfun Try.prog 22 = some a22 := by kernel_rfl
/-- (*futtock/adapt.Table).Len -/
def d23_0 : List AOper := [
  ⟨(some 2), none, (.val (.c (.i .i64 0)))⟩]
theorem r23_0 {fn : AFun} {K : List AItem} {t : Nat → AV} {H : AH} {T : Tbl} : runR T fn (.code (.reg d23_0) :: K) t H = regR T fn K (aops (callR T) [
  ⟨(some 2), none, (.val (.c (.i .i64 0)))⟩] t H) := runR_reg'
def d23_1 : List AOper := [
  ⟨(some 3), none, (.val (.t 0))⟩,
  ⟨(some 4), none, (.call 20 [(.t 3)])⟩,
  ⟨(some 5), none, (.len (.t 4))⟩,
  ⟨(some 2), none, (.val (.t 5))⟩]
theorem r23_1 {fn : AFun} {K : List AItem} {t : Nat → AV} {H : AH} {T : Tbl} : runR T fn (.code (.reg d23_1) :: K) t H = regR T fn K (aops (callR T) [
  ⟨(some 3), none, (.val (.t 0))⟩,
  ⟨(some 4), none, (.call 20 [(.t 3)])⟩,
  ⟨(some 5), none, (.len (.t 4))⟩,
  ⟨(some 2), none, (.val (.t 5))⟩] t H) := runR_reg'
def a23 : AFun := ⟨6, [(.tmp 2)], (.seq (.reg d23_0) (.seq (.reg d23_1) .ret))⟩
theorem a23_ok : cfun Try.prog 23 = some a23 := by kernel_rfl
/-- futtock/adapt.in -/
def d24_0 : List AOper := [
  ⟨(some 6), none, (.val (.c (.b false)))⟩]
theorem r24_0 {fn : AFun} {K : List AItem} {t : Nat → AV} {H : AH} {T : Tbl} : runR T fn (.code (.reg d24_0) :: K) t H = regR T fn K (aops (callR T) [
  ⟨(some 6), none, (.val (.c (.b false)))⟩] t H) := runR_reg'
def d24_1 : List AOper := [
  ⟨(some 7), none, (.val (.t 1))⟩,
  ⟨(some 8), none, (.val (.t 0))⟩,
  ⟨(some 9), none, (.bin .leq (.t 7) (.t 8))⟩,
  ⟨(some 10), none, (.val (.t 9))⟩,
  ⟨(some 11), (some (10, true)), (.val (.t 0))⟩,
  ⟨(some 12), (some (10, true)), (.val (.t 2))⟩,
  ⟨(some 13), (some (10, true)), (.bin .leq (.t 11) (.t 12))⟩,
  ⟨(some 14), none, (.pick (.t 10) (.t 13) (.c (.b false)))⟩,
  ⟨(some 6), none, (.val (.t 14))⟩]
theorem r24_1 {fn : AFun} {K : List AItem} {t : Nat → AV} {H : AH} {T : Tbl} : runR T fn (.code (.reg d24_1) :: K) t H = regR T fn K (aops (callR T) [
  ⟨(some 7), none, (.val (.t 1))⟩,
  ⟨(some 8), none, (.val (.t 0))⟩,
  ⟨(some 9), none, (.bin .leq (.t 7) (.t 8))⟩,
  ⟨(some 10), none, (.val (.t 9))⟩,
  ⟨(some 11), (some (10, true)), (.val (.t 0))⟩,
  ⟨(some 12), (some (10, true)), (.val (.t 2))⟩,
  ⟨(some 13), (some (10, true)), (.bin .leq (.t 11) (.t 12))⟩,
  ⟨(some 14), none, (.pick (.t 10) (.t 13) (.c (.b false)))⟩,
  ⟨(some 6), none, (.val (.t 14))⟩] t H) := runR_reg'
def a24 : AFun := ⟨15, [(.tmp 6)], (.seq (.reg d24_0) (.seq (.reg d24_1) .ret))⟩
theorem a24_ok : cfun Try.prog 24 = some a24 := by kernel_rfl
/-- (*futtock/adapt.Table).ok -/
def d25_0 : List AOper := [
  ⟨(some 2), none, (.val (.c (.b false)))⟩]
theorem r25_0 {fn : AFun} {K : List AItem} {t : Nat → AV} {H : AH} {T : Tbl} : runR T fn (.code (.reg d25_0) :: K) t H = regR T fn K (aops (callR T) [
  ⟨(some 2), none, (.val (.c (.b false)))⟩] t H) := runR_reg'
def d25_1 : List AOper := [
  ⟨(some 3), none, (.val (.t 0))⟩,
  ⟨(some 4), none, (.eqn 0 true (.t 3) (.c (.p none)))⟩,
  ⟨(some 5), none, (.val (.t 4))⟩,
  ⟨(some 6), (some (5, true)), (.val (.t 0))⟩,
  ⟨(some 7), (some (5, true)), (.nilc (.t 6))⟩,
  ⟨(some 8), (some (5, true)), (.fa 4 (.t 7))⟩,
  ⟨(some 9), (some (5, true)), (.ld none (.t 8))⟩,
  ⟨(some 10), (some (5, true)), (.eqn 2 true (.t 9) (.c (.mp none)))⟩,
  ⟨(some 11), none, (.pick (.t 5) (.t 10) (.c (.b false)))⟩,
  ⟨(some 2), none, (.val (.t 11))⟩]
theorem r25_1 {fn : AFun} {K : List AItem} {t : Nat → AV} {H : AH} {T : Tbl} : runR T fn (.code (.reg d25_1) :: K) t H = regR T fn K (aops (callR T) [
  ⟨(some 3), none, (.val (.t 0))⟩,
  ⟨(some 4), none, (.eqn 0 true (.t 3) (.c (.p none)))⟩,
  ⟨(some 5), none, (.val (.t 4))⟩,
  ⟨(some 6), (some (5, true)), (.val (.t 0))⟩,
  ⟨(some 7), (some (5, true)), (.nilc (.t 6))⟩,
  ⟨(some 8), (some (5, true)), (.fa 4 (.t 7))⟩,
  ⟨(some 9), (some (5, true)), (.ld none (.t 8))⟩,
  ⟨(some 10), (some (5, true)), (.eqn 2 true (.t 9) (.c (.mp none)))⟩,
  ⟨(some 11), none, (.pick (.t 5) (.t 10) (.c (.b false)))⟩,
  ⟨(some 2), none, (.val (.t 11))⟩] t H) := runR_reg'
def a25 : AFun := ⟨12, [(.tmp 2)], (.seq (.reg d25_0) (.seq (.reg d25_1) .ret))⟩
theorem a25_ok : cfun Try.prog 25 = some a25 := by kernel_rfl
/-- futtock/adapt.isObject -/
def d26_0 : List AOper := [
  ⟨(some 2), none, (.val (.c (.b false)))⟩]
theorem r26_0 {fn : AFun} {K : List AItem} {t : Nat → AV} {H : AH} {T : Tbl} : runR T fn (.code (.reg d26_0) :: K) t H = regR T fn K (aops (callR T) [
  ⟨(some 2), none, (.val (.c (.b false)))⟩] t H) := runR_reg'
def d26_1 : List AOper := [
  ⟨(some 3), none, (.val (.t 0))⟩,
  ⟨(some 4), none, (.call 24 [(.t 3), (.c (.i .i64 0)), (.c (.i .i64 65535))])⟩,
  ⟨(some 2), none, (.val (.t 4))⟩]
theorem r26_1 {fn : AFun} {K : List AItem} {t : Nat → AV} {H : AH} {T : Tbl} : runR T fn (.code (.reg d26_1) :: K) t H = regR T fn K (aops (callR T) [
  ⟨(some 3), none, (.val (.t 0))⟩,
  ⟨(some 4), none, (.call 24 [(.t 3), (.c (.i .i64 0)), (.c (.i .i64 65535))])⟩,
  ⟨(some 2), none, (.val (.t 4))⟩] t H) := runR_reg'
def a26 : AFun := ⟨5, [(.tmp 2)], (.seq (.reg d26_0) (.seq (.reg d26_1) .ret))⟩
theorem a26_ok : cfun Try.prog 26 = some a26 := by kernel_rfl
/-- (*futtock/adapt.Table).find -/
def d27_0 : List AOper := [
  ⟨(some 4), none, (.alloc [(.i .i64 0), (.i .i64 0), (.i .i64 0)])⟩]
theorem r27_0 {fn : AFun} {K : List AItem} {t : Nat → AV} {H : AH} {T : Tbl} : runR T fn (.code (.reg d27_0) :: K) t H = regR T fn K (aops (callR T) [
  ⟨(some 4), none, (.alloc [(.i .i64 0), (.i .i64 0), (.i .i64 0)])⟩] t H) := runR_reg'
def d27_1 : List AOper := [
  ⟨(some 8), none, (.val (.t 0))⟩,
  ⟨(some 9), none, (.nilc (.t 8))⟩,
  ⟨(some 10), none, (.fa 4 (.t 9))⟩,
  ⟨(some 11), none, (.ld none (.t 10))⟩,
  ⟨(some 12), none, (.val (.t 1))⟩,
  ⟨(some 13), none, (.lk [0] (.agg [(.i .i64 0), (.i .i64 0), (.i .i64 0)]) (.t 11) (.t 12) true)⟩,
  ⟨(some 7), none, (.val (.t 13))⟩,
  ⟨(some 14), none, (.ext (.t 7) 0)⟩,
  ⟨(some 15), none, (.ext (.t 7) 1)⟩,
  ⟨(some 5), none, (.alloc [(.i .i64 0), (.i .i64 0), (.i .i64 0)])⟩,
  ⟨none, none, (.st 3 (.t 5) (.t 14))⟩,
  ⟨(some 6), none, (.val (.t 15))⟩]
theorem r27_1 {fn : AFun} {K : List AItem} {t : Nat → AV} {H : AH} {T : Tbl} : runR T fn (.code (.reg d27_1) :: K) t H = regR T fn K (aops (callR T) [
  ⟨(some 8), none, (.val (.t 0))⟩,
  ⟨(some 9), none, (.nilc (.t 8))⟩,
  ⟨(some 10), none, (.fa 4 (.t 9))⟩,
  ⟨(some 11), none, (.ld none (.t 10))⟩,
  ⟨(some 12), none, (.val (.t 1))⟩,
  ⟨(some 13), none, (.lk [0] (.agg [(.i .i64 0), (.i .i64 0), (.i .i64 0)]) (.t 11) (.t 12) true)⟩,
  ⟨(some 7), none, (.val (.t 13))⟩,
  ⟨(some 14), none, (.ext (.t 7) 0)⟩,
  ⟨(some 15), none, (.ext (.t 7) 1)⟩,
  ⟨(some 5), none, (.alloc [(.i .i64 0), (.i .i64 0), (.i .i64 0)])⟩,
  ⟨none, none, (.st 3 (.t 5) (.t 14))⟩,
  ⟨(some 6), none, (.val (.t 15))⟩] t H) := runR_reg'
def d27_2 : List AOper := [
  ⟨(some 16), none, (.val (.t 6))⟩]
theorem r27_2 {fn : AFun} {K : List AItem} {t : Nat → AV} {H : AH} {T : Tbl} : runR T fn (.code (.reg d27_2) :: K) t H = regR T fn K (aops (callR T) [
  ⟨(some 16), none, (.val (.t 6))⟩] t H) := runR_reg'
def d27_3 : List AOper := [
  ⟨(some 17), none, (.ld (some 3) (.t 5))⟩,
  ⟨none, none, (.st 3 (.t 4) (.t 17))⟩]
theorem r27_3 {fn : AFun} {K : List AItem} {t : Nat → AV} {H : AH} {T : Tbl} : runR T fn (.code (.reg d27_3) :: K) t H = regR T fn K (aops (callR T) [
  ⟨(some 17), none, (.ld (some 3) (.t 5))⟩,
  ⟨none, none, (.st 3 (.t 4) (.t 17))⟩] t H) := runR_reg'
def d27_4 : List AOper := [
  ⟨(some 18), none, (.val (.t 0))⟩,
  ⟨(some 19), none, (.nilc (.t 18))⟩,
  ⟨(some 20), none, (.fa 0 (.t 19))⟩,
  ⟨(some 21), none, (.fa 0 (.t 20))⟩,
  ⟨(some 22), none, (.ld none (.t 21))⟩,
  ⟨(some 23), none, (.build [(.i .i64 0), (.i .i64 0), (.i .i64 0)] [(0, 1, (.t 22))])⟩,
  ⟨none, none, (.st 3 (.t 4) (.t 23))⟩]
theorem r27_4 {fn : AFun} {K : List AItem} {t : Nat → AV} {H : AH} {T : Tbl} : runR T fn (.code (.reg d27_4) :: K) t H = regR T fn K (aops (callR T) [
  ⟨(some 18), none, (.val (.t 0))⟩,
  ⟨(some 19), none, (.nilc (.t 18))⟩,
  ⟨(some 20), none, (.fa 0 (.t 19))⟩,
  ⟨(some 21), none, (.fa 0 (.t 20))⟩,
  ⟨(some 22), none, (.ld none (.t 21))⟩,
  ⟨(some 23), none, (.build [(.i .i64 0), (.i .i64 0), (.i .i64 0)] [(0, 1, (.t 22))])⟩,
  ⟨none, none, (.st 3 (.t 4) (.t 23))⟩] t H) := runR_reg'
def a27 : AFun := ⟨24, [(.cell 4 (some 3))], (.seq (.reg d27_0) (.seq (.seq (.reg d27_1) (.seq (.reg d27_2) (.cond (.t 16) (.seq (.reg d27_3) .ret) .skip))) (.seq (.reg d27_4) .ret)))⟩
theorem a27_ok : cfun Try.prog 27 = some a27 := by kernel_rfl
/-- (*futtock/adapt.Table).note -/
def d28_0 : List AOper := [
  ⟨(some 5), none, (.box (.t 2))⟩]
theorem r28_0 {fn : AFun} {K : List AItem} {t : Nat → AV} {H : AH} {T : Tbl} : runR T fn (.code (.reg d28_0) :: K) t H = regR T fn K (aops (callR T) [
  ⟨(some 5), none, (.box (.t 2))⟩] t H) := runR_reg'
def d28_1 : List AOper := [
  ⟨(some 7), none, (.val (.t 0))⟩,
  ⟨(some 8), none, (.nilc (.t 7))⟩,
  ⟨(some 9), none, (.fa 5 (.t 8))⟩,
  ⟨(some 10), none, (.ld none (.t 9))⟩,
  ⟨(some 11), none, (.val (.t 1))⟩,
  ⟨(some 12), none, (.call 32 [(.t 10), (.t 11)])⟩,
  ⟨(some 6), none, (.val (.t 12))⟩]
theorem r28_1 {fn : AFun} {K : List AItem} {t : Nat → AV} {H : AH} {T : Tbl} : runR T fn (.code (.reg d28_1) :: K) t H = regR T fn K (aops (callR T) [
  ⟨(some 7), none, (.val (.t 0))⟩,
  ⟨(some 8), none, (.nilc (.t 7))⟩,
  ⟨(some 9), none, (.fa 5 (.t 8))⟩,
  ⟨(some 10), none, (.ld none (.t 9))⟩,
  ⟨(some 11), none, (.val (.t 1))⟩,
  ⟨(some 12), none, (.call 32 [(.t 10), (.t 11)])⟩,
  ⟨(some 6), none, (.val (.t 12))⟩] t H) := runR_reg'
def d28_2 : List AOper := [
  ⟨(some 13), none, (.val (.t 6))⟩,
  ⟨(some 14), none, (.bin .geq (.t 13) (.c (.i .i64 0)))⟩]
theorem r28_2 {fn : AFun} {K : List AItem} {t : Nat → AV} {H : AH} {T : Tbl} : runR T fn (.code (.reg d28_2) :: K) t H = regR T fn K (aops (callR T) [
  ⟨(some 13), none, (.val (.t 6))⟩,
  ⟨(some 14), none, (.bin .geq (.t 13) (.c (.i .i64 0)))⟩] t H) := runR_reg'
def d28_3 : List AOper := [
  ⟨(some 15), none, (.val (.t 0))⟩,
  ⟨(some 16), none, (.val (.t 0))⟩,
  ⟨(some 17), none, (.nilc (.t 16))⟩,
  ⟨(some 18), none, (.fa 5 (.t 17))⟩,
  ⟨(some 19), none, (.ld none (.t 18))⟩,
  ⟨(some 20), none, (.val (.t 6))⟩,
  ⟨(some 21), none, (.val (.t 6))⟩,
  ⟨(some 22), none, (.bin .add (.t 21) (.c (.i .i64 1)))⟩,
  ⟨(some 23), none, (.call 33 [(.t 19), (.t 20), (.t 22)])⟩,
  ⟨(some 24), none, (.nilc (.t 15))⟩,
  ⟨(some 25), none, (.fa 5 (.t 24))⟩,
  ⟨none, none, (.st 1 (.t 25) (.t 23))⟩]
theorem r28_3 {fn : AFun} {K : List AItem} {t : Nat → AV} {H : AH} {T : Tbl} : runR T fn (.code (.reg d28_3) :: K) t H = regR T fn K (aops (callR T) [
  ⟨(some 15), none, (.val (.t 0))⟩,
  ⟨(some 16), none, (.val (.t 0))⟩,
  ⟨(some 17), none, (.nilc (.t 16))⟩,
  ⟨(some 18), none, (.fa 5 (.t 17))⟩,
  ⟨(some 19), none, (.ld none (.t 18))⟩,
  ⟨(some 20), none, (.val (.t 6))⟩,
  ⟨(some 21), none, (.val (.t 6))⟩,
  ⟨(some 22), none, (.bin .add (.t 21) (.c (.i .i64 1)))⟩,
  ⟨(some 23), none, (.call 33 [(.t 19), (.t 20), (.t 22)])⟩,
  ⟨(some 24), none, (.nilc (.t 15))⟩,
  ⟨(some 25), none, (.fa 5 (.t 24))⟩,
  ⟨none, none, (.st 1 (.t 25) (.t 23))⟩] t H) := runR_reg'
def d28_4 : List AOper := [
  ⟨(some 26), none, (.val (.t 0))⟩,
  ⟨(some 27), none, (.nilc (.t 26))⟩,
  ⟨(some 28), none, (.fa 5 (.t 27))⟩,
  ⟨(some 29), none, (.ld none (.t 28))⟩,
  ⟨(some 30), none, (.len (.t 29))⟩,
  ⟨(some 31), none, (.bin .eql (.t 30) (.c (.i .i64 256)))⟩]
theorem r28_4 {fn : AFun} {K : List AItem} {t : Nat → AV} {H : AH} {T : Tbl} : runR T fn (.code (.reg d28_4) :: K) t H = regR T fn K (aops (callR T) [
  ⟨(some 26), none, (.val (.t 0))⟩,
  ⟨(some 27), none, (.nilc (.t 26))⟩,
  ⟨(some 28), none, (.fa 5 (.t 27))⟩,
  ⟨(some 29), none, (.ld none (.t 28))⟩,
  ⟨(some 30), none, (.len (.t 29))⟩,
  ⟨(some 31), none, (.bin .eql (.t 30) (.c (.i .i64 256)))⟩] t H) := runR_reg'
def d28_5 : List (AOper × List Nat) := [
  (⟨(some 32), none, (.val (.t 0))⟩, []),
  (⟨(some 33), none, (.nilc (.t 32))⟩, []),
  (⟨(some 34), none, (.fa 4 (.t 33))⟩, []),
  (⟨(some 35), none, (.ld none (.t 34))⟩, [1]),
  (⟨(some 36), none, (.val (.t 0))⟩, []),
  (⟨(some 37), none, (.nilc (.t 36))⟩, []),
  (⟨(some 38), none, (.fa 5 (.t 37))⟩, []),
  (⟨(some 39), none, (.ld none (.t 38))⟩, [1]),
  (⟨(some 40), none, (.ia 1 (.t 39) (.c (.i .i64 0)))⟩, []),
  (⟨(some 41), none, (.ld none (.t 40))⟩, [1]),
  (⟨none, none, (.dl [0] (.t 35) (.t 41))⟩, [])]
theorem r28_5 {fn : AFun} {K : List AItem} {t : Nat → AV} {H : AH} {T : Tbl} : runR T fn (.code (.drw d28_5) :: K) t H = regR T fn K (aops (callR T) [
  ⟨(some 32), none, (.val (.t 0))⟩,
  ⟨(some 33), none, (.nilc (.t 32))⟩,
  ⟨(some 34), none, (.fa 4 (.t 33))⟩,
  ⟨(some 35), none, (.ld none (.t 34))⟩,
  ⟨(some 36), none, (.val (.t 0))⟩,
  ⟨(some 37), none, (.nilc (.t 36))⟩,
  ⟨(some 38), none, (.fa 5 (.t 37))⟩,
  ⟨(some 39), none, (.ld none (.t 38))⟩,
  ⟨(some 40), none, (.ia 1 (.t 39) (.c (.i .i64 0)))⟩,
  ⟨(some 41), none, (.ld none (.t 40))⟩,
  ⟨none, none, (.dl [0] (.t 35) (.t 41))⟩] t H) := runR_plain rfl
def d28_6 : List AOper := [
  ⟨(some 42), none, (.val (.t 0))⟩,
  ⟨(some 43), none, (.val (.t 0))⟩,
  ⟨(some 44), none, (.nilc (.t 43))⟩,
  ⟨(some 45), none, (.fa 5 (.t 44))⟩,
  ⟨(some 46), none, (.ld none (.t 45))⟩,
  ⟨(some 47), none, (.call 33 [(.t 46), (.c (.i .i64 0)), (.c (.i .i64 1))])⟩,
  ⟨(some 48), none, (.nilc (.t 42))⟩,
  ⟨(some 49), none, (.fa 5 (.t 48))⟩,
  ⟨none, none, (.st 1 (.t 49) (.t 47))⟩]
theorem r28_6 {fn : AFun} {K : List AItem} {t : Nat → AV} {H : AH} {T : Tbl} : runR T fn (.code (.reg d28_6) :: K) t H = regR T fn K (aops (callR T) [
  ⟨(some 42), none, (.val (.t 0))⟩,
  ⟨(some 43), none, (.val (.t 0))⟩,
  ⟨(some 44), none, (.nilc (.t 43))⟩,
  ⟨(some 45), none, (.fa 5 (.t 44))⟩,
  ⟨(some 46), none, (.ld none (.t 45))⟩,
  ⟨(some 47), none, (.call 33 [(.t 46), (.c (.i .i64 0)), (.c (.i .i64 1))])⟩,
  ⟨(some 48), none, (.nilc (.t 42))⟩,
  ⟨(some 49), none, (.fa 5 (.t 48))⟩,
  ⟨none, none, (.st 1 (.t 49) (.t 47))⟩] t H) := runR_reg'
def d28_7 : List AOper := [
  ⟨(some 50), none, (.val (.t 0))⟩,
  ⟨(some 51), none, (.val (.t 0))⟩,
  ⟨(some 52), none, (.nilc (.t 51))⟩,
  ⟨(some 53), none, (.fa 5 (.t 52))⟩,
  ⟨(some 54), none, (.ld none (.t 53))⟩,
  ⟨(some 55), none, (.val (.t 1))⟩,
  ⟨(some 56), none, (.bsl [(.i .i64 0)] 1 [(0, 1, (.t 55))])⟩,
  ⟨(some 57), none, (.app [(.i .i64 0)] 8 (.t 54) (.t 56))⟩,
  ⟨(some 58), none, (.nilc (.t 50))⟩,
  ⟨(some 59), none, (.fa 5 (.t 58))⟩,
  ⟨none, none, (.st 1 (.t 59) (.t 57))⟩]
theorem r28_7 {fn : AFun} {K : List AItem} {t : Nat → AV} {H : AH} {T : Tbl} : runR T fn (.code (.reg d28_7) :: K) t H = regR T fn K (aops (callR T) [
  ⟨(some 50), none, (.val (.t 0))⟩,
  ⟨(some 51), none, (.val (.t 0))⟩,
  ⟨(some 52), none, (.nilc (.t 51))⟩,
  ⟨(some 53), none, (.fa 5 (.t 52))⟩,
  ⟨(some 54), none, (.ld none (.t 53))⟩,
  ⟨(some 55), none, (.val (.t 1))⟩,
  ⟨(some 56), none, (.bsl [(.i .i64 0)] 1 [(0, 1, (.t 55))])⟩,
  ⟨(some 57), none, (.app [(.i .i64 0)] 8 (.t 54) (.t 56))⟩,
  ⟨(some 58), none, (.nilc (.t 50))⟩,
  ⟨(some 59), none, (.fa 5 (.t 58))⟩,
  ⟨none, none, (.st 1 (.t 59) (.t 57))⟩] t H) := runR_reg'
def d28_8 : List (AOper × List Nat) := [
  (⟨(some 60), none, (.val (.t 0))⟩, []),
  (⟨(some 61), none, (.nilc (.t 60))⟩, []),
  (⟨(some 62), none, (.fa 4 (.t 61))⟩, []),
  (⟨(some 63), none, (.ld none (.t 62))⟩, [1]),
  (⟨(some 64), none, (.val (.t 1))⟩, []),
  (⟨(some 65), none, (.ld (some 3) (.t 5))⟩, [1]),
  (⟨none, none, (.mu [0] (.t 63) (.t 64) (.t 65))⟩, [])]
theorem r28_8 {fn : AFun} {K : List AItem} {t : Nat → AV} {H : AH} {T : Tbl} : runR T fn (.code (.drw d28_8) :: K) t H = regR T fn K (aops (callR T) [
  ⟨(some 60), none, (.val (.t 0))⟩,
  ⟨(some 61), none, (.nilc (.t 60))⟩,
  ⟨(some 62), none, (.fa 4 (.t 61))⟩,
  ⟨(some 63), none, (.ld none (.t 62))⟩,
  ⟨(some 64), none, (.val (.t 1))⟩,
  ⟨(some 65), none, (.ld (some 3) (.t 5))⟩,
  ⟨none, none, (.mu [0] (.t 63) (.t 64) (.t 65))⟩] t H) := runR_plain rfl
def a28 : AFun := ⟨66, [], (.seq (.reg d28_0) (.seq (.seq (.reg d28_1) (.seq (.reg d28_2) (.cond (.t 14) (.reg d28_3) (.seq (.reg d28_4) (.cond (.t 31) (.seq (.drw d28_5) (.reg d28_6)) .skip))))) (.seq (.reg d28_7) (.drw d28_8))))⟩
theorem a28_ok : cfun Try.prog 28 = some a28 := by kernel_rfl
/-- futtock/futtockref33.is -/
def d29_0 : List AOper := [
  ⟨(some 2), none, (.val (.c (.b false)))⟩]
theorem r29_0 {fn : AFun} {K : List AItem} {t : Nat → AV} {H : AH} {T : Tbl} : runR T fn (.code (.reg d29_0) :: K) t H = regR T fn K (aops (callR T) [
  ⟨(some 2), none, (.val (.c (.b false)))⟩] t H) := runR_reg'
def d29_1 : List AOper := [
  ⟨(some 3), none, (.val (.t 0))⟩,
  ⟨(some 4), none, (.bin .geq (.t 3) (.c (.i .i64 0)))⟩,
  ⟨(some 5), none, (.val (.t 4))⟩,
  ⟨(some 6), (some (5, true)), (.val (.t 0))⟩,
  ⟨(some 7), (some (5, true)), (.bin .lss (.t 6) (.c (.i .i64 65536)))⟩,
  ⟨(some 8), none, (.pick (.t 5) (.t 7) (.c (.b false)))⟩,
  ⟨(some 2), none, (.val (.t 8))⟩]
theorem r29_1 {fn : AFun} {K : List AItem} {t : Nat → AV} {H : AH} {T : Tbl} : runR T fn (.code (.reg d29_1) :: K) t H = regR T fn K (aops (callR T) [
  ⟨(some 3), none, (.val (.t 0))⟩,
  ⟨(some 4), none, (.bin .geq (.t 3) (.c (.i .i64 0)))⟩,
  ⟨(some 5), none, (.val (.t 4))⟩,
  ⟨(some 6), (some (5, true)), (.val (.t 0))⟩,
  ⟨(some 7), (some (5, true)), (.bin .lss (.t 6) (.c (.i .i64 65536)))⟩,
  ⟨(some 8), none, (.pick (.t 5) (.t 7) (.c (.b false)))⟩,
  ⟨(some 2), none, (.val (.t 8))⟩] t H) := runR_reg'
def a29 : AFun := ⟨9, [(.tmp 2)], (.seq (.reg d29_0) (.seq (.reg d29_1) .ret))⟩
theorem a29_ok : cfun Try.prog 29 = some a29 := by kernel_rfl
/-- (*futtock/futtockref33.Table).put -/
def d30_0 : List AOper := [
  ⟨(some 3), none, (.box (.t 1))⟩]
theorem r30_0 {fn : AFun} {K : List AItem} {t : Nat → AV} {H : AH} {T : Tbl} : runR T fn (.code (.reg d30_0) :: K) t H = regR T fn K (aops (callR T) [
  ⟨(some 3), none, (.box (.t 1))⟩] t H) := runR_reg'
def d30_1 : List AOper := [
  ⟨(some 4), none, (.val (.c (.sl none 0 0 true 0)))⟩]
theorem r30_1 {fn : AFun} {K : List AItem} {t : Nat → AV} {H : AH} {T : Tbl} : runR T fn (.code (.reg d30_1) :: K) t H = regR T fn K (aops (callR T) [
  ⟨(some 4), none, (.val (.c (.sl none 0 0 true 0)))⟩] t H) := runR_reg'
def d30_2 : List AOper := [
  ⟨(some 5), none, (.val (.c (.i .i64 0)))⟩]
theorem r30_2 {fn : AFun} {K : List AItem} {t : Nat → AV} {H : AH} {T : Tbl} : runR T fn (.code (.reg d30_2) :: K) t H = regR T fn K (aops (callR T) [
  ⟨(some 5), none, (.val (.c (.i .i64 0)))⟩] t H) := runR_reg'
def d30_3 : List AOper := [
  ⟨(some 6), none, (.val (.t 5))⟩,
  ⟨(some 7), none, (.val (.t 0))⟩,
  ⟨(some 8), none, (.nilc (.t 7))⟩,
  ⟨(some 9), none, (.fa 4 (.t 8))⟩,
  ⟨(some 10), none, (.ld none (.t 9))⟩,
  ⟨(some 11), none, (.len (.t 10))⟩,
  ⟨(some 12), none, (.bin .lss (.t 6) (.t 11))⟩]
theorem r30_3 {fn : AFun} {K : List AItem} {t : Nat → AV} {H : AH} {T : Tbl} : runR T fn (.code (.reg d30_3) :: K) t H = regR T fn K (aops (callR T) [
  ⟨(some 6), none, (.val (.t 5))⟩,
  ⟨(some 7), none, (.val (.t 0))⟩,
  ⟨(some 8), none, (.nilc (.t 7))⟩,
  ⟨(some 9), none, (.fa 4 (.t 8))⟩,
  ⟨(some 10), none, (.ld none (.t 9))⟩,
  ⟨(some 11), none, (.len (.t 10))⟩,
  ⟨(some 12), none, (.bin .lss (.t 6) (.t 11))⟩] t H) := runR_reg'
def d30_4 : List (AOper × List Nat) := [
  (⟨(some 15), none, (.val (.t 0))⟩, []),
  (⟨(some 16), none, (.nilc (.t 15))⟩, []),
  (⟨(some 17), none, (.fa 4 (.t 16))⟩, []),
  (⟨(some 18), none, (.ld none (.t 17))⟩, [1]),
  (⟨(some 19), none, (.val (.t 5))⟩, []),
  (⟨(some 20), none, (.ia 4 (.t 18) (.t 19))⟩, []),
  (⟨(some 21), none, (.fa 0 (.t 20))⟩, []),
  (⟨(some 22), none, (.ld none (.t 21))⟩, [1]),
  (⟨(some 23), none, (.fa 0 (.t 3))⟩, []),
  (⟨(some 24), none, (.ld none (.t 23))⟩, [1]),
  (⟨(some 25), none, (.bin .neq (.t 22) (.t 24))⟩, [])]
theorem r30_4 {fn : AFun} {K : List AItem} {t : Nat → AV} {H : AH} {T : Tbl} : runR T fn (.code (.drw d30_4) :: K) t H = regR T fn K (aops (callR T) [
  ⟨(some 15), none, (.val (.t 0))⟩,
  ⟨(some 16), none, (.nilc (.t 15))⟩,
  ⟨(some 17), none, (.fa 4 (.t 16))⟩,
  ⟨(some 18), none, (.ld none (.t 17))⟩,
  ⟨(some 19), none, (.val (.t 5))⟩,
  ⟨(some 20), none, (.ia 4 (.t 18) (.t 19))⟩,
  ⟨(some 21), none, (.fa 0 (.t 20))⟩,
  ⟨(some 22), none, (.ld none (.t 21))⟩,
  ⟨(some 23), none, (.fa 0 (.t 3))⟩,
  ⟨(some 24), none, (.ld none (.t 23))⟩,
  ⟨(some 25), none, (.bin .neq (.t 22) (.t 24))⟩] t H) := runR_plain rfl
def d30_5 : List AOper := [
  ⟨(some 26), none, (.val (.t 4))⟩,
  ⟨(some 27), none, (.val (.t 0))⟩,
  ⟨(some 28), none, (.nilc (.t 27))⟩,
  ⟨(some 29), none, (.fa 4 (.t 28))⟩,
  ⟨(some 30), none, (.ld none (.t 29))⟩,
  ⟨(some 31), none, (.val (.t 5))⟩,
  ⟨(some 32), none, (.ia 4 (.t 30) (.t 31))⟩,
  ⟨(some 33), none, (.ld (some 4) (.t 32))⟩,
  ⟨(some 34), none, (.bsl [(.i .i64 0), (.i .i64 0), (.i .i64 0), (.i .i64 0)] 1 [(0, 4, (.t 33))])⟩,
  ⟨(some 35), none, (.app [(.i .i64 0), (.i .i64 0), (.i .i64 0), (.i .i64 0)] 32 (.t 26) (.t 34))⟩,
  ⟨(some 4), none, (.val (.t 35))⟩]
theorem r30_5 {fn : AFun} {K : List AItem} {t : Nat → AV} {H : AH} {T : Tbl} : runR T fn (.code (.reg d30_5) :: K) t H = regR T fn K (aops (callR T) [
  ⟨(some 26), none, (.val (.t 4))⟩,
  ⟨(some 27), none, (.val (.t 0))⟩,
  ⟨(some 28), none, (.nilc (.t 27))⟩,
  ⟨(some 29), none, (.fa 4 (.t 28))⟩,
  ⟨(some 30), none, (.ld none (.t 29))⟩,
  ⟨(some 31), none, (.val (.t 5))⟩,
  ⟨(some 32), none, (.ia 4 (.t 30) (.t 31))⟩,
  ⟨(some 33), none, (.ld (some 4) (.t 32))⟩,
  ⟨(some 34), none, (.bsl [(.i .i64 0), (.i .i64 0), (.i .i64 0), (.i .i64 0)] 1 [(0, 4, (.t 33))])⟩,
  ⟨(some 35), none, (.app [(.i .i64 0), (.i .i64 0), (.i .i64 0), (.i .i64 0)] 32 (.t 26) (.t 34))⟩,
  ⟨(some 4), none, (.val (.t 35))⟩] t H) := runR_reg'
def d30_6 : List AOper := [
  ⟨(some 13), none, (.val (.t 5))⟩,
  ⟨(some 14), none, (.bin .add (.t 13) (.c (.i .i64 1)))⟩,
  ⟨(some 5), none, (.val (.t 14))⟩]
theorem r30_6 {fn : AFun} {K : List AItem} {t : Nat → AV} {H : AH} {T : Tbl} : runR T fn (.code (.reg d30_6) :: K) t H = regR T fn K (aops (callR T) [
  ⟨(some 13), none, (.val (.t 5))⟩,
  ⟨(some 14), none, (.bin .add (.t 13) (.c (.i .i64 1)))⟩,
  ⟨(some 5), none, (.val (.t 14))⟩] t H) := runR_reg'
def l30_7 : ACode := (.seq (.seq (.reg d30_3) (.cond (.t 12) .skip (.exit 0))) (.seq (.block 1 (.seq (.drw d30_4) (.cond (.t 25) (.reg d30_5) .skip))) (.reg d30_6)))
def d30_8 : List AOper := [
  ⟨(some 36), none, (.val (.t 4))⟩,
  ⟨(some 37), none, (.len (.t 36))⟩,
  ⟨(some 38), none, (.bin .geq (.t 37) (.c (.i .i64 256)))⟩]
theorem r30_8 {fn : AFun} {K : List AItem} {t : Nat → AV} {H : AH} {T : Tbl} : runR T fn (.code (.reg d30_8) :: K) t H = regR T fn K (aops (callR T) [
  ⟨(some 36), none, (.val (.t 4))⟩,
  ⟨(some 37), none, (.len (.t 36))⟩,
  ⟨(some 38), none, (.bin .geq (.t 37) (.c (.i .i64 256)))⟩] t H) := runR_reg'
def d30_9 : List AOper := [
  ⟨(some 39), none, (.val (.t 4))⟩,
  ⟨(some 40), none, (.sls 4 (.t 39) (some (.c (.i .i64 1))) none none)⟩,
  ⟨(some 4), none, (.val (.t 40))⟩]
theorem r30_9 {fn : AFun} {K : List AItem} {t : Nat → AV} {H : AH} {T : Tbl} : runR T fn (.code (.reg d30_9) :: K) t H = regR T fn K (aops (callR T) [
  ⟨(some 39), none, (.val (.t 4))⟩,
  ⟨(some 40), none, (.sls 4 (.t 39) (some (.c (.i .i64 1))) none none)⟩,
  ⟨(some 4), none, (.val (.t 40))⟩] t H) := runR_reg'
def d30_10 : List (AOper × List Nat) := [
  (⟨(some 41), none, (.val (.t 0))⟩, []),
  (⟨(some 42), none, (.val (.t 4))⟩, []),
  (⟨(some 43), none, (.app [(.i .i64 0), (.i .i64 0), (.i .i64 0), (.i .i64 0)] 32 (.c (.sl none 0 0 true 0)) (.t 42))⟩, []),
  (⟨(some 44), none, (.ld (some 4) (.t 3))⟩, [2]),
  (⟨(some 45), none, (.bsl [(.i .i64 0), (.i .i64 0), (.i .i64 0), (.i .i64 0)] 1 [(0, 4, (.t 44))])⟩, []),
  (⟨(some 46), none, (.app [(.i .i64 0), (.i .i64 0), (.i .i64 0), (.i .i64 0)] 32 (.t 43) (.t 45))⟩, []),
  (⟨(some 47), none, (.nilc (.t 41))⟩, []),
  (⟨(some 48), none, (.fa 4 (.t 47))⟩, []),
  (⟨none, none, (.st 1 (.t 48) (.t 46))⟩, [])]
theorem r30_10 {fn : AFun} {K : List AItem} {t : Nat → AV} {H : AH} {T : Tbl} : runR T fn (.code (.drw d30_10) :: K) t H = regR T fn K (adrn (callR T) [
  (⟨(some 41), none, (.val (.t 0))⟩, []),
  (⟨(some 42), none, (.val (.t 4))⟩, []),
  (⟨(some 43), none, (.app [(.i .i64 0), (.i .i64 0), (.i .i64 0), (.i .i64 0)] 32 (.c (.sl none 0 0 true 0)) (.t 42))⟩, []),
  (⟨(some 44), none, (.ld (some 4) (.t 3))⟩, [2]),
  (⟨(some 45), none, (.bsl [(.i .i64 0), (.i .i64 0), (.i .i64 0), (.i .i64 0)] 1 [(0, 4, (.t 44))])⟩, []),
  (⟨(some 46), none, (.app [(.i .i64 0), (.i .i64 0), (.i .i64 0), (.i .i64 0)] 32 (.t 43) (.t 45))⟩, []),
  (⟨(some 47), none, (.nilc (.t 41))⟩, []),
  (⟨(some 48), none, (.fa 4 (.t 47))⟩, []),
  (⟨none, none, (.st 1 (.t 48) (.t 46))⟩, [])] t H [H]) := runR_free rfl
def a30 : AFun := ⟨49, [], (.seq (.reg d30_0) (.seq (.reg d30_1) (.seq (.seq (.reg d30_2) (.block 0 (.loop l30_7))) (.seq (.seq (.reg d30_8) (.cond (.t 38) (.reg d30_9) .skip)) (.drw d30_10)))))⟩
theorem a30_ok : cfun Try.prog 30 = some a30 := by kernel_rfl
/-- slices.Clone[[]int,int] -/
def d31_0 : List AOper := [
  ⟨(some 2), none, (.val (.c (.sl none 0 0 true 0)))⟩]
theorem r31_0 {fn : AFun} {K : List AItem} {t : Nat → AV} {H : AH} {T : Tbl} : runR T fn (.code (.reg d31_0) :: K) t H = regR T fn K (aops (callR T) [
  ⟨(some 2), none, (.val (.c (.sl none 0 0 true 0)))⟩] t H) := runR_reg'
def d31_1 : List AOper := [
  ⟨(some 3), none, (.val (.t 0))⟩,
  ⟨(some 4), none, (.eqn 1 false (.t 3) (.c (.sl none 0 0 true 0)))⟩]
theorem r31_1 {fn : AFun} {K : List AItem} {t : Nat → AV} {H : AH} {T : Tbl} : runR T fn (.code (.reg d31_1) :: K) t H = regR T fn K (aops (callR T) [
  ⟨(some 3), none, (.val (.t 0))⟩,
  ⟨(some 4), none, (.eqn 1 false (.t 3) (.c (.sl none 0 0 true 0)))⟩] t H) := runR_reg'
def d31_2 : List AOper := [
  ⟨(some 2), none, (.val (.c (.sl none 0 0 true 0)))⟩]
theorem r31_2 {fn : AFun} {K : List AItem} {t : Nat → AV} {H : AH} {T : Tbl} : runR T fn (.code (.reg d31_2) :: K) t H = regR T fn K (aops (callR T) [
  ⟨(some 2), none, (.val (.c (.sl none 0 0 true 0)))⟩] t H) := runR_reg'
def d31_3 : List AOper := [
  ⟨(some 5), none, (.bsl [(.i .i64 0)] 0 [])⟩,
  ⟨(some 6), none, (.val (.t 0))⟩,
  ⟨(some 7), none, (.app [(.i .i64 0)] 8 (.t 5) (.t 6))⟩,
  ⟨(some 2), none, (.val (.t 7))⟩]
theorem r31_3 {fn : AFun} {K : List AItem} {t : Nat → AV} {H : AH} {T : Tbl} : runR T fn (.code (.reg d31_3) :: K) t H = regR T fn K (aops (callR T) [
  ⟨(some 5), none, (.bsl [(.i .i64 0)] 0 [])⟩,
  ⟨(some 6), none, (.val (.t 0))⟩,
  ⟨(some 7), none, (.app [(.i .i64 0)] 8 (.t 5) (.t 6))⟩,
  ⟨(some 2), none, (.val (.t 7))⟩] t H) := runR_reg'
def a31 : AFun := ⟨8, [(.tmp 2)], (.seq (.reg d31_0) (.seq (.seq (.reg d31_1) (.cond (.t 4) (.seq (.reg d31_2) .ret) .skip)) (.seq (.reg d31_3) .ret)))⟩
theorem a31_ok : cfun Try.prog 31 = some a31 := by kernel_rfl
/-- slices.Index[[]int,int] -/
def d32_0 : List AOper := [
  ⟨(some 4), none, (.val (.c (.i .i64 0)))⟩]
theorem r32_0 {fn : AFun} {K : List AItem} {t : Nat → AV} {H : AH} {T : Tbl} : runR T fn (.code (.reg d32_0) :: K) t H = regR T fn K (aops (callR T) [
  ⟨(some 4), none, (.val (.c (.i .i64 0)))⟩] t H) := runR_reg'
def d32_1 : List AOper := [
  ⟨(some 6), none, (.val (.t 0))⟩,
  ⟨(some 7), none, (.len (.t 6))⟩,
  ⟨(some 8), none, (.val (.c (.i .i64 0)))⟩]
theorem r32_1 {fn : AFun} {K : List AItem} {t : Nat → AV} {H : AH} {T : Tbl} : runR T fn (.code (.reg d32_1) :: K) t H = regR T fn K (aops (callR T) [
  ⟨(some 6), none, (.val (.t 0))⟩,
  ⟨(some 7), none, (.len (.t 6))⟩,
  ⟨(some 8), none, (.val (.c (.i .i64 0)))⟩] t H) := runR_reg'
def d32_2 : List AOper := [
  ⟨(some 9), none, (.bin .lss (.t 8) (.t 7))⟩]
theorem r32_2 {fn : AFun} {K : List AItem} {t : Nat → AV} {H : AH} {T : Tbl} : runR T fn (.code (.reg d32_2) :: K) t H = regR T fn K (aops (callR T) [
  ⟨(some 9), none, (.bin .lss (.t 8) (.t 7))⟩] t H) := runR_reg'
def d32_3 : List AOper := [
  ⟨(some 10), none, (.val (.t 8))⟩,
  ⟨(some 5), none, (.val (.t 10))⟩]
theorem r32_3 {fn : AFun} {K : List AItem} {t : Nat → AV} {H : AH} {T : Tbl} : runR T fn (.code (.reg d32_3) :: K) t H = regR T fn K (aops (callR T) [
  ⟨(some 10), none, (.val (.t 8))⟩,
  ⟨(some 5), none, (.val (.t 10))⟩] t H) := runR_reg'
def d32_4 : List AOper := [
  ⟨(some 11), none, (.val (.t 1))⟩,
  ⟨(some 12), none, (.val (.t 0))⟩,
  ⟨(some 13), none, (.val (.t 5))⟩,
  ⟨(some 14), none, (.ia 1 (.t 12) (.t 13))⟩,
  ⟨(some 15), none, (.ld none (.t 14))⟩,
  ⟨(some 16), none, (.bin .eql (.t 11) (.t 15))⟩]
theorem r32_4 {fn : AFun} {K : List AItem} {t : Nat → AV} {H : AH} {T : Tbl} : runR T fn (.code (.reg d32_4) :: K) t H = regR T fn K (aops (callR T) [
  ⟨(some 11), none, (.val (.t 1))⟩,
  ⟨(some 12), none, (.val (.t 0))⟩,
  ⟨(some 13), none, (.val (.t 5))⟩,
  ⟨(some 14), none, (.ia 1 (.t 12) (.t 13))⟩,
  ⟨(some 15), none, (.ld none (.t 14))⟩,
  ⟨(some 16), none, (.bin .eql (.t 11) (.t 15))⟩] t H) := runR_reg'
def d32_5 : List AOper := [
  ⟨(some 17), none, (.val (.t 5))⟩,
  ⟨(some 4), none, (.val (.t 17))⟩]
theorem r32_5 {fn : AFun} {K : List AItem} {t : Nat → AV} {H : AH} {T : Tbl} : runR T fn (.code (.reg d32_5) :: K) t H = regR T fn K (aops (callR T) [
  ⟨(some 17), none, (.val (.t 5))⟩,
  ⟨(some 4), none, (.val (.t 17))⟩] t H) := runR_reg'
def d32_6 : List AOper := [
  ⟨(some 18), none, (.bin .add (.t 8) (.c (.i .i64 1)))⟩,
  ⟨(some 8), none, (.val (.t 18))⟩]
theorem r32_6 {fn : AFun} {K : List AItem} {t : Nat → AV} {H : AH} {T : Tbl} : runR T fn (.code (.reg d32_6) :: K) t H = regR T fn K (aops (callR T) [
  ⟨(some 18), none, (.bin .add (.t 8) (.c (.i .i64 1)))⟩,
  ⟨(some 8), none, (.val (.t 18))⟩] t H) := runR_reg'
def l32_7 : ACode := (.seq (.reg d32_2) (.seq (.cond (.t 9) .skip (.exit 0)) (.seq (.block 1 (.seq (.reg d32_3) (.seq (.reg d32_4) (.cond (.t 16) (.seq (.reg d32_5) .ret) .skip)))) (.reg d32_6))))
def d32_8 : List AOper := [
  ⟨(some 4), none, (.val (.c (.i .i64 (-1))))⟩]
theorem r32_8 {fn : AFun} {K : List AItem} {t : Nat → AV} {H : AH} {T : Tbl} : runR T fn (.code (.reg d32_8) :: K) t H = regR T fn K (aops (callR T) [
  ⟨(some 4), none, (.val (.c (.i .i64 (-1))))⟩] t H) := runR_reg'
def a32 : AFun := ⟨19, [(.tmp 4)], (.seq (.reg d32_0) (.seq (.seq (.reg d32_1) (.block 0 (.loop l32_7))) (.seq (.reg d32_8) .ret)))⟩
theorem a32_ok : cfun Try.prog 32 = some a32 := by kernel_rfl
/-- slices.Delete[[]int,int] -/
def d33_0 : List AOper := [
  ⟨(some 6), none, (.val (.c (.sl none 0 0 true 0)))⟩]
theorem r33_0 {fn : AFun} {K : List AItem} {t : Nat → AV} {H : AH} {T : Tbl} : runR T fn (.code (.reg d33_0) :: K) t H = regR T fn K (aops (callR T) [
  ⟨(some 6), none, (.val (.c (.sl none 0 0 true 0)))⟩] t H) := runR_reg'
def d33_1 : List AOper := [
  ⟨(some 8), none, (.val (.t 0))⟩,
  ⟨(some 9), none, (.val (.t 1))⟩,
  ⟨(some 10), none, (.val (.t 2))⟩,
  ⟨(some 11), none, (.val (.t 0))⟩,
  ⟨(some 12), none, (.len (.t 11))⟩,
  ⟨(some 13), none, (.sls 1 (.t 8) (some (.t 9)) (some (.t 10)) (some (.t 12)))⟩]
theorem r33_1 {fn : AFun} {K : List AItem} {t : Nat → AV} {H : AH} {T : Tbl} : runR T fn (.code (.reg d33_1) :: K) t H = regR T fn K (aops (callR T) [
  ⟨(some 8), none, (.val (.t 0))⟩,
  ⟨(some 9), none, (.val (.t 1))⟩,
  ⟨(some 10), none, (.val (.t 2))⟩,
  ⟨(some 11), none, (.val (.t 0))⟩,
  ⟨(some 12), none, (.len (.t 11))⟩,
  ⟨(some 13), none, (.sls 1 (.t 8) (some (.t 9)) (some (.t 10)) (some (.t 12)))⟩] t H) := runR_reg'
def d33_2 : List AOper := [
  ⟨(some 14), none, (.val (.t 1))⟩,
  ⟨(some 15), none, (.val (.t 2))⟩,
  ⟨(some 16), none, (.bin .eql (.t 14) (.t 15))⟩]
theorem r33_2 {fn : AFun} {K : List AItem} {t : Nat → AV} {H : AH} {T : Tbl} : runR T fn (.code (.reg d33_2) :: K) t H = regR T fn K (aops (callR T) [
  ⟨(some 14), none, (.val (.t 1))⟩,
  ⟨(some 15), none, (.val (.t 2))⟩,
  ⟨(some 16), none, (.bin .eql (.t 14) (.t 15))⟩] t H) := runR_reg'
def d33_3 : List AOper := [
  ⟨(some 17), none, (.val (.t 0))⟩,
  ⟨(some 6), none, (.val (.t 17))⟩]
theorem r33_3 {fn : AFun} {K : List AItem} {t : Nat → AV} {H : AH} {T : Tbl} : runR T fn (.code (.reg d33_3) :: K) t H = regR T fn K (aops (callR T) [
  ⟨(some 17), none, (.val (.t 0))⟩,
  ⟨(some 6), none, (.val (.t 17))⟩] t H) := runR_reg'
def d33_4 : List AOper := [
  ⟨(some 18), none, (.val (.t 0))⟩,
  ⟨(some 19), none, (.len (.t 18))⟩,
  ⟨(some 7), none, (.val (.t 19))⟩]
theorem r33_4 {fn : AFun} {K : List AItem} {t : Nat → AV} {H : AH} {T : Tbl} : runR T fn (.code (.reg d33_4) :: K) t H = regR T fn K (aops (callR T) [
  ⟨(some 18), none, (.val (.t 0))⟩,
  ⟨(some 19), none, (.len (.t 18))⟩,
  ⟨(some 7), none, (.val (.t 19))⟩] t H) := runR_reg'
def d33_5 : List (AOper × List Nat) := [
  (⟨(some 20), none, (.val (.t 0))⟩, []),
  (⟨(some 21), none, (.val (.t 1))⟩, []),
  (⟨(some 22), none, (.sls 1 (.t 20) none (some (.t 21)) none)⟩, []),
  (⟨(some 23), none, (.val (.t 0))⟩, []),
  (⟨(some 24), none, (.val (.t 2))⟩, []),
  (⟨(some 25), none, (.sls 1 (.t 23) (some (.t 24)) none none)⟩, []),
  (⟨(some 26), none, (.app [(.i .i64 0)] 8 (.t 22) (.t 25))⟩, []),
  (⟨(some 0), none, (.val (.t 26))⟩, [])]
theorem r33_5 {fn : AFun} {K : List AItem} {t : Nat → AV} {H : AH} {T : Tbl} : runR T fn (.code (.drw d33_5) :: K) t H = regR T fn K (aops (callR T) [
  ⟨(some 20), none, (.val (.t 0))⟩,
  ⟨(some 21), none, (.val (.t 1))⟩,
  ⟨(some 22), none, (.sls 1 (.t 20) none (some (.t 21)) none)⟩,
  ⟨(some 23), none, (.val (.t 0))⟩,
  ⟨(some 24), none, (.val (.t 2))⟩,
  ⟨(some 25), none, (.sls 1 (.t 23) (some (.t 24)) none none)⟩,
  ⟨(some 26), none, (.app [(.i .i64 0)] 8 (.t 22) (.t 25))⟩,
  ⟨(some 0), none, (.val (.t 26))⟩] t H) := runR_plain rfl
def d33_6 : List AOper := [
  ⟨(some 27), none, (.val (.t 0))⟩,
  ⟨(some 28), none, (.val (.t 0))⟩,
  ⟨(some 29), none, (.len (.t 28))⟩,
  ⟨(some 30), none, (.val (.t 7))⟩,
  ⟨(some 31), none, (.sls 1 (.t 27) (some (.t 29)) (some (.t 30)) none)⟩,
  ⟨none, none, (.clr [(.i .i64 0)] (.t 31))⟩]
theorem r33_6 {fn : AFun} {K : List AItem} {t : Nat → AV} {H : AH} {T : Tbl} : runR T fn (.code (.reg d33_6) :: K) t H = regR T fn K (aops (callR T) [
  ⟨(some 27), none, (.val (.t 0))⟩,
  ⟨(some 28), none, (.val (.t 0))⟩,
  ⟨(some 29), none, (.len (.t 28))⟩,
  ⟨(some 30), none, (.val (.t 7))⟩,
  ⟨(some 31), none, (.sls 1 (.t 27) (some (.t 29)) (some (.t 30)) none)⟩,
  ⟨none, none, (.clr [(.i .i64 0)] (.t 31))⟩] t H) := runR_reg'
def d33_7 : List AOper := [
  ⟨(some 32), none, (.val (.t 0))⟩,
  ⟨(some 6), none, (.val (.t 32))⟩]
theorem r33_7 {fn : AFun} {K : List AItem} {t : Nat → AV} {H : AH} {T : Tbl} : runR T fn (.code (.reg d33_7) :: K) t H = regR T fn K (aops (callR T) [
  ⟨(some 32), none, (.val (.t 0))⟩,
  ⟨(some 6), none, (.val (.t 32))⟩] t H) := runR_reg'
def a33 : AFun := ⟨33, [(.tmp 6)], (.seq (.reg d33_0) (.seq (.reg d33_1) (.seq (.seq (.reg d33_2) (.cond (.t 16) (.seq (.reg d33_3) .ret) .skip)) (.seq (.reg d33_4) (.seq (.drw d33_5) (.seq (.reg d33_6) (.seq (.reg d33_7) .ret)))))))⟩
theorem a33_ok : cfun Try.prog 33 = some a33 := by kernel_rfl
/-- All of them. -/
def tbl : Tbl
  | 3 => some a3
  | 4 => some a4
  | 5 => some a5
  | 6 => some a6
  | 7 => some a7
  | 8 => some a8
  | 9 => some a9
  | 10 => some a10
  | 11 => some a11
  | 12 => some a12
  | 13 => some a13
  | 14 => some a14
  | 15 => some a15
  | 16 => some a16
  | 17 => some a17
  | 18 => some a18
  | 19 => some a19
  | 20 => some a20
  | 21 => some a21
  | 22 => some a22
  | 23 => some a23
  | 24 => some a24
  | 25 => some a25
  | 26 => some a26
  | 27 => some a27
  | 28 => some a28
  | 29 => some a29
  | 30 => some a30
  | 31 => some a31
  | 32 => some a32
  | 33 => some a33
  | _ => none
/-- The heap behind a call of which the value alone is told. -/
noncomputable def hC (n : FuncId) (args : List AV) (H : AH) : AH := hAft (callR tbl n args H)
theorem hC_of {n : FuncId} {args : List AV} {H : AH} {v : AV} (h : ∃ H', callR tbl n args H = some (v, H')) : callR tbl n args H = some (v, hC n args H) := aft_of h
theorem tbl3 : tbl 3 = some a3 := rfl
theorem c3 {x0 x1 : AV} {H : AH} : callR tbl 3 [x0, x1] H = runR tbl a3 [.code a3.body] (ainit [x0, x1]) H := callR_of tbl3 (Nat.le_of_ble_eq_true rfl)
theorem b3 : a3.body = (.seq (.reg d3_0) (.seq (.reg d3_1) (.seq (.seq (.reg d3_2) (.cond (.t 24) (.seq (.reg d3_3) .ret) .skip)) (.seq (.seq (.reg d3_4) (.block 0 (.loop l3_8))) (.seq (.seq (.drw d3_9) (.cond (.t 44) (.seq (.reg d3_10) .ret) .skip)) (.seq (.seq (.reg d3_11) (.block 2 (.loop l3_15))) (.seq (.reg d3_16) (.seq (.drw d3_17) .ret)))))))) := rfl
theorem s3 : a3.res = [(.tmp 4)] := rfl
theorem tbl4 : tbl 4 = some a4 := rfl
theorem c4 {x0 x1 : AV} {H : AH} : callR tbl 4 [x0, x1] H = runR tbl a4 [.code a4.body] (ainit [x0, x1]) H := callR_of tbl4 (Nat.le_of_ble_eq_true rfl)
theorem b4 : a4.body = (.seq (.reg d4_0) (.seq (.reg d4_1) (.seq (.seq (.reg d4_2) (.cond (.t 30) (.seq (.reg d4_3) .ret) .skip)) (.seq (.reg d4_4) (.seq (.seq (.reg d4_5) (.block 0 (.loop l4_25))) (.seq (.reg d4_26) .ret)))))) := rfl
theorem s4 : a4.res = [(.tmp 4)] := rfl
theorem tbl5 : tbl 5 = some a5 := rfl
theorem c5 {x0 x1 x2 : AV} {H : AH} : callR tbl 5 [x0, x1, x2] H = runR tbl a5 [.code a5.body] (ainit [x0, x1, x2]) H := callR_of tbl5 (Nat.le_of_ble_eq_true rfl)
theorem b5 : a5.body = (.seq (.reg d5_0) (.seq (.reg d5_1) (.seq (.seq (.reg d5_2) (.cond (.t 23) (.seq (.reg d5_3) .ret) .skip)) (.seq (.seq (.reg d5_4) (.block 0 (.loop l5_14))) (.seq (.seq (.reg d5_15) (.block 2 (.loop l5_20))) (.seq (.reg d5_21) (.seq (.seq (.reg d5_22) (.block 4 (.loop l5_29))) (.seq (.reg d5_30) .ret)))))))) := rfl
theorem s5 : a5.res = [(.tmp 6)] := rfl
theorem tbl6 : tbl 6 = some a6 := rfl
theorem c6 {x0 : AV} {H : AH} : callR tbl 6 [x0] H = runR tbl a6 [.code a6.body] (ainit [x0]) H := callR_of tbl6 (Nat.le_of_ble_eq_true rfl)
theorem b6 : a6.body = (.seq (.reg d6_0) (.seq (.seq (.reg d6_1) (.block 0 (.loop l6_8))) (.seq (.reg d6_9) .ret))) := rfl
theorem s6 : a6.res = [(.tmp 2)] := rfl
theorem tbl7 : tbl 7 = some a7 := rfl
theorem c7 {x0 : AV} {H : AH} : callR tbl 7 [x0] H = runR tbl a7 [.code a7.body] (ainit [x0]) H := callR_of tbl7 (Nat.le_of_ble_eq_true rfl)
theorem b7 : a7.body = (.seq (.reg d7_0) (.seq (.seq (.reg d7_1) (.cond (.t 26) (.seq (.reg d7_2) .ret) .skip)) (.seq (.reg d7_3) .ret))) := rfl
theorem s7 : a7.res = [(.tmp 2), (.tmp 3)] := rfl
theorem tbl8 : tbl 8 = some a8 := rfl
theorem c8 {x0 : AV} {H : AH} : callR tbl 8 [x0] H = runR tbl a8 [.code a8.body] (ainit [x0]) H := callR_of tbl8 (Nat.le_of_ble_eq_true rfl)
theorem b8 : a8.body = (.seq (.reg d8_0) (.seq (.reg d8_1) .ret)) := rfl
theorem s8 : a8.res = [(.cell 2 (some 4))] := rfl
theorem tbl9 : tbl 9 = some a9 := rfl
theorem c9 {H : AH} : callR tbl 9 [] H = runR tbl a9 [.code a9.body] (ainit []) H := callR_of tbl9 (Nat.le_of_ble_eq_true rfl)
theorem b9 : a9.body = (.seq (.reg d9_0) (.seq (.reg d9_1) (.seq (.reg d9_2) .ret))) := rfl
theorem s9 : a9.res = [(.tmp 0)] := rfl
theorem tbl10 : tbl 10 = some a10 := rfl
theorem c10 {x0 x1 x2 : AV} {H : AH} : callR tbl 10 [x0, x1, x2] H = runR tbl a10 [.code a10.body] (ainit [x0, x1, x2]) H := callR_of tbl10 (Nat.le_of_ble_eq_true rfl)
theorem b10 : a10.body = (.seq (.reg d10_0) (.seq (.block 0 (.seq (.reg d10_1) (.cond (.t 8) (.seq (.reg d10_2) .ret) (.seq (.reg d10_3) (.cond (.t 12) (.seq (.reg d10_4) .ret) .skip))))) (.seq (.reg d10_5) (.seq (.reg d10_6) (.seq (.drw d10_7) (.seq (.reg d10_8) (.seq (.reg d10_9) .ret))))))) := rfl
theorem s10 : a10.res = [(.tmp 6)] := rfl
theorem tbl11 : tbl 11 = some a11 := rfl
theorem c11 {x0 x1 : AV} {H : AH} : callR tbl 11 [x0, x1] H = runR tbl a11 [.code a11.body] (ainit [x0, x1]) H := callR_of tbl11 (Nat.le_of_ble_eq_true rfl)
theorem b11 : a11.body = (.seq (.reg d11_0) (.seq (.seq (.reg d11_1) (.cond (.t 12) (.seq (.reg d11_2) .ret) .skip)) (.seq (.reg d11_3) .ret))) := rfl
theorem s11 : a11.res = [(.tmp 4)] := rfl
theorem tbl12 : tbl 12 = some a12 := rfl
theorem c12 {x0 x1 : AV} {H : AH} : callR tbl 12 [x0, x1] H = runR tbl a12 [.code a12.body] (ainit [x0, x1]) H := callR_of tbl12 (Nat.le_of_ble_eq_true rfl)
theorem b12 : a12.body = (.seq (.reg d12_0) (.seq (.block 0 (.seq (.reg d12_1) (.cond (.t 6) (.seq (.reg d12_2) .ret) (.seq (.reg d12_3) (.cond (.t 10) (.seq (.reg d12_4) .ret) .skip))))) (.seq (.reg d12_5) (.seq (.reg d12_6) (.seq (.drw d12_7) (.seq (.reg d12_8) (.seq (.reg d12_9) .ret))))))) := rfl
theorem s12 : a12.res = [(.tmp 4)] := rfl
theorem tbl13 : tbl 13 = some a13 := rfl
theorem c13 {x0 x1 : AV} {H : AH} : callR tbl 13 [x0, x1] H = runR tbl a13 [.code a13.body] (ainit [x0, x1]) H := callR_of tbl13 (Nat.le_of_ble_eq_true rfl)
theorem b13 : a13.body = (.seq (.reg d13_0) (.seq (.seq (.reg d13_1) (.cond (.t 9) (.seq (.reg d13_2) .ret) .skip)) (.seq (.reg d13_3) (.seq (.drw d13_4) .ret)))) := rfl
theorem s13 : a13.res = [(.tmp 4), (.tmp 5)] := rfl
theorem tbl14 : tbl 14 = some a14 := rfl
theorem c14 {x0 x1 : AV} {H : AH} : callR tbl 14 [x0, x1] H = runR tbl a14 [.code a14.body] (ainit [x0, x1]) H := callR_of tbl14 (Nat.le_of_ble_eq_true rfl)
theorem b14 : a14.body = (.seq (.reg d14_0) (.seq (.reg d14_1) (.seq (.seq (.reg d14_2) (.cond (.t 16) (.seq (.reg d14_3) .ret) .skip)) (.seq (.reg d14_4) .ret)))) := rfl
theorem s14 : a14.res = [(.tmp 4)] := rfl
theorem tbl15 : tbl 15 = some a15 := rfl
theorem c15 {x0 : AV} {H : AH} : callR tbl 15 [x0] H = runR tbl a15 [.code a15.body] (ainit [x0]) H := callR_of tbl15 (Nat.le_of_ble_eq_true rfl)
theorem b15 : a15.body = (.seq (.reg d15_0) (.seq (.reg d15_1) .ret)) := rfl
theorem s15 : a15.res = [(.tmp 2)] := rfl
theorem tbl16 : tbl 16 = some a16 := rfl
theorem c16 {x0 : AV} {H : AH} : callR tbl 16 [x0] H = runR tbl a16 [.code a16.body] (ainit [x0]) H := callR_of tbl16 (Nat.le_of_ble_eq_true rfl)
theorem b16 : a16.body = (.seq (.reg d16_0) (.seq (.reg d16_1) .ret)) := rfl
theorem s16 : a16.res = [(.tmp 2)] := rfl
theorem tbl17 : tbl 17 = some a17 := rfl
theorem c17 {x0 x1 x2 : AV} {H : AH} : callR tbl 17 [x0, x1, x2] H = runR tbl a17 [.code a17.body] (ainit [x0, x1, x2]) H := callR_of tbl17 (Nat.le_of_ble_eq_true rfl)
theorem b17 : a17.body = (.seq (.reg d17_0) (.seq (.seq (.reg d17_1) (.cond (.t 15) (.seq (.reg d17_2) .ret) .skip)) (.seq (.reg d17_3) (.seq (.reg d17_4) (.seq (.drw d17_5) (.seq (.reg d17_6) (.seq (.reg d17_7) .ret))))))) := rfl
theorem s17 : a17.res = [(.tmp 6)] := rfl
theorem tbl18 : tbl 18 = some a18 := rfl
theorem c18 {x0 x1 : AV} {H : AH} : callR tbl 18 [x0, x1] H = runR tbl a18 [.code a18.body] (ainit [x0, x1]) H := callR_of tbl18 (Nat.le_of_ble_eq_true rfl)
theorem b18 : a18.body = (.seq (.reg d18_0) (.seq (.seq (.reg d18_1) (.cond (.t 9) (.seq (.reg d18_2) .ret) .skip)) (.seq (.reg d18_3) (.seq (.reg d18_4) (.seq (.drw d18_5) (.seq (.reg d18_6) (.seq (.reg d18_7) .ret))))))) := rfl
theorem s18 : a18.res = [(.tmp 4)] := rfl
theorem tbl19 : tbl 19 = some a19 := rfl
theorem c19 {x0 x1 : AV} {H : AH} : callR tbl 19 [x0, x1] H = runR tbl a19 [.code a19.body] (ainit [x0, x1]) H := callR_of tbl19 (Nat.le_of_ble_eq_true rfl)
theorem b19 : a19.body = (.seq (.reg d19_0) (.seq (.seq (.reg d19_1) (.block 0 (.loop l19_6))) (.seq (.reg d19_7) .ret))) := rfl
theorem s19 : a19.res = [(.cell 4 (some 4)), (.tmp 5)] := rfl
theorem tbl20 : tbl 20 = some a20 := rfl
theorem c20 {x0 : AV} {H : AH} : callR tbl 20 [x0] H = runR tbl a20 [.code a20.body] (ainit [x0]) H := callR_of tbl20 (Nat.le_of_ble_eq_true rfl)
theorem b20 : a20.body = (.seq (.reg d20_0) (.seq (.seq (.reg d20_1) (.cond (.t 5) (.seq (.reg d20_2) .ret) .skip)) (.seq (.reg d20_3) .ret))) := rfl
theorem s20 : a20.res = [(.tmp 2)] := rfl
theorem tbl21 : tbl 21 = some a21 := rfl
theorem c21 {x0 x1 : AV} {H : AH} : callR tbl 21 [x0, x1] H = runR tbl a21 [.code a21.body] (ainit [x0, x1]) H := callR_of tbl21 (Nat.le_of_ble_eq_true rfl)
theorem b21 : a21.body = (.seq (.reg d21_0) (.seq (.seq (.reg d21_1) (.cond (.t 9) (.seq (.reg d21_2) .ret) .skip)) (.seq (.reg d21_3) (.seq (.reg d21_4) .ret)))) := rfl
theorem s21 : a21.res = [(.tmp 4)] := rfl
theorem tbl22 : tbl 22 = some a22 := rfl
theorem c22 {x0 x1 : AV} {H : AH} : callR tbl 22 [x0, x1] H = runR tbl a22 [.code a22.body] (ainit [x0, x1]) H := callR_of tbl22 (Nat.le_of_ble_eq_true rfl)
theorem b22 : a22.body = (.seq (.reg d22_0) (.seq (.reg d22_1) (.seq (.seq (.reg d22_2) (.cond (.t 18) (.seq (.reg d22_3) .ret) .skip)) (.seq (.reg d22_4) .ret)))) := rfl
theorem s22 : a22.res = [(.tmp 4)] := rfl
theorem tbl23 : tbl 23 = some a23 := rfl
theorem c23 {x0 : AV} {H : AH} : callR tbl 23 [x0] H = runR tbl a23 [.code a23.body] (ainit [x0]) H := callR_of tbl23 (Nat.le_of_ble_eq_true rfl)
theorem b23 : a23.body = (.seq (.reg d23_0) (.seq (.reg d23_1) .ret)) := rfl
theorem s23 : a23.res = [(.tmp 2)] := rfl
theorem tbl24 : tbl 24 = some a24 := rfl
theorem c24 {x0 x1 x2 : AV} {H : AH} : callR tbl 24 [x0, x1, x2] H = runR tbl a24 [.code a24.body] (ainit [x0, x1, x2]) H := callR_of tbl24 (Nat.le_of_ble_eq_true rfl)
theorem b24 : a24.body = (.seq (.reg d24_0) (.seq (.reg d24_1) .ret)) := rfl
theorem s24 : a24.res = [(.tmp 6)] := rfl
theorem tbl25 : tbl 25 = some a25 := rfl
theorem c25 {x0 : AV} {H : AH} : callR tbl 25 [x0] H = runR tbl a25 [.code a25.body] (ainit [x0]) H := callR_of tbl25 (Nat.le_of_ble_eq_true rfl)
theorem b25 : a25.body = (.seq (.reg d25_0) (.seq (.reg d25_1) .ret)) := rfl
theorem s25 : a25.res = [(.tmp 2)] := rfl
theorem tbl26 : tbl 26 = some a26 := rfl
theorem c26 {x0 : AV} {H : AH} : callR tbl 26 [x0] H = runR tbl a26 [.code a26.body] (ainit [x0]) H := callR_of tbl26 (Nat.le_of_ble_eq_true rfl)
theorem b26 : a26.body = (.seq (.reg d26_0) (.seq (.reg d26_1) .ret)) := rfl
theorem s26 : a26.res = [(.tmp 2)] := rfl
theorem tbl27 : tbl 27 = some a27 := rfl
theorem c27 {x0 x1 : AV} {H : AH} : callR tbl 27 [x0, x1] H = runR tbl a27 [.code a27.body] (ainit [x0, x1]) H := callR_of tbl27 (Nat.le_of_ble_eq_true rfl)
theorem b27 : a27.body = (.seq (.reg d27_0) (.seq (.seq (.reg d27_1) (.seq (.reg d27_2) (.cond (.t 16) (.seq (.reg d27_3) .ret) .skip))) (.seq (.reg d27_4) .ret))) := rfl
theorem s27 : a27.res = [(.cell 4 (some 3))] := rfl
theorem tbl28 : tbl 28 = some a28 := rfl
theorem c28 {x0 x1 x2 : AV} {H : AH} : callR tbl 28 [x0, x1, x2] H = runR tbl a28 [.code a28.body] (ainit [x0, x1, x2]) H := callR_of tbl28 (Nat.le_of_ble_eq_true rfl)
theorem b28 : a28.body = (.seq (.reg d28_0) (.seq (.seq (.reg d28_1) (.seq (.reg d28_2) (.cond (.t 14) (.reg d28_3) (.seq (.reg d28_4) (.cond (.t 31) (.seq (.drw d28_5) (.reg d28_6)) .skip))))) (.seq (.reg d28_7) (.drw d28_8)))) := rfl
theorem s28 : a28.res = [] := rfl
theorem tbl29 : tbl 29 = some a29 := rfl
theorem c29 {x0 : AV} {H : AH} : callR tbl 29 [x0] H = runR tbl a29 [.code a29.body] (ainit [x0]) H := callR_of tbl29 (Nat.le_of_ble_eq_true rfl)
theorem b29 : a29.body = (.seq (.reg d29_0) (.seq (.reg d29_1) .ret)) := rfl
theorem s29 : a29.res = [(.tmp 2)] := rfl
theorem tbl30 : tbl 30 = some a30 := rfl
theorem c30 {x0 x1 : AV} {H : AH} : callR tbl 30 [x0, x1] H = runR tbl a30 [.code a30.body] (ainit [x0, x1]) H := callR_of tbl30 (Nat.le_of_ble_eq_true rfl)
theorem b30 : a30.body = (.seq (.reg d30_0) (.seq (.reg d30_1) (.seq (.seq (.reg d30_2) (.block 0 (.loop l30_7))) (.seq (.seq (.reg d30_8) (.cond (.t 38) (.reg d30_9) .skip)) (.drw d30_10))))) := rfl
theorem s30 : a30.res = [] := rfl
theorem tbl31 : tbl 31 = some a31 := rfl
theorem c31 {x0 : AV} {H : AH} : callR tbl 31 [x0] H = runR tbl a31 [.code a31.body] (ainit [x0]) H := callR_of tbl31 (Nat.le_of_ble_eq_true rfl)
theorem b31 : a31.body = (.seq (.reg d31_0) (.seq (.seq (.reg d31_1) (.cond (.t 4) (.seq (.reg d31_2) .ret) .skip)) (.seq (.reg d31_3) .ret))) := rfl
theorem s31 : a31.res = [(.tmp 2)] := rfl
theorem tbl32 : tbl 32 = some a32 := rfl
theorem c32 {x0 x1 : AV} {H : AH} : callR tbl 32 [x0, x1] H = runR tbl a32 [.code a32.body] (ainit [x0, x1]) H := callR_of tbl32 (Nat.le_of_ble_eq_true rfl)
theorem b32 : a32.body = (.seq (.reg d32_0) (.seq (.seq (.reg d32_1) (.block 0 (.loop l32_7))) (.seq (.reg d32_8) .ret))) := rfl
theorem s32 : a32.res = [(.tmp 4)] := rfl
theorem tbl33 : tbl 33 = some a33 := rfl
theorem c33 {x0 x1 x2 : AV} {H : AH} : callR tbl 33 [x0, x1, x2] H = runR tbl a33 [.code a33.body] (ainit [x0, x1, x2]) H := callR_of tbl33 (Nat.le_of_ble_eq_true rfl)
theorem b33 : a33.body = (.seq (.reg d33_0) (.seq (.reg d33_1) (.seq (.seq (.reg d33_2) (.cond (.t 16) (.seq (.reg d33_3) .ret) .skip)) (.seq (.reg d33_4) (.seq (.drw d33_5) (.seq (.reg d33_6) (.seq (.reg d33_7) .ret))))))) := rfl
theorem s33 : a33.res = [(.tmp 6)] := rfl
theorem tbl_ok : ∀ f a, tbl f = some a → cfun Try.prog f = some a := by
  intro f a h
  unfold tbl at h
  split at h
  · cases h; exact a3_ok
  · cases h; exact a4_ok
  · cases h; exact a5_ok
  · cases h; exact a6_ok
  · cases h; exact a7_ok
  · cases h; exact a8_ok
  · cases h; exact a9_ok
  · cases h; exact a10_ok
  · cases h; exact a11_ok
  · cases h; exact a12_ok
  · cases h; exact a13_ok
  · cases h; exact a14_ok
  · cases h; exact a15_ok
  · cases h; exact a16_ok
  · cases h; exact a17_ok
  · cases h; exact a18_ok
  · cases h; exact a19_ok
  · cases h; exact a20_ok
  · cases h; exact a21_ok
  · cases h; exact a22_ok
  · cases h; exact a23_ok
  · cases h; exact a24_ok
  · cases h; exact a25_ok
  · cases h; exact a26_ok
  · cases h; exact a27_ok
  · cases h; exact a28_ok
  · cases h; exact a29_ok
  · cases h; exact a30_ok
  · cases h; exact a31_ok
  · cases h; exact a32_ok
  · cases h; exact a33_ok
  · cases h
end Go.Proofs.Ytldbijgldfeolaa.Abs
