/- The functions that the laws of this seat reach, in the plain machine's form, and that they are the loaded ones. Printed by a program of this seat's own (gencode.py). No condition of its own. -/
import Derived.Test.YtehkhecmkncfoaaProg
import Derived.Test.YtehkhecmkncfoaaAbs3
import Derived.Test.YtehkhecmkncfoaaEval
import Derived.KernelRfl
namespace Go.Proofs.Ytehkhecmkncfoaa.Abs
set_option linter.unusedVariables false
set_option maxRecDepth 100000
/-- futtock/futtocklaw13.RingStates -/
def d3_0 : List AOper := [
  ⟨(some 6), none, (.val (.c (.b false)))⟩]
theorem r3_0 {fn : AFun} {K : List AItem} {t : Nat → AV} {H : AH} {T : Tbl} : runR T fn (.code (.reg d3_0) :: K) t H = regR T fn K (aops (callR T) [
  ⟨(some 6), none, (.val (.c (.b false)))⟩] t H) := runR_reg'
def d3_1 : List AOper := [
  ⟨(some 7), none, (.val (.t 0))⟩,
  ⟨(some 8), none, (.val (.t 1))⟩,
  ⟨(some 9), none, (.call 7 [(.t 7), (.t 8)])⟩,
  ⟨(some 10), none, (.val (.t 0))⟩,
  ⟨(some 11), none, (.val (.t 1))⟩,
  ⟨(some 12), none, (.call 8 [(.t 10), (.t 11)])⟩,
  ⟨(some 13), none, (.eqb true (.t 9) (.t 12))⟩,
  ⟨(some 14), none, (.val (.t 13))⟩,
  ⟨(some 15), (some (14, false)), (.val (.t 0))⟩,
  ⟨(some 16), (some (14, false)), (.val (.t 0))⟩,
  ⟨(some 17), (some (14, false)), (.call 7 [(.t 15), (.t 16)])⟩,
  ⟨(some 18), none, (.pick (.t 14) (.c (.b true)) (.t 17))⟩]
theorem r3_1 {fn : AFun} {K : List AItem} {t : Nat → AV} {H : AH} {T : Tbl} : runR T fn (.code (.reg d3_1) :: K) t H = regR T fn K (aops (callR T) [
  ⟨(some 7), none, (.val (.t 0))⟩,
  ⟨(some 8), none, (.val (.t 1))⟩,
  ⟨(some 9), none, (.call 7 [(.t 7), (.t 8)])⟩,
  ⟨(some 10), none, (.val (.t 0))⟩,
  ⟨(some 11), none, (.val (.t 1))⟩,
  ⟨(some 12), none, (.call 8 [(.t 10), (.t 11)])⟩,
  ⟨(some 13), none, (.eqb true (.t 9) (.t 12))⟩,
  ⟨(some 14), none, (.val (.t 13))⟩,
  ⟨(some 15), (some (14, false)), (.val (.t 0))⟩,
  ⟨(some 16), (some (14, false)), (.val (.t 0))⟩,
  ⟨(some 17), (some (14, false)), (.call 7 [(.t 15), (.t 16)])⟩,
  ⟨(some 18), none, (.pick (.t 14) (.c (.b true)) (.t 17))⟩] t H) := runR_reg'
def d3_2 : List AOper := [
  ⟨(some 6), none, (.val (.c (.b false)))⟩]
theorem r3_2 {fn : AFun} {K : List AItem} {t : Nat → AV} {H : AH} {T : Tbl} : runR T fn (.code (.reg d3_2) :: K) t H = regR T fn K (aops (callR T) [
  ⟨(some 6), none, (.val (.c (.b false)))⟩] t H) := runR_reg'
def d3_3 : List AOper := [
  ⟨(some 19), none, (.val (.t 0))⟩,
  ⟨(some 20), none, (.val (.t 1))⟩,
  ⟨(some 21), none, (.call 7 [(.t 19), (.t 20)])⟩,
  ⟨(some 22), none, (.val (.t 21))⟩,
  ⟨(some 23), (some (22, true)), (.val (.t 0))⟩,
  ⟨(some 24), (some (22, true)), (.bin .eql (.t 23) (.c (.i .u64 1)))⟩,
  ⟨(some 25), none, (.pick (.t 22) (.t 24) (.c (.b false)))⟩,
  ⟨(some 26), none, (.val (.t 25))⟩,
  ⟨(some 27), (some (26, true)), (.val (.t 1))⟩,
  ⟨(some 28), (some (26, true)), (.val (.t 2))⟩,
  ⟨(some 29), (some (26, true)), (.call 7 [(.t 27), (.t 28)])⟩,
  ⟨(some 30), none, (.pick (.t 26) (.t 29) (.c (.b false)))⟩,
  ⟨(some 31), none, (.val (.t 30))⟩,
  ⟨(some 32), (some (31, true)), (.val (.t 2))⟩,
  ⟨(some 33), (some (31, true)), (.bin .neq (.t 32) (.c (.i .u64 0)))⟩,
  ⟨(some 34), none, (.pick (.t 31) (.t 33) (.c (.b false)))⟩]
theorem r3_3 {fn : AFun} {K : List AItem} {t : Nat → AV} {H : AH} {T : Tbl} : runR T fn (.code (.reg d3_3) :: K) t H = regR T fn K (aops (callR T) [
  ⟨(some 19), none, (.val (.t 0))⟩,
  ⟨(some 20), none, (.val (.t 1))⟩,
  ⟨(some 21), none, (.call 7 [(.t 19), (.t 20)])⟩,
  ⟨(some 22), none, (.val (.t 21))⟩,
  ⟨(some 23), (some (22, true)), (.val (.t 0))⟩,
  ⟨(some 24), (some (22, true)), (.bin .eql (.t 23) (.c (.i .u64 1)))⟩,
  ⟨(some 25), none, (.pick (.t 22) (.t 24) (.c (.b false)))⟩,
  ⟨(some 26), none, (.val (.t 25))⟩,
  ⟨(some 27), (some (26, true)), (.val (.t 1))⟩,
  ⟨(some 28), (some (26, true)), (.val (.t 2))⟩,
  ⟨(some 29), (some (26, true)), (.call 7 [(.t 27), (.t 28)])⟩,
  ⟨(some 30), none, (.pick (.t 26) (.t 29) (.c (.b false)))⟩,
  ⟨(some 31), none, (.val (.t 30))⟩,
  ⟨(some 32), (some (31, true)), (.val (.t 2))⟩,
  ⟨(some 33), (some (31, true)), (.bin .neq (.t 32) (.c (.i .u64 0)))⟩,
  ⟨(some 34), none, (.pick (.t 31) (.t 33) (.c (.b false)))⟩] t H) := runR_reg'
def d3_4 : List AOper := [
  ⟨(some 6), none, (.val (.c (.b false)))⟩]
theorem r3_4 {fn : AFun} {K : List AItem} {t : Nat → AV} {H : AH} {T : Tbl} : runR T fn (.code (.reg d3_4) :: K) t H = regR T fn K (aops (callR T) [
  ⟨(some 6), none, (.val (.c (.b false)))⟩] t H) := runR_reg'
def d3_5 : List AOper := [
  ⟨(some 35), none, (.val (.t 0))⟩,
  ⟨(some 36), none, (.call 7 [(.t 35), (.c (.i .u64 1))])⟩,
  ⟨(some 37), none, (.un .not (.t 36))⟩,
  ⟨(some 38), none, (.val (.t 37))⟩,
  ⟨(some 39), (some (38, false)), (.val (.t 0))⟩,
  ⟨(some 40), (some (38, false)), (.bin .eql (.t 39) (.c (.i .u64 0)))⟩,
  ⟨(some 41), none, (.pick (.t 38) (.c (.b true)) (.t 40))⟩,
  ⟨(some 42), none, (.val (.t 41))⟩,
  ⟨(some 43), (some (42, true)), (.call 9 [])⟩,
  ⟨(some 44), none, (.pick (.t 42) (.t 43) (.c (.b false)))⟩,
  ⟨(some 6), none, (.val (.t 44))⟩]
theorem r3_5 {fn : AFun} {K : List AItem} {t : Nat → AV} {H : AH} {T : Tbl} : runR T fn (.code (.reg d3_5) :: K) t H = regR T fn K (aops (callR T) [
  ⟨(some 35), none, (.val (.t 0))⟩,
  ⟨(some 36), none, (.call 7 [(.t 35), (.c (.i .u64 1))])⟩,
  ⟨(some 37), none, (.un .not (.t 36))⟩,
  ⟨(some 38), none, (.val (.t 37))⟩,
  ⟨(some 39), (some (38, false)), (.val (.t 0))⟩,
  ⟨(some 40), (some (38, false)), (.bin .eql (.t 39) (.c (.i .u64 0)))⟩,
  ⟨(some 41), none, (.pick (.t 38) (.c (.b true)) (.t 40))⟩,
  ⟨(some 42), none, (.val (.t 41))⟩,
  ⟨(some 43), (some (42, true)), (.call 9 [])⟩,
  ⟨(some 44), none, (.pick (.t 42) (.t 43) (.c (.b false)))⟩,
  ⟨(some 6), none, (.val (.t 44))⟩] t H) := runR_reg'
def a3 : AFun := ⟨45, [(.tmp 6)], (.seq (.reg d3_0) (.seq (.seq (.reg d3_1) (.cond (.t 18) (.seq (.reg d3_2) .ret) .skip)) (.seq (.seq (.reg d3_3) (.cond (.t 34) (.seq (.reg d3_4) .ret) .skip)) (.seq (.reg d3_5) .ret))))⟩
theorem a3_ok : cfun Try.prog 3 = some a3 := by kernel_rfl
/-- futtock/futtocklaw13.RingPlays -/
def d4_0 : List AOper := [
  ⟨(some 2), none, (.val (.c (.b false)))⟩]
theorem r4_0 {fn : AFun} {K : List AItem} {t : Nat → AV} {H : AH} {T : Tbl} : runR T fn (.code (.reg d4_0) :: K) t H = regR T fn K (aops (callR T) [
  ⟨(some 2), none, (.val (.c (.b false)))⟩] t H) := runR_reg'
def d4_1 : List AOper := [
  ⟨(some 3), none, (.alloc [(.sl none 0 0 true 0)])⟩]
theorem r4_1 {fn : AFun} {K : List AItem} {t : Nat → AV} {H : AH} {T : Tbl} : runR T fn (.code (.reg d4_1) :: K) t H = regR T fn K (aops (callR T) [
  ⟨(some 3), none, (.alloc [(.sl none 0 0 true 0)])⟩] t H) := runR_reg'
def d4_2 : List AOper := [
  ⟨(some 4), none, (.val (.c (.sl none 0 0 true 0)))⟩]
theorem r4_2 {fn : AFun} {K : List AItem} {t : Nat → AV} {H : AH} {T : Tbl} : runR T fn (.code (.reg d4_2) :: K) t H = regR T fn K (aops (callR T) [
  ⟨(some 4), none, (.val (.c (.sl none 0 0 true 0)))⟩] t H) := runR_reg'
def d4_3 : List AOper := [
  ⟨(some 14), none, (.val (.t 0))⟩,
  ⟨(some 15), none, (.call 10 [(.t 14)])⟩,
  ⟨(some 16), none, (.len (.t 15))⟩,
  ⟨(some 17), none, (.val (.c (.i .i64 0)))⟩]
theorem r4_3 {fn : AFun} {K : List AItem} {t : Nat → AV} {H : AH} {T : Tbl} : runR T fn (.code (.reg d4_3) :: K) t H = regR T fn K (aops (callR T) [
  ⟨(some 14), none, (.val (.t 0))⟩,
  ⟨(some 15), none, (.call 10 [(.t 14)])⟩,
  ⟨(some 16), none, (.len (.t 15))⟩,
  ⟨(some 17), none, (.val (.c (.i .i64 0)))⟩] t H) := runR_reg'
def d4_4 : List AOper := [
  ⟨(some 18), none, (.bin .lss (.t 17) (.t 16))⟩]
theorem r4_4 {fn : AFun} {K : List AItem} {t : Nat → AV} {H : AH} {T : Tbl} : runR T fn (.code (.reg d4_4) :: K) t H = regR T fn K (aops (callR T) [
  ⟨(some 18), none, (.bin .lss (.t 17) (.t 16))⟩] t H) := runR_reg'
def d4_5 : List AOper := [
  ⟨(some 19), none, (.ia 3 (.t 15) (.t 17))⟩,
  ⟨(some 20), none, (.ld (some 3) (.t 19))⟩,
  ⟨(some 6), none, (.alloc [(.i .u8 0), (.i .i64 0), (.i .i64 0)])⟩,
  ⟨none, none, (.st 3 (.t 6) (.t 20))⟩]
theorem r4_5 {fn : AFun} {K : List AItem} {t : Nat → AV} {H : AH} {T : Tbl} : runR T fn (.code (.reg d4_5) :: K) t H = regR T fn K (aops (callR T) [
  ⟨(some 19), none, (.ia 3 (.t 15) (.t 17))⟩,
  ⟨(some 20), none, (.ld (some 3) (.t 19))⟩,
  ⟨(some 6), none, (.alloc [(.i .u8 0), (.i .i64 0), (.i .i64 0)])⟩,
  ⟨none, none, (.st 3 (.t 6) (.t 20))⟩] t H) := runR_reg'
def d4_6 : List AOper := [
  ⟨(some 22), none, (.ld (some 1) (.t 3))⟩,
  ⟨(some 23), none, (.ld (some 3) (.t 6))⟩,
  ⟨(some 24), none, (.call 11 [(.t 22), (.t 23)])⟩,
  ⟨(some 21), none, (.val (.t 24))⟩,
  ⟨(some 25), none, (.ext (.t 21) 0)⟩,
  ⟨(some 26), none, (.ext (.t 21) 1)⟩,
  ⟨(some 27), none, (.ext (.t 21) 2)⟩,
  ⟨(some 7), none, (.alloc [(.sl none 0 0 true 0)])⟩,
  ⟨(some 8), none, (.alloc [(.i .i64 0), (.i .i64 0)])⟩,
  ⟨none, none, (.st 1 (.t 7) (.t 25))⟩,
  ⟨none, none, (.st 2 (.t 8) (.t 26))⟩,
  ⟨(some 9), none, (.val (.t 27))⟩]
theorem r4_6 {fn : AFun} {K : List AItem} {t : Nat → AV} {H : AH} {T : Tbl} : runR T fn (.code (.reg d4_6) :: K) t H = regR T fn K (aops (callR T) [
  ⟨(some 22), none, (.ld (some 1) (.t 3))⟩,
  ⟨(some 23), none, (.ld (some 3) (.t 6))⟩,
  ⟨(some 24), none, (.call 11 [(.t 22), (.t 23)])⟩,
  ⟨(some 21), none, (.val (.t 24))⟩,
  ⟨(some 25), none, (.ext (.t 21) 0)⟩,
  ⟨(some 26), none, (.ext (.t 21) 1)⟩,
  ⟨(some 27), none, (.ext (.t 21) 2)⟩,
  ⟨(some 7), none, (.alloc [(.sl none 0 0 true 0)])⟩,
  ⟨(some 8), none, (.alloc [(.i .i64 0), (.i .i64 0)])⟩,
  ⟨none, none, (.st 1 (.t 7) (.t 25))⟩,
  ⟨none, none, (.st 2 (.t 8) (.t 26))⟩,
  ⟨(some 9), none, (.val (.t 27))⟩] t H) := runR_reg'
def d4_7 : List AOper := [
  ⟨(some 28), none, (.build [(.i .i64 0), (.i .i64 0)] [])⟩,
  ⟨(some 10), none, (.alloc [(.i .i64 0), (.i .i64 0)])⟩,
  ⟨none, none, (.st 2 (.t 10) (.t 28))⟩,
  ⟨(some 11), none, (.val (.c (.b true)))⟩]
theorem r4_7 {fn : AFun} {K : List AItem} {t : Nat → AV} {H : AH} {T : Tbl} : runR T fn (.code (.reg d4_7) :: K) t H = regR T fn K (aops (callR T) [
  ⟨(some 28), none, (.build [(.i .i64 0), (.i .i64 0)] [])⟩,
  ⟨(some 10), none, (.alloc [(.i .i64 0), (.i .i64 0)])⟩,
  ⟨none, none, (.st 2 (.t 10) (.t 28))⟩,
  ⟨(some 11), none, (.val (.c (.b true)))⟩] t H) := runR_reg'
def d4_8 : List AOper := [
  ⟨(some 29), none, (.fa 0 (.t 6))⟩,
  ⟨(some 30), none, (.ld none (.t 29))⟩,
  ⟨(some 31), none, (.bin .rem (.t 30) (.c (.i .u8 4)))⟩]
theorem r4_8 {fn : AFun} {K : List AItem} {t : Nat → AV} {H : AH} {T : Tbl} : runR T fn (.code (.reg d4_8) :: K) t H = regR T fn K (aops (callR T) [
  ⟨(some 29), none, (.fa 0 (.t 6))⟩,
  ⟨(some 30), none, (.ld none (.t 29))⟩,
  ⟨(some 31), none, (.bin .rem (.t 30) (.c (.i .u8 4)))⟩] t H) := runR_reg'
def d4_9 : List AOper := [
  ⟨(some 40), none, (.bin .eql (.t 31) (.c (.i .u8 1)))⟩,
  ⟨(some 39), none, (.val (.t 40))⟩]
theorem r4_9 {fn : AFun} {K : List AItem} {t : Nat → AV} {H : AH} {T : Tbl} : runR T fn (.code (.reg d4_9) :: K) t H = regR T fn K (aops (callR T) [
  ⟨(some 40), none, (.bin .eql (.t 31) (.c (.i .u8 1)))⟩,
  ⟨(some 39), none, (.val (.t 40))⟩] t H) := runR_reg'
def d4_10 : List AOper := [
  ⟨(some 42), none, (.val (.t 4))⟩,
  ⟨(some 43), none, (.fa 1 (.t 6))⟩,
  ⟨(some 44), none, (.fa 0 (.t 43))⟩,
  ⟨(some 45), none, (.ld none (.t 44))⟩,
  ⟨(some 46), none, (.call 12 [(.t 42), (.t 45)])⟩,
  ⟨(some 41), none, (.val (.t 46))⟩,
  ⟨(some 47), none, (.ext (.t 41) 0)⟩,
  ⟨(some 48), none, (.ext (.t 41) 1)⟩,
  ⟨(some 49), none, (.ext (.t 41) 2)⟩,
  ⟨none, none, (.st 2 (.t 10) (.t 47))⟩,
  ⟨(some 4), none, (.val (.t 48))⟩,
  ⟨(some 11), none, (.val (.t 49))⟩]
theorem r4_10 {fn : AFun} {K : List AItem} {t : Nat → AV} {H : AH} {T : Tbl} : runR T fn (.code (.reg d4_10) :: K) t H = regR T fn K (aops (callR T) [
  ⟨(some 42), none, (.val (.t 4))⟩,
  ⟨(some 43), none, (.fa 1 (.t 6))⟩,
  ⟨(some 44), none, (.fa 0 (.t 43))⟩,
  ⟨(some 45), none, (.ld none (.t 44))⟩,
  ⟨(some 46), none, (.call 12 [(.t 42), (.t 45)])⟩,
  ⟨(some 41), none, (.val (.t 46))⟩,
  ⟨(some 47), none, (.ext (.t 41) 0)⟩,
  ⟨(some 48), none, (.ext (.t 41) 1)⟩,
  ⟨(some 49), none, (.ext (.t 41) 2)⟩,
  ⟨none, none, (.st 2 (.t 10) (.t 47))⟩,
  ⟨(some 4), none, (.val (.t 48))⟩,
  ⟨(some 11), none, (.val (.t 49))⟩] t H) := runR_reg'
def d4_11 : List AOper := [
  ⟨(some 51), none, (.bin .eql (.t 31) (.c (.i .u8 2)))⟩,
  ⟨(some 50), none, (.val (.t 51))⟩]
theorem r4_11 {fn : AFun} {K : List AItem} {t : Nat → AV} {H : AH} {T : Tbl} : runR T fn (.code (.reg d4_11) :: K) t H = regR T fn K (aops (callR T) [
  ⟨(some 51), none, (.bin .eql (.t 31) (.c (.i .u8 2)))⟩,
  ⟨(some 50), none, (.val (.t 51))⟩] t H) := runR_reg'
def d4_12 : List AOper := [
  ⟨(some 52), none, (.val (.t 4))⟩,
  ⟨(some 53), none, (.call 13 [(.t 52)])⟩,
  ⟨(some 4), none, (.val (.t 53))⟩]
theorem r4_12 {fn : AFun} {K : List AItem} {t : Nat → AV} {H : AH} {T : Tbl} : runR T fn (.code (.reg d4_12) :: K) t H = regR T fn K (aops (callR T) [
  ⟨(some 52), none, (.val (.t 4))⟩,
  ⟨(some 53), none, (.call 13 [(.t 52)])⟩,
  ⟨(some 4), none, (.val (.t 53))⟩] t H) := runR_reg'
def d4_13 : List AOper := [
  ⟨(some 33), none, (.val (.t 4))⟩,
  ⟨(some 34), none, (.fa 1 (.t 6))⟩,
  ⟨(some 35), none, (.ld (some 2) (.t 34))⟩,
  ⟨(some 36), none, (.call 14 [(.t 33), (.t 35)])⟩,
  ⟨(some 32), none, (.val (.t 36))⟩,
  ⟨(some 37), none, (.ext (.t 32) 0)⟩,
  ⟨(some 38), none, (.ext (.t 32) 1)⟩,
  ⟨(some 4), none, (.val (.t 37))⟩,
  ⟨(some 11), none, (.val (.t 38))⟩]
theorem r4_13 {fn : AFun} {K : List AItem} {t : Nat → AV} {H : AH} {T : Tbl} : runR T fn (.code (.reg d4_13) :: K) t H = regR T fn K (aops (callR T) [
  ⟨(some 33), none, (.val (.t 4))⟩,
  ⟨(some 34), none, (.fa 1 (.t 6))⟩,
  ⟨(some 35), none, (.ld (some 2) (.t 34))⟩,
  ⟨(some 36), none, (.call 14 [(.t 33), (.t 35)])⟩,
  ⟨(some 32), none, (.val (.t 36))⟩,
  ⟨(some 37), none, (.ext (.t 32) 0)⟩,
  ⟨(some 38), none, (.ext (.t 32) 1)⟩,
  ⟨(some 4), none, (.val (.t 37))⟩,
  ⟨(some 11), none, (.val (.t 38))⟩] t H) := runR_reg'
def d4_14 : List AOper := [
  ⟨(some 54), none, (.ld (some 1) (.t 7))⟩,
  ⟨none, none, (.st 1 (.t 3) (.t 54))⟩]
theorem r4_14 {fn : AFun} {K : List AItem} {t : Nat → AV} {H : AH} {T : Tbl} : runR T fn (.code (.reg d4_14) :: K) t H = regR T fn K (aops (callR T) [
  ⟨(some 54), none, (.ld (some 1) (.t 7))⟩,
  ⟨none, none, (.st 1 (.t 3) (.t 54))⟩] t H) := runR_reg'
def d4_15 : List AOper := [
  ⟨(some 56), none, (.ld (some 1) (.t 3))⟩,
  ⟨(some 57), none, (.call 15 [(.t 56)])⟩,
  ⟨(some 55), none, (.val (.t 57))⟩,
  ⟨(some 58), none, (.ext (.t 55) 0)⟩,
  ⟨(some 59), none, (.ext (.t 55) 1)⟩,
  ⟨(some 12), none, (.alloc [(.i .i64 0), (.i .i64 0)])⟩,
  ⟨none, none, (.st 2 (.t 12) (.t 58))⟩,
  ⟨(some 13), none, (.val (.t 59))⟩]
theorem r4_15 {fn : AFun} {K : List AItem} {t : Nat → AV} {H : AH} {T : Tbl} : runR T fn (.code (.reg d4_15) :: K) t H = regR T fn K (aops (callR T) [
  ⟨(some 56), none, (.ld (some 1) (.t 3))⟩,
  ⟨(some 57), none, (.call 15 [(.t 56)])⟩,
  ⟨(some 55), none, (.val (.t 57))⟩,
  ⟨(some 58), none, (.ext (.t 55) 0)⟩,
  ⟨(some 59), none, (.ext (.t 55) 1)⟩,
  ⟨(some 12), none, (.alloc [(.i .i64 0), (.i .i64 0)])⟩,
  ⟨none, none, (.st 2 (.t 12) (.t 58))⟩,
  ⟨(some 13), none, (.val (.t 59))⟩] t H) := runR_reg'
def d4_16 : List (AOper × List Nat) := [
  (⟨(some 60), none, (.val (.t 9))⟩, []),
  (⟨(some 61), none, (.val (.t 11))⟩, []),
  (⟨(some 62), none, (.eqb true (.t 60) (.t 61))⟩, []),
  (⟨(some 63), none, (.val (.t 62))⟩, []),
  (⟨(some 64), (some (63, false)), (.ld (some 2) (.t 8))⟩, [1]),
  (⟨(some 65), (some (63, false)), (.bsl [(.i .i64 0), (.i .i64 0)] 1 [(0, 2, (.t 64))])⟩, []),
  (⟨(some 66), (some (63, false)), (.ld (some 2) (.t 10))⟩, [1]),
  (⟨(some 67), (some (63, false)), (.bsl [(.i .i64 0), (.i .i64 0)] 1 [(0, 2, (.t 66))])⟩, []),
  (⟨(some 68), (some (63, false)), (.call 16 [(.t 65), (.t 67)])⟩, []),
  (⟨(some 69), (some (63, false)), (.un .not (.t 68))⟩, []),
  (⟨(some 70), none, (.pick (.t 63) (.c (.b true)) (.t 69))⟩, []),
  (⟨(some 71), none, (.val (.t 70))⟩, []),
  (⟨(some 72), (some (71, false)), (.ld (some 1) (.t 3))⟩, [1]),
  (⟨(some 73), (some (71, false)), (.call 17 [(.t 72)])⟩, []),
  (⟨(some 74), (some (71, false)), (.val (.t 4))⟩, []),
  (⟨(some 75), (some (71, false)), (.call 16 [(.t 73), (.t 74)])⟩, []),
  (⟨(some 76), (some (71, false)), (.un .not (.t 75))⟩, []),
  (⟨(some 77), none, (.pick (.t 71) (.c (.b true)) (.t 76))⟩, []),
  (⟨(some 78), none, (.val (.t 77))⟩, []),
  (⟨(some 79), (some (78, false)), (.ld (some 1) (.t 3))⟩, [1]),
  (⟨(some 80), (some (78, false)), (.call 18 [(.t 79)])⟩, []),
  (⟨(some 81), (some (78, false)), (.val (.t 4))⟩, []),
  (⟨(some 82), (some (78, false)), (.len (.t 81))⟩, []),
  (⟨(some 83), (some (78, false)), (.bin .neq (.t 80) (.t 82))⟩, []),
  (⟨(some 84), none, (.pick (.t 78) (.c (.b true)) (.t 83))⟩, []),
  (⟨(some 85), none, (.val (.t 84))⟩, []),
  (⟨(some 86), (some (85, false)), (.val (.t 13))⟩, []),
  (⟨(some 87), (some (85, false)), (.val (.t 4))⟩, []),
  (⟨(some 88), (some (85, false)), (.len (.t 87))⟩, []),
  (⟨(some 89), (some (85, false)), (.bin .gtr (.t 88) (.c (.i .i64 0)))⟩, []),
  (⟨(some 90), (some (85, false)), (.eqb true (.t 86) (.t 89))⟩, []),
  (⟨(some 91), none, (.pick (.t 85) (.c (.b true)) (.t 90))⟩, []),
  (⟨(some 92), none, (.val (.t 91))⟩, []),
  (⟨(some 93), (some (92, false)), (.val (.t 13))⟩, []),
  (⟨(some 94), (some (92, false)), (.val (.t 93))⟩, []),
  (⟨(some 95), (some (94, true)), (.ld (some 2) (.t 12))⟩, [1]),
  (⟨(some 96), (some (94, true)), (.bsl [(.i .i64 0), (.i .i64 0)] 1 [(0, 2, (.t 95))])⟩, []),
  (⟨(some 97), (some (94, true)), (.val (.t 4))⟩, []),
  (⟨(some 98), (some (94, true)), (.sls 2 (.t 97) none (some (.c (.i .i64 1))) none)⟩, []),
  (⟨(some 99), (some (94, true)), (.call 16 [(.t 96), (.t 98)])⟩, []),
  (⟨(some 100), (some (94, true)), (.un .not (.t 99))⟩, []),
  (⟨(some 101), (some (92, false)), (.pick (.t 94) (.t 100) (.c (.b false)))⟩, []),
  (⟨(some 102), none, (.pick (.t 92) (.c (.b true)) (.t 101))⟩, [])]
theorem r4_16 {fn : AFun} {K : List AItem} {t : Nat → AV} {H : AH} {T : Tbl} : runR T fn (.code (.drw d4_16) :: K) t H = regR T fn K (adrn (callR T) [
  (⟨(some 60), none, (.val (.t 9))⟩, []),
  (⟨(some 61), none, (.val (.t 11))⟩, []),
  (⟨(some 62), none, (.eqb true (.t 60) (.t 61))⟩, []),
  (⟨(some 63), none, (.val (.t 62))⟩, []),
  (⟨(some 64), (some (63, false)), (.ld (some 2) (.t 8))⟩, [1]),
  (⟨(some 65), (some (63, false)), (.bsl [(.i .i64 0), (.i .i64 0)] 1 [(0, 2, (.t 64))])⟩, []),
  (⟨(some 66), (some (63, false)), (.ld (some 2) (.t 10))⟩, [1]),
  (⟨(some 67), (some (63, false)), (.bsl [(.i .i64 0), (.i .i64 0)] 1 [(0, 2, (.t 66))])⟩, []),
  (⟨(some 68), (some (63, false)), (.call 16 [(.t 65), (.t 67)])⟩, []),
  (⟨(some 69), (some (63, false)), (.un .not (.t 68))⟩, []),
  (⟨(some 70), none, (.pick (.t 63) (.c (.b true)) (.t 69))⟩, []),
  (⟨(some 71), none, (.val (.t 70))⟩, []),
  (⟨(some 72), (some (71, false)), (.ld (some 1) (.t 3))⟩, [1]),
  (⟨(some 73), (some (71, false)), (.call 17 [(.t 72)])⟩, []),
  (⟨(some 74), (some (71, false)), (.val (.t 4))⟩, []),
  (⟨(some 75), (some (71, false)), (.call 16 [(.t 73), (.t 74)])⟩, []),
  (⟨(some 76), (some (71, false)), (.un .not (.t 75))⟩, []),
  (⟨(some 77), none, (.pick (.t 71) (.c (.b true)) (.t 76))⟩, []),
  (⟨(some 78), none, (.val (.t 77))⟩, []),
  (⟨(some 79), (some (78, false)), (.ld (some 1) (.t 3))⟩, [1]),
  (⟨(some 80), (some (78, false)), (.call 18 [(.t 79)])⟩, []),
  (⟨(some 81), (some (78, false)), (.val (.t 4))⟩, []),
  (⟨(some 82), (some (78, false)), (.len (.t 81))⟩, []),
  (⟨(some 83), (some (78, false)), (.bin .neq (.t 80) (.t 82))⟩, []),
  (⟨(some 84), none, (.pick (.t 78) (.c (.b true)) (.t 83))⟩, []),
  (⟨(some 85), none, (.val (.t 84))⟩, []),
  (⟨(some 86), (some (85, false)), (.val (.t 13))⟩, []),
  (⟨(some 87), (some (85, false)), (.val (.t 4))⟩, []),
  (⟨(some 88), (some (85, false)), (.len (.t 87))⟩, []),
  (⟨(some 89), (some (85, false)), (.bin .gtr (.t 88) (.c (.i .i64 0)))⟩, []),
  (⟨(some 90), (some (85, false)), (.eqb true (.t 86) (.t 89))⟩, []),
  (⟨(some 91), none, (.pick (.t 85) (.c (.b true)) (.t 90))⟩, []),
  (⟨(some 92), none, (.val (.t 91))⟩, []),
  (⟨(some 93), (some (92, false)), (.val (.t 13))⟩, []),
  (⟨(some 94), (some (92, false)), (.val (.t 93))⟩, []),
  (⟨(some 95), (some (94, true)), (.ld (some 2) (.t 12))⟩, [1]),
  (⟨(some 96), (some (94, true)), (.bsl [(.i .i64 0), (.i .i64 0)] 1 [(0, 2, (.t 95))])⟩, []),
  (⟨(some 97), (some (94, true)), (.val (.t 4))⟩, []),
  (⟨(some 98), (some (94, true)), (.sls 2 (.t 97) none (some (.c (.i .i64 1))) none)⟩, []),
  (⟨(some 99), (some (94, true)), (.call 16 [(.t 96), (.t 98)])⟩, []),
  (⟨(some 100), (some (94, true)), (.un .not (.t 99))⟩, []),
  (⟨(some 101), (some (92, false)), (.pick (.t 94) (.t 100) (.c (.b false)))⟩, []),
  (⟨(some 102), none, (.pick (.t 92) (.c (.b true)) (.t 101))⟩, [])] t H [H]) := runR_free rfl
def d4_17 : List AOper := [
  ⟨(some 2), none, (.val (.c (.b false)))⟩]
theorem r4_17 {fn : AFun} {K : List AItem} {t : Nat → AV} {H : AH} {T : Tbl} : runR T fn (.code (.reg d4_17) :: K) t H = regR T fn K (aops (callR T) [
  ⟨(some 2), none, (.val (.c (.b false)))⟩] t H) := runR_reg'
def d4_18 : List AOper := [
  ⟨(some 103), none, (.bin .add (.t 17) (.c (.i .i64 1)))⟩,
  ⟨(some 17), none, (.val (.t 103))⟩]
theorem r4_18 {fn : AFun} {K : List AItem} {t : Nat → AV} {H : AH} {T : Tbl} : runR T fn (.code (.reg d4_18) :: K) t H = regR T fn K (aops (callR T) [
  ⟨(some 103), none, (.bin .add (.t 17) (.c (.i .i64 1)))⟩,
  ⟨(some 17), none, (.val (.t 103))⟩] t H) := runR_reg'
def l4_19 : ACode := (.seq (.reg d4_4) (.seq (.cond (.t 18) .skip (.exit 0)) (.seq (.block 1 (.seq (.reg d4_5) (.seq (.reg d4_6) (.seq (.reg d4_7) (.seq (.seq (.reg d4_8) (.block 2 (.seq (.reg d4_9) (.cond (.t 39) (.reg d4_10) (.seq (.reg d4_11) (.cond (.t 50) (.reg d4_12) (.reg d4_13))))))) (.seq (.reg d4_14) (.seq (.reg d4_15) (.seq (.drw d4_16) (.cond (.t 102) (.seq (.reg d4_17) .ret) .skip))))))))) (.reg d4_18))))
def d4_20 : List AOper := [
  ⟨(some 104), none, (.call 9 [])⟩,
  ⟨(some 2), none, (.val (.t 104))⟩]
theorem r4_20 {fn : AFun} {K : List AItem} {t : Nat → AV} {H : AH} {T : Tbl} : runR T fn (.code (.reg d4_20) :: K) t H = regR T fn K (aops (callR T) [
  ⟨(some 104), none, (.call 9 [])⟩,
  ⟨(some 2), none, (.val (.t 104))⟩] t H) := runR_reg'
def a4 : AFun := ⟨105, [(.tmp 2)], (.seq (.reg d4_0) (.seq (.reg d4_1) (.seq (.reg d4_2) (.seq (.seq (.reg d4_3) (.block 0 (.loop l4_19))) (.seq (.reg d4_20) .ret)))))⟩
theorem a4_ok : cfun Try.prog 4 = some a4 := by kernel_rfl
/-- futtock/futtocklaw13.RingTurns -/
def d5_0 : List AOper := [
  ⟨(some 2), none, (.val (.c (.b false)))⟩]
theorem r5_0 {fn : AFun} {K : List AItem} {t : Nat → AV} {H : AH} {T : Tbl} : runR T fn (.code (.reg d5_0) :: K) t H = regR T fn K (aops (callR T) [
  ⟨(some 2), none, (.val (.c (.b false)))⟩] t H) := runR_reg'
def d5_1 : List AOper := [
  ⟨(some 3), none, (.alloc [(.sl none 0 0 true 0)])⟩]
theorem r5_1 {fn : AFun} {K : List AItem} {t : Nat → AV} {H : AH} {T : Tbl} : runR T fn (.code (.reg d5_1) :: K) t H = regR T fn K (aops (callR T) [
  ⟨(some 3), none, (.alloc [(.sl none 0 0 true 0)])⟩] t H) := runR_reg'
def d5_2 : List AOper := [
  ⟨(some 14), none, (.val (.t 0))⟩,
  ⟨(some 15), none, (.call 10 [(.t 14)])⟩,
  ⟨(some 16), none, (.len (.t 15))⟩,
  ⟨(some 17), none, (.val (.c (.i .i64 0)))⟩]
theorem r5_2 {fn : AFun} {K : List AItem} {t : Nat → AV} {H : AH} {T : Tbl} : runR T fn (.code (.reg d5_2) :: K) t H = regR T fn K (aops (callR T) [
  ⟨(some 14), none, (.val (.t 0))⟩,
  ⟨(some 15), none, (.call 10 [(.t 14)])⟩,
  ⟨(some 16), none, (.len (.t 15))⟩,
  ⟨(some 17), none, (.val (.c (.i .i64 0)))⟩] t H) := runR_reg'
def d5_3 : List AOper := [
  ⟨(some 18), none, (.bin .lss (.t 17) (.t 16))⟩]
theorem r5_3 {fn : AFun} {K : List AItem} {t : Nat → AV} {H : AH} {T : Tbl} : runR T fn (.code (.reg d5_3) :: K) t H = regR T fn K (aops (callR T) [
  ⟨(some 18), none, (.bin .lss (.t 17) (.t 16))⟩] t H) := runR_reg'
def d5_4 : List AOper := [
  ⟨(some 19), none, (.ia 3 (.t 15) (.t 17))⟩,
  ⟨(some 20), none, (.ld (some 3) (.t 19))⟩,
  ⟨(some 5), none, (.alloc [(.i .u8 0), (.i .i64 0), (.i .i64 0)])⟩,
  ⟨none, none, (.st 3 (.t 5) (.t 20))⟩]
theorem r5_4 {fn : AFun} {K : List AItem} {t : Nat → AV} {H : AH} {T : Tbl} : runR T fn (.code (.reg d5_4) :: K) t H = regR T fn K (aops (callR T) [
  ⟨(some 19), none, (.ia 3 (.t 15) (.t 17))⟩,
  ⟨(some 20), none, (.ld (some 3) (.t 19))⟩,
  ⟨(some 5), none, (.alloc [(.i .u8 0), (.i .i64 0), (.i .i64 0)])⟩,
  ⟨none, none, (.st 3 (.t 5) (.t 20))⟩] t H) := runR_reg'
def d5_5 : List AOper := [
  ⟨(some 21), none, (.ld (some 1) (.t 3))⟩,
  ⟨(some 22), none, (.call 17 [(.t 21)])⟩,
  ⟨(some 6), none, (.val (.t 22))⟩]
theorem r5_5 {fn : AFun} {K : List AItem} {t : Nat → AV} {H : AH} {T : Tbl} : runR T fn (.code (.reg d5_5) :: K) t H = regR T fn K (aops (callR T) [
  ⟨(some 21), none, (.ld (some 1) (.t 3))⟩,
  ⟨(some 22), none, (.call 17 [(.t 21)])⟩,
  ⟨(some 6), none, (.val (.t 22))⟩] t H) := runR_reg'
def d5_6 : List AOper := [
  ⟨(some 24), none, (.ld (some 1) (.t 3))⟩,
  ⟨(some 25), none, (.ld (some 3) (.t 5))⟩,
  ⟨(some 26), none, (.call 11 [(.t 24), (.t 25)])⟩,
  ⟨(some 23), none, (.val (.t 26))⟩,
  ⟨(some 27), none, (.ext (.t 23) 0)⟩,
  ⟨(some 28), none, (.ext (.t 23) 1)⟩,
  ⟨(some 29), none, (.ext (.t 23) 2)⟩,
  ⟨(some 7), none, (.alloc [(.sl none 0 0 true 0)])⟩,
  ⟨(some 8), none, (.alloc [(.i .i64 0), (.i .i64 0)])⟩,
  ⟨none, none, (.st 1 (.t 7) (.t 27))⟩,
  ⟨none, none, (.st 2 (.t 8) (.t 28))⟩,
  ⟨(some 9), none, (.val (.t 29))⟩]
theorem r5_6 {fn : AFun} {K : List AItem} {t : Nat → AV} {H : AH} {T : Tbl} : runR T fn (.code (.reg d5_6) :: K) t H = regR T fn K (aops (callR T) [
  ⟨(some 24), none, (.ld (some 1) (.t 3))⟩,
  ⟨(some 25), none, (.ld (some 3) (.t 5))⟩,
  ⟨(some 26), none, (.call 11 [(.t 24), (.t 25)])⟩,
  ⟨(some 23), none, (.val (.t 26))⟩,
  ⟨(some 27), none, (.ext (.t 23) 0)⟩,
  ⟨(some 28), none, (.ext (.t 23) 1)⟩,
  ⟨(some 29), none, (.ext (.t 23) 2)⟩,
  ⟨(some 7), none, (.alloc [(.sl none 0 0 true 0)])⟩,
  ⟨(some 8), none, (.alloc [(.i .i64 0), (.i .i64 0)])⟩,
  ⟨none, none, (.st 1 (.t 7) (.t 27))⟩,
  ⟨none, none, (.st 2 (.t 8) (.t 28))⟩,
  ⟨(some 9), none, (.val (.t 29))⟩] t H) := runR_reg'
def d5_7 : List AOper := [
  ⟨(some 30), none, (.ld (some 1) (.t 3))⟩,
  ⟨(some 10), none, (.alloc [(.sl none 0 0 true 0)])⟩,
  ⟨none, none, (.st 1 (.t 10) (.t 30))⟩]
theorem r5_7 {fn : AFun} {K : List AItem} {t : Nat → AV} {H : AH} {T : Tbl} : runR T fn (.code (.reg d5_7) :: K) t H = regR T fn K (aops (callR T) [
  ⟨(some 30), none, (.ld (some 1) (.t 3))⟩,
  ⟨(some 10), none, (.alloc [(.sl none 0 0 true 0)])⟩,
  ⟨none, none, (.st 1 (.t 10) (.t 30))⟩] t H) := runR_reg'
def d5_8 : List AOper := [
  ⟨(some 31), none, (.val (.t 6))⟩,
  ⟨(some 32), none, (.len (.t 31))⟩,
  ⟨(some 33), none, (.val (.c (.i .i64 0)))⟩]
theorem r5_8 {fn : AFun} {K : List AItem} {t : Nat → AV} {H : AH} {T : Tbl} : runR T fn (.code (.reg d5_8) :: K) t H = regR T fn K (aops (callR T) [
  ⟨(some 31), none, (.val (.t 6))⟩,
  ⟨(some 32), none, (.len (.t 31))⟩,
  ⟨(some 33), none, (.val (.c (.i .i64 0)))⟩] t H) := runR_reg'
def d5_9 : List AOper := [
  ⟨(some 34), none, (.bin .lss (.t 33) (.t 32))⟩]
theorem r5_9 {fn : AFun} {K : List AItem} {t : Nat → AV} {H : AH} {T : Tbl} : runR T fn (.code (.reg d5_9) :: K) t H = regR T fn K (aops (callR T) [
  ⟨(some 34), none, (.bin .lss (.t 33) (.t 32))⟩] t H) := runR_reg'
def d5_10 : List AOper := [
  ⟨(some 35), none, (.ld (some 1) (.t 10))⟩,
  ⟨(some 36), none, (.call 19 [(.t 35)])⟩,
  ⟨none, none, (.st 1 (.t 10) (.t 36))⟩]
theorem r5_10 {fn : AFun} {K : List AItem} {t : Nat → AV} {H : AH} {T : Tbl} : runR T fn (.code (.reg d5_10) :: K) t H = regR T fn K (aops (callR T) [
  ⟨(some 35), none, (.ld (some 1) (.t 10))⟩,
  ⟨(some 36), none, (.call 19 [(.t 35)])⟩,
  ⟨none, none, (.st 1 (.t 10) (.t 36))⟩] t H) := runR_reg'
def d5_11 : List AOper := [
  ⟨(some 37), none, (.bin .add (.t 33) (.c (.i .i64 1)))⟩,
  ⟨(some 33), none, (.val (.t 37))⟩]
theorem r5_11 {fn : AFun} {K : List AItem} {t : Nat → AV} {H : AH} {T : Tbl} : runR T fn (.code (.reg d5_11) :: K) t H = regR T fn K (aops (callR T) [
  ⟨(some 37), none, (.bin .add (.t 33) (.c (.i .i64 1)))⟩,
  ⟨(some 33), none, (.val (.t 37))⟩] t H) := runR_reg'
def l5_12 : ACode := (.seq (.reg d5_9) (.seq (.cond (.t 34) .skip (.exit 2)) (.seq (.block 3 (.reg d5_10)) (.reg d5_11))))
def d5_13 : List (AOper × List Nat) := [
  (⟨(some 38), none, (.ld (some 1) (.t 3))⟩, [1]),
  (⟨(some 39), none, (.call 17 [(.t 38)])⟩, []),
  (⟨(some 40), none, (.ld (some 1) (.t 10))⟩, [2]),
  (⟨(some 41), none, (.call 17 [(.t 40)])⟩, []),
  (⟨(some 11), none, (.val (.t 39))⟩, []),
  (⟨(some 12), none, (.val (.t 41))⟩, [])]
theorem r5_13 {fn : AFun} {K : List AItem} {t : Nat → AV} {H : AH} {T : Tbl} : runR T fn (.code (.drw d5_13) :: K) t H = regR T fn K (adrn (callR T) [
  (⟨(some 38), none, (.ld (some 1) (.t 3))⟩, [1]),
  (⟨(some 39), none, (.call 17 [(.t 38)])⟩, []),
  (⟨(some 40), none, (.ld (some 1) (.t 10))⟩, [2]),
  (⟨(some 41), none, (.call 17 [(.t 40)])⟩, []),
  (⟨(some 11), none, (.val (.t 39))⟩, []),
  (⟨(some 12), none, (.val (.t 41))⟩, [])] t H [H]) := runR_free rfl
def d5_14 : List AOper := [
  ⟨(some 42), none, (.val (.t 11))⟩,
  ⟨(some 43), none, (.len (.t 42))⟩,
  ⟨(some 44), none, (.val (.t 6))⟩,
  ⟨(some 45), none, (.len (.t 44))⟩,
  ⟨(some 46), none, (.bin .neq (.t 43) (.t 45))⟩,
  ⟨(some 47), none, (.val (.t 46))⟩,
  ⟨(some 48), (some (47, false)), (.val (.t 12))⟩,
  ⟨(some 49), (some (47, false)), (.len (.t 48))⟩,
  ⟨(some 50), (some (47, false)), (.val (.t 6))⟩,
  ⟨(some 51), (some (47, false)), (.len (.t 50))⟩,
  ⟨(some 52), (some (47, false)), (.bin .neq (.t 49) (.t 51))⟩,
  ⟨(some 53), none, (.pick (.t 47) (.c (.b true)) (.t 52))⟩]
theorem r5_14 {fn : AFun} {K : List AItem} {t : Nat → AV} {H : AH} {T : Tbl} : runR T fn (.code (.reg d5_14) :: K) t H = regR T fn K (aops (callR T) [
  ⟨(some 42), none, (.val (.t 11))⟩,
  ⟨(some 43), none, (.len (.t 42))⟩,
  ⟨(some 44), none, (.val (.t 6))⟩,
  ⟨(some 45), none, (.len (.t 44))⟩,
  ⟨(some 46), none, (.bin .neq (.t 43) (.t 45))⟩,
  ⟨(some 47), none, (.val (.t 46))⟩,
  ⟨(some 48), (some (47, false)), (.val (.t 12))⟩,
  ⟨(some 49), (some (47, false)), (.len (.t 48))⟩,
  ⟨(some 50), (some (47, false)), (.val (.t 6))⟩,
  ⟨(some 51), (some (47, false)), (.len (.t 50))⟩,
  ⟨(some 52), (some (47, false)), (.bin .neq (.t 49) (.t 51))⟩,
  ⟨(some 53), none, (.pick (.t 47) (.c (.b true)) (.t 52))⟩] t H) := runR_reg'
def d5_15 : List AOper := [
  ⟨(some 2), none, (.val (.c (.b false)))⟩]
theorem r5_15 {fn : AFun} {K : List AItem} {t : Nat → AV} {H : AH} {T : Tbl} : runR T fn (.code (.reg d5_15) :: K) t H = regR T fn K (aops (callR T) [
  ⟨(some 2), none, (.val (.c (.b false)))⟩] t H) := runR_reg'
def d5_16 : List AOper := [
  ⟨(some 54), none, (.val (.t 6))⟩,
  ⟨(some 55), none, (.len (.t 54))⟩,
  ⟨(some 56), none, (.val (.c (.i .i64 0)))⟩]
theorem r5_16 {fn : AFun} {K : List AItem} {t : Nat → AV} {H : AH} {T : Tbl} : runR T fn (.code (.reg d5_16) :: K) t H = regR T fn K (aops (callR T) [
  ⟨(some 54), none, (.val (.t 6))⟩,
  ⟨(some 55), none, (.len (.t 54))⟩,
  ⟨(some 56), none, (.val (.c (.i .i64 0)))⟩] t H) := runR_reg'
def d5_17 : List AOper := [
  ⟨(some 57), none, (.bin .lss (.t 56) (.t 55))⟩]
theorem r5_17 {fn : AFun} {K : List AItem} {t : Nat → AV} {H : AH} {T : Tbl} : runR T fn (.code (.reg d5_17) :: K) t H = regR T fn K (aops (callR T) [
  ⟨(some 57), none, (.bin .lss (.t 56) (.t 55))⟩] t H) := runR_reg'
def d5_18 : List AOper := [
  ⟨(some 58), none, (.val (.t 56))⟩,
  ⟨(some 13), none, (.val (.t 58))⟩]
theorem r5_18 {fn : AFun} {K : List AItem} {t : Nat → AV} {H : AH} {T : Tbl} : runR T fn (.code (.reg d5_18) :: K) t H = regR T fn K (aops (callR T) [
  ⟨(some 58), none, (.val (.t 56))⟩,
  ⟨(some 13), none, (.val (.t 58))⟩] t H) := runR_reg'
def d5_19 : List (AOper × List Nat) := [
  (⟨(some 59), none, (.val (.t 11))⟩, []),
  (⟨(some 60), none, (.val (.t 13))⟩, []),
  (⟨(some 61), none, (.ia 2 (.t 59) (.t 60))⟩, []),
  (⟨(some 62), none, (.ld (some 2) (.t 61))⟩, [1]),
  (⟨(some 63), none, (.val (.t 6))⟩, []),
  (⟨(some 64), none, (.val (.t 13))⟩, []),
  (⟨(some 65), none, (.ia 2 (.t 63) (.t 64))⟩, []),
  (⟨(some 66), none, (.ld (some 2) (.t 65))⟩, [1]),
  (⟨(some 67), none, (.eqc [0, 0] true (.t 62) (.t 66))⟩, []),
  (⟨(some 68), none, (.val (.t 67))⟩, []),
  (⟨(some 69), (some (68, false)), (.val (.t 12))⟩, []),
  (⟨(some 70), (some (68, false)), (.val (.t 13))⟩, []),
  (⟨(some 71), (some (68, false)), (.ia 2 (.t 69) (.t 70))⟩, []),
  (⟨(some 72), (some (68, false)), (.ld (some 2) (.t 71))⟩, [1]),
  (⟨(some 73), (some (68, false)), (.val (.t 6))⟩, []),
  (⟨(some 74), (some (68, false)), (.val (.t 13))⟩, []),
  (⟨(some 75), (some (68, false)), (.ia 2 (.t 73) (.t 74))⟩, []),
  (⟨(some 76), (some (68, false)), (.ld (some 2) (.t 75))⟩, [1]),
  (⟨(some 77), (some (68, false)), (.eqc [0, 0] true (.t 72) (.t 76))⟩, []),
  (⟨(some 78), none, (.pick (.t 68) (.c (.b true)) (.t 77))⟩, [])]
theorem r5_19 {fn : AFun} {K : List AItem} {t : Nat → AV} {H : AH} {T : Tbl} : runR T fn (.code (.drw d5_19) :: K) t H = regR T fn K (aops (callR T) [
  ⟨(some 59), none, (.val (.t 11))⟩,
  ⟨(some 60), none, (.val (.t 13))⟩,
  ⟨(some 61), none, (.ia 2 (.t 59) (.t 60))⟩,
  ⟨(some 62), none, (.ld (some 2) (.t 61))⟩,
  ⟨(some 63), none, (.val (.t 6))⟩,
  ⟨(some 64), none, (.val (.t 13))⟩,
  ⟨(some 65), none, (.ia 2 (.t 63) (.t 64))⟩,
  ⟨(some 66), none, (.ld (some 2) (.t 65))⟩,
  ⟨(some 67), none, (.eqc [0, 0] true (.t 62) (.t 66))⟩,
  ⟨(some 68), none, (.val (.t 67))⟩,
  ⟨(some 69), (some (68, false)), (.val (.t 12))⟩,
  ⟨(some 70), (some (68, false)), (.val (.t 13))⟩,
  ⟨(some 71), (some (68, false)), (.ia 2 (.t 69) (.t 70))⟩,
  ⟨(some 72), (some (68, false)), (.ld (some 2) (.t 71))⟩,
  ⟨(some 73), (some (68, false)), (.val (.t 6))⟩,
  ⟨(some 74), (some (68, false)), (.val (.t 13))⟩,
  ⟨(some 75), (some (68, false)), (.ia 2 (.t 73) (.t 74))⟩,
  ⟨(some 76), (some (68, false)), (.ld (some 2) (.t 75))⟩,
  ⟨(some 77), (some (68, false)), (.eqc [0, 0] true (.t 72) (.t 76))⟩,
  ⟨(some 78), none, (.pick (.t 68) (.c (.b true)) (.t 77))⟩] t H) := runR_plain rfl
def d5_20 : List AOper := [
  ⟨(some 2), none, (.val (.c (.b false)))⟩]
theorem r5_20 {fn : AFun} {K : List AItem} {t : Nat → AV} {H : AH} {T : Tbl} : runR T fn (.code (.reg d5_20) :: K) t H = regR T fn K (aops (callR T) [
  ⟨(some 2), none, (.val (.c (.b false)))⟩] t H) := runR_reg'
def d5_21 : List AOper := [
  ⟨(some 79), none, (.bin .add (.t 56) (.c (.i .i64 1)))⟩,
  ⟨(some 56), none, (.val (.t 79))⟩]
theorem r5_21 {fn : AFun} {K : List AItem} {t : Nat → AV} {H : AH} {T : Tbl} : runR T fn (.code (.reg d5_21) :: K) t H = regR T fn K (aops (callR T) [
  ⟨(some 79), none, (.bin .add (.t 56) (.c (.i .i64 1)))⟩,
  ⟨(some 56), none, (.val (.t 79))⟩] t H) := runR_reg'
def l5_22 : ACode := (.seq (.reg d5_17) (.seq (.cond (.t 57) .skip (.exit 4)) (.seq (.block 5 (.seq (.reg d5_18) (.seq (.drw d5_19) (.cond (.t 78) (.seq (.reg d5_20) .ret) .skip)))) (.reg d5_21))))
def d5_23 : List AOper := [
  ⟨(some 80), none, (.ld (some 1) (.t 7))⟩,
  ⟨none, none, (.st 1 (.t 3) (.t 80))⟩]
theorem r5_23 {fn : AFun} {K : List AItem} {t : Nat → AV} {H : AH} {T : Tbl} : runR T fn (.code (.reg d5_23) :: K) t H = regR T fn K (aops (callR T) [
  ⟨(some 80), none, (.ld (some 1) (.t 7))⟩,
  ⟨none, none, (.st 1 (.t 3) (.t 80))⟩] t H) := runR_reg'
def d5_24 : List AOper := [
  ⟨(some 81), none, (.bin .add (.t 17) (.c (.i .i64 1)))⟩,
  ⟨(some 17), none, (.val (.t 81))⟩]
theorem r5_24 {fn : AFun} {K : List AItem} {t : Nat → AV} {H : AH} {T : Tbl} : runR T fn (.code (.reg d5_24) :: K) t H = regR T fn K (aops (callR T) [
  ⟨(some 81), none, (.bin .add (.t 17) (.c (.i .i64 1)))⟩,
  ⟨(some 17), none, (.val (.t 81))⟩] t H) := runR_reg'
def l5_25 : ACode := (.seq (.reg d5_3) (.seq (.cond (.t 18) .skip (.exit 0)) (.seq (.block 1 (.seq (.reg d5_4) (.seq (.reg d5_5) (.seq (.reg d5_6) (.seq (.reg d5_7) (.seq (.seq (.reg d5_8) (.block 2 (.loop l5_12))) (.seq (.drw d5_13) (.seq (.seq (.reg d5_14) (.cond (.t 53) (.seq (.reg d5_15) .ret) .skip)) (.seq (.seq (.reg d5_16) (.block 4 (.loop l5_22))) (.reg d5_23)))))))))) (.reg d5_24))))
def d5_26 : List AOper := [
  ⟨(some 82), none, (.call 9 [])⟩,
  ⟨(some 2), none, (.val (.t 82))⟩]
theorem r5_26 {fn : AFun} {K : List AItem} {t : Nat → AV} {H : AH} {T : Tbl} : runR T fn (.code (.reg d5_26) :: K) t H = regR T fn K (aops (callR T) [
  ⟨(some 82), none, (.call 9 [])⟩,
  ⟨(some 2), none, (.val (.t 82))⟩] t H) := runR_reg'
def a5 : AFun := ⟨83, [(.tmp 2)], (.seq (.reg d5_0) (.seq (.reg d5_1) (.seq (.seq (.reg d5_2) (.block 0 (.loop l5_25))) (.seq (.reg d5_26) .ret))))⟩
theorem a5_ok : cfun Try.prog 5 = some a5 := by kernel_rfl
/-- futtock/futtocklaw13.RingOnce -/
def d6_0 : List AOper := [
  ⟨(some 2), none, (.val (.c (.b false)))⟩]
theorem r6_0 {fn : AFun} {K : List AItem} {t : Nat → AV} {H : AH} {T : Tbl} : runR T fn (.code (.reg d6_0) :: K) t H = regR T fn K (aops (callR T) [
  ⟨(some 2), none, (.val (.c (.b false)))⟩] t H) := runR_reg'
def d6_1 : List AOper := [
  ⟨(some 3), none, (.alloc [(.sl none 0 0 true 0)])⟩]
theorem r6_1 {fn : AFun} {K : List AItem} {t : Nat → AV} {H : AH} {T : Tbl} : runR T fn (.code (.reg d6_1) :: K) t H = regR T fn K (aops (callR T) [
  ⟨(some 3), none, (.alloc [(.sl none 0 0 true 0)])⟩] t H) := runR_reg'
def d6_2 : List AOper := [
  ⟨(some 13), none, .mkm⟩,
  ⟨(some 4), none, (.val (.t 13))⟩]
theorem r6_2 {fn : AFun} {K : List AItem} {t : Nat → AV} {H : AH} {T : Tbl} : runR T fn (.code (.reg d6_2) :: K) t H = regR T fn K (aops (callR T) [
  ⟨(some 13), none, .mkm⟩,
  ⟨(some 4), none, (.val (.t 13))⟩] t H) := runR_reg'
def d6_3 : List AOper := [
  ⟨(some 14), none, (.val (.t 0))⟩,
  ⟨(some 15), none, (.call 10 [(.t 14)])⟩,
  ⟨(some 16), none, (.len (.t 15))⟩,
  ⟨(some 17), none, (.val (.c (.i .i64 0)))⟩]
theorem r6_3 {fn : AFun} {K : List AItem} {t : Nat → AV} {H : AH} {T : Tbl} : runR T fn (.code (.reg d6_3) :: K) t H = regR T fn K (aops (callR T) [
  ⟨(some 14), none, (.val (.t 0))⟩,
  ⟨(some 15), none, (.call 10 [(.t 14)])⟩,
  ⟨(some 16), none, (.len (.t 15))⟩,
  ⟨(some 17), none, (.val (.c (.i .i64 0)))⟩] t H) := runR_reg'
def d6_4 : List AOper := [
  ⟨(some 18), none, (.bin .lss (.t 17) (.t 16))⟩]
theorem r6_4 {fn : AFun} {K : List AItem} {t : Nat → AV} {H : AH} {T : Tbl} : runR T fn (.code (.reg d6_4) :: K) t H = regR T fn K (aops (callR T) [
  ⟨(some 18), none, (.bin .lss (.t 17) (.t 16))⟩] t H) := runR_reg'
def d6_5 : List AOper := [
  ⟨(some 19), none, (.ia 3 (.t 15) (.t 17))⟩,
  ⟨(some 20), none, (.ld (some 3) (.t 19))⟩,
  ⟨(some 6), none, (.alloc [(.i .u8 0), (.i .i64 0), (.i .i64 0)])⟩,
  ⟨none, none, (.st 3 (.t 6) (.t 20))⟩]
theorem r6_5 {fn : AFun} {K : List AItem} {t : Nat → AV} {H : AH} {T : Tbl} : runR T fn (.code (.reg d6_5) :: K) t H = regR T fn K (aops (callR T) [
  ⟨(some 19), none, (.ia 3 (.t 15) (.t 17))⟩,
  ⟨(some 20), none, (.ld (some 3) (.t 19))⟩,
  ⟨(some 6), none, (.alloc [(.i .u8 0), (.i .i64 0), (.i .i64 0)])⟩,
  ⟨none, none, (.st 3 (.t 6) (.t 20))⟩] t H) := runR_reg'
def d6_6 : List AOper := [
  ⟨(some 22), none, (.ld (some 1) (.t 3))⟩,
  ⟨(some 23), none, (.ld (some 3) (.t 6))⟩,
  ⟨(some 24), none, (.call 11 [(.t 22), (.t 23)])⟩,
  ⟨(some 21), none, (.val (.t 24))⟩,
  ⟨(some 25), none, (.ext (.t 21) 0)⟩,
  ⟨(some 26), none, (.ext (.t 21) 1)⟩,
  ⟨(some 27), none, (.ext (.t 21) 2)⟩,
  ⟨(some 7), none, (.alloc [(.sl none 0 0 true 0)])⟩,
  ⟨(some 8), none, (.alloc [(.i .i64 0), (.i .i64 0)])⟩,
  ⟨none, none, (.st 1 (.t 7) (.t 25))⟩,
  ⟨none, none, (.st 2 (.t 8) (.t 26))⟩,
  ⟨(some 9), none, (.val (.t 27))⟩]
theorem r6_6 {fn : AFun} {K : List AItem} {t : Nat → AV} {H : AH} {T : Tbl} : runR T fn (.code (.reg d6_6) :: K) t H = regR T fn K (aops (callR T) [
  ⟨(some 22), none, (.ld (some 1) (.t 3))⟩,
  ⟨(some 23), none, (.ld (some 3) (.t 6))⟩,
  ⟨(some 24), none, (.call 11 [(.t 22), (.t 23)])⟩,
  ⟨(some 21), none, (.val (.t 24))⟩,
  ⟨(some 25), none, (.ext (.t 21) 0)⟩,
  ⟨(some 26), none, (.ext (.t 21) 1)⟩,
  ⟨(some 27), none, (.ext (.t 21) 2)⟩,
  ⟨(some 7), none, (.alloc [(.sl none 0 0 true 0)])⟩,
  ⟨(some 8), none, (.alloc [(.i .i64 0), (.i .i64 0)])⟩,
  ⟨none, none, (.st 1 (.t 7) (.t 25))⟩,
  ⟨none, none, (.st 2 (.t 8) (.t 26))⟩,
  ⟨(some 9), none, (.val (.t 27))⟩] t H) := runR_reg'
def d6_7 : List AOper := [
  ⟨(some 29), none, (.fa 0 (.t 6))⟩,
  ⟨(some 30), none, (.ld none (.t 29))⟩,
  ⟨(some 31), none, (.bin .rem (.t 30) (.c (.i .u8 4)))⟩,
  ⟨(some 32), none, (.bin .eql (.t 31) (.c (.i .u8 1)))⟩,
  ⟨(some 28), none, (.val (.t 32))⟩]
theorem r6_7 {fn : AFun} {K : List AItem} {t : Nat → AV} {H : AH} {T : Tbl} : runR T fn (.code (.reg d6_7) :: K) t H = regR T fn K (aops (callR T) [
  ⟨(some 29), none, (.fa 0 (.t 6))⟩,
  ⟨(some 30), none, (.ld none (.t 29))⟩,
  ⟨(some 31), none, (.bin .rem (.t 30) (.c (.i .u8 4)))⟩,
  ⟨(some 32), none, (.bin .eql (.t 31) (.c (.i .u8 1)))⟩,
  ⟨(some 28), none, (.val (.t 32))⟩] t H) := runR_reg'
def d6_8 : List AOper := [
  ⟨(some 33), none, (.val (.t 9))⟩,
  ⟨(some 34), none, (.val (.t 4))⟩,
  ⟨(some 35), none, (.fa 1 (.t 6))⟩,
  ⟨(some 36), none, (.fa 0 (.t 35))⟩,
  ⟨(some 37), none, (.ld none (.t 36))⟩,
  ⟨(some 38), none, (.lk [0] (.i .i64 0) (.t 34) (.t 37) false)⟩,
  ⟨(some 39), none, (.bin .gtr (.t 38) (.c (.i .i64 0)))⟩,
  ⟨(some 40), none, (.eqb true (.t 33) (.t 39))⟩,
  ⟨(some 41), none, (.val (.t 40))⟩,
  ⟨(some 42), (some (41, false)), (.val (.t 9))⟩,
  ⟨(some 43), (some (41, false)), (.val (.t 42))⟩,
  ⟨(some 44), (some (43, true)), (.fa 1 (.t 8))⟩,
  ⟨(some 45), (some (43, true)), (.ld none (.t 44))⟩,
  ⟨(some 46), (some (43, true)), (.val (.t 4))⟩,
  ⟨(some 47), (some (43, true)), (.fa 1 (.t 6))⟩,
  ⟨(some 48), (some (43, true)), (.fa 0 (.t 47))⟩,
  ⟨(some 49), (some (43, true)), (.ld none (.t 48))⟩,
  ⟨(some 50), (some (43, true)), (.lk [0] (.i .i64 0) (.t 46) (.t 49) false)⟩,
  ⟨(some 51), (some (43, true)), (.bin .neq (.t 45) (.t 50))⟩,
  ⟨(some 52), (some (41, false)), (.pick (.t 43) (.t 51) (.c (.b false)))⟩,
  ⟨(some 53), none, (.pick (.t 41) (.c (.b true)) (.t 52))⟩]
theorem r6_8 {fn : AFun} {K : List AItem} {t : Nat → AV} {H : AH} {T : Tbl} : runR T fn (.code (.reg d6_8) :: K) t H = regR T fn K (aops (callR T) [
  ⟨(some 33), none, (.val (.t 9))⟩,
  ⟨(some 34), none, (.val (.t 4))⟩,
  ⟨(some 35), none, (.fa 1 (.t 6))⟩,
  ⟨(some 36), none, (.fa 0 (.t 35))⟩,
  ⟨(some 37), none, (.ld none (.t 36))⟩,
  ⟨(some 38), none, (.lk [0] (.i .i64 0) (.t 34) (.t 37) false)⟩,
  ⟨(some 39), none, (.bin .gtr (.t 38) (.c (.i .i64 0)))⟩,
  ⟨(some 40), none, (.eqb true (.t 33) (.t 39))⟩,
  ⟨(some 41), none, (.val (.t 40))⟩,
  ⟨(some 42), (some (41, false)), (.val (.t 9))⟩,
  ⟨(some 43), (some (41, false)), (.val (.t 42))⟩,
  ⟨(some 44), (some (43, true)), (.fa 1 (.t 8))⟩,
  ⟨(some 45), (some (43, true)), (.ld none (.t 44))⟩,
  ⟨(some 46), (some (43, true)), (.val (.t 4))⟩,
  ⟨(some 47), (some (43, true)), (.fa 1 (.t 6))⟩,
  ⟨(some 48), (some (43, true)), (.fa 0 (.t 47))⟩,
  ⟨(some 49), (some (43, true)), (.ld none (.t 48))⟩,
  ⟨(some 50), (some (43, true)), (.lk [0] (.i .i64 0) (.t 46) (.t 49) false)⟩,
  ⟨(some 51), (some (43, true)), (.bin .neq (.t 45) (.t 50))⟩,
  ⟨(some 52), (some (41, false)), (.pick (.t 43) (.t 51) (.c (.b false)))⟩,
  ⟨(some 53), none, (.pick (.t 41) (.c (.b true)) (.t 52))⟩] t H) := runR_reg'
def d6_9 : List AOper := [
  ⟨(some 2), none, (.val (.c (.b false)))⟩]
theorem r6_9 {fn : AFun} {K : List AItem} {t : Nat → AV} {H : AH} {T : Tbl} : runR T fn (.code (.reg d6_9) :: K) t H = regR T fn K (aops (callR T) [
  ⟨(some 2), none, (.val (.c (.b false)))⟩] t H) := runR_reg'
def d6_10 : List AOper := [
  ⟨(some 54), none, (.val (.t 4))⟩,
  ⟨(some 55), none, (.fa 1 (.t 6))⟩,
  ⟨(some 56), none, (.fa 0 (.t 55))⟩,
  ⟨(some 57), none, (.ld none (.t 56))⟩,
  ⟨none, none, (.mu [0] (.t 54) (.t 57) (.c (.i .i64 0)))⟩]
theorem r6_10 {fn : AFun} {K : List AItem} {t : Nat → AV} {H : AH} {T : Tbl} : runR T fn (.code (.reg d6_10) :: K) t H = regR T fn K (aops (callR T) [
  ⟨(some 54), none, (.val (.t 4))⟩,
  ⟨(some 55), none, (.fa 1 (.t 6))⟩,
  ⟨(some 56), none, (.fa 0 (.t 55))⟩,
  ⟨(some 57), none, (.ld none (.t 56))⟩,
  ⟨none, none, (.mu [0] (.t 54) (.t 57) (.c (.i .i64 0)))⟩] t H) := runR_reg'
def d6_11 : List AOper := [
  ⟨(some 59), none, (.fa 0 (.t 6))⟩,
  ⟨(some 60), none, (.ld none (.t 59))⟩,
  ⟨(some 61), none, (.bin .rem (.t 60) (.c (.i .u8 4)))⟩,
  ⟨(some 62), none, (.bin .neq (.t 61) (.c (.i .u8 2)))⟩,
  ⟨(some 63), none, (.val (.t 62))⟩,
  ⟨(some 64), (some (63, true)), (.val (.t 9))⟩,
  ⟨(some 65), none, (.pick (.t 63) (.t 64) (.c (.b false)))⟩,
  ⟨(some 58), none, (.val (.t 65))⟩]
theorem r6_11 {fn : AFun} {K : List AItem} {t : Nat → AV} {H : AH} {T : Tbl} : runR T fn (.code (.reg d6_11) :: K) t H = regR T fn K (aops (callR T) [
  ⟨(some 59), none, (.fa 0 (.t 6))⟩,
  ⟨(some 60), none, (.ld none (.t 59))⟩,
  ⟨(some 61), none, (.bin .rem (.t 60) (.c (.i .u8 4)))⟩,
  ⟨(some 62), none, (.bin .neq (.t 61) (.c (.i .u8 2)))⟩,
  ⟨(some 63), none, (.val (.t 62))⟩,
  ⟨(some 64), (some (63, true)), (.val (.t 9))⟩,
  ⟨(some 65), none, (.pick (.t 63) (.t 64) (.c (.b false)))⟩,
  ⟨(some 58), none, (.val (.t 65))⟩] t H) := runR_reg'
def d6_12 : List AOper := [
  ⟨(some 66), none, (.val (.t 4))⟩,
  ⟨(some 67), none, (.fa 1 (.t 6))⟩,
  ⟨(some 68), none, (.fa 0 (.t 67))⟩,
  ⟨(some 69), none, (.ld none (.t 68))⟩,
  ⟨(some 70), none, (.lk [0] (.i .i64 0) (.t 66) (.t 69) false)⟩,
  ⟨(some 71), none, (.bin .gtr (.t 70) (.c (.i .i64 0)))⟩]
theorem r6_12 {fn : AFun} {K : List AItem} {t : Nat → AV} {H : AH} {T : Tbl} : runR T fn (.code (.reg d6_12) :: K) t H = regR T fn K (aops (callR T) [
  ⟨(some 66), none, (.val (.t 4))⟩,
  ⟨(some 67), none, (.fa 1 (.t 6))⟩,
  ⟨(some 68), none, (.fa 0 (.t 67))⟩,
  ⟨(some 69), none, (.ld none (.t 68))⟩,
  ⟨(some 70), none, (.lk [0] (.i .i64 0) (.t 66) (.t 69) false)⟩,
  ⟨(some 71), none, (.bin .gtr (.t 70) (.c (.i .i64 0)))⟩] t H) := runR_reg'
def d6_13 : List AOper := [
  ⟨(some 2), none, (.val (.c (.b false)))⟩]
theorem r6_13 {fn : AFun} {K : List AItem} {t : Nat → AV} {H : AH} {T : Tbl} : runR T fn (.code (.reg d6_13) :: K) t H = regR T fn K (aops (callR T) [
  ⟨(some 2), none, (.val (.c (.b false)))⟩] t H) := runR_reg'
def d6_14 : List AOper := [
  ⟨(some 72), none, (.val (.t 4))⟩,
  ⟨(some 73), none, (.fa 1 (.t 6))⟩,
  ⟨(some 74), none, (.fa 0 (.t 73))⟩,
  ⟨(some 75), none, (.ld none (.t 74))⟩,
  ⟨(some 76), none, (.fa 1 (.t 6))⟩,
  ⟨(some 77), none, (.fa 1 (.t 76))⟩,
  ⟨(some 78), none, (.ld none (.t 77))⟩,
  ⟨none, none, (.mu [0] (.t 72) (.t 75) (.t 78))⟩]
theorem r6_14 {fn : AFun} {K : List AItem} {t : Nat → AV} {H : AH} {T : Tbl} : runR T fn (.code (.reg d6_14) :: K) t H = regR T fn K (aops (callR T) [
  ⟨(some 72), none, (.val (.t 4))⟩,
  ⟨(some 73), none, (.fa 1 (.t 6))⟩,
  ⟨(some 74), none, (.fa 0 (.t 73))⟩,
  ⟨(some 75), none, (.ld none (.t 74))⟩,
  ⟨(some 76), none, (.fa 1 (.t 6))⟩,
  ⟨(some 77), none, (.fa 1 (.t 76))⟩,
  ⟨(some 78), none, (.ld none (.t 77))⟩,
  ⟨none, none, (.mu [0] (.t 72) (.t 75) (.t 78))⟩] t H) := runR_reg'
def d6_15 : List AOper := [
  ⟨(some 79), none, (.ld (some 1) (.t 7))⟩,
  ⟨none, none, (.st 1 (.t 3) (.t 79))⟩]
theorem r6_15 {fn : AFun} {K : List AItem} {t : Nat → AV} {H : AH} {T : Tbl} : runR T fn (.code (.reg d6_15) :: K) t H = regR T fn K (aops (callR T) [
  ⟨(some 79), none, (.ld (some 1) (.t 7))⟩,
  ⟨none, none, (.st 1 (.t 3) (.t 79))⟩] t H) := runR_reg'
def d6_16 : List AOper := [
  ⟨(some 80), none, .mkm⟩,
  ⟨(some 10), none, (.val (.t 80))⟩]
theorem r6_16 {fn : AFun} {K : List AItem} {t : Nat → AV} {H : AH} {T : Tbl} : runR T fn (.code (.reg d6_16) :: K) t H = regR T fn K (aops (callR T) [
  ⟨(some 80), none, .mkm⟩,
  ⟨(some 10), none, (.val (.t 80))⟩] t H) := runR_reg'
def d6_17 : List AOper := [
  ⟨(some 81), none, (.ld (some 1) (.t 3))⟩,
  ⟨(some 82), none, (.call 17 [(.t 81)])⟩,
  ⟨(some 83), none, (.len (.t 82))⟩,
  ⟨(some 84), none, (.val (.c (.i .i64 0)))⟩]
theorem r6_17 {fn : AFun} {K : List AItem} {t : Nat → AV} {H : AH} {T : Tbl} : runR T fn (.code (.reg d6_17) :: K) t H = regR T fn K (aops (callR T) [
  ⟨(some 81), none, (.ld (some 1) (.t 3))⟩,
  ⟨(some 82), none, (.call 17 [(.t 81)])⟩,
  ⟨(some 83), none, (.len (.t 82))⟩,
  ⟨(some 84), none, (.val (.c (.i .i64 0)))⟩] t H) := runR_reg'
def d6_18 : List AOper := [
  ⟨(some 85), none, (.bin .lss (.t 84) (.t 83))⟩]
theorem r6_18 {fn : AFun} {K : List AItem} {t : Nat → AV} {H : AH} {T : Tbl} : runR T fn (.code (.reg d6_18) :: K) t H = regR T fn K (aops (callR T) [
  ⟨(some 85), none, (.bin .lss (.t 84) (.t 83))⟩] t H) := runR_reg'
def d6_19 : List AOper := [
  ⟨(some 86), none, (.ia 2 (.t 82) (.t 84))⟩,
  ⟨(some 87), none, (.ld (some 2) (.t 86))⟩,
  ⟨(some 12), none, (.alloc [(.i .i64 0), (.i .i64 0)])⟩,
  ⟨none, none, (.st 2 (.t 12) (.t 87))⟩]
theorem r6_19 {fn : AFun} {K : List AItem} {t : Nat → AV} {H : AH} {T : Tbl} : runR T fn (.code (.reg d6_19) :: K) t H = regR T fn K (aops (callR T) [
  ⟨(some 86), none, (.ia 2 (.t 82) (.t 84))⟩,
  ⟨(some 87), none, (.ld (some 2) (.t 86))⟩,
  ⟨(some 12), none, (.alloc [(.i .i64 0), (.i .i64 0)])⟩,
  ⟨none, none, (.st 2 (.t 12) (.t 87))⟩] t H) := runR_reg'
def d6_20 : List AOper := [
  ⟨(some 88), none, (.val (.t 10))⟩,
  ⟨(some 89), none, (.fa 0 (.t 12))⟩,
  ⟨(some 90), none, (.ld none (.t 89))⟩,
  ⟨(some 91), none, (.lk [0] (.b false) (.t 88) (.t 90) false)⟩,
  ⟨(some 92), none, (.val (.t 91))⟩,
  ⟨(some 93), (some (92, false)), (.val (.t 4))⟩,
  ⟨(some 94), (some (92, false)), (.fa 0 (.t 12))⟩,
  ⟨(some 95), (some (92, false)), (.ld none (.t 94))⟩,
  ⟨(some 96), (some (92, false)), (.lk [0] (.i .i64 0) (.t 93) (.t 95) false)⟩,
  ⟨(some 97), (some (92, false)), (.fa 1 (.t 12))⟩,
  ⟨(some 98), (some (92, false)), (.ld none (.t 97))⟩,
  ⟨(some 99), (some (92, false)), (.bin .neq (.t 96) (.t 98))⟩,
  ⟨(some 100), none, (.pick (.t 92) (.c (.b true)) (.t 99))⟩]
theorem r6_20 {fn : AFun} {K : List AItem} {t : Nat → AV} {H : AH} {T : Tbl} : runR T fn (.code (.reg d6_20) :: K) t H = regR T fn K (aops (callR T) [
  ⟨(some 88), none, (.val (.t 10))⟩,
  ⟨(some 89), none, (.fa 0 (.t 12))⟩,
  ⟨(some 90), none, (.ld none (.t 89))⟩,
  ⟨(some 91), none, (.lk [0] (.b false) (.t 88) (.t 90) false)⟩,
  ⟨(some 92), none, (.val (.t 91))⟩,
  ⟨(some 93), (some (92, false)), (.val (.t 4))⟩,
  ⟨(some 94), (some (92, false)), (.fa 0 (.t 12))⟩,
  ⟨(some 95), (some (92, false)), (.ld none (.t 94))⟩,
  ⟨(some 96), (some (92, false)), (.lk [0] (.i .i64 0) (.t 93) (.t 95) false)⟩,
  ⟨(some 97), (some (92, false)), (.fa 1 (.t 12))⟩,
  ⟨(some 98), (some (92, false)), (.ld none (.t 97))⟩,
  ⟨(some 99), (some (92, false)), (.bin .neq (.t 96) (.t 98))⟩,
  ⟨(some 100), none, (.pick (.t 92) (.c (.b true)) (.t 99))⟩] t H) := runR_reg'
def d6_21 : List AOper := [
  ⟨(some 2), none, (.val (.c (.b false)))⟩]
theorem r6_21 {fn : AFun} {K : List AItem} {t : Nat → AV} {H : AH} {T : Tbl} : runR T fn (.code (.reg d6_21) :: K) t H = regR T fn K (aops (callR T) [
  ⟨(some 2), none, (.val (.c (.b false)))⟩] t H) := runR_reg'
def d6_22 : List AOper := [
  ⟨(some 101), none, (.val (.t 10))⟩,
  ⟨(some 102), none, (.fa 0 (.t 12))⟩,
  ⟨(some 103), none, (.ld none (.t 102))⟩,
  ⟨none, none, (.mu [0] (.t 101) (.t 103) (.c (.b true)))⟩]
theorem r6_22 {fn : AFun} {K : List AItem} {t : Nat → AV} {H : AH} {T : Tbl} : runR T fn (.code (.reg d6_22) :: K) t H = regR T fn K (aops (callR T) [
  ⟨(some 101), none, (.val (.t 10))⟩,
  ⟨(some 102), none, (.fa 0 (.t 12))⟩,
  ⟨(some 103), none, (.ld none (.t 102))⟩,
  ⟨none, none, (.mu [0] (.t 101) (.t 103) (.c (.b true)))⟩] t H) := runR_reg'
def d6_23 : List AOper := [
  ⟨(some 104), none, (.bin .add (.t 84) (.c (.i .i64 1)))⟩,
  ⟨(some 84), none, (.val (.t 104))⟩]
theorem r6_23 {fn : AFun} {K : List AItem} {t : Nat → AV} {H : AH} {T : Tbl} : runR T fn (.code (.reg d6_23) :: K) t H = regR T fn K (aops (callR T) [
  ⟨(some 104), none, (.bin .add (.t 84) (.c (.i .i64 1)))⟩,
  ⟨(some 84), none, (.val (.t 104))⟩] t H) := runR_reg'
def l6_24 : ACode := (.seq (.reg d6_18) (.seq (.cond (.t 85) .skip (.exit 3)) (.seq (.block 4 (.seq (.reg d6_19) (.seq (.seq (.reg d6_20) (.cond (.t 100) (.seq (.reg d6_21) .ret) .skip)) (.reg d6_22)))) (.reg d6_23))))
def d6_25 : List AOper := [
  ⟨(some 105), none, (.bin .add (.t 17) (.c (.i .i64 1)))⟩,
  ⟨(some 17), none, (.val (.t 105))⟩]
theorem r6_25 {fn : AFun} {K : List AItem} {t : Nat → AV} {H : AH} {T : Tbl} : runR T fn (.code (.reg d6_25) :: K) t H = regR T fn K (aops (callR T) [
  ⟨(some 105), none, (.bin .add (.t 17) (.c (.i .i64 1)))⟩,
  ⟨(some 17), none, (.val (.t 105))⟩] t H) := runR_reg'
def l6_26 : ACode := (.seq (.reg d6_4) (.seq (.cond (.t 18) .skip (.exit 0)) (.seq (.block 1 (.seq (.reg d6_5) (.seq (.reg d6_6) (.seq (.block 2 (.seq (.reg d6_7) (.cond (.t 28) (.seq (.seq (.reg d6_8) (.cond (.t 53) (.seq (.reg d6_9) .ret) .skip)) (.reg d6_10)) (.seq (.reg d6_11) (.cond (.t 58) (.seq (.seq (.reg d6_12) (.cond (.t 71) (.seq (.reg d6_13) .ret) .skip)) (.reg d6_14)) .skip))))) (.seq (.reg d6_15) (.seq (.reg d6_16) (.seq (.reg d6_17) (.block 3 (.loop l6_24))))))))) (.reg d6_25))))
def d6_27 : List AOper := [
  ⟨(some 106), none, (.call 9 [])⟩,
  ⟨(some 2), none, (.val (.t 106))⟩]
theorem r6_27 {fn : AFun} {K : List AItem} {t : Nat → AV} {H : AH} {T : Tbl} : runR T fn (.code (.reg d6_27) :: K) t H = regR T fn K (aops (callR T) [
  ⟨(some 106), none, (.call 9 [])⟩,
  ⟨(some 2), none, (.val (.t 106))⟩] t H) := runR_reg'
def a6 : AFun := ⟨107, [(.tmp 2)], (.seq (.reg d6_0) (.seq (.reg d6_1) (.seq (.reg d6_2) (.seq (.seq (.reg d6_3) (.block 0 (.loop l6_26))) (.seq (.reg d6_27) .ret)))))⟩
theorem a6_ok : cfun Try.prog 6 = some a6 := by kernel_rfl
/-- futtock/ring.Goes -/
def d7_0 : List AOper := [
  ⟨(some 4), none, (.val (.c (.b false)))⟩]
theorem r7_0 {fn : AFun} {K : List AItem} {t : Nat → AV} {H : AH} {T : Tbl} : runR T fn (.code (.reg d7_0) :: K) t H = regR T fn K (aops (callR T) [
  ⟨(some 4), none, (.val (.c (.b false)))⟩] t H) := runR_reg'
def d7_1 : List AOper := [
  ⟨(some 5), none, (.val (.t 0))⟩]
theorem r7_1 {fn : AFun} {K : List AItem} {t : Nat → AV} {H : AH} {T : Tbl} : runR T fn (.code (.reg d7_1) :: K) t H = regR T fn K (aops (callR T) [
  ⟨(some 5), none, (.val (.t 0))⟩] t H) := runR_reg'
def d7_2 : List AOper := [
  ⟨(some 7), none, (.bin .eql (.t 5) (.c (.i .u64 0)))⟩,
  ⟨(some 6), none, (.val (.t 7))⟩]
theorem r7_2 {fn : AFun} {K : List AItem} {t : Nat → AV} {H : AH} {T : Tbl} : runR T fn (.code (.reg d7_2) :: K) t H = regR T fn K (aops (callR T) [
  ⟨(some 7), none, (.bin .eql (.t 5) (.c (.i .u64 0)))⟩,
  ⟨(some 6), none, (.val (.t 7))⟩] t H) := runR_reg'
def d7_3 : List AOper := [
  ⟨(some 8), none, (.val (.t 1))⟩,
  ⟨(some 9), none, (.bin .eql (.t 8) (.c (.i .u64 1)))⟩,
  ⟨(some 4), none, (.val (.t 9))⟩]
theorem r7_3 {fn : AFun} {K : List AItem} {t : Nat → AV} {H : AH} {T : Tbl} : runR T fn (.code (.reg d7_3) :: K) t H = regR T fn K (aops (callR T) [
  ⟨(some 8), none, (.val (.t 1))⟩,
  ⟨(some 9), none, (.bin .eql (.t 8) (.c (.i .u64 1)))⟩,
  ⟨(some 4), none, (.val (.t 9))⟩] t H) := runR_reg'
def d7_4 : List AOper := [
  ⟨(some 11), none, (.bin .eql (.t 5) (.c (.i .u64 1)))⟩,
  ⟨(some 10), none, (.val (.t 11))⟩]
theorem r7_4 {fn : AFun} {K : List AItem} {t : Nat → AV} {H : AH} {T : Tbl} : runR T fn (.code (.reg d7_4) :: K) t H = regR T fn K (aops (callR T) [
  ⟨(some 11), none, (.bin .eql (.t 5) (.c (.i .u64 1)))⟩,
  ⟨(some 10), none, (.val (.t 11))⟩] t H) := runR_reg'
def d7_5 : List AOper := [
  ⟨(some 12), none, (.val (.t 1))⟩,
  ⟨(some 13), none, (.bin .geq (.t 12) (.c (.i .u64 2)))⟩,
  ⟨(some 14), none, (.val (.t 13))⟩,
  ⟨(some 15), (some (14, true)), (.val (.t 1))⟩,
  ⟨(some 16), (some (14, true)), (.bin .leq (.t 15) (.c (.i .u64 4)))⟩,
  ⟨(some 17), none, (.pick (.t 14) (.t 16) (.c (.b false)))⟩,
  ⟨(some 4), none, (.val (.t 17))⟩]
theorem r7_5 {fn : AFun} {K : List AItem} {t : Nat → AV} {H : AH} {T : Tbl} : runR T fn (.code (.reg d7_5) :: K) t H = regR T fn K (aops (callR T) [
  ⟨(some 12), none, (.val (.t 1))⟩,
  ⟨(some 13), none, (.bin .geq (.t 12) (.c (.i .u64 2)))⟩,
  ⟨(some 14), none, (.val (.t 13))⟩,
  ⟨(some 15), (some (14, true)), (.val (.t 1))⟩,
  ⟨(some 16), (some (14, true)), (.bin .leq (.t 15) (.c (.i .u64 4)))⟩,
  ⟨(some 17), none, (.pick (.t 14) (.t 16) (.c (.b false)))⟩,
  ⟨(some 4), none, (.val (.t 17))⟩] t H) := runR_reg'
def d7_6 : List AOper := [
  ⟨(some 19), none, (.bin .eql (.t 5) (.c (.i .u64 2)))⟩,
  ⟨(some 18), none, (.val (.t 19))⟩]
theorem r7_6 {fn : AFun} {K : List AItem} {t : Nat → AV} {H : AH} {T : Tbl} : runR T fn (.code (.reg d7_6) :: K) t H = regR T fn K (aops (callR T) [
  ⟨(some 19), none, (.bin .eql (.t 5) (.c (.i .u64 2)))⟩,
  ⟨(some 18), none, (.val (.t 19))⟩] t H) := runR_reg'
def d7_7 : List AOper := [
  ⟨(some 20), none, (.bin .eql (.t 5) (.c (.i .u64 3)))⟩,
  ⟨(some 18), none, (.val (.t 20))⟩]
theorem r7_7 {fn : AFun} {K : List AItem} {t : Nat → AV} {H : AH} {T : Tbl} : runR T fn (.code (.reg d7_7) :: K) t H = regR T fn K (aops (callR T) [
  ⟨(some 20), none, (.bin .eql (.t 5) (.c (.i .u64 3)))⟩,
  ⟨(some 18), none, (.val (.t 20))⟩] t H) := runR_reg'
def d7_8 : List AOper := [
  ⟨(some 21), none, (.bin .eql (.t 5) (.c (.i .u64 4)))⟩,
  ⟨(some 18), none, (.val (.t 21))⟩]
theorem r7_8 {fn : AFun} {K : List AItem} {t : Nat → AV} {H : AH} {T : Tbl} : runR T fn (.code (.reg d7_8) :: K) t H = regR T fn K (aops (callR T) [
  ⟨(some 21), none, (.bin .eql (.t 5) (.c (.i .u64 4)))⟩,
  ⟨(some 18), none, (.val (.t 21))⟩] t H) := runR_reg'
def d7_9 : List AOper := [
  ⟨(some 22), none, (.val (.t 1))⟩,
  ⟨(some 23), none, (.bin .eql (.t 22) (.c (.i .u64 0)))⟩,
  ⟨(some 4), none, (.val (.t 23))⟩]
theorem r7_9 {fn : AFun} {K : List AItem} {t : Nat → AV} {H : AH} {T : Tbl} : runR T fn (.code (.reg d7_9) :: K) t H = regR T fn K (aops (callR T) [
  ⟨(some 22), none, (.val (.t 1))⟩,
  ⟨(some 23), none, (.bin .eql (.t 22) (.c (.i .u64 0)))⟩,
  ⟨(some 4), none, (.val (.t 23))⟩] t H) := runR_reg'
def d7_10 : List AOper := [
  ⟨(some 4), none, (.val (.c (.b false)))⟩]
theorem r7_10 {fn : AFun} {K : List AItem} {t : Nat → AV} {H : AH} {T : Tbl} : runR T fn (.code (.reg d7_10) :: K) t H = regR T fn K (aops (callR T) [
  ⟨(some 4), none, (.val (.c (.b false)))⟩] t H) := runR_reg'
def a7 : AFun := ⟨24, [(.tmp 4)], (.seq (.reg d7_0) (.seq (.seq (.reg d7_1) (.block 0 (.seq (.reg d7_2) (.cond (.t 6) (.seq (.reg d7_3) .ret) (.seq (.reg d7_4) (.cond (.t 10) (.seq (.reg d7_5) .ret) (.seq (.seq (.reg d7_6) (.cond (.t 18) .skip (.seq (.reg d7_7) (.cond (.t 18) .skip (.reg d7_8))))) (.cond (.t 18) (.seq (.reg d7_9) .ret) .skip)))))))) (.seq (.reg d7_10) .ret)))⟩
theorem a7_ok : cfun Try.prog 7 = some a7 := by kernel_rfl
/-- futtock/futtockref13.Goes -/
def d8_0 : List AOper := [
  ⟨(some 4), none, (.val (.c (.b false)))⟩]
theorem r8_0 {fn : AFun} {K : List AItem} {t : Nat → AV} {H : AH} {T : Tbl} : runR T fn (.code (.reg d8_0) :: K) t H = regR T fn K (aops (callR T) [
  ⟨(some 4), none, (.val (.c (.b false)))⟩] t H) := runR_reg'
def d8_1 : List AOper := [
  ⟨(some 5), none, (.val (.t 0))⟩]
theorem r8_1 {fn : AFun} {K : List AItem} {t : Nat → AV} {H : AH} {T : Tbl} : runR T fn (.code (.reg d8_1) :: K) t H = regR T fn K (aops (callR T) [
  ⟨(some 5), none, (.val (.t 0))⟩] t H) := runR_reg'
def d8_2 : List AOper := [
  ⟨(some 7), none, (.bin .eql (.t 5) (.c (.i .u64 0)))⟩,
  ⟨(some 6), none, (.val (.t 7))⟩]
theorem r8_2 {fn : AFun} {K : List AItem} {t : Nat → AV} {H : AH} {T : Tbl} : runR T fn (.code (.reg d8_2) :: K) t H = regR T fn K (aops (callR T) [
  ⟨(some 7), none, (.bin .eql (.t 5) (.c (.i .u64 0)))⟩,
  ⟨(some 6), none, (.val (.t 7))⟩] t H) := runR_reg'
def d8_3 : List AOper := [
  ⟨(some 8), none, (.val (.t 1))⟩,
  ⟨(some 9), none, (.bin .eql (.t 8) (.c (.i .u64 1)))⟩,
  ⟨(some 4), none, (.val (.t 9))⟩]
theorem r8_3 {fn : AFun} {K : List AItem} {t : Nat → AV} {H : AH} {T : Tbl} : runR T fn (.code (.reg d8_3) :: K) t H = regR T fn K (aops (callR T) [
  ⟨(some 8), none, (.val (.t 1))⟩,
  ⟨(some 9), none, (.bin .eql (.t 8) (.c (.i .u64 1)))⟩,
  ⟨(some 4), none, (.val (.t 9))⟩] t H) := runR_reg'
def d8_4 : List AOper := [
  ⟨(some 11), none, (.bin .eql (.t 5) (.c (.i .u64 1)))⟩,
  ⟨(some 10), none, (.val (.t 11))⟩]
theorem r8_4 {fn : AFun} {K : List AItem} {t : Nat → AV} {H : AH} {T : Tbl} : runR T fn (.code (.reg d8_4) :: K) t H = regR T fn K (aops (callR T) [
  ⟨(some 11), none, (.bin .eql (.t 5) (.c (.i .u64 1)))⟩,
  ⟨(some 10), none, (.val (.t 11))⟩] t H) := runR_reg'
def d8_5 : List AOper := [
  ⟨(some 12), none, (.val (.t 1))⟩,
  ⟨(some 13), none, (.bin .eql (.t 12) (.c (.i .u64 2)))⟩,
  ⟨(some 14), none, (.val (.t 13))⟩,
  ⟨(some 15), (some (14, false)), (.val (.t 1))⟩,
  ⟨(some 16), (some (14, false)), (.bin .eql (.t 15) (.c (.i .u64 3)))⟩,
  ⟨(some 17), none, (.pick (.t 14) (.c (.b true)) (.t 16))⟩,
  ⟨(some 18), none, (.val (.t 17))⟩,
  ⟨(some 19), (some (18, false)), (.val (.t 1))⟩,
  ⟨(some 20), (some (18, false)), (.bin .eql (.t 19) (.c (.i .u64 4)))⟩,
  ⟨(some 21), none, (.pick (.t 18) (.c (.b true)) (.t 20))⟩,
  ⟨(some 4), none, (.val (.t 21))⟩]
theorem r8_5 {fn : AFun} {K : List AItem} {t : Nat → AV} {H : AH} {T : Tbl} : runR T fn (.code (.reg d8_5) :: K) t H = regR T fn K (aops (callR T) [
  ⟨(some 12), none, (.val (.t 1))⟩,
  ⟨(some 13), none, (.bin .eql (.t 12) (.c (.i .u64 2)))⟩,
  ⟨(some 14), none, (.val (.t 13))⟩,
  ⟨(some 15), (some (14, false)), (.val (.t 1))⟩,
  ⟨(some 16), (some (14, false)), (.bin .eql (.t 15) (.c (.i .u64 3)))⟩,
  ⟨(some 17), none, (.pick (.t 14) (.c (.b true)) (.t 16))⟩,
  ⟨(some 18), none, (.val (.t 17))⟩,
  ⟨(some 19), (some (18, false)), (.val (.t 1))⟩,
  ⟨(some 20), (some (18, false)), (.bin .eql (.t 19) (.c (.i .u64 4)))⟩,
  ⟨(some 21), none, (.pick (.t 18) (.c (.b true)) (.t 20))⟩,
  ⟨(some 4), none, (.val (.t 21))⟩] t H) := runR_reg'
def d8_6 : List AOper := [
  ⟨(some 23), none, (.bin .eql (.t 5) (.c (.i .u64 2)))⟩,
  ⟨(some 22), none, (.val (.t 23))⟩]
theorem r8_6 {fn : AFun} {K : List AItem} {t : Nat → AV} {H : AH} {T : Tbl} : runR T fn (.code (.reg d8_6) :: K) t H = regR T fn K (aops (callR T) [
  ⟨(some 23), none, (.bin .eql (.t 5) (.c (.i .u64 2)))⟩,
  ⟨(some 22), none, (.val (.t 23))⟩] t H) := runR_reg'
def d8_7 : List AOper := [
  ⟨(some 24), none, (.bin .eql (.t 5) (.c (.i .u64 3)))⟩,
  ⟨(some 22), none, (.val (.t 24))⟩]
theorem r8_7 {fn : AFun} {K : List AItem} {t : Nat → AV} {H : AH} {T : Tbl} : runR T fn (.code (.reg d8_7) :: K) t H = regR T fn K (aops (callR T) [
  ⟨(some 24), none, (.bin .eql (.t 5) (.c (.i .u64 3)))⟩,
  ⟨(some 22), none, (.val (.t 24))⟩] t H) := runR_reg'
def d8_8 : List AOper := [
  ⟨(some 25), none, (.bin .eql (.t 5) (.c (.i .u64 4)))⟩,
  ⟨(some 22), none, (.val (.t 25))⟩]
theorem r8_8 {fn : AFun} {K : List AItem} {t : Nat → AV} {H : AH} {T : Tbl} : runR T fn (.code (.reg d8_8) :: K) t H = regR T fn K (aops (callR T) [
  ⟨(some 25), none, (.bin .eql (.t 5) (.c (.i .u64 4)))⟩,
  ⟨(some 22), none, (.val (.t 25))⟩] t H) := runR_reg'
def d8_9 : List AOper := [
  ⟨(some 26), none, (.val (.t 1))⟩,
  ⟨(some 27), none, (.bin .eql (.t 26) (.c (.i .u64 0)))⟩,
  ⟨(some 4), none, (.val (.t 27))⟩]
theorem r8_9 {fn : AFun} {K : List AItem} {t : Nat → AV} {H : AH} {T : Tbl} : runR T fn (.code (.reg d8_9) :: K) t H = regR T fn K (aops (callR T) [
  ⟨(some 26), none, (.val (.t 1))⟩,
  ⟨(some 27), none, (.bin .eql (.t 26) (.c (.i .u64 0)))⟩,
  ⟨(some 4), none, (.val (.t 27))⟩] t H) := runR_reg'
def d8_10 : List AOper := [
  ⟨(some 4), none, (.val (.c (.b false)))⟩]
theorem r8_10 {fn : AFun} {K : List AItem} {t : Nat → AV} {H : AH} {T : Tbl} : runR T fn (.code (.reg d8_10) :: K) t H = regR T fn K (aops (callR T) [
  ⟨(some 4), none, (.val (.c (.b false)))⟩] t H) := runR_reg'
def a8 : AFun := ⟨28, [(.tmp 4)], (.seq (.reg d8_0) (.seq (.seq (.reg d8_1) (.block 0 (.seq (.reg d8_2) (.cond (.t 6) (.seq (.reg d8_3) .ret) (.seq (.reg d8_4) (.cond (.t 10) (.seq (.reg d8_5) .ret) (.seq (.seq (.reg d8_6) (.cond (.t 22) .skip (.seq (.reg d8_7) (.cond (.t 22) .skip (.reg d8_8))))) (.cond (.t 22) (.seq (.reg d8_9) .ret) .skip)))))))) (.seq (.reg d8_10) .ret)))⟩
theorem a8_ok : cfun Try.prog 8 = some a8 := by kernel_rfl
/-- futtock/futtocklaw13.alive -/
def d9_0 : List AOper := [
  ⟨(some 0), none, (.val (.c (.b false)))⟩]
theorem r9_0 {fn : AFun} {K : List AItem} {t : Nat → AV} {H : AH} {T : Tbl} : runR T fn (.code (.reg d9_0) :: K) t H = regR T fn K (aops (callR T) [
  ⟨(some 0), none, (.val (.c (.b false)))⟩] t H) := runR_reg'
def d9_1 : List AOper := [
  ⟨(some 7), none, (.build [(.sl none 0 0 true 0)] [])⟩,
  ⟨(some 8), none, (.build [(.i .i64 0), (.i .i64 0)] [(0, 1, (.c (.i .i64 1))), (1, 1, (.c (.i .i64 2)))])⟩,
  ⟨(some 9), none, (.call 20 [(.t 7), (.t 8)])⟩,
  ⟨(some 6), none, (.val (.t 9))⟩,
  ⟨(some 10), none, (.ext (.t 6) 0)⟩,
  ⟨(some 11), none, (.ext (.t 6) 1)⟩,
  ⟨(some 1), none, (.alloc [(.sl none 0 0 true 0)])⟩,
  ⟨none, none, (.st 1 (.t 1) (.t 10))⟩,
  ⟨(some 2), none, (.val (.t 11))⟩]
theorem r9_1 {fn : AFun} {K : List AItem} {t : Nat → AV} {H : AH} {T : Tbl} : runR T fn (.code (.reg d9_1) :: K) t H = regR T fn K (aops (callR T) [
  ⟨(some 7), none, (.build [(.sl none 0 0 true 0)] [])⟩,
  ⟨(some 8), none, (.build [(.i .i64 0), (.i .i64 0)] [(0, 1, (.c (.i .i64 1))), (1, 1, (.c (.i .i64 2)))])⟩,
  ⟨(some 9), none, (.call 20 [(.t 7), (.t 8)])⟩,
  ⟨(some 6), none, (.val (.t 9))⟩,
  ⟨(some 10), none, (.ext (.t 6) 0)⟩,
  ⟨(some 11), none, (.ext (.t 6) 1)⟩,
  ⟨(some 1), none, (.alloc [(.sl none 0 0 true 0)])⟩,
  ⟨none, none, (.st 1 (.t 1) (.t 10))⟩,
  ⟨(some 2), none, (.val (.t 11))⟩] t H) := runR_reg'
def d9_2 : List AOper := [
  ⟨(some 13), none, (.ld (some 1) (.t 1))⟩,
  ⟨(some 14), none, (.build [(.i .i64 0), (.i .i64 0)] [(0, 1, (.c (.i .i64 2))), (1, 1, (.c (.i .i64 1)))])⟩,
  ⟨(some 15), none, (.call 20 [(.t 13), (.t 14)])⟩,
  ⟨(some 12), none, (.val (.t 15))⟩,
  ⟨(some 16), none, (.ext (.t 12) 0)⟩,
  ⟨(some 17), none, (.ext (.t 12) 1)⟩,
  ⟨none, none, (.st 1 (.t 1) (.t 16))⟩,
  ⟨(some 3), none, (.val (.t 17))⟩]
theorem r9_2 {fn : AFun} {K : List AItem} {t : Nat → AV} {H : AH} {T : Tbl} : runR T fn (.code (.reg d9_2) :: K) t H = regR T fn K (aops (callR T) [
  ⟨(some 13), none, (.ld (some 1) (.t 1))⟩,
  ⟨(some 14), none, (.build [(.i .i64 0), (.i .i64 0)] [(0, 1, (.c (.i .i64 2))), (1, 1, (.c (.i .i64 1)))])⟩,
  ⟨(some 15), none, (.call 20 [(.t 13), (.t 14)])⟩,
  ⟨(some 12), none, (.val (.t 15))⟩,
  ⟨(some 16), none, (.ext (.t 12) 0)⟩,
  ⟨(some 17), none, (.ext (.t 12) 1)⟩,
  ⟨none, none, (.st 1 (.t 1) (.t 16))⟩,
  ⟨(some 3), none, (.val (.t 17))⟩] t H) := runR_reg'
def d9_3 : List AOper := [
  ⟨(some 19), none, (.ld (some 1) (.t 1))⟩,
  ⟨(some 20), none, (.call 19 [(.t 19)])⟩,
  ⟨(some 21), none, (.call 15 [(.t 20)])⟩,
  ⟨(some 18), none, (.val (.t 21))⟩,
  ⟨(some 22), none, (.ext (.t 18) 0)⟩,
  ⟨(some 23), none, (.ext (.t 18) 1)⟩,
  ⟨(some 4), none, (.alloc [(.i .i64 0), (.i .i64 0)])⟩,
  ⟨none, none, (.st 2 (.t 4) (.t 22))⟩,
  ⟨(some 5), none, (.val (.t 23))⟩]
theorem r9_3 {fn : AFun} {K : List AItem} {t : Nat → AV} {H : AH} {T : Tbl} : runR T fn (.code (.reg d9_3) :: K) t H = regR T fn K (aops (callR T) [
  ⟨(some 19), none, (.ld (some 1) (.t 1))⟩,
  ⟨(some 20), none, (.call 19 [(.t 19)])⟩,
  ⟨(some 21), none, (.call 15 [(.t 20)])⟩,
  ⟨(some 18), none, (.val (.t 21))⟩,
  ⟨(some 22), none, (.ext (.t 18) 0)⟩,
  ⟨(some 23), none, (.ext (.t 18) 1)⟩,
  ⟨(some 4), none, (.alloc [(.i .i64 0), (.i .i64 0)])⟩,
  ⟨none, none, (.st 2 (.t 4) (.t 22))⟩,
  ⟨(some 5), none, (.val (.t 23))⟩] t H) := runR_reg'
def d9_4 : List AOper := [
  ⟨(some 24), none, (.val (.t 2))⟩,
  ⟨(some 25), none, (.val (.t 24))⟩,
  ⟨(some 26), (some (25, true)), (.val (.t 3))⟩,
  ⟨(some 27), none, (.pick (.t 25) (.t 26) (.c (.b false)))⟩,
  ⟨(some 28), none, (.val (.t 27))⟩,
  ⟨(some 29), (some (28, true)), (.fa 0 (.t 4))⟩,
  ⟨(some 30), (some (28, true)), (.ld none (.t 29))⟩,
  ⟨(some 31), (some (28, true)), (.bin .eql (.t 30) (.c (.i .i64 2)))⟩,
  ⟨(some 32), none, (.pick (.t 28) (.t 31) (.c (.b false)))⟩,
  ⟨(some 33), none, (.val (.t 32))⟩,
  ⟨(some 34), (some (33, true)), (.ld (some 1) (.t 1))⟩,
  ⟨(some 35), (some (33, true)), (.call 18 [(.t 34)])⟩,
  ⟨(some 36), (some (33, true)), (.bin .eql (.t 35) (.c (.i .i64 2)))⟩,
  ⟨(some 37), none, (.pick (.t 33) (.t 36) (.c (.b false)))⟩,
  ⟨(some 38), none, (.val (.t 37))⟩,
  ⟨(some 39), (some (38, true)), (.call 7 [(.c (.i .u64 1)), (.c (.i .u64 2))])⟩,
  ⟨(some 40), none, (.pick (.t 38) (.t 39) (.c (.b false)))⟩,
  ⟨(some 41), none, (.val (.t 40))⟩,
  ⟨(some 42), (some (41, true)), (.call 7 [(.c (.i .u64 2)), (.c (.i .u64 3))])⟩,
  ⟨(some 43), (some (41, true)), (.un .not (.t 42))⟩,
  ⟨(some 44), none, (.pick (.t 41) (.t 43) (.c (.b false)))⟩,
  ⟨(some 0), none, (.val (.t 44))⟩]
theorem r9_4 {fn : AFun} {K : List AItem} {t : Nat → AV} {H : AH} {T : Tbl} : runR T fn (.code (.reg d9_4) :: K) t H = regR T fn K (aops (callR T) [
  ⟨(some 24), none, (.val (.t 2))⟩,
  ⟨(some 25), none, (.val (.t 24))⟩,
  ⟨(some 26), (some (25, true)), (.val (.t 3))⟩,
  ⟨(some 27), none, (.pick (.t 25) (.t 26) (.c (.b false)))⟩,
  ⟨(some 28), none, (.val (.t 27))⟩,
  ⟨(some 29), (some (28, true)), (.fa 0 (.t 4))⟩,
  ⟨(some 30), (some (28, true)), (.ld none (.t 29))⟩,
  ⟨(some 31), (some (28, true)), (.bin .eql (.t 30) (.c (.i .i64 2)))⟩,
  ⟨(some 32), none, (.pick (.t 28) (.t 31) (.c (.b false)))⟩,
  ⟨(some 33), none, (.val (.t 32))⟩,
  ⟨(some 34), (some (33, true)), (.ld (some 1) (.t 1))⟩,
  ⟨(some 35), (some (33, true)), (.call 18 [(.t 34)])⟩,
  ⟨(some 36), (some (33, true)), (.bin .eql (.t 35) (.c (.i .i64 2)))⟩,
  ⟨(some 37), none, (.pick (.t 33) (.t 36) (.c (.b false)))⟩,
  ⟨(some 38), none, (.val (.t 37))⟩,
  ⟨(some 39), (some (38, true)), (.call 7 [(.c (.i .u64 1)), (.c (.i .u64 2))])⟩,
  ⟨(some 40), none, (.pick (.t 38) (.t 39) (.c (.b false)))⟩,
  ⟨(some 41), none, (.val (.t 40))⟩,
  ⟨(some 42), (some (41, true)), (.call 7 [(.c (.i .u64 2)), (.c (.i .u64 3))])⟩,
  ⟨(some 43), (some (41, true)), (.un .not (.t 42))⟩,
  ⟨(some 44), none, (.pick (.t 41) (.t 43) (.c (.b false)))⟩,
  ⟨(some 0), none, (.val (.t 44))⟩] t H) := runR_reg'
def a9 : AFun := ⟨45, [(.tmp 0)], (.seq (.reg d9_0) (.seq (.reg d9_1) (.seq (.reg d9_2) (.seq (.reg d9_3) (.seq (.reg d9_4) .ret)))))⟩
theorem a9_ok : cfun Try.prog 9 = some a9 := by kernel_rfl
/-- futtock/futtocklaw13.short -/
def d10_0 : List AOper := [
  ⟨(some 2), none, (.val (.c (.sl none 0 0 true 0)))⟩]
theorem r10_0 {fn : AFun} {K : List AItem} {t : Nat → AV} {H : AH} {T : Tbl} : runR T fn (.code (.reg d10_0) :: K) t H = regR T fn K (aops (callR T) [
  ⟨(some 2), none, (.val (.c (.sl none 0 0 true 0)))⟩] t H) := runR_reg'
def d10_1 : List AOper := [
  ⟨(some 3), none, (.val (.t 0))⟩,
  ⟨(some 4), none, (.val (.t 0))⟩,
  ⟨(some 5), none, (.len (.t 4))⟩,
  ⟨(some 6), none, (.mm false [(.t 5), (.c (.i .i64 100))])⟩,
  ⟨(some 7), none, (.sls 3 (.t 3) none (some (.t 6)) none)⟩,
  ⟨(some 2), none, (.val (.t 7))⟩]
theorem r10_1 {fn : AFun} {K : List AItem} {t : Nat → AV} {H : AH} {T : Tbl} : runR T fn (.code (.reg d10_1) :: K) t H = regR T fn K (aops (callR T) [
  ⟨(some 3), none, (.val (.t 0))⟩,
  ⟨(some 4), none, (.val (.t 0))⟩,
  ⟨(some 5), none, (.len (.t 4))⟩,
  ⟨(some 6), none, (.mm false [(.t 5), (.c (.i .i64 100))])⟩,
  ⟨(some 7), none, (.sls 3 (.t 3) none (some (.t 6)) none)⟩,
  ⟨(some 2), none, (.val (.t 7))⟩] t H) := runR_reg'
def a10 : AFun := ⟨8, [(.tmp 2)], (.seq (.reg d10_0) (.seq (.reg d10_1) .ret))⟩
theorem a10_ok : cfun Try.prog 10 = some a10 := by kernel_rfl
/-- futtock/futtocklaw13.do -/
def d11_0 : List AOper := [
  ⟨(some 2), none, (.box (.t 0))⟩,
  ⟨(some 3), none, (.box (.t 1))⟩,
  ⟨(some 4), none, (.alloc [(.sl none 0 0 true 0)])⟩,
  ⟨(some 5), none, (.alloc [(.i .i64 0), (.i .i64 0)])⟩,
  ⟨(some 6), none, (.val (.c (.b false)))⟩]
theorem r11_0 {fn : AFun} {K : List AItem} {t : Nat → AV} {H : AH} {T : Tbl} : runR T fn (.code (.reg d11_0) :: K) t H = regR T fn K (aops (callR T) [
  ⟨(some 2), none, (.box (.t 0))⟩,
  ⟨(some 3), none, (.box (.t 1))⟩,
  ⟨(some 4), none, (.alloc [(.sl none 0 0 true 0)])⟩,
  ⟨(some 5), none, (.alloc [(.i .i64 0), (.i .i64 0)])⟩,
  ⟨(some 6), none, (.val (.c (.b false)))⟩] t H) := runR_reg'
def d11_1 : List AOper := [
  ⟨(some 12), none, (.fa 0 (.t 3))⟩,
  ⟨(some 13), none, (.ld none (.t 12))⟩,
  ⟨(some 14), none, (.bin .rem (.t 13) (.c (.i .u8 4)))⟩]
theorem r11_1 {fn : AFun} {K : List AItem} {t : Nat → AV} {H : AH} {T : Tbl} : runR T fn (.code (.reg d11_1) :: K) t H = regR T fn K (aops (callR T) [
  ⟨(some 12), none, (.fa 0 (.t 3))⟩,
  ⟨(some 13), none, (.ld none (.t 12))⟩,
  ⟨(some 14), none, (.bin .rem (.t 13) (.c (.i .u8 4)))⟩] t H) := runR_reg'
def d11_2 : List AOper := [
  ⟨(some 16), none, (.bin .eql (.t 14) (.c (.i .u8 1)))⟩,
  ⟨(some 15), none, (.val (.t 16))⟩]
theorem r11_2 {fn : AFun} {K : List AItem} {t : Nat → AV} {H : AH} {T : Tbl} : runR T fn (.code (.reg d11_2) :: K) t H = regR T fn K (aops (callR T) [
  ⟨(some 16), none, (.bin .eql (.t 14) (.c (.i .u8 1)))⟩,
  ⟨(some 15), none, (.val (.t 16))⟩] t H) := runR_reg'
def d11_3 : List AOper := [
  ⟨(some 18), none, (.ld (some 1) (.t 2))⟩,
  ⟨(some 19), none, (.fa 1 (.t 3))⟩,
  ⟨(some 20), none, (.fa 0 (.t 19))⟩,
  ⟨(some 21), none, (.ld none (.t 20))⟩,
  ⟨(some 22), none, (.call 21 [(.t 18), (.t 21)])⟩,
  ⟨(some 17), none, (.val (.t 22))⟩,
  ⟨(some 23), none, (.ext (.t 17) 0)⟩,
  ⟨(some 24), none, (.ext (.t 17) 1)⟩,
  ⟨(some 25), none, (.ext (.t 17) 2)⟩,
  ⟨(some 7), none, (.alloc [(.i .i64 0), (.i .i64 0)])⟩,
  ⟨(some 8), none, (.alloc [(.sl none 0 0 true 0)])⟩,
  ⟨none, none, (.st 2 (.t 7) (.t 23))⟩,
  ⟨none, none, (.st 1 (.t 8) (.t 24))⟩,
  ⟨(some 9), none, (.val (.t 25))⟩]
theorem r11_3 {fn : AFun} {K : List AItem} {t : Nat → AV} {H : AH} {T : Tbl} : runR T fn (.code (.reg d11_3) :: K) t H = regR T fn K (aops (callR T) [
  ⟨(some 18), none, (.ld (some 1) (.t 2))⟩,
  ⟨(some 19), none, (.fa 1 (.t 3))⟩,
  ⟨(some 20), none, (.fa 0 (.t 19))⟩,
  ⟨(some 21), none, (.ld none (.t 20))⟩,
  ⟨(some 22), none, (.call 21 [(.t 18), (.t 21)])⟩,
  ⟨(some 17), none, (.val (.t 22))⟩,
  ⟨(some 23), none, (.ext (.t 17) 0)⟩,
  ⟨(some 24), none, (.ext (.t 17) 1)⟩,
  ⟨(some 25), none, (.ext (.t 17) 2)⟩,
  ⟨(some 7), none, (.alloc [(.i .i64 0), (.i .i64 0)])⟩,
  ⟨(some 8), none, (.alloc [(.sl none 0 0 true 0)])⟩,
  ⟨none, none, (.st 2 (.t 7) (.t 23))⟩,
  ⟨none, none, (.st 1 (.t 8) (.t 24))⟩,
  ⟨(some 9), none, (.val (.t 25))⟩] t H) := runR_reg'
def d11_4 : List (AOper × List Nat) := [
  (⟨(some 26), none, (.ld (some 1) (.t 8))⟩, [1]),
  (⟨(some 27), none, (.ld (some 2) (.t 7))⟩, [1]),
  (⟨(some 28), none, (.val (.t 9))⟩, []),
  (⟨none, none, (.st 1 (.t 4) (.t 26))⟩, [0]),
  (⟨none, none, (.st 2 (.t 5) (.t 27))⟩, []),
  (⟨(some 6), none, (.val (.t 28))⟩, [])]
theorem r11_4 {fn : AFun} {K : List AItem} {t : Nat → AV} {H : AH} {T : Tbl} : runR T fn (.code (.drw d11_4) :: K) t H = regR T fn K (adrw (callR T) [
  (⟨(some 26), none, (.ld (some 1) (.t 8))⟩, [1]),
  (⟨(some 27), none, (.ld (some 2) (.t 7))⟩, [1]),
  (⟨(some 28), none, (.val (.t 9))⟩, []),
  (⟨none, none, (.st 1 (.t 4) (.t 26))⟩, [0]),
  (⟨none, none, (.st 2 (.t 5) (.t 27))⟩, []),
  (⟨(some 6), none, (.val (.t 28))⟩, [])] t H [H] []) := runR_drw'
def d11_5 : List AOper := [
  ⟨(some 30), none, (.bin .eql (.t 14) (.c (.i .u8 2)))⟩,
  ⟨(some 29), none, (.val (.t 30))⟩]
theorem r11_5 {fn : AFun} {K : List AItem} {t : Nat → AV} {H : AH} {T : Tbl} : runR T fn (.code (.reg d11_5) :: K) t H = regR T fn K (aops (callR T) [
  ⟨(some 30), none, (.bin .eql (.t 14) (.c (.i .u8 2)))⟩,
  ⟨(some 29), none, (.val (.t 30))⟩] t H) := runR_reg'
def d11_6 : List AOper := [
  ⟨(some 31), none, (.ld (some 1) (.t 2))⟩,
  ⟨(some 32), none, (.call 19 [(.t 31)])⟩,
  ⟨(some 33), none, (.build [(.i .i64 0), (.i .i64 0)] [])⟩,
  ⟨none, none, (.st 1 (.t 4) (.t 32))⟩,
  ⟨none, none, (.st 2 (.t 5) (.t 33))⟩,
  ⟨(some 6), none, (.val (.c (.b true)))⟩]
theorem r11_6 {fn : AFun} {K : List AItem} {t : Nat → AV} {H : AH} {T : Tbl} : runR T fn (.code (.reg d11_6) :: K) t H = regR T fn K (aops (callR T) [
  ⟨(some 31), none, (.ld (some 1) (.t 2))⟩,
  ⟨(some 32), none, (.call 19 [(.t 31)])⟩,
  ⟨(some 33), none, (.build [(.i .i64 0), (.i .i64 0)] [])⟩,
  ⟨none, none, (.st 1 (.t 4) (.t 32))⟩,
  ⟨none, none, (.st 2 (.t 5) (.t 33))⟩,
  ⟨(some 6), none, (.val (.c (.b true)))⟩] t H) := runR_reg'
def d11_7 : List AOper := [
  ⟨(some 35), none, (.ld (some 1) (.t 2))⟩,
  ⟨(some 36), none, (.fa 1 (.t 3))⟩,
  ⟨(some 37), none, (.fa 0 (.t 36))⟩,
  ⟨(some 38), none, (.ld none (.t 37))⟩,
  ⟨(some 39), none, (.fa 1 (.t 3))⟩,
  ⟨(some 40), none, (.fa 1 (.t 39))⟩,
  ⟨(some 41), none, (.ld none (.t 40))⟩,
  ⟨(some 42), none, (.build [(.i .i64 0), (.i .i64 0)] [(0, 1, (.t 38)), (1, 1, (.t 41))])⟩,
  ⟨(some 43), none, (.call 20 [(.t 35), (.t 42)])⟩,
  ⟨(some 34), none, (.val (.t 43))⟩,
  ⟨(some 44), none, (.ext (.t 34) 0)⟩,
  ⟨(some 45), none, (.ext (.t 34) 1)⟩,
  ⟨(some 10), none, (.alloc [(.sl none 0 0 true 0)])⟩,
  ⟨none, none, (.st 1 (.t 10) (.t 44))⟩,
  ⟨(some 11), none, (.val (.t 45))⟩]
theorem r11_7 {fn : AFun} {K : List AItem} {t : Nat → AV} {H : AH} {T : Tbl} : runR T fn (.code (.reg d11_7) :: K) t H = regR T fn K (aops (callR T) [
  ⟨(some 35), none, (.ld (some 1) (.t 2))⟩,
  ⟨(some 36), none, (.fa 1 (.t 3))⟩,
  ⟨(some 37), none, (.fa 0 (.t 36))⟩,
  ⟨(some 38), none, (.ld none (.t 37))⟩,
  ⟨(some 39), none, (.fa 1 (.t 3))⟩,
  ⟨(some 40), none, (.fa 1 (.t 39))⟩,
  ⟨(some 41), none, (.ld none (.t 40))⟩,
  ⟨(some 42), none, (.build [(.i .i64 0), (.i .i64 0)] [(0, 1, (.t 38)), (1, 1, (.t 41))])⟩,
  ⟨(some 43), none, (.call 20 [(.t 35), (.t 42)])⟩,
  ⟨(some 34), none, (.val (.t 43))⟩,
  ⟨(some 44), none, (.ext (.t 34) 0)⟩,
  ⟨(some 45), none, (.ext (.t 34) 1)⟩,
  ⟨(some 10), none, (.alloc [(.sl none 0 0 true 0)])⟩,
  ⟨none, none, (.st 1 (.t 10) (.t 44))⟩,
  ⟨(some 11), none, (.val (.t 45))⟩] t H) := runR_reg'
def d11_8 : List AOper := [
  ⟨(some 46), none, (.ld (some 1) (.t 10))⟩,
  ⟨(some 47), none, (.build [(.i .i64 0), (.i .i64 0)] [])⟩,
  ⟨(some 48), none, (.val (.t 11))⟩,
  ⟨none, none, (.st 1 (.t 4) (.t 46))⟩,
  ⟨none, none, (.st 2 (.t 5) (.t 47))⟩,
  ⟨(some 6), none, (.val (.t 48))⟩]
theorem r11_8 {fn : AFun} {K : List AItem} {t : Nat → AV} {H : AH} {T : Tbl} : runR T fn (.code (.reg d11_8) :: K) t H = regR T fn K (aops (callR T) [
  ⟨(some 46), none, (.ld (some 1) (.t 10))⟩,
  ⟨(some 47), none, (.build [(.i .i64 0), (.i .i64 0)] [])⟩,
  ⟨(some 48), none, (.val (.t 11))⟩,
  ⟨none, none, (.st 1 (.t 4) (.t 46))⟩,
  ⟨none, none, (.st 2 (.t 5) (.t 47))⟩,
  ⟨(some 6), none, (.val (.t 48))⟩] t H) := runR_reg'
def a11 : AFun := ⟨49, [(.cell 4 (some 1)), (.cell 5 (some 2)), (.tmp 6)], (.seq (.reg d11_0) (.seq (.seq (.reg d11_1) (.block 0 (.seq (.reg d11_2) (.cond (.t 15) (.seq (.reg d11_3) (.seq (.drw d11_4) .ret)) (.seq (.reg d11_5) (.cond (.t 29) (.seq (.reg d11_6) .ret) .skip)))))) (.seq (.reg d11_7) (.seq (.reg d11_8) .ret))))⟩
theorem a11_ok : cfun Try.prog 11 = some a11 := by kernel_rfl
/-- futtock/futtockref13.Remove -/
def d12_0 : List AOper := [
  ⟨(some 4), none, (.alloc [(.i .i64 0), (.i .i64 0)])⟩,
  ⟨(some 5), none, (.val (.c (.sl none 0 0 true 0)))⟩,
  ⟨(some 6), none, (.val (.c (.b false)))⟩]
theorem r12_0 {fn : AFun} {K : List AItem} {t : Nat → AV} {H : AH} {T : Tbl} : runR T fn (.code (.reg d12_0) :: K) t H = regR T fn K (aops (callR T) [
  ⟨(some 4), none, (.alloc [(.i .i64 0), (.i .i64 0)])⟩,
  ⟨(some 5), none, (.val (.c (.sl none 0 0 true 0)))⟩,
  ⟨(some 6), none, (.val (.c (.b false)))⟩] t H) := runR_reg'
def d12_1 : List AOper := [
  ⟨(some 7), none, (.val (.c (.sl none 0 0 true 0)))⟩]
theorem r12_1 {fn : AFun} {K : List AItem} {t : Nat → AV} {H : AH} {T : Tbl} : runR T fn (.code (.reg d12_1) :: K) t H = regR T fn K (aops (callR T) [
  ⟨(some 7), none, (.val (.c (.sl none 0 0 true 0)))⟩] t H) := runR_reg'
def d12_2 : List AOper := [
  ⟨(some 8), none, (.alloc [(.i .i64 0), (.i .i64 0)])⟩]
theorem r12_2 {fn : AFun} {K : List AItem} {t : Nat → AV} {H : AH} {T : Tbl} : runR T fn (.code (.reg d12_2) :: K) t H = regR T fn K (aops (callR T) [
  ⟨(some 8), none, (.alloc [(.i .i64 0), (.i .i64 0)])⟩] t H) := runR_reg'
def d12_3 : List AOper := [
  ⟨(some 9), none, (.val (.c (.i .i64 0)))⟩]
theorem r12_3 {fn : AFun} {K : List AItem} {t : Nat → AV} {H : AH} {T : Tbl} : runR T fn (.code (.reg d12_3) :: K) t H = regR T fn K (aops (callR T) [
  ⟨(some 9), none, (.val (.c (.i .i64 0)))⟩] t H) := runR_reg'
def d12_4 : List AOper := [
  ⟨(some 10), none, (.val (.t 9))⟩,
  ⟨(some 11), none, (.val (.t 0))⟩,
  ⟨(some 12), none, (.len (.t 11))⟩,
  ⟨(some 13), none, (.bin .lss (.t 10) (.t 12))⟩]
theorem r12_4 {fn : AFun} {K : List AItem} {t : Nat → AV} {H : AH} {T : Tbl} : runR T fn (.code (.reg d12_4) :: K) t H = regR T fn K (aops (callR T) [
  ⟨(some 10), none, (.val (.t 9))⟩,
  ⟨(some 11), none, (.val (.t 0))⟩,
  ⟨(some 12), none, (.len (.t 11))⟩,
  ⟨(some 13), none, (.bin .lss (.t 10) (.t 12))⟩] t H) := runR_reg'
def d12_5 : List AOper := [
  ⟨(some 16), none, (.val (.t 0))⟩,
  ⟨(some 17), none, (.val (.t 9))⟩,
  ⟨(some 18), none, (.ia 2 (.t 16) (.t 17))⟩,
  ⟨(some 19), none, (.fa 0 (.t 18))⟩,
  ⟨(some 20), none, (.ld none (.t 19))⟩,
  ⟨(some 21), none, (.val (.t 1))⟩,
  ⟨(some 22), none, (.bin .eql (.t 20) (.t 21))⟩]
theorem r12_5 {fn : AFun} {K : List AItem} {t : Nat → AV} {H : AH} {T : Tbl} : runR T fn (.code (.reg d12_5) :: K) t H = regR T fn K (aops (callR T) [
  ⟨(some 16), none, (.val (.t 0))⟩,
  ⟨(some 17), none, (.val (.t 9))⟩,
  ⟨(some 18), none, (.ia 2 (.t 16) (.t 17))⟩,
  ⟨(some 19), none, (.fa 0 (.t 18))⟩,
  ⟨(some 20), none, (.ld none (.t 19))⟩,
  ⟨(some 21), none, (.val (.t 1))⟩,
  ⟨(some 22), none, (.bin .eql (.t 20) (.t 21))⟩] t H) := runR_reg'
def d12_6 : List AOper := [
  ⟨(some 23), none, (.val (.t 0))⟩,
  ⟨(some 24), none, (.val (.t 9))⟩,
  ⟨(some 25), none, (.ia 2 (.t 23) (.t 24))⟩,
  ⟨(some 26), none, (.ld (some 2) (.t 25))⟩,
  ⟨none, none, (.st 2 (.t 8) (.t 26))⟩]
theorem r12_6 {fn : AFun} {K : List AItem} {t : Nat → AV} {H : AH} {T : Tbl} : runR T fn (.code (.reg d12_6) :: K) t H = regR T fn K (aops (callR T) [
  ⟨(some 23), none, (.val (.t 0))⟩,
  ⟨(some 24), none, (.val (.t 9))⟩,
  ⟨(some 25), none, (.ia 2 (.t 23) (.t 24))⟩,
  ⟨(some 26), none, (.ld (some 2) (.t 25))⟩,
  ⟨none, none, (.st 2 (.t 8) (.t 26))⟩] t H) := runR_reg'
def d12_7 : List AOper := [
  ⟨(some 27), none, (.val (.t 7))⟩,
  ⟨(some 28), none, (.val (.t 0))⟩,
  ⟨(some 29), none, (.val (.t 9))⟩,
  ⟨(some 30), none, (.ia 2 (.t 28) (.t 29))⟩,
  ⟨(some 31), none, (.ld (some 2) (.t 30))⟩,
  ⟨(some 32), none, (.bsl [(.i .i64 0), (.i .i64 0)] 1 [(0, 2, (.t 31))])⟩,
  ⟨(some 33), none, (.app [(.i .i64 0), (.i .i64 0)] 16 (.t 27) (.t 32))⟩,
  ⟨(some 7), none, (.val (.t 33))⟩]
theorem r12_7 {fn : AFun} {K : List AItem} {t : Nat → AV} {H : AH} {T : Tbl} : runR T fn (.code (.reg d12_7) :: K) t H = regR T fn K (aops (callR T) [
  ⟨(some 27), none, (.val (.t 7))⟩,
  ⟨(some 28), none, (.val (.t 0))⟩,
  ⟨(some 29), none, (.val (.t 9))⟩,
  ⟨(some 30), none, (.ia 2 (.t 28) (.t 29))⟩,
  ⟨(some 31), none, (.ld (some 2) (.t 30))⟩,
  ⟨(some 32), none, (.bsl [(.i .i64 0), (.i .i64 0)] 1 [(0, 2, (.t 31))])⟩,
  ⟨(some 33), none, (.app [(.i .i64 0), (.i .i64 0)] 16 (.t 27) (.t 32))⟩,
  ⟨(some 7), none, (.val (.t 33))⟩] t H) := runR_reg'
def d12_8 : List AOper := [
  ⟨(some 14), none, (.val (.t 9))⟩,
  ⟨(some 15), none, (.bin .add (.t 14) (.c (.i .i64 1)))⟩,
  ⟨(some 9), none, (.val (.t 15))⟩]
theorem r12_8 {fn : AFun} {K : List AItem} {t : Nat → AV} {H : AH} {T : Tbl} : runR T fn (.code (.reg d12_8) :: K) t H = regR T fn K (aops (callR T) [
  ⟨(some 14), none, (.val (.t 9))⟩,
  ⟨(some 15), none, (.bin .add (.t 14) (.c (.i .i64 1)))⟩,
  ⟨(some 9), none, (.val (.t 15))⟩] t H) := runR_reg'
def l12_9 : ACode := (.seq (.seq (.reg d12_4) (.cond (.t 13) .skip (.exit 0))) (.seq (.block 1 (.seq (.reg d12_5) (.cond (.t 22) (.reg d12_6) (.reg d12_7)))) (.reg d12_8)))
def d12_10 : List AOper := [
  ⟨(some 34), none, (.ld (some 2) (.t 8))⟩,
  ⟨(some 35), none, (.val (.t 7))⟩,
  ⟨(some 36), none, (.val (.t 7))⟩,
  ⟨(some 37), none, (.len (.t 36))⟩,
  ⟨(some 38), none, (.val (.t 0))⟩,
  ⟨(some 39), none, (.len (.t 38))⟩,
  ⟨(some 40), none, (.bin .lss (.t 37) (.t 39))⟩,
  ⟨none, none, (.st 2 (.t 4) (.t 34))⟩,
  ⟨(some 5), none, (.val (.t 35))⟩,
  ⟨(some 6), none, (.val (.t 40))⟩]
theorem r12_10 {fn : AFun} {K : List AItem} {t : Nat → AV} {H : AH} {T : Tbl} : runR T fn (.code (.reg d12_10) :: K) t H = regR T fn K (aops (callR T) [
  ⟨(some 34), none, (.ld (some 2) (.t 8))⟩,
  ⟨(some 35), none, (.val (.t 7))⟩,
  ⟨(some 36), none, (.val (.t 7))⟩,
  ⟨(some 37), none, (.len (.t 36))⟩,
  ⟨(some 38), none, (.val (.t 0))⟩,
  ⟨(some 39), none, (.len (.t 38))⟩,
  ⟨(some 40), none, (.bin .lss (.t 37) (.t 39))⟩,
  ⟨none, none, (.st 2 (.t 4) (.t 34))⟩,
  ⟨(some 5), none, (.val (.t 35))⟩,
  ⟨(some 6), none, (.val (.t 40))⟩] t H) := runR_reg'
def a12 : AFun := ⟨41, [(.cell 4 (some 2)), (.tmp 5), (.tmp 6)], (.seq (.reg d12_0) (.seq (.reg d12_1) (.seq (.reg d12_2) (.seq (.seq (.reg d12_3) (.block 0 (.loop l12_9))) (.seq (.reg d12_10) .ret)))))⟩
theorem a12_ok : cfun Try.prog 12 = some a12 := by kernel_rfl
/-- futtock/futtockref13.Turn -/
def d13_0 : List AOper := [
  ⟨(some 2), none, (.val (.c (.sl none 0 0 true 0)))⟩]
theorem r13_0 {fn : AFun} {K : List AItem} {t : Nat → AV} {H : AH} {T : Tbl} : runR T fn (.code (.reg d13_0) :: K) t H = regR T fn K (aops (callR T) [
  ⟨(some 2), none, (.val (.c (.sl none 0 0 true 0)))⟩] t H) := runR_reg'
def d13_1 : List AOper := [
  ⟨(some 3), none, (.val (.c (.sl none 0 0 true 0)))⟩]
theorem r13_1 {fn : AFun} {K : List AItem} {t : Nat → AV} {H : AH} {T : Tbl} : runR T fn (.code (.reg d13_1) :: K) t H = regR T fn K (aops (callR T) [
  ⟨(some 3), none, (.val (.c (.sl none 0 0 true 0)))⟩] t H) := runR_reg'
def d13_2 : List AOper := [
  ⟨(some 4), none, (.val (.c (.i .i64 1)))⟩]
theorem r13_2 {fn : AFun} {K : List AItem} {t : Nat → AV} {H : AH} {T : Tbl} : runR T fn (.code (.reg d13_2) :: K) t H = regR T fn K (aops (callR T) [
  ⟨(some 4), none, (.val (.c (.i .i64 1)))⟩] t H) := runR_reg'
def d13_3 : List AOper := [
  ⟨(some 6), none, (.val (.t 4))⟩,
  ⟨(some 7), none, (.val (.t 0))⟩,
  ⟨(some 8), none, (.len (.t 7))⟩,
  ⟨(some 9), none, (.bin .lss (.t 6) (.t 8))⟩]
theorem r13_3 {fn : AFun} {K : List AItem} {t : Nat → AV} {H : AH} {T : Tbl} : runR T fn (.code (.reg d13_3) :: K) t H = regR T fn K (aops (callR T) [
  ⟨(some 6), none, (.val (.t 4))⟩,
  ⟨(some 7), none, (.val (.t 0))⟩,
  ⟨(some 8), none, (.len (.t 7))⟩,
  ⟨(some 9), none, (.bin .lss (.t 6) (.t 8))⟩] t H) := runR_reg'
def d13_4 : List AOper := [
  ⟨(some 12), none, (.val (.t 3))⟩,
  ⟨(some 13), none, (.val (.t 0))⟩,
  ⟨(some 14), none, (.val (.t 4))⟩,
  ⟨(some 15), none, (.ia 2 (.t 13) (.t 14))⟩,
  ⟨(some 16), none, (.ld (some 2) (.t 15))⟩,
  ⟨(some 17), none, (.bsl [(.i .i64 0), (.i .i64 0)] 1 [(0, 2, (.t 16))])⟩,
  ⟨(some 18), none, (.app [(.i .i64 0), (.i .i64 0)] 16 (.t 12) (.t 17))⟩,
  ⟨(some 3), none, (.val (.t 18))⟩]
theorem r13_4 {fn : AFun} {K : List AItem} {t : Nat → AV} {H : AH} {T : Tbl} : runR T fn (.code (.reg d13_4) :: K) t H = regR T fn K (aops (callR T) [
  ⟨(some 12), none, (.val (.t 3))⟩,
  ⟨(some 13), none, (.val (.t 0))⟩,
  ⟨(some 14), none, (.val (.t 4))⟩,
  ⟨(some 15), none, (.ia 2 (.t 13) (.t 14))⟩,
  ⟨(some 16), none, (.ld (some 2) (.t 15))⟩,
  ⟨(some 17), none, (.bsl [(.i .i64 0), (.i .i64 0)] 1 [(0, 2, (.t 16))])⟩,
  ⟨(some 18), none, (.app [(.i .i64 0), (.i .i64 0)] 16 (.t 12) (.t 17))⟩,
  ⟨(some 3), none, (.val (.t 18))⟩] t H) := runR_reg'
def d13_5 : List AOper := [
  ⟨(some 10), none, (.val (.t 4))⟩,
  ⟨(some 11), none, (.bin .add (.t 10) (.c (.i .i64 1)))⟩,
  ⟨(some 4), none, (.val (.t 11))⟩]
theorem r13_5 {fn : AFun} {K : List AItem} {t : Nat → AV} {H : AH} {T : Tbl} : runR T fn (.code (.reg d13_5) :: K) t H = regR T fn K (aops (callR T) [
  ⟨(some 10), none, (.val (.t 4))⟩,
  ⟨(some 11), none, (.bin .add (.t 10) (.c (.i .i64 1)))⟩,
  ⟨(some 4), none, (.val (.t 11))⟩] t H) := runR_reg'
def l13_6 : ACode := (.seq (.seq (.reg d13_3) (.cond (.t 9) .skip (.exit 0))) (.seq (.block 1 (.reg d13_4)) (.reg d13_5)))
def d13_7 : List AOper := [
  ⟨(some 5), none, (.val (.c (.i .i64 0)))⟩]
theorem r13_7 {fn : AFun} {K : List AItem} {t : Nat → AV} {H : AH} {T : Tbl} : runR T fn (.code (.reg d13_7) :: K) t H = regR T fn K (aops (callR T) [
  ⟨(some 5), none, (.val (.c (.i .i64 0)))⟩] t H) := runR_reg'
def d13_8 : List AOper := [
  ⟨(some 19), none, (.val (.t 5))⟩,
  ⟨(some 20), none, (.val (.t 0))⟩,
  ⟨(some 21), none, (.len (.t 20))⟩,
  ⟨(some 22), none, (.bin .lss (.t 19) (.t 21))⟩,
  ⟨(some 23), none, (.val (.t 22))⟩,
  ⟨(some 24), (some (23, true)), (.val (.t 5))⟩,
  ⟨(some 25), (some (23, true)), (.bin .lss (.t 24) (.c (.i .i64 1)))⟩,
  ⟨(some 26), none, (.pick (.t 23) (.t 25) (.c (.b false)))⟩]
theorem r13_8 {fn : AFun} {K : List AItem} {t : Nat → AV} {H : AH} {T : Tbl} : runR T fn (.code (.reg d13_8) :: K) t H = regR T fn K (aops (callR T) [
  ⟨(some 19), none, (.val (.t 5))⟩,
  ⟨(some 20), none, (.val (.t 0))⟩,
  ⟨(some 21), none, (.len (.t 20))⟩,
  ⟨(some 22), none, (.bin .lss (.t 19) (.t 21))⟩,
  ⟨(some 23), none, (.val (.t 22))⟩,
  ⟨(some 24), (some (23, true)), (.val (.t 5))⟩,
  ⟨(some 25), (some (23, true)), (.bin .lss (.t 24) (.c (.i .i64 1)))⟩,
  ⟨(some 26), none, (.pick (.t 23) (.t 25) (.c (.b false)))⟩] t H) := runR_reg'
def d13_9 : List AOper := [
  ⟨(some 29), none, (.val (.t 3))⟩,
  ⟨(some 30), none, (.val (.t 0))⟩,
  ⟨(some 31), none, (.val (.t 5))⟩,
  ⟨(some 32), none, (.ia 2 (.t 30) (.t 31))⟩,
  ⟨(some 33), none, (.ld (some 2) (.t 32))⟩,
  ⟨(some 34), none, (.bsl [(.i .i64 0), (.i .i64 0)] 1 [(0, 2, (.t 33))])⟩,
  ⟨(some 35), none, (.app [(.i .i64 0), (.i .i64 0)] 16 (.t 29) (.t 34))⟩,
  ⟨(some 3), none, (.val (.t 35))⟩]
theorem r13_9 {fn : AFun} {K : List AItem} {t : Nat → AV} {H : AH} {T : Tbl} : runR T fn (.code (.reg d13_9) :: K) t H = regR T fn K (aops (callR T) [
  ⟨(some 29), none, (.val (.t 3))⟩,
  ⟨(some 30), none, (.val (.t 0))⟩,
  ⟨(some 31), none, (.val (.t 5))⟩,
  ⟨(some 32), none, (.ia 2 (.t 30) (.t 31))⟩,
  ⟨(some 33), none, (.ld (some 2) (.t 32))⟩,
  ⟨(some 34), none, (.bsl [(.i .i64 0), (.i .i64 0)] 1 [(0, 2, (.t 33))])⟩,
  ⟨(some 35), none, (.app [(.i .i64 0), (.i .i64 0)] 16 (.t 29) (.t 34))⟩,
  ⟨(some 3), none, (.val (.t 35))⟩] t H) := runR_reg'
def d13_10 : List AOper := [
  ⟨(some 27), none, (.val (.t 5))⟩,
  ⟨(some 28), none, (.bin .add (.t 27) (.c (.i .i64 1)))⟩,
  ⟨(some 5), none, (.val (.t 28))⟩]
theorem r13_10 {fn : AFun} {K : List AItem} {t : Nat → AV} {H : AH} {T : Tbl} : runR T fn (.code (.reg d13_10) :: K) t H = regR T fn K (aops (callR T) [
  ⟨(some 27), none, (.val (.t 5))⟩,
  ⟨(some 28), none, (.bin .add (.t 27) (.c (.i .i64 1)))⟩,
  ⟨(some 5), none, (.val (.t 28))⟩] t H) := runR_reg'
def l13_11 : ACode := (.seq (.seq (.reg d13_8) (.cond (.t 26) .skip (.exit 2))) (.seq (.block 3 (.reg d13_9)) (.reg d13_10)))
def d13_12 : List AOper := [
  ⟨(some 36), none, (.val (.t 3))⟩,
  ⟨(some 2), none, (.val (.t 36))⟩]
theorem r13_12 {fn : AFun} {K : List AItem} {t : Nat → AV} {H : AH} {T : Tbl} : runR T fn (.code (.reg d13_12) :: K) t H = regR T fn K (aops (callR T) [
  ⟨(some 36), none, (.val (.t 3))⟩,
  ⟨(some 2), none, (.val (.t 36))⟩] t H) := runR_reg'
def a13 : AFun := ⟨37, [(.tmp 2)], (.seq (.reg d13_0) (.seq (.reg d13_1) (.seq (.seq (.reg d13_2) (.block 0 (.loop l13_6))) (.seq (.seq (.reg d13_7) (.block 2 (.loop l13_11))) (.seq (.reg d13_12) .ret)))))⟩
theorem a13_ok : cfun Try.prog 13 = some a13 := by kernel_rfl
/-- futtock/futtockref13.Add -/
def d14_0 : List AOper := [
  ⟨(some 3), none, (.box (.t 1))⟩,
  ⟨(some 4), none, (.val (.c (.sl none 0 0 true 0)))⟩,
  ⟨(some 5), none, (.val (.c (.b false)))⟩]
theorem r14_0 {fn : AFun} {K : List AItem} {t : Nat → AV} {H : AH} {T : Tbl} : runR T fn (.code (.reg d14_0) :: K) t H = regR T fn K (aops (callR T) [
  ⟨(some 3), none, (.box (.t 1))⟩,
  ⟨(some 4), none, (.val (.c (.sl none 0 0 true 0)))⟩,
  ⟨(some 5), none, (.val (.c (.b false)))⟩] t H) := runR_reg'
def d14_1 : List AOper := [
  ⟨(some 7), none, (.fa 0 (.t 3))⟩,
  ⟨(some 8), none, (.ld none (.t 7))⟩,
  ⟨(some 9), none, (.bin .lss (.t 8) (.c (.i .i64 0)))⟩,
  ⟨(some 10), none, (.val (.t 9))⟩,
  ⟨(some 11), (some (10, false)), (.fa 0 (.t 3))⟩,
  ⟨(some 12), (some (10, false)), (.ld none (.t 11))⟩,
  ⟨(some 13), (some (10, false)), (.bin .gtr (.t 12) (.c (.i .i64 65534)))⟩,
  ⟨(some 14), none, (.pick (.t 10) (.c (.b true)) (.t 13))⟩,
  ⟨(some 15), none, (.val (.t 14))⟩,
  ⟨(some 16), (some (15, false)), (.fa 1 (.t 3))⟩,
  ⟨(some 17), (some (15, false)), (.ld none (.t 16))⟩,
  ⟨(some 18), (some (15, false)), (.bin .lss (.t 17) (.c (.i .i64 1)))⟩,
  ⟨(some 19), none, (.pick (.t 15) (.c (.b true)) (.t 18))⟩,
  ⟨(some 20), none, (.val (.t 19))⟩,
  ⟨(some 21), (some (20, false)), (.fa 1 (.t 3))⟩,
  ⟨(some 22), (some (20, false)), (.ld none (.t 21))⟩,
  ⟨(some 23), (some (20, false)), (.bin .gtr (.t 22) (.c (.i .i64 65535)))⟩,
  ⟨(some 24), none, (.pick (.t 20) (.c (.b true)) (.t 23))⟩]
theorem r14_1 {fn : AFun} {K : List AItem} {t : Nat → AV} {H : AH} {T : Tbl} : runR T fn (.code (.reg d14_1) :: K) t H = regR T fn K (aops (callR T) [
  ⟨(some 7), none, (.fa 0 (.t 3))⟩,
  ⟨(some 8), none, (.ld none (.t 7))⟩,
  ⟨(some 9), none, (.bin .lss (.t 8) (.c (.i .i64 0)))⟩,
  ⟨(some 10), none, (.val (.t 9))⟩,
  ⟨(some 11), (some (10, false)), (.fa 0 (.t 3))⟩,
  ⟨(some 12), (some (10, false)), (.ld none (.t 11))⟩,
  ⟨(some 13), (some (10, false)), (.bin .gtr (.t 12) (.c (.i .i64 65534)))⟩,
  ⟨(some 14), none, (.pick (.t 10) (.c (.b true)) (.t 13))⟩,
  ⟨(some 15), none, (.val (.t 14))⟩,
  ⟨(some 16), (some (15, false)), (.fa 1 (.t 3))⟩,
  ⟨(some 17), (some (15, false)), (.ld none (.t 16))⟩,
  ⟨(some 18), (some (15, false)), (.bin .lss (.t 17) (.c (.i .i64 1)))⟩,
  ⟨(some 19), none, (.pick (.t 15) (.c (.b true)) (.t 18))⟩,
  ⟨(some 20), none, (.val (.t 19))⟩,
  ⟨(some 21), (some (20, false)), (.fa 1 (.t 3))⟩,
  ⟨(some 22), (some (20, false)), (.ld none (.t 21))⟩,
  ⟨(some 23), (some (20, false)), (.bin .gtr (.t 22) (.c (.i .i64 65535)))⟩,
  ⟨(some 24), none, (.pick (.t 20) (.c (.b true)) (.t 23))⟩] t H) := runR_reg'
def d14_2 : List AOper := [
  ⟨(some 25), none, (.val (.t 0))⟩,
  ⟨(some 4), none, (.val (.t 25))⟩,
  ⟨(some 5), none, (.val (.c (.b false)))⟩]
theorem r14_2 {fn : AFun} {K : List AItem} {t : Nat → AV} {H : AH} {T : Tbl} : runR T fn (.code (.reg d14_2) :: K) t H = regR T fn K (aops (callR T) [
  ⟨(some 25), none, (.val (.t 0))⟩,
  ⟨(some 4), none, (.val (.t 25))⟩,
  ⟨(some 5), none, (.val (.c (.b false)))⟩] t H) := runR_reg'
def d14_3 : List AOper := [
  ⟨(some 6), none, (.val (.c (.i .i64 0)))⟩]
theorem r14_3 {fn : AFun} {K : List AItem} {t : Nat → AV} {H : AH} {T : Tbl} : runR T fn (.code (.reg d14_3) :: K) t H = regR T fn K (aops (callR T) [
  ⟨(some 6), none, (.val (.c (.i .i64 0)))⟩] t H) := runR_reg'
def d14_4 : List AOper := [
  ⟨(some 26), none, (.val (.t 6))⟩,
  ⟨(some 27), none, (.val (.t 0))⟩,
  ⟨(some 28), none, (.len (.t 27))⟩,
  ⟨(some 29), none, (.bin .lss (.t 26) (.t 28))⟩]
theorem r14_4 {fn : AFun} {K : List AItem} {t : Nat → AV} {H : AH} {T : Tbl} : runR T fn (.code (.reg d14_4) :: K) t H = regR T fn K (aops (callR T) [
  ⟨(some 26), none, (.val (.t 6))⟩,
  ⟨(some 27), none, (.val (.t 0))⟩,
  ⟨(some 28), none, (.len (.t 27))⟩,
  ⟨(some 29), none, (.bin .lss (.t 26) (.t 28))⟩] t H) := runR_reg'
def d14_5 : List (AOper × List Nat) := [
  (⟨(some 32), none, (.val (.t 0))⟩, []),
  (⟨(some 33), none, (.val (.t 6))⟩, []),
  (⟨(some 34), none, (.ia 2 (.t 32) (.t 33))⟩, []),
  (⟨(some 35), none, (.fa 0 (.t 34))⟩, []),
  (⟨(some 36), none, (.ld none (.t 35))⟩, [1]),
  (⟨(some 37), none, (.fa 0 (.t 3))⟩, []),
  (⟨(some 38), none, (.ld none (.t 37))⟩, [1]),
  (⟨(some 39), none, (.bin .eql (.t 36) (.t 38))⟩, [])]
theorem r14_5 {fn : AFun} {K : List AItem} {t : Nat → AV} {H : AH} {T : Tbl} : runR T fn (.code (.drw d14_5) :: K) t H = regR T fn K (aops (callR T) [
  ⟨(some 32), none, (.val (.t 0))⟩,
  ⟨(some 33), none, (.val (.t 6))⟩,
  ⟨(some 34), none, (.ia 2 (.t 32) (.t 33))⟩,
  ⟨(some 35), none, (.fa 0 (.t 34))⟩,
  ⟨(some 36), none, (.ld none (.t 35))⟩,
  ⟨(some 37), none, (.fa 0 (.t 3))⟩,
  ⟨(some 38), none, (.ld none (.t 37))⟩,
  ⟨(some 39), none, (.bin .eql (.t 36) (.t 38))⟩] t H) := runR_plain rfl
def d14_6 : List AOper := [
  ⟨(some 40), none, (.val (.t 0))⟩,
  ⟨(some 4), none, (.val (.t 40))⟩,
  ⟨(some 5), none, (.val (.c (.b false)))⟩]
theorem r14_6 {fn : AFun} {K : List AItem} {t : Nat → AV} {H : AH} {T : Tbl} : runR T fn (.code (.reg d14_6) :: K) t H = regR T fn K (aops (callR T) [
  ⟨(some 40), none, (.val (.t 0))⟩,
  ⟨(some 4), none, (.val (.t 40))⟩,
  ⟨(some 5), none, (.val (.c (.b false)))⟩] t H) := runR_reg'
def d14_7 : List AOper := [
  ⟨(some 30), none, (.val (.t 6))⟩,
  ⟨(some 31), none, (.bin .add (.t 30) (.c (.i .i64 1)))⟩,
  ⟨(some 6), none, (.val (.t 31))⟩]
theorem r14_7 {fn : AFun} {K : List AItem} {t : Nat → AV} {H : AH} {T : Tbl} : runR T fn (.code (.reg d14_7) :: K) t H = regR T fn K (aops (callR T) [
  ⟨(some 30), none, (.val (.t 6))⟩,
  ⟨(some 31), none, (.bin .add (.t 30) (.c (.i .i64 1)))⟩,
  ⟨(some 6), none, (.val (.t 31))⟩] t H) := runR_reg'
def l14_8 : ACode := (.seq (.seq (.reg d14_4) (.cond (.t 29) .skip (.exit 0))) (.seq (.block 1 (.seq (.drw d14_5) (.cond (.t 39) (.seq (.reg d14_6) .ret) .skip))) (.reg d14_7)))
def d14_9 : List (AOper × List Nat) := [
  (⟨(some 41), none, (.val (.t 0))⟩, []),
  (⟨(some 42), none, (.app [(.i .i64 0), (.i .i64 0)] 16 (.c (.sl none 0 0 true 0)) (.t 41))⟩, []),
  (⟨(some 43), none, (.ld (some 2) (.t 3))⟩, [2]),
  (⟨(some 44), none, (.bsl [(.i .i64 0), (.i .i64 0)] 1 [(0, 2, (.t 43))])⟩, []),
  (⟨(some 45), none, (.app [(.i .i64 0), (.i .i64 0)] 16 (.t 42) (.t 44))⟩, []),
  (⟨(some 4), none, (.val (.t 45))⟩, []),
  (⟨(some 5), none, (.val (.c (.b true)))⟩, [])]
theorem r14_9 {fn : AFun} {K : List AItem} {t : Nat → AV} {H : AH} {T : Tbl} : runR T fn (.code (.drw d14_9) :: K) t H = regR T fn K (adrn (callR T) [
  (⟨(some 41), none, (.val (.t 0))⟩, []),
  (⟨(some 42), none, (.app [(.i .i64 0), (.i .i64 0)] 16 (.c (.sl none 0 0 true 0)) (.t 41))⟩, []),
  (⟨(some 43), none, (.ld (some 2) (.t 3))⟩, [2]),
  (⟨(some 44), none, (.bsl [(.i .i64 0), (.i .i64 0)] 1 [(0, 2, (.t 43))])⟩, []),
  (⟨(some 45), none, (.app [(.i .i64 0), (.i .i64 0)] 16 (.t 42) (.t 44))⟩, []),
  (⟨(some 4), none, (.val (.t 45))⟩, []),
  (⟨(some 5), none, (.val (.c (.b true)))⟩, [])] t H [H]) := runR_free rfl
def a14 : AFun := ⟨46, [(.tmp 4), (.tmp 5)], (.seq (.reg d14_0) (.seq (.seq (.reg d14_1) (.cond (.t 24) (.seq (.reg d14_2) .ret) .skip)) (.seq (.seq (.reg d14_3) (.block 0 (.loop l14_8))) (.seq (.drw d14_9) .ret))))⟩
theorem a14_ok : cfun Try.prog 14 = some a14 := by kernel_rfl
/-- (futtock/ring.Ring).First -/
def d15_0 : List AOper := [
  ⟨(some 1), none, (.box (.t 0))⟩,
  ⟨(some 2), none, (.alloc [(.i .i64 0), (.i .i64 0)])⟩,
  ⟨(some 3), none, (.val (.c (.b false)))⟩]
theorem r15_0 {fn : AFun} {K : List AItem} {t : Nat → AV} {H : AH} {T : Tbl} : runR T fn (.code (.reg d15_0) :: K) t H = regR T fn K (aops (callR T) [
  ⟨(some 1), none, (.box (.t 0))⟩,
  ⟨(some 2), none, (.alloc [(.i .i64 0), (.i .i64 0)])⟩,
  ⟨(some 3), none, (.val (.c (.b false)))⟩] t H) := runR_reg'
def d15_1 : List AOper := [
  ⟨(some 6), none, (.fa 0 (.t 1))⟩,
  ⟨(some 7), none, (.ld none (.t 6))⟩,
  ⟨(some 8), none, (.len (.t 7))⟩,
  ⟨(some 9), none, (.val (.c (.i .i64 0)))⟩]
theorem r15_1 {fn : AFun} {K : List AItem} {t : Nat → AV} {H : AH} {T : Tbl} : runR T fn (.code (.reg d15_1) :: K) t H = regR T fn K (aops (callR T) [
  ⟨(some 6), none, (.fa 0 (.t 1))⟩,
  ⟨(some 7), none, (.ld none (.t 6))⟩,
  ⟨(some 8), none, (.len (.t 7))⟩,
  ⟨(some 9), none, (.val (.c (.i .i64 0)))⟩] t H) := runR_reg'
def d15_2 : List AOper := [
  ⟨(some 10), none, (.bin .lss (.t 9) (.t 8))⟩]
theorem r15_2 {fn : AFun} {K : List AItem} {t : Nat → AV} {H : AH} {T : Tbl} : runR T fn (.code (.reg d15_2) :: K) t H = regR T fn K (aops (callR T) [
  ⟨(some 10), none, (.bin .lss (.t 9) (.t 8))⟩] t H) := runR_reg'
def d15_3 : List AOper := [
  ⟨(some 11), none, (.ia 2 (.t 7) (.t 9))⟩,
  ⟨(some 12), none, (.ld (some 2) (.t 11))⟩,
  ⟨(some 5), none, (.alloc [(.i .i64 0), (.i .i64 0)])⟩,
  ⟨none, none, (.st 2 (.t 5) (.t 12))⟩]
theorem r15_3 {fn : AFun} {K : List AItem} {t : Nat → AV} {H : AH} {T : Tbl} : runR T fn (.code (.reg d15_3) :: K) t H = regR T fn K (aops (callR T) [
  ⟨(some 11), none, (.ia 2 (.t 7) (.t 9))⟩,
  ⟨(some 12), none, (.ld (some 2) (.t 11))⟩,
  ⟨(some 5), none, (.alloc [(.i .i64 0), (.i .i64 0)])⟩,
  ⟨none, none, (.st 2 (.t 5) (.t 12))⟩] t H) := runR_reg'
def d15_4 : List AOper := [
  ⟨(some 13), none, (.ld (some 2) (.t 5))⟩,
  ⟨none, none, (.st 2 (.t 2) (.t 13))⟩,
  ⟨(some 3), none, (.val (.c (.b true)))⟩]
theorem r15_4 {fn : AFun} {K : List AItem} {t : Nat → AV} {H : AH} {T : Tbl} : runR T fn (.code (.reg d15_4) :: K) t H = regR T fn K (aops (callR T) [
  ⟨(some 13), none, (.ld (some 2) (.t 5))⟩,
  ⟨none, none, (.st 2 (.t 2) (.t 13))⟩,
  ⟨(some 3), none, (.val (.c (.b true)))⟩] t H) := runR_reg'
def d15_5 : List AOper := [
  ⟨(some 14), none, (.bin .add (.t 9) (.c (.i .i64 1)))⟩,
  ⟨(some 9), none, (.val (.t 14))⟩]
theorem r15_5 {fn : AFun} {K : List AItem} {t : Nat → AV} {H : AH} {T : Tbl} : runR T fn (.code (.reg d15_5) :: K) t H = regR T fn K (aops (callR T) [
  ⟨(some 14), none, (.bin .add (.t 9) (.c (.i .i64 1)))⟩,
  ⟨(some 9), none, (.val (.t 14))⟩] t H) := runR_reg'
def l15_6 : ACode := (.seq (.reg d15_2) (.seq (.cond (.t 10) .skip (.exit 0)) (.seq (.block 1 (.seq (.reg d15_3) (.seq (.reg d15_4) .ret))) (.reg d15_5))))
def d15_7 : List AOper := [
  ⟨(some 15), none, (.build [(.i .i64 0), (.i .i64 0)] [])⟩,
  ⟨none, none, (.st 2 (.t 2) (.t 15))⟩,
  ⟨(some 3), none, (.val (.c (.b false)))⟩]
theorem r15_7 {fn : AFun} {K : List AItem} {t : Nat → AV} {H : AH} {T : Tbl} : runR T fn (.code (.reg d15_7) :: K) t H = regR T fn K (aops (callR T) [
  ⟨(some 15), none, (.build [(.i .i64 0), (.i .i64 0)] [])⟩,
  ⟨none, none, (.st 2 (.t 2) (.t 15))⟩,
  ⟨(some 3), none, (.val (.c (.b false)))⟩] t H) := runR_reg'
def a15 : AFun := ⟨16, [(.cell 2 (some 2)), (.tmp 3)], (.seq (.reg d15_0) (.seq (.seq (.reg d15_1) (.block 0 (.loop l15_6))) (.seq (.reg d15_7) .ret)))⟩
theorem a15_ok : cfun Try.prog 15 = some a15 := by kernel_rfl
/-- futtock/futtocklaw13.same -/
def d16_0 : List AOper := [
  ⟨(some 4), none, (.val (.c (.b false)))⟩]
theorem r16_0 {fn : AFun} {K : List AItem} {t : Nat → AV} {H : AH} {T : Tbl} : runR T fn (.code (.reg d16_0) :: K) t H = regR T fn K (aops (callR T) [
  ⟨(some 4), none, (.val (.c (.b false)))⟩] t H) := runR_reg'
def d16_1 : List AOper := [
  ⟨(some 7), none, (.val (.t 0))⟩,
  ⟨(some 8), none, (.len (.t 7))⟩,
  ⟨(some 9), none, (.val (.t 1))⟩,
  ⟨(some 10), none, (.len (.t 9))⟩,
  ⟨(some 11), none, (.bin .neq (.t 8) (.t 10))⟩]
theorem r16_1 {fn : AFun} {K : List AItem} {t : Nat → AV} {H : AH} {T : Tbl} : runR T fn (.code (.reg d16_1) :: K) t H = regR T fn K (aops (callR T) [
  ⟨(some 7), none, (.val (.t 0))⟩,
  ⟨(some 8), none, (.len (.t 7))⟩,
  ⟨(some 9), none, (.val (.t 1))⟩,
  ⟨(some 10), none, (.len (.t 9))⟩,
  ⟨(some 11), none, (.bin .neq (.t 8) (.t 10))⟩] t H) := runR_reg'
def d16_2 : List AOper := [
  ⟨(some 4), none, (.val (.c (.b false)))⟩]
theorem r16_2 {fn : AFun} {K : List AItem} {t : Nat → AV} {H : AH} {T : Tbl} : runR T fn (.code (.reg d16_2) :: K) t H = regR T fn K (aops (callR T) [
  ⟨(some 4), none, (.val (.c (.b false)))⟩] t H) := runR_reg'
def d16_3 : List AOper := [
  ⟨(some 12), none, (.val (.t 0))⟩,
  ⟨(some 13), none, (.len (.t 12))⟩,
  ⟨(some 14), none, (.val (.c (.i .i64 0)))⟩]
theorem r16_3 {fn : AFun} {K : List AItem} {t : Nat → AV} {H : AH} {T : Tbl} : runR T fn (.code (.reg d16_3) :: K) t H = regR T fn K (aops (callR T) [
  ⟨(some 12), none, (.val (.t 0))⟩,
  ⟨(some 13), none, (.len (.t 12))⟩,
  ⟨(some 14), none, (.val (.c (.i .i64 0)))⟩] t H) := runR_reg'
def d16_4 : List AOper := [
  ⟨(some 15), none, (.bin .lss (.t 14) (.t 13))⟩]
theorem r16_4 {fn : AFun} {K : List AItem} {t : Nat → AV} {H : AH} {T : Tbl} : runR T fn (.code (.reg d16_4) :: K) t H = regR T fn K (aops (callR T) [
  ⟨(some 15), none, (.bin .lss (.t 14) (.t 13))⟩] t H) := runR_reg'
def d16_5 : List AOper := [
  ⟨(some 16), none, (.val (.t 14))⟩,
  ⟨(some 17), none, (.ia 2 (.t 12) (.t 14))⟩,
  ⟨(some 18), none, (.ld (some 2) (.t 17))⟩,
  ⟨(some 6), none, (.alloc [(.i .i64 0), (.i .i64 0)])⟩,
  ⟨(some 5), none, (.val (.t 16))⟩,
  ⟨none, none, (.st 2 (.t 6) (.t 18))⟩]
theorem r16_5 {fn : AFun} {K : List AItem} {t : Nat → AV} {H : AH} {T : Tbl} : runR T fn (.code (.reg d16_5) :: K) t H = regR T fn K (aops (callR T) [
  ⟨(some 16), none, (.val (.t 14))⟩,
  ⟨(some 17), none, (.ia 2 (.t 12) (.t 14))⟩,
  ⟨(some 18), none, (.ld (some 2) (.t 17))⟩,
  ⟨(some 6), none, (.alloc [(.i .i64 0), (.i .i64 0)])⟩,
  ⟨(some 5), none, (.val (.t 16))⟩,
  ⟨none, none, (.st 2 (.t 6) (.t 18))⟩] t H) := runR_reg'
def d16_6 : List (AOper × List Nat) := [
  (⟨(some 19), none, (.fa 0 (.t 6))⟩, []),
  (⟨(some 20), none, (.ld none (.t 19))⟩, [1]),
  (⟨(some 21), none, (.fa 1 (.t 6))⟩, []),
  (⟨(some 22), none, (.ld none (.t 21))⟩, [1]),
  (⟨(some 23), none, (.build [(.i .i64 0), (.i .i64 0)] [(0, 1, (.t 20)), (1, 1, (.t 22))])⟩, []),
  (⟨(some 24), none, (.val (.t 1))⟩, []),
  (⟨(some 25), none, (.val (.t 5))⟩, []),
  (⟨(some 26), none, (.ia 2 (.t 24) (.t 25))⟩, []),
  (⟨(some 27), none, (.ld (some 2) (.t 26))⟩, [1]),
  (⟨(some 28), none, (.eqc [0, 0] true (.t 23) (.t 27))⟩, [])]
theorem r16_6 {fn : AFun} {K : List AItem} {t : Nat → AV} {H : AH} {T : Tbl} : runR T fn (.code (.drw d16_6) :: K) t H = regR T fn K (aops (callR T) [
  ⟨(some 19), none, (.fa 0 (.t 6))⟩,
  ⟨(some 20), none, (.ld none (.t 19))⟩,
  ⟨(some 21), none, (.fa 1 (.t 6))⟩,
  ⟨(some 22), none, (.ld none (.t 21))⟩,
  ⟨(some 23), none, (.build [(.i .i64 0), (.i .i64 0)] [(0, 1, (.t 20)), (1, 1, (.t 22))])⟩,
  ⟨(some 24), none, (.val (.t 1))⟩,
  ⟨(some 25), none, (.val (.t 5))⟩,
  ⟨(some 26), none, (.ia 2 (.t 24) (.t 25))⟩,
  ⟨(some 27), none, (.ld (some 2) (.t 26))⟩,
  ⟨(some 28), none, (.eqc [0, 0] true (.t 23) (.t 27))⟩] t H) := runR_plain rfl
def d16_7 : List AOper := [
  ⟨(some 4), none, (.val (.c (.b false)))⟩]
theorem r16_7 {fn : AFun} {K : List AItem} {t : Nat → AV} {H : AH} {T : Tbl} : runR T fn (.code (.reg d16_7) :: K) t H = regR T fn K (aops (callR T) [
  ⟨(some 4), none, (.val (.c (.b false)))⟩] t H) := runR_reg'
def d16_8 : List AOper := [
  ⟨(some 29), none, (.bin .add (.t 14) (.c (.i .i64 1)))⟩,
  ⟨(some 14), none, (.val (.t 29))⟩]
theorem r16_8 {fn : AFun} {K : List AItem} {t : Nat → AV} {H : AH} {T : Tbl} : runR T fn (.code (.reg d16_8) :: K) t H = regR T fn K (aops (callR T) [
  ⟨(some 29), none, (.bin .add (.t 14) (.c (.i .i64 1)))⟩,
  ⟨(some 14), none, (.val (.t 29))⟩] t H) := runR_reg'
def l16_9 : ACode := (.seq (.reg d16_4) (.seq (.cond (.t 15) .skip (.exit 0)) (.seq (.block 1 (.seq (.reg d16_5) (.seq (.drw d16_6) (.cond (.t 28) (.seq (.reg d16_7) .ret) .skip)))) (.reg d16_8))))
def d16_10 : List AOper := [
  ⟨(some 4), none, (.val (.c (.b true)))⟩]
theorem r16_10 {fn : AFun} {K : List AItem} {t : Nat → AV} {H : AH} {T : Tbl} : runR T fn (.code (.reg d16_10) :: K) t H = regR T fn K (aops (callR T) [
  ⟨(some 4), none, (.val (.c (.b true)))⟩] t H) := runR_reg'
def a16 : AFun := ⟨30, [(.tmp 4)], (.seq (.reg d16_0) (.seq (.seq (.reg d16_1) (.cond (.t 11) (.seq (.reg d16_2) .ret) .skip)) (.seq (.seq (.reg d16_3) (.block 0 (.loop l16_9))) (.seq (.reg d16_10) .ret))))⟩
theorem a16_ok : cfun Try.prog 16 = some a16 := by kernel_rfl
/-- (futtock/ring.Ring).All -/
def d17_0 : List AOper := [
  ⟨(some 1), none, (.box (.t 0))⟩,
  ⟨(some 2), none, (.val (.c (.sl none 0 0 true 0)))⟩]
theorem r17_0 {fn : AFun} {K : List AItem} {t : Nat → AV} {H : AH} {T : Tbl} : runR T fn (.code (.reg d17_0) :: K) t H = regR T fn K (aops (callR T) [
  ⟨(some 1), none, (.box (.t 0))⟩,
  ⟨(some 2), none, (.val (.c (.sl none 0 0 true 0)))⟩] t H) := runR_reg'
def d17_1 : List AOper := [
  ⟨(some 3), none, (.fa 0 (.t 1))⟩,
  ⟨(some 4), none, (.ld none (.t 3))⟩,
  ⟨(some 5), none, (.call 22 [(.t 4)])⟩,
  ⟨(some 2), none, (.val (.t 5))⟩]
theorem r17_1 {fn : AFun} {K : List AItem} {t : Nat → AV} {H : AH} {T : Tbl} : runR T fn (.code (.reg d17_1) :: K) t H = regR T fn K (aops (callR T) [
  ⟨(some 3), none, (.fa 0 (.t 1))⟩,
  ⟨(some 4), none, (.ld none (.t 3))⟩,
  ⟨(some 5), none, (.call 22 [(.t 4)])⟩,
  ⟨(some 2), none, (.val (.t 5))⟩] t H) := runR_reg'
def a17 : AFun := ⟨6, [(.tmp 2)], (.seq (.reg d17_0) (.seq (.reg d17_1) .ret))⟩
theorem a17_ok : cfun Try.prog 17 = some a17 := by kernel_rfl
/-- (futtock/ring.Ring).Len -/
def d18_0 : List AOper := [
  ⟨(some 1), none, (.box (.t 0))⟩,
  ⟨(some 2), none, (.val (.c (.i .i64 0)))⟩]
theorem r18_0 {fn : AFun} {K : List AItem} {t : Nat → AV} {H : AH} {T : Tbl} : runR T fn (.code (.reg d18_0) :: K) t H = regR T fn K (aops (callR T) [
  ⟨(some 1), none, (.box (.t 0))⟩,
  ⟨(some 2), none, (.val (.c (.i .i64 0)))⟩] t H) := runR_reg'
def d18_1 : List AOper := [
  ⟨(some 3), none, (.fa 0 (.t 1))⟩,
  ⟨(some 4), none, (.ld none (.t 3))⟩,
  ⟨(some 5), none, (.len (.t 4))⟩,
  ⟨(some 2), none, (.val (.t 5))⟩]
theorem r18_1 {fn : AFun} {K : List AItem} {t : Nat → AV} {H : AH} {T : Tbl} : runR T fn (.code (.reg d18_1) :: K) t H = regR T fn K (aops (callR T) [
  ⟨(some 3), none, (.fa 0 (.t 1))⟩,
  ⟨(some 4), none, (.ld none (.t 3))⟩,
  ⟨(some 5), none, (.len (.t 4))⟩,
  ⟨(some 2), none, (.val (.t 5))⟩] t H) := runR_reg'
def a18 : AFun := ⟨6, [(.tmp 2)], (.seq (.reg d18_0) (.seq (.reg d18_1) .ret))⟩
theorem a18_ok : cfun Try.prog 18 = some a18 := by kernel_rfl
/-- (futtock/ring.Ring).Turn -/
def d19_0 : List AOper := [
  ⟨(some 1), none, (.box (.t 0))⟩,
  ⟨(some 2), none, (.alloc [(.sl none 0 0 true 0)])⟩]
theorem r19_0 {fn : AFun} {K : List AItem} {t : Nat → AV} {H : AH} {T : Tbl} : runR T fn (.code (.reg d19_0) :: K) t H = regR T fn K (aops (callR T) [
  ⟨(some 1), none, (.box (.t 0))⟩,
  ⟨(some 2), none, (.alloc [(.sl none 0 0 true 0)])⟩] t H) := runR_reg'
def d19_1 : List AOper := [
  ⟨(some 3), none, (.fa 0 (.t 1))⟩,
  ⟨(some 4), none, (.ld none (.t 3))⟩,
  ⟨(some 5), none, (.len (.t 4))⟩,
  ⟨(some 6), none, (.bin .eql (.t 5) (.c (.i .i64 0)))⟩]
theorem r19_1 {fn : AFun} {K : List AItem} {t : Nat → AV} {H : AH} {T : Tbl} : runR T fn (.code (.reg d19_1) :: K) t H = regR T fn K (aops (callR T) [
  ⟨(some 3), none, (.fa 0 (.t 1))⟩,
  ⟨(some 4), none, (.ld none (.t 3))⟩,
  ⟨(some 5), none, (.len (.t 4))⟩,
  ⟨(some 6), none, (.bin .eql (.t 5) (.c (.i .i64 0)))⟩] t H) := runR_reg'
def d19_2 : List AOper := [
  ⟨(some 7), none, (.ld (some 1) (.t 1))⟩,
  ⟨none, none, (.st 1 (.t 2) (.t 7))⟩]
theorem r19_2 {fn : AFun} {K : List AItem} {t : Nat → AV} {H : AH} {T : Tbl} : runR T fn (.code (.reg d19_2) :: K) t H = regR T fn K (aops (callR T) [
  ⟨(some 7), none, (.ld (some 1) (.t 1))⟩,
  ⟨none, none, (.st 1 (.t 2) (.t 7))⟩] t H) := runR_reg'
def d19_3 : List (AOper × List Nat) := [
  (⟨(some 8), none, (.fa 0 (.t 1))⟩, []),
  (⟨(some 9), none, (.ld none (.t 8))⟩, [1]),
  (⟨(some 10), none, (.sls 2 (.t 9) (some (.c (.i .i64 1))) none none)⟩, []),
  (⟨(some 11), none, (.fa 0 (.t 1))⟩, []),
  (⟨(some 12), none, (.ld none (.t 11))⟩, [1]),
  (⟨(some 13), none, (.sls 2 (.t 12) none (some (.c (.i .i64 1))) none)⟩, []),
  (⟨(some 14), none, (.bsl [(.sl none 0 0 true 0)] 2 [(0, 1, (.t 10)), (1, 1, (.t 13))])⟩, []),
  (⟨(some 15), none, (.call 23 [(.t 14)])⟩, []),
  (⟨(some 16), none, (.build [(.sl none 0 0 true 0)] [(0, 1, (.t 15))])⟩, []),
  (⟨none, none, (.st 1 (.t 2) (.t 16))⟩, [])]
theorem r19_3 {fn : AFun} {K : List AItem} {t : Nat → AV} {H : AH} {T : Tbl} : runR T fn (.code (.drw d19_3) :: K) t H = regR T fn K (aops (callR T) [
  ⟨(some 8), none, (.fa 0 (.t 1))⟩,
  ⟨(some 9), none, (.ld none (.t 8))⟩,
  ⟨(some 10), none, (.sls 2 (.t 9) (some (.c (.i .i64 1))) none none)⟩,
  ⟨(some 11), none, (.fa 0 (.t 1))⟩,
  ⟨(some 12), none, (.ld none (.t 11))⟩,
  ⟨(some 13), none, (.sls 2 (.t 12) none (some (.c (.i .i64 1))) none)⟩,
  ⟨(some 14), none, (.bsl [(.sl none 0 0 true 0)] 2 [(0, 1, (.t 10)), (1, 1, (.t 13))])⟩,
  ⟨(some 15), none, (.call 23 [(.t 14)])⟩,
  ⟨(some 16), none, (.build [(.sl none 0 0 true 0)] [(0, 1, (.t 15))])⟩,
  ⟨none, none, (.st 1 (.t 2) (.t 16))⟩] t H) := runR_plain rfl
def a19 : AFun := ⟨17, [(.cell 2 (some 1))], (.seq (.reg d19_0) (.seq (.seq (.reg d19_1) (.cond (.t 6) (.seq (.reg d19_2) .ret) .skip)) (.seq (.drw d19_3) .ret)))⟩
theorem a19_ok : cfun Try.prog 19 = some a19 := by kernel_rfl
/-- (futtock/ring.Ring).Add -/
def d20_0 : List AOper := [
  ⟨(some 2), none, (.box (.t 0))⟩,
  ⟨(some 3), none, (.box (.t 1))⟩,
  ⟨(some 4), none, (.alloc [(.sl none 0 0 true 0)])⟩,
  ⟨(some 5), none, (.val (.c (.b false)))⟩]
theorem r20_0 {fn : AFun} {K : List AItem} {t : Nat → AV} {H : AH} {T : Tbl} : runR T fn (.code (.reg d20_0) :: K) t H = regR T fn K (aops (callR T) [
  ⟨(some 2), none, (.box (.t 0))⟩,
  ⟨(some 3), none, (.box (.t 1))⟩,
  ⟨(some 4), none, (.alloc [(.sl none 0 0 true 0)])⟩,
  ⟨(some 5), none, (.val (.c (.b false)))⟩] t H) := runR_reg'
def d20_1 : List AOper := [
  ⟨(some 6), none, (.fa 0 (.t 3))⟩,
  ⟨(some 7), none, (.ld none (.t 6))⟩,
  ⟨(some 8), none, (.bin .lss (.t 7) (.c (.i .i64 0)))⟩,
  ⟨(some 9), none, (.val (.t 8))⟩,
  ⟨(some 10), (some (9, false)), (.fa 0 (.t 3))⟩,
  ⟨(some 11), (some (9, false)), (.ld none (.t 10))⟩,
  ⟨(some 12), (some (9, false)), (.bin .gtr (.t 11) (.c (.i .i64 65534)))⟩,
  ⟨(some 13), none, (.pick (.t 9) (.c (.b true)) (.t 12))⟩,
  ⟨(some 14), none, (.val (.t 13))⟩,
  ⟨(some 15), (some (14, false)), (.fa 1 (.t 3))⟩,
  ⟨(some 16), (some (14, false)), (.ld none (.t 15))⟩,
  ⟨(some 17), (some (14, false)), (.bin .lss (.t 16) (.c (.i .i64 1)))⟩,
  ⟨(some 18), none, (.pick (.t 14) (.c (.b true)) (.t 17))⟩,
  ⟨(some 19), none, (.val (.t 18))⟩,
  ⟨(some 20), (some (19, false)), (.fa 1 (.t 3))⟩,
  ⟨(some 21), (some (19, false)), (.ld none (.t 20))⟩,
  ⟨(some 22), (some (19, false)), (.bin .gtr (.t 21) (.c (.i .i64 65535)))⟩,
  ⟨(some 23), none, (.pick (.t 19) (.c (.b true)) (.t 22))⟩,
  ⟨(some 24), none, (.val (.t 23))⟩,
  ⟨(some 25), (some (24, false)), (.ld (some 1) (.t 2))⟩,
  ⟨(some 26), (some (24, false)), (.fa 0 (.t 3))⟩,
  ⟨(some 27), (some (24, false)), (.ld none (.t 26))⟩,
  ⟨(some 28), (some (24, false)), (.call 24 [(.t 25), (.t 27)])⟩,
  ⟨(some 29), (some (24, false)), (.bin .geq (.t 28) (.c (.i .i64 0)))⟩,
  ⟨(some 30), none, (.pick (.t 24) (.c (.b true)) (.t 29))⟩]
theorem r20_1 {fn : AFun} {K : List AItem} {t : Nat → AV} {H : AH} {T : Tbl} : runR T fn (.code (.reg d20_1) :: K) t H = regR T fn K (aops (callR T) [
  ⟨(some 6), none, (.fa 0 (.t 3))⟩,
  ⟨(some 7), none, (.ld none (.t 6))⟩,
  ⟨(some 8), none, (.bin .lss (.t 7) (.c (.i .i64 0)))⟩,
  ⟨(some 9), none, (.val (.t 8))⟩,
  ⟨(some 10), (some (9, false)), (.fa 0 (.t 3))⟩,
  ⟨(some 11), (some (9, false)), (.ld none (.t 10))⟩,
  ⟨(some 12), (some (9, false)), (.bin .gtr (.t 11) (.c (.i .i64 65534)))⟩,
  ⟨(some 13), none, (.pick (.t 9) (.c (.b true)) (.t 12))⟩,
  ⟨(some 14), none, (.val (.t 13))⟩,
  ⟨(some 15), (some (14, false)), (.fa 1 (.t 3))⟩,
  ⟨(some 16), (some (14, false)), (.ld none (.t 15))⟩,
  ⟨(some 17), (some (14, false)), (.bin .lss (.t 16) (.c (.i .i64 1)))⟩,
  ⟨(some 18), none, (.pick (.t 14) (.c (.b true)) (.t 17))⟩,
  ⟨(some 19), none, (.val (.t 18))⟩,
  ⟨(some 20), (some (19, false)), (.fa 1 (.t 3))⟩,
  ⟨(some 21), (some (19, false)), (.ld none (.t 20))⟩,
  ⟨(some 22), (some (19, false)), (.bin .gtr (.t 21) (.c (.i .i64 65535)))⟩,
  ⟨(some 23), none, (.pick (.t 19) (.c (.b true)) (.t 22))⟩,
  ⟨(some 24), none, (.val (.t 23))⟩,
  ⟨(some 25), (some (24, false)), (.ld (some 1) (.t 2))⟩,
  ⟨(some 26), (some (24, false)), (.fa 0 (.t 3))⟩,
  ⟨(some 27), (some (24, false)), (.ld none (.t 26))⟩,
  ⟨(some 28), (some (24, false)), (.call 24 [(.t 25), (.t 27)])⟩,
  ⟨(some 29), (some (24, false)), (.bin .geq (.t 28) (.c (.i .i64 0)))⟩,
  ⟨(some 30), none, (.pick (.t 24) (.c (.b true)) (.t 29))⟩] t H) := runR_reg'
def d20_2 : List AOper := [
  ⟨(some 31), none, (.ld (some 1) (.t 2))⟩,
  ⟨none, none, (.st 1 (.t 4) (.t 31))⟩,
  ⟨(some 5), none, (.val (.c (.b false)))⟩]
theorem r20_2 {fn : AFun} {K : List AItem} {t : Nat → AV} {H : AH} {T : Tbl} : runR T fn (.code (.reg d20_2) :: K) t H = regR T fn K (aops (callR T) [
  ⟨(some 31), none, (.ld (some 1) (.t 2))⟩,
  ⟨none, none, (.st 1 (.t 4) (.t 31))⟩,
  ⟨(some 5), none, (.val (.c (.b false)))⟩] t H) := runR_reg'
def d20_3 : List AOper := [
  ⟨(some 32), none, (.fa 0 (.t 2))⟩,
  ⟨(some 33), none, (.ld none (.t 32))⟩,
  ⟨(some 34), none, (.ld (some 2) (.t 3))⟩,
  ⟨(some 35), none, (.bsl [(.i .i64 0), (.i .i64 0)] 1 [(0, 2, (.t 34))])⟩,
  ⟨(some 36), none, (.bsl [(.sl none 0 0 true 0)] 2 [(0, 1, (.t 33)), (1, 1, (.t 35))])⟩,
  ⟨(some 37), none, (.call 23 [(.t 36)])⟩,
  ⟨(some 38), none, (.build [(.sl none 0 0 true 0)] [(0, 1, (.t 37))])⟩,
  ⟨none, none, (.st 1 (.t 4) (.t 38))⟩,
  ⟨(some 5), none, (.val (.c (.b true)))⟩]
theorem r20_3 {fn : AFun} {K : List AItem} {t : Nat → AV} {H : AH} {T : Tbl} : runR T fn (.code (.reg d20_3) :: K) t H = regR T fn K (aops (callR T) [
  ⟨(some 32), none, (.fa 0 (.t 2))⟩,
  ⟨(some 33), none, (.ld none (.t 32))⟩,
  ⟨(some 34), none, (.ld (some 2) (.t 3))⟩,
  ⟨(some 35), none, (.bsl [(.i .i64 0), (.i .i64 0)] 1 [(0, 2, (.t 34))])⟩,
  ⟨(some 36), none, (.bsl [(.sl none 0 0 true 0)] 2 [(0, 1, (.t 33)), (1, 1, (.t 35))])⟩,
  ⟨(some 37), none, (.call 23 [(.t 36)])⟩,
  ⟨(some 38), none, (.build [(.sl none 0 0 true 0)] [(0, 1, (.t 37))])⟩,
  ⟨none, none, (.st 1 (.t 4) (.t 38))⟩,
  ⟨(some 5), none, (.val (.c (.b true)))⟩] t H) := runR_reg'
def a20 : AFun := ⟨39, [(.cell 4 (some 1)), (.tmp 5)], (.seq (.reg d20_0) (.seq (.seq (.reg d20_1) (.cond (.t 30) (.seq (.reg d20_2) .ret) .skip)) (.seq (.reg d20_3) .ret)))⟩
theorem a20_ok : cfun Try.prog 20 = some a20 := by kernel_rfl
/-- (futtock/ring.Ring).Remove -/
def d21_0 : List AOper := [
  ⟨(some 2), none, (.box (.t 0))⟩,
  ⟨(some 4), none, (.alloc [(.i .i64 0), (.i .i64 0)])⟩,
  ⟨(some 5), none, (.alloc [(.sl none 0 0 true 0)])⟩,
  ⟨(some 6), none, (.val (.c (.b false)))⟩]
theorem r21_0 {fn : AFun} {K : List AItem} {t : Nat → AV} {H : AH} {T : Tbl} : runR T fn (.code (.reg d21_0) :: K) t H = regR T fn K (aops (callR T) [
  ⟨(some 2), none, (.box (.t 0))⟩,
  ⟨(some 4), none, (.alloc [(.i .i64 0), (.i .i64 0)])⟩,
  ⟨(some 5), none, (.alloc [(.sl none 0 0 true 0)])⟩,
  ⟨(some 6), none, (.val (.c (.b false)))⟩] t H) := runR_reg'
def d21_1 : List AOper := [
  ⟨(some 8), none, (.ld (some 1) (.t 2))⟩,
  ⟨(some 9), none, (.val (.t 1))⟩,
  ⟨(some 10), none, (.call 24 [(.t 8), (.t 9)])⟩,
  ⟨(some 7), none, (.val (.t 10))⟩]
theorem r21_1 {fn : AFun} {K : List AItem} {t : Nat → AV} {H : AH} {T : Tbl} : runR T fn (.code (.reg d21_1) :: K) t H = regR T fn K (aops (callR T) [
  ⟨(some 8), none, (.ld (some 1) (.t 2))⟩,
  ⟨(some 9), none, (.val (.t 1))⟩,
  ⟨(some 10), none, (.call 24 [(.t 8), (.t 9)])⟩,
  ⟨(some 7), none, (.val (.t 10))⟩] t H) := runR_reg'
def d21_2 : List AOper := [
  ⟨(some 11), none, (.val (.t 7))⟩,
  ⟨(some 12), none, (.bin .lss (.t 11) (.c (.i .i64 0)))⟩]
theorem r21_2 {fn : AFun} {K : List AItem} {t : Nat → AV} {H : AH} {T : Tbl} : runR T fn (.code (.reg d21_2) :: K) t H = regR T fn K (aops (callR T) [
  ⟨(some 11), none, (.val (.t 7))⟩,
  ⟨(some 12), none, (.bin .lss (.t 11) (.c (.i .i64 0)))⟩] t H) := runR_reg'
def d21_3 : List (AOper × List Nat) := [
  (⟨(some 13), none, (.build [(.i .i64 0), (.i .i64 0)] [])⟩, []),
  (⟨(some 14), none, (.ld (some 1) (.t 2))⟩, [1]),
  (⟨none, none, (.st 2 (.t 4) (.t 13))⟩, [0]),
  (⟨none, none, (.st 1 (.t 5) (.t 14))⟩, []),
  (⟨(some 6), none, (.val (.c (.b false)))⟩, [])]
theorem r21_3 {fn : AFun} {K : List AItem} {t : Nat → AV} {H : AH} {T : Tbl} : runR T fn (.code (.drw d21_3) :: K) t H = regR T fn K (adrw (callR T) [
  (⟨(some 13), none, (.build [(.i .i64 0), (.i .i64 0)] [])⟩, []),
  (⟨(some 14), none, (.ld (some 1) (.t 2))⟩, [1]),
  (⟨none, none, (.st 2 (.t 4) (.t 13))⟩, [0]),
  (⟨none, none, (.st 1 (.t 5) (.t 14))⟩, []),
  (⟨(some 6), none, (.val (.c (.b false)))⟩, [])] t H [H] []) := runR_drw'
def d21_4 : List (AOper × List Nat) := [
  (⟨(some 15), none, (.fa 0 (.t 2))⟩, []),
  (⟨(some 16), none, (.ld none (.t 15))⟩, [1]),
  (⟨(some 17), none, (.val (.t 7))⟩, []),
  (⟨(some 18), none, (.ia 2 (.t 16) (.t 17))⟩, []),
  (⟨(some 19), none, (.ld (some 2) (.t 18))⟩, [1]),
  (⟨(some 20), none, (.fa 0 (.t 2))⟩, []),
  (⟨(some 21), none, (.ld none (.t 20))⟩, [1]),
  (⟨(some 22), none, (.val (.t 7))⟩, []),
  (⟨(some 23), none, (.sls 2 (.t 21) none (some (.t 22)) none)⟩, []),
  (⟨(some 24), none, (.fa 0 (.t 2))⟩, []),
  (⟨(some 25), none, (.ld none (.t 24))⟩, [1]),
  (⟨(some 26), none, (.val (.t 7))⟩, []),
  (⟨(some 27), none, (.bin .add (.t 26) (.c (.i .i64 1)))⟩, []),
  (⟨(some 28), none, (.sls 2 (.t 25) (some (.t 27)) none none)⟩, []),
  (⟨(some 29), none, (.bsl [(.sl none 0 0 true 0)] 2 [(0, 1, (.t 23)), (1, 1, (.t 28))])⟩, []),
  (⟨(some 30), none, (.call 23 [(.t 29)])⟩, [2, 3]),
  (⟨(some 31), none, (.build [(.sl none 0 0 true 0)] [(0, 1, (.t 30))])⟩, []),
  (⟨none, none, (.st 2 (.t 4) (.t 19))⟩, []),
  (⟨none, none, (.st 1 (.t 5) (.t 31))⟩, []),
  (⟨(some 6), none, (.val (.c (.b true)))⟩, [])]
theorem r21_4 {fn : AFun} {K : List AItem} {t : Nat → AV} {H : AH} {T : Tbl} : runR T fn (.code (.drw d21_4) :: K) t H = regR T fn K (adrw (callR T) [
  (⟨(some 15), none, (.fa 0 (.t 2))⟩, []),
  (⟨(some 16), none, (.ld none (.t 15))⟩, [1]),
  (⟨(some 17), none, (.val (.t 7))⟩, []),
  (⟨(some 18), none, (.ia 2 (.t 16) (.t 17))⟩, []),
  (⟨(some 19), none, (.ld (some 2) (.t 18))⟩, [1]),
  (⟨(some 20), none, (.fa 0 (.t 2))⟩, []),
  (⟨(some 21), none, (.ld none (.t 20))⟩, [1]),
  (⟨(some 22), none, (.val (.t 7))⟩, []),
  (⟨(some 23), none, (.sls 2 (.t 21) none (some (.t 22)) none)⟩, []),
  (⟨(some 24), none, (.fa 0 (.t 2))⟩, []),
  (⟨(some 25), none, (.ld none (.t 24))⟩, [1]),
  (⟨(some 26), none, (.val (.t 7))⟩, []),
  (⟨(some 27), none, (.bin .add (.t 26) (.c (.i .i64 1)))⟩, []),
  (⟨(some 28), none, (.sls 2 (.t 25) (some (.t 27)) none none)⟩, []),
  (⟨(some 29), none, (.bsl [(.sl none 0 0 true 0)] 2 [(0, 1, (.t 23)), (1, 1, (.t 28))])⟩, []),
  (⟨(some 30), none, (.call 23 [(.t 29)])⟩, [2, 3]),
  (⟨(some 31), none, (.build [(.sl none 0 0 true 0)] [(0, 1, (.t 30))])⟩, []),
  (⟨none, none, (.st 2 (.t 4) (.t 19))⟩, []),
  (⟨none, none, (.st 1 (.t 5) (.t 31))⟩, []),
  (⟨(some 6), none, (.val (.c (.b true)))⟩, [])] t H [H] []) := runR_drw'
def a21 : AFun := ⟨32, [(.cell 4 (some 2)), (.cell 5 (some 1)), (.tmp 6)], (.seq (.reg d21_0) (.seq (.reg d21_1) (.seq (.seq (.reg d21_2) (.cond (.t 12) (.seq (.drw d21_3) .ret) .skip)) (.seq (.drw d21_4) .ret))))⟩
theorem a21_ok : cfun Try.prog 21 = some a21 := by kernel_rfl
/-- slices.Clone[[]futtock/ring.Waiter,futtock/ring.Waiter] -/
def d22_0 : List AOper := [
  ⟨(some 2), none, (.val (.c (.sl none 0 0 true 0)))⟩]
theorem r22_0 {fn : AFun} {K : List AItem} {t : Nat → AV} {H : AH} {T : Tbl} : runR T fn (.code (.reg d22_0) :: K) t H = regR T fn K (aops (callR T) [
  ⟨(some 2), none, (.val (.c (.sl none 0 0 true 0)))⟩] t H) := runR_reg'
def d22_1 : List AOper := [
  ⟨(some 3), none, (.val (.t 0))⟩,
  ⟨(some 4), none, (.eqn 1 false (.t 3) (.c (.sl none 0 0 true 0)))⟩]
theorem r22_1 {fn : AFun} {K : List AItem} {t : Nat → AV} {H : AH} {T : Tbl} : runR T fn (.code (.reg d22_1) :: K) t H = regR T fn K (aops (callR T) [
  ⟨(some 3), none, (.val (.t 0))⟩,
  ⟨(some 4), none, (.eqn 1 false (.t 3) (.c (.sl none 0 0 true 0)))⟩] t H) := runR_reg'
def d22_2 : List AOper := [
  ⟨(some 2), none, (.val (.c (.sl none 0 0 true 0)))⟩]
theorem r22_2 {fn : AFun} {K : List AItem} {t : Nat → AV} {H : AH} {T : Tbl} : runR T fn (.code (.reg d22_2) :: K) t H = regR T fn K (aops (callR T) [
  ⟨(some 2), none, (.val (.c (.sl none 0 0 true 0)))⟩] t H) := runR_reg'
def d22_3 : List AOper := [
  ⟨(some 5), none, (.bsl [(.i .i64 0), (.i .i64 0)] 0 [])⟩,
  ⟨(some 6), none, (.val (.t 0))⟩,
  ⟨(some 7), none, (.app [(.i .i64 0), (.i .i64 0)] 16 (.t 5) (.t 6))⟩,
  ⟨(some 2), none, (.val (.t 7))⟩]
theorem r22_3 {fn : AFun} {K : List AItem} {t : Nat → AV} {H : AH} {T : Tbl} : runR T fn (.code (.reg d22_3) :: K) t H = regR T fn K (aops (callR T) [
  ⟨(some 5), none, (.bsl [(.i .i64 0), (.i .i64 0)] 0 [])⟩,
  ⟨(some 6), none, (.val (.t 0))⟩,
  ⟨(some 7), none, (.app [(.i .i64 0), (.i .i64 0)] 16 (.t 5) (.t 6))⟩,
  ⟨(some 2), none, (.val (.t 7))⟩] t H) := runR_reg'
def a22 : AFun := ⟨8, [(.tmp 2)], (.seq (.reg d22_0) (.seq (.seq (.reg d22_1) (.cond (.t 4) (.seq (.reg d22_2) .ret) .skip)) (.seq (.reg d22_3) .ret)))⟩
theorem a22_ok : cfun Try.prog 22 = some a22 := by kernel_rfl
/-- slices.Concat[[]futtock/ring.Waiter,futtock/ring.Waiter] -/
def d23_0 : List AOper := [
  ⟨(some 2), none, (.val (.c (.sl none 0 0 true 0)))⟩]
theorem r23_0 {fn : AFun} {K : List AItem} {t : Nat → AV} {H : AH} {T : Tbl} : runR T fn (.code (.reg d23_0) :: K) t H = regR T fn K (aops (callR T) [
  ⟨(some 2), none, (.val (.c (.sl none 0 0 true 0)))⟩] t H) := runR_reg'
def d23_1 : List AOper := [
  ⟨(some 3), none, (.val (.c (.i .i64 0)))⟩]
theorem r23_1 {fn : AFun} {K : List AItem} {t : Nat → AV} {H : AH} {T : Tbl} : runR T fn (.code (.reg d23_1) :: K) t H = regR T fn K (aops (callR T) [
  ⟨(some 3), none, (.val (.c (.i .i64 0)))⟩] t H) := runR_reg'
def d23_2 : List AOper := [
  ⟨(some 9), none, (.val (.t 0))⟩,
  ⟨(some 10), none, (.len (.t 9))⟩,
  ⟨(some 11), none, (.val (.c (.i .i64 0)))⟩]
theorem r23_2 {fn : AFun} {K : List AItem} {t : Nat → AV} {H : AH} {T : Tbl} : runR T fn (.code (.reg d23_2) :: K) t H = regR T fn K (aops (callR T) [
  ⟨(some 9), none, (.val (.t 0))⟩,
  ⟨(some 10), none, (.len (.t 9))⟩,
  ⟨(some 11), none, (.val (.c (.i .i64 0)))⟩] t H) := runR_reg'
def d23_3 : List AOper := [
  ⟨(some 12), none, (.bin .lss (.t 11) (.t 10))⟩]
theorem r23_3 {fn : AFun} {K : List AItem} {t : Nat → AV} {H : AH} {T : Tbl} : runR T fn (.code (.reg d23_3) :: K) t H = regR T fn K (aops (callR T) [
  ⟨(some 12), none, (.bin .lss (.t 11) (.t 10))⟩] t H) := runR_reg'
def d23_4 : List AOper := [
  ⟨(some 13), none, (.ia 1 (.t 9) (.t 11))⟩,
  ⟨(some 14), none, (.ld none (.t 13))⟩,
  ⟨(some 5), none, (.val (.t 14))⟩]
theorem r23_4 {fn : AFun} {K : List AItem} {t : Nat → AV} {H : AH} {T : Tbl} : runR T fn (.code (.reg d23_4) :: K) t H = regR T fn K (aops (callR T) [
  ⟨(some 13), none, (.ia 1 (.t 9) (.t 11))⟩,
  ⟨(some 14), none, (.ld none (.t 13))⟩,
  ⟨(some 5), none, (.val (.t 14))⟩] t H) := runR_reg'
def d23_5 : List AOper := [
  ⟨(some 15), none, (.val (.t 3))⟩,
  ⟨(some 16), none, (.val (.t 5))⟩,
  ⟨(some 17), none, (.len (.t 16))⟩,
  ⟨(some 18), none, (.bin .add (.t 15) (.t 17))⟩,
  ⟨(some 3), none, (.val (.t 18))⟩]
theorem r23_5 {fn : AFun} {K : List AItem} {t : Nat → AV} {H : AH} {T : Tbl} : runR T fn (.code (.reg d23_5) :: K) t H = regR T fn K (aops (callR T) [
  ⟨(some 15), none, (.val (.t 3))⟩,
  ⟨(some 16), none, (.val (.t 5))⟩,
  ⟨(some 17), none, (.len (.t 16))⟩,
  ⟨(some 18), none, (.bin .add (.t 15) (.t 17))⟩,
  ⟨(some 3), none, (.val (.t 18))⟩] t H) := runR_reg'
def d23_6 : List AOper := [
  ⟨(some 19), none, (.val (.t 3))⟩,
  ⟨(some 20), none, (.bin .lss (.t 19) (.c (.i .i64 0)))⟩]
theorem r23_6 {fn : AFun} {K : List AItem} {t : Nat → AV} {H : AH} {T : Tbl} : runR T fn (.code (.reg d23_6) :: K) t H = regR T fn K (aops (callR T) [
  ⟨(some 19), none, (.val (.t 3))⟩,
  ⟨(some 20), none, (.bin .lss (.t 19) (.c (.i .i64 0)))⟩] t H) := runR_reg'
def d23_7 : List AOper := [
  ⟨(some 21), none, (.mki 9 (.c (.s ⟨#[108, 101, 110, 32, 111, 117, 116, 32, 111, 102, 32, 114, 97, 110, 103, 101]⟩)))⟩,
  ⟨none, none, (.dead [(.t 21)])⟩]
theorem r23_7 {fn : AFun} {K : List AItem} {t : Nat → AV} {H : AH} {T : Tbl} : runR T fn (.code (.reg d23_7) :: K) t H = regR T fn K (aops (callR T) [
  ⟨(some 21), none, (.mki 9 (.c (.s ⟨#[108, 101, 110, 32, 111, 117, 116, 32, 111, 102, 32, 114, 97, 110, 103, 101]⟩)))⟩,
  ⟨none, none, (.dead [(.t 21)])⟩] t H) := runR_reg'
def d23_8 : List AOper := [
  ⟨(some 22), none, (.bin .add (.t 11) (.c (.i .i64 1)))⟩,
  ⟨(some 11), none, (.val (.t 22))⟩]
theorem r23_8 {fn : AFun} {K : List AItem} {t : Nat → AV} {H : AH} {T : Tbl} : runR T fn (.code (.reg d23_8) :: K) t H = regR T fn K (aops (callR T) [
  ⟨(some 22), none, (.bin .add (.t 11) (.c (.i .i64 1)))⟩,
  ⟨(some 11), none, (.val (.t 22))⟩] t H) := runR_reg'
def l23_9 : ACode := (.seq (.reg d23_3) (.seq (.cond (.t 12) .skip (.exit 0)) (.seq (.block 1 (.seq (.reg d23_4) (.seq (.reg d23_5) (.seq (.reg d23_6) (.cond (.t 20) (.reg d23_7) .skip))))) (.reg d23_8))))
def d23_10 : List AOper := [
  ⟨(some 23), none, (.val (.t 3))⟩,
  ⟨(some 24), none, (.call 25 [(.c (.sl none 0 0 true 0)), (.t 23)])⟩,
  ⟨(some 6), none, (.val (.t 24))⟩]
theorem r23_10 {fn : AFun} {K : List AItem} {t : Nat → AV} {H : AH} {T : Tbl} : runR T fn (.code (.reg d23_10) :: K) t H = regR T fn K (aops (callR T) [
  ⟨(some 23), none, (.val (.t 3))⟩,
  ⟨(some 24), none, (.call 25 [(.c (.sl none 0 0 true 0)), (.t 23)])⟩,
  ⟨(some 6), none, (.val (.t 24))⟩] t H) := runR_reg'
def d23_11 : List AOper := [
  ⟨(some 25), none, (.val (.t 0))⟩,
  ⟨(some 26), none, (.len (.t 25))⟩,
  ⟨(some 27), none, (.val (.c (.i .i64 0)))⟩]
theorem r23_11 {fn : AFun} {K : List AItem} {t : Nat → AV} {H : AH} {T : Tbl} : runR T fn (.code (.reg d23_11) :: K) t H = regR T fn K (aops (callR T) [
  ⟨(some 25), none, (.val (.t 0))⟩,
  ⟨(some 26), none, (.len (.t 25))⟩,
  ⟨(some 27), none, (.val (.c (.i .i64 0)))⟩] t H) := runR_reg'
def d23_12 : List AOper := [
  ⟨(some 28), none, (.bin .lss (.t 27) (.t 26))⟩]
theorem r23_12 {fn : AFun} {K : List AItem} {t : Nat → AV} {H : AH} {T : Tbl} : runR T fn (.code (.reg d23_12) :: K) t H = regR T fn K (aops (callR T) [
  ⟨(some 28), none, (.bin .lss (.t 27) (.t 26))⟩] t H) := runR_reg'
def d23_13 : List AOper := [
  ⟨(some 29), none, (.ia 1 (.t 25) (.t 27))⟩,
  ⟨(some 30), none, (.ld none (.t 29))⟩,
  ⟨(some 8), none, (.val (.t 30))⟩]
theorem r23_13 {fn : AFun} {K : List AItem} {t : Nat → AV} {H : AH} {T : Tbl} : runR T fn (.code (.reg d23_13) :: K) t H = regR T fn K (aops (callR T) [
  ⟨(some 29), none, (.ia 1 (.t 25) (.t 27))⟩,
  ⟨(some 30), none, (.ld none (.t 29))⟩,
  ⟨(some 8), none, (.val (.t 30))⟩] t H) := runR_reg'
def d23_14 : List AOper := [
  ⟨(some 31), none, (.val (.t 6))⟩,
  ⟨(some 32), none, (.val (.t 8))⟩,
  ⟨(some 33), none, (.app [(.i .i64 0), (.i .i64 0)] 16 (.t 31) (.t 32))⟩,
  ⟨(some 6), none, (.val (.t 33))⟩]
theorem r23_14 {fn : AFun} {K : List AItem} {t : Nat → AV} {H : AH} {T : Tbl} : runR T fn (.code (.reg d23_14) :: K) t H = regR T fn K (aops (callR T) [
  ⟨(some 31), none, (.val (.t 6))⟩,
  ⟨(some 32), none, (.val (.t 8))⟩,
  ⟨(some 33), none, (.app [(.i .i64 0), (.i .i64 0)] 16 (.t 31) (.t 32))⟩,
  ⟨(some 6), none, (.val (.t 33))⟩] t H) := runR_reg'
def d23_15 : List AOper := [
  ⟨(some 34), none, (.bin .add (.t 27) (.c (.i .i64 1)))⟩,
  ⟨(some 27), none, (.val (.t 34))⟩]
theorem r23_15 {fn : AFun} {K : List AItem} {t : Nat → AV} {H : AH} {T : Tbl} : runR T fn (.code (.reg d23_15) :: K) t H = regR T fn K (aops (callR T) [
  ⟨(some 34), none, (.bin .add (.t 27) (.c (.i .i64 1)))⟩,
  ⟨(some 27), none, (.val (.t 34))⟩] t H) := runR_reg'
def l23_16 : ACode := (.seq (.reg d23_12) (.seq (.cond (.t 28) .skip (.exit 2)) (.seq (.block 3 (.seq (.reg d23_13) (.reg d23_14))) (.reg d23_15))))
def d23_17 : List AOper := [
  ⟨(some 35), none, (.val (.t 6))⟩,
  ⟨(some 2), none, (.val (.t 35))⟩]
theorem r23_17 {fn : AFun} {K : List AItem} {t : Nat → AV} {H : AH} {T : Tbl} : runR T fn (.code (.reg d23_17) :: K) t H = regR T fn K (aops (callR T) [
  ⟨(some 35), none, (.val (.t 6))⟩,
  ⟨(some 2), none, (.val (.t 35))⟩] t H) := runR_reg'
def a23 : AFun := ⟨36, [(.tmp 2)], (.seq (.reg d23_0) (.seq (.reg d23_1) (.seq (.seq (.reg d23_2) (.block 0 (.loop l23_9))) (.seq (.reg d23_10) (.seq (.seq (.reg d23_11) (.block 2 (.loop l23_16))) (.seq (.reg d23_17) .ret))))))⟩
theorem a23_ok : cfun Try.prog 23 = some a23 := by kernel_rfl
/-- (futtock/ring.Ring).place -/
def d24_0 : List AOper := [
  ⟨(some 2), none, (.box (.t 0))⟩,
  ⟨(some 3), none, (.box (.t 1))⟩,
  ⟨(some 4), none, (.val (.c (.i .i64 0)))⟩]
theorem r24_0 {fn : AFun} {K : List AItem} {t : Nat → AV} {H : AH} {T : Tbl} : runR T fn (.code (.reg d24_0) :: K) t H = regR T fn K (aops (callR T) [
  ⟨(some 2), none, (.box (.t 0))⟩,
  ⟨(some 3), none, (.box (.t 1))⟩,
  ⟨(some 4), none, (.val (.c (.i .i64 0)))⟩] t H) := runR_reg'
def d24_1 : List AOper := [
  ⟨(some 5), none, (.fa 0 (.t 2))⟩,
  ⟨(some 6), none, (.ld none (.t 5))⟩,
  ⟨(some 7), none, (.mkf (.func 27) [] [(.t 3)])⟩,
  ⟨(some 8), none, (.call 26 [(.t 6), (.t 7)])⟩,
  ⟨(some 4), none, (.val (.t 8))⟩]
theorem r24_1 {fn : AFun} {K : List AItem} {t : Nat → AV} {H : AH} {T : Tbl} : runR T fn (.code (.reg d24_1) :: K) t H = regR T fn K (aops (callR T) [
  ⟨(some 5), none, (.fa 0 (.t 2))⟩,
  ⟨(some 6), none, (.ld none (.t 5))⟩,
  ⟨(some 7), none, (.mkf (.func 27) [] [(.t 3)])⟩,
  ⟨(some 8), none, (.call 26 [(.t 6), (.t 7)])⟩,
  ⟨(some 4), none, (.val (.t 8))⟩] t H) := runR_reg'
def a24 : AFun := ⟨9, [(.tmp 4)], (.seq (.reg d24_0) (.seq (.reg d24_1) .ret))⟩
theorem a24_ok : cfun Try.prog 24 = some a24 := by kernel_rfl
/-- slices.Grow[[]futtock/ring.Waiter,futtock/ring.Waiter] -/
def d25_0 : List AOper := [
  ⟨(some 4), none, (.val (.c (.sl none 0 0 true 0)))⟩]
theorem r25_0 {fn : AFun} {K : List AItem} {t : Nat → AV} {H : AH} {T : Tbl} : runR T fn (.code (.reg d25_0) :: K) t H = regR T fn K (aops (callR T) [
  ⟨(some 4), none, (.val (.c (.sl none 0 0 true 0)))⟩] t H) := runR_reg'
def d25_1 : List AOper := [
  ⟨(some 5), none, (.val (.t 1))⟩,
  ⟨(some 6), none, (.bin .lss (.t 5) (.c (.i .i64 0)))⟩]
theorem r25_1 {fn : AFun} {K : List AItem} {t : Nat → AV} {H : AH} {T : Tbl} : runR T fn (.code (.reg d25_1) :: K) t H = regR T fn K (aops (callR T) [
  ⟨(some 5), none, (.val (.t 1))⟩,
  ⟨(some 6), none, (.bin .lss (.t 5) (.c (.i .i64 0)))⟩] t H) := runR_reg'
def d25_2 : List AOper := [
  ⟨(some 7), none, (.mki 9 (.c (.s ⟨#[99, 97, 110, 110, 111, 116, 32, 98, 101, 32, 110, 101, 103, 97, 116, 105, 118, 101]⟩)))⟩,
  ⟨none, none, (.dead [(.t 7)])⟩]
theorem r25_2 {fn : AFun} {K : List AItem} {t : Nat → AV} {H : AH} {T : Tbl} : runR T fn (.code (.reg d25_2) :: K) t H = regR T fn K (aops (callR T) [
  ⟨(some 7), none, (.mki 9 (.c (.s ⟨#[99, 97, 110, 110, 111, 116, 32, 98, 101, 32, 110, 101, 103, 97, 116, 105, 118, 101]⟩)))⟩,
  ⟨none, none, (.dead [(.t 7)])⟩] t H) := runR_reg'
def d25_3 : List AOper := [
  ⟨(some 8), none, (.val (.t 1))⟩,
  ⟨(some 9), none, (.val (.t 0))⟩,
  ⟨(some 10), none, (.cap (.t 9))⟩,
  ⟨(some 11), none, (.val (.t 0))⟩,
  ⟨(some 12), none, (.len (.t 11))⟩,
  ⟨(some 13), none, (.bin .sub (.t 10) (.t 12))⟩,
  ⟨(some 14), none, (.bin .sub (.t 8) (.t 13))⟩,
  ⟨(some 1), none, (.val (.t 14))⟩]
theorem r25_3 {fn : AFun} {K : List AItem} {t : Nat → AV} {H : AH} {T : Tbl} : runR T fn (.code (.reg d25_3) :: K) t H = regR T fn K (aops (callR T) [
  ⟨(some 8), none, (.val (.t 1))⟩,
  ⟨(some 9), none, (.val (.t 0))⟩,
  ⟨(some 10), none, (.cap (.t 9))⟩,
  ⟨(some 11), none, (.val (.t 0))⟩,
  ⟨(some 12), none, (.len (.t 11))⟩,
  ⟨(some 13), none, (.bin .sub (.t 10) (.t 12))⟩,
  ⟨(some 14), none, (.bin .sub (.t 8) (.t 13))⟩,
  ⟨(some 1), none, (.val (.t 14))⟩] t H) := runR_reg'
def d25_4 : List AOper := [
  ⟨(some 15), none, (.val (.t 1))⟩,
  ⟨(some 16), none, (.bin .gtr (.t 15) (.c (.i .i64 0)))⟩]
theorem r25_4 {fn : AFun} {K : List AItem} {t : Nat → AV} {H : AH} {T : Tbl} : runR T fn (.code (.reg d25_4) :: K) t H = regR T fn K (aops (callR T) [
  ⟨(some 15), none, (.val (.t 1))⟩,
  ⟨(some 16), none, (.bin .gtr (.t 15) (.c (.i .i64 0)))⟩] t H) := runR_reg'
def d25_5 : List AOper := [
  ⟨(some 17), none, (.val (.t 0))⟩,
  ⟨(some 18), none, (.val (.t 0))⟩,
  ⟨(some 19), none, (.cap (.t 18))⟩,
  ⟨(some 20), none, (.sls 2 (.t 17) none (some (.t 19)) none)⟩,
  ⟨(some 21), none, (.val (.t 1))⟩,
  ⟨(some 22), none, (.apm [(.i .i64 0), (.i .i64 0)] 16 (.t 20) (.t 21))⟩,
  ⟨(some 23), none, (.val (.t 0))⟩,
  ⟨(some 24), none, (.len (.t 23))⟩,
  ⟨(some 25), none, (.sls 2 (.t 22) none (some (.t 24)) none)⟩,
  ⟨(some 0), none, (.val (.t 25))⟩]
theorem r25_5 {fn : AFun} {K : List AItem} {t : Nat → AV} {H : AH} {T : Tbl} : runR T fn (.code (.reg d25_5) :: K) t H = regR T fn K (aops (callR T) [
  ⟨(some 17), none, (.val (.t 0))⟩,
  ⟨(some 18), none, (.val (.t 0))⟩,
  ⟨(some 19), none, (.cap (.t 18))⟩,
  ⟨(some 20), none, (.sls 2 (.t 17) none (some (.t 19)) none)⟩,
  ⟨(some 21), none, (.val (.t 1))⟩,
  ⟨(some 22), none, (.apm [(.i .i64 0), (.i .i64 0)] 16 (.t 20) (.t 21))⟩,
  ⟨(some 23), none, (.val (.t 0))⟩,
  ⟨(some 24), none, (.len (.t 23))⟩,
  ⟨(some 25), none, (.sls 2 (.t 22) none (some (.t 24)) none)⟩,
  ⟨(some 0), none, (.val (.t 25))⟩] t H) := runR_reg'
def d25_6 : List AOper := [
  ⟨(some 26), none, (.val (.t 0))⟩,
  ⟨(some 4), none, (.val (.t 26))⟩]
theorem r25_6 {fn : AFun} {K : List AItem} {t : Nat → AV} {H : AH} {T : Tbl} : runR T fn (.code (.reg d25_6) :: K) t H = regR T fn K (aops (callR T) [
  ⟨(some 26), none, (.val (.t 0))⟩,
  ⟨(some 4), none, (.val (.t 26))⟩] t H) := runR_reg'
def a25 : AFun := ⟨27, [(.tmp 4)], (.seq (.reg d25_0) (.seq (.seq (.reg d25_1) (.cond (.t 6) (.reg d25_2) .skip)) (.seq (.seq (.reg d25_3) (.seq (.reg d25_4) (.cond (.t 16) (.reg d25_5) .skip))) (.seq (.reg d25_6) .ret))))⟩
theorem a25_ok : cfun Try.prog 25 = some a25 := by kernel_rfl
/-- slices.IndexFunc[[]futtock/ring.Waiter,futtock/ring.Waiter] -/
def d26_0 : List AOper := [
  ⟨(some 4), none, (.val (.c (.i .i64 0)))⟩]
theorem r26_0 {fn : AFun} {K : List AItem} {t : Nat → AV} {H : AH} {T : Tbl} : runR T fn (.code (.reg d26_0) :: K) t H = regR T fn K (aops (callR T) [
  ⟨(some 4), none, (.val (.c (.i .i64 0)))⟩] t H) := runR_reg'
def d26_1 : List AOper := [
  ⟨(some 6), none, (.val (.t 0))⟩,
  ⟨(some 7), none, (.len (.t 6))⟩,
  ⟨(some 8), none, (.val (.c (.i .i64 0)))⟩]
theorem r26_1 {fn : AFun} {K : List AItem} {t : Nat → AV} {H : AH} {T : Tbl} : runR T fn (.code (.reg d26_1) :: K) t H = regR T fn K (aops (callR T) [
  ⟨(some 6), none, (.val (.t 0))⟩,
  ⟨(some 7), none, (.len (.t 6))⟩,
  ⟨(some 8), none, (.val (.c (.i .i64 0)))⟩] t H) := runR_reg'
def d26_2 : List AOper := [
  ⟨(some 9), none, (.bin .lss (.t 8) (.t 7))⟩]
theorem r26_2 {fn : AFun} {K : List AItem} {t : Nat → AV} {H : AH} {T : Tbl} : runR T fn (.code (.reg d26_2) :: K) t H = regR T fn K (aops (callR T) [
  ⟨(some 9), none, (.bin .lss (.t 8) (.t 7))⟩] t H) := runR_reg'
def d26_3 : List AOper := [
  ⟨(some 10), none, (.val (.t 8))⟩,
  ⟨(some 5), none, (.val (.t 10))⟩]
theorem r26_3 {fn : AFun} {K : List AItem} {t : Nat → AV} {H : AH} {T : Tbl} : runR T fn (.code (.reg d26_3) :: K) t H = regR T fn K (aops (callR T) [
  ⟨(some 10), none, (.val (.t 8))⟩,
  ⟨(some 5), none, (.val (.t 10))⟩] t H) := runR_reg'
def d26_4 : List AOper := [
  ⟨(some 11), none, (.val (.t 1))⟩,
  ⟨(some 12), none, (.val (.t 0))⟩,
  ⟨(some 13), none, (.val (.t 5))⟩,
  ⟨(some 14), none, (.ia 2 (.t 12) (.t 13))⟩,
  ⟨(some 15), none, (.ld (some 2) (.t 14))⟩,
  ⟨(some 16), none, (.callv (.t 11) [(.t 15)])⟩]
theorem r26_4 {fn : AFun} {K : List AItem} {t : Nat → AV} {H : AH} {T : Tbl} : runR T fn (.code (.reg d26_4) :: K) t H = regR T fn K (aops (callR T) [
  ⟨(some 11), none, (.val (.t 1))⟩,
  ⟨(some 12), none, (.val (.t 0))⟩,
  ⟨(some 13), none, (.val (.t 5))⟩,
  ⟨(some 14), none, (.ia 2 (.t 12) (.t 13))⟩,
  ⟨(some 15), none, (.ld (some 2) (.t 14))⟩,
  ⟨(some 16), none, (.callv (.t 11) [(.t 15)])⟩] t H) := runR_reg'
def d26_5 : List AOper := [
  ⟨(some 17), none, (.val (.t 5))⟩,
  ⟨(some 4), none, (.val (.t 17))⟩]
theorem r26_5 {fn : AFun} {K : List AItem} {t : Nat → AV} {H : AH} {T : Tbl} : runR T fn (.code (.reg d26_5) :: K) t H = regR T fn K (aops (callR T) [
  ⟨(some 17), none, (.val (.t 5))⟩,
  ⟨(some 4), none, (.val (.t 17))⟩] t H) := runR_reg'
def d26_6 : List AOper := [
  ⟨(some 18), none, (.bin .add (.t 8) (.c (.i .i64 1)))⟩,
  ⟨(some 8), none, (.val (.t 18))⟩]
theorem r26_6 {fn : AFun} {K : List AItem} {t : Nat → AV} {H : AH} {T : Tbl} : runR T fn (.code (.reg d26_6) :: K) t H = regR T fn K (aops (callR T) [
  ⟨(some 18), none, (.bin .add (.t 8) (.c (.i .i64 1)))⟩,
  ⟨(some 8), none, (.val (.t 18))⟩] t H) := runR_reg'
def l26_7 : ACode := (.seq (.reg d26_2) (.seq (.cond (.t 9) .skip (.exit 0)) (.seq (.block 1 (.seq (.reg d26_3) (.seq (.reg d26_4) (.cond (.t 16) (.seq (.reg d26_5) .ret) .skip)))) (.reg d26_6))))
def d26_8 : List AOper := [
  ⟨(some 4), none, (.val (.c (.i .i64 (-1))))⟩]
theorem r26_8 {fn : AFun} {K : List AItem} {t : Nat → AV} {H : AH} {T : Tbl} : runR T fn (.code (.reg d26_8) :: K) t H = regR T fn K (aops (callR T) [
  ⟨(some 4), none, (.val (.c (.i .i64 (-1))))⟩] t H) := runR_reg'
def a26 : AFun := ⟨19, [(.tmp 4)], (.seq (.reg d26_0) (.seq (.seq (.reg d26_1) (.block 0 (.loop l26_7))) (.seq (.reg d26_8) .ret)))⟩
theorem a26_ok : cfun Try.prog 26 = some a26 := by kernel_rfl
/-- (futtock/ring.Ring).place$1 -/
def d27_0 : List AOper := [
  ⟨(some 2), none, (.box (.t 0))⟩,
  ⟨(some 3), none, (.val (.c (.b false)))⟩]
theorem r27_0 {fn : AFun} {K : List AItem} {t : Nat → AV} {H : AH} {T : Tbl} : runR T fn (.code (.reg d27_0) :: K) t H = regR T fn K (aops (callR T) [
  ⟨(some 2), none, (.box (.t 0))⟩,
  ⟨(some 3), none, (.val (.c (.b false)))⟩] t H) := runR_reg'
def d27_1 : List AOper := [
  ⟨(some 4), none, (.fa 0 (.t 2))⟩,
  ⟨(some 5), none, (.ld none (.t 4))⟩,
  ⟨(some 6), none, (.ld none (.t 1))⟩,
  ⟨(some 7), none, (.bin .eql (.t 5) (.t 6))⟩,
  ⟨(some 3), none, (.val (.t 7))⟩]
theorem r27_1 {fn : AFun} {K : List AItem} {t : Nat → AV} {H : AH} {T : Tbl} : runR T fn (.code (.reg d27_1) :: K) t H = regR T fn K (aops (callR T) [
  ⟨(some 4), none, (.fa 0 (.t 2))⟩,
  ⟨(some 5), none, (.ld none (.t 4))⟩,
  ⟨(some 6), none, (.ld none (.t 1))⟩,
  ⟨(some 7), none, (.bin .eql (.t 5) (.t 6))⟩,
  ⟨(some 3), none, (.val (.t 7))⟩] t H) := runR_reg'
def a27 : AFun := ⟨8, [(.tmp 3)], (.seq (.reg d27_0) (.seq (.reg d27_1) .ret))⟩
theorem a27_ok : cfun Try.prog 27 = some a27 := by kernel_rfl
/-- All of them. -/
def tbl : Tbl
  | 3 => some a3
  | 4 => some a4
  | 5 => some a5
  | 6 => some a6
  | 7 => some a7
  | 8 => some a8
  | 9 => some a9
  | 10 => some a10
  | 11 => some a11
  | 12 => some a12
  | 13 => some a13
  | 14 => some a14
  | 15 => some a15
  | 16 => some a16
  | 17 => some a17
  | 18 => some a18
  | 19 => some a19
  | 20 => some a20
  | 21 => some a21
  | 22 => some a22
  | 23 => some a23
  | 24 => some a24
  | 25 => some a25
  | 26 => some a26
  | 27 => some a27
  | _ => none
/-- The heap behind a call of which the value alone is told. -/
noncomputable def hC (n : FuncId) (args : List AV) (H : AH) : AH := hAft (callR tbl n args H)
theorem hC_of {n : FuncId} {args : List AV} {H : AH} {v : AV} (h : ∃ H', callR tbl n args H = some (v, H')) : callR tbl n args H = some (v, hC n args H) := aft_of h
theorem tbl3 : tbl 3 = some a3 := rfl
theorem c3 {x0 x1 x2 : AV} {H : AH} : callR tbl 3 [x0, x1, x2] H = runR tbl a3 [.code a3.body] (ainit [x0, x1, x2]) H := callR_of tbl3 (Nat.le_of_ble_eq_true rfl)
theorem b3 : a3.body = (.seq (.reg d3_0) (.seq (.seq (.reg d3_1) (.cond (.t 18) (.seq (.reg d3_2) .ret) .skip)) (.seq (.seq (.reg d3_3) (.cond (.t 34) (.seq (.reg d3_4) .ret) .skip)) (.seq (.reg d3_5) .ret)))) := rfl
theorem s3 : a3.res = [(.tmp 6)] := rfl
theorem tbl4 : tbl 4 = some a4 := rfl
theorem c4 {x0 : AV} {H : AH} : callR tbl 4 [x0] H = runR tbl a4 [.code a4.body] (ainit [x0]) H := callR_of tbl4 (Nat.le_of_ble_eq_true rfl)
theorem b4 : a4.body = (.seq (.reg d4_0) (.seq (.reg d4_1) (.seq (.reg d4_2) (.seq (.seq (.reg d4_3) (.block 0 (.loop l4_19))) (.seq (.reg d4_20) .ret))))) := rfl
theorem s4 : a4.res = [(.tmp 2)] := rfl
theorem tbl5 : tbl 5 = some a5 := rfl
theorem c5 {x0 : AV} {H : AH} : callR tbl 5 [x0] H = runR tbl a5 [.code a5.body] (ainit [x0]) H := callR_of tbl5 (Nat.le_of_ble_eq_true rfl)
theorem b5 : a5.body = (.seq (.reg d5_0) (.seq (.reg d5_1) (.seq (.seq (.reg d5_2) (.block 0 (.loop l5_25))) (.seq (.reg d5_26) .ret)))) := rfl
theorem s5 : a5.res = [(.tmp 2)] := rfl
theorem tbl6 : tbl 6 = some a6 := rfl
theorem c6 {x0 : AV} {H : AH} : callR tbl 6 [x0] H = runR tbl a6 [.code a6.body] (ainit [x0]) H := callR_of tbl6 (Nat.le_of_ble_eq_true rfl)
theorem b6 : a6.body = (.seq (.reg d6_0) (.seq (.reg d6_1) (.seq (.reg d6_2) (.seq (.seq (.reg d6_3) (.block 0 (.loop l6_26))) (.seq (.reg d6_27) .ret))))) := rfl
theorem s6 : a6.res = [(.tmp 2)] := rfl
theorem tbl7 : tbl 7 = some a7 := rfl
theorem c7 {x0 x1 : AV} {H : AH} : callR tbl 7 [x0, x1] H = runR tbl a7 [.code a7.body] (ainit [x0, x1]) H := callR_of tbl7 (Nat.le_of_ble_eq_true rfl)
theorem b7 : a7.body = (.seq (.reg d7_0) (.seq (.seq (.reg d7_1) (.block 0 (.seq (.reg d7_2) (.cond (.t 6) (.seq (.reg d7_3) .ret) (.seq (.reg d7_4) (.cond (.t 10) (.seq (.reg d7_5) .ret) (.seq (.seq (.reg d7_6) (.cond (.t 18) .skip (.seq (.reg d7_7) (.cond (.t 18) .skip (.reg d7_8))))) (.cond (.t 18) (.seq (.reg d7_9) .ret) .skip)))))))) (.seq (.reg d7_10) .ret))) := rfl
theorem s7 : a7.res = [(.tmp 4)] := rfl
theorem tbl8 : tbl 8 = some a8 := rfl
theorem c8 {x0 x1 : AV} {H : AH} : callR tbl 8 [x0, x1] H = runR tbl a8 [.code a8.body] (ainit [x0, x1]) H := callR_of tbl8 (Nat.le_of_ble_eq_true rfl)
theorem b8 : a8.body = (.seq (.reg d8_0) (.seq (.seq (.reg d8_1) (.block 0 (.seq (.reg d8_2) (.cond (.t 6) (.seq (.reg d8_3) .ret) (.seq (.reg d8_4) (.cond (.t 10) (.seq (.reg d8_5) .ret) (.seq (.seq (.reg d8_6) (.cond (.t 22) .skip (.seq (.reg d8_7) (.cond (.t 22) .skip (.reg d8_8))))) (.cond (.t 22) (.seq (.reg d8_9) .ret) .skip)))))))) (.seq (.reg d8_10) .ret))) := rfl
theorem s8 : a8.res = [(.tmp 4)] := rfl
theorem tbl9 : tbl 9 = some a9 := rfl
theorem c9 {H : AH} : callR tbl 9 [] H = runR tbl a9 [.code a9.body] (ainit []) H := callR_of tbl9 (Nat.le_of_ble_eq_true rfl)
theorem b9 : a9.body = (.seq (.reg d9_0) (.seq (.reg d9_1) (.seq (.reg d9_2) (.seq (.reg d9_3) (.seq (.reg d9_4) .ret))))) := rfl
theorem s9 : a9.res = [(.tmp 0)] := rfl
theorem tbl10 : tbl 10 = some a10 := rfl
theorem c10 {x0 : AV} {H : AH} : callR tbl 10 [x0] H = runR tbl a10 [.code a10.body] (ainit [x0]) H := callR_of tbl10 (Nat.le_of_ble_eq_true rfl)
theorem b10 : a10.body = (.seq (.reg d10_0) (.seq (.reg d10_1) .ret)) := rfl
theorem s10 : a10.res = [(.tmp 2)] := rfl
theorem tbl11 : tbl 11 = some a11 := rfl
theorem c11 {x0 x1 : AV} {H : AH} : callR tbl 11 [x0, x1] H = runR tbl a11 [.code a11.body] (ainit [x0, x1]) H := callR_of tbl11 (Nat.le_of_ble_eq_true rfl)
theorem b11 : a11.body = (.seq (.reg d11_0) (.seq (.seq (.reg d11_1) (.block 0 (.seq (.reg d11_2) (.cond (.t 15) (.seq (.reg d11_3) (.seq (.drw d11_4) .ret)) (.seq (.reg d11_5) (.cond (.t 29) (.seq (.reg d11_6) .ret) .skip)))))) (.seq (.reg d11_7) (.seq (.reg d11_8) .ret)))) := rfl
theorem s11 : a11.res = [(.cell 4 (some 1)), (.cell 5 (some 2)), (.tmp 6)] := rfl
theorem tbl12 : tbl 12 = some a12 := rfl
theorem c12 {x0 x1 : AV} {H : AH} : callR tbl 12 [x0, x1] H = runR tbl a12 [.code a12.body] (ainit [x0, x1]) H := callR_of tbl12 (Nat.le_of_ble_eq_true rfl)
theorem b12 : a12.body = (.seq (.reg d12_0) (.seq (.reg d12_1) (.seq (.reg d12_2) (.seq (.seq (.reg d12_3) (.block 0 (.loop l12_9))) (.seq (.reg d12_10) .ret))))) := rfl
theorem s12 : a12.res = [(.cell 4 (some 2)), (.tmp 5), (.tmp 6)] := rfl
theorem tbl13 : tbl 13 = some a13 := rfl
theorem c13 {x0 : AV} {H : AH} : callR tbl 13 [x0] H = runR tbl a13 [.code a13.body] (ainit [x0]) H := callR_of tbl13 (Nat.le_of_ble_eq_true rfl)
theorem b13 : a13.body = (.seq (.reg d13_0) (.seq (.reg d13_1) (.seq (.seq (.reg d13_2) (.block 0 (.loop l13_6))) (.seq (.seq (.reg d13_7) (.block 2 (.loop l13_11))) (.seq (.reg d13_12) .ret))))) := rfl
theorem s13 : a13.res = [(.tmp 2)] := rfl
theorem tbl14 : tbl 14 = some a14 := rfl
theorem c14 {x0 x1 : AV} {H : AH} : callR tbl 14 [x0, x1] H = runR tbl a14 [.code a14.body] (ainit [x0, x1]) H := callR_of tbl14 (Nat.le_of_ble_eq_true rfl)
theorem b14 : a14.body = (.seq (.reg d14_0) (.seq (.seq (.reg d14_1) (.cond (.t 24) (.seq (.reg d14_2) .ret) .skip)) (.seq (.seq (.reg d14_3) (.block 0 (.loop l14_8))) (.seq (.drw d14_9) .ret)))) := rfl
theorem s14 : a14.res = [(.tmp 4), (.tmp 5)] := rfl
theorem tbl15 : tbl 15 = some a15 := rfl
theorem c15 {x0 : AV} {H : AH} : callR tbl 15 [x0] H = runR tbl a15 [.code a15.body] (ainit [x0]) H := callR_of tbl15 (Nat.le_of_ble_eq_true rfl)
theorem b15 : a15.body = (.seq (.reg d15_0) (.seq (.seq (.reg d15_1) (.block 0 (.loop l15_6))) (.seq (.reg d15_7) .ret))) := rfl
theorem s15 : a15.res = [(.cell 2 (some 2)), (.tmp 3)] := rfl
theorem tbl16 : tbl 16 = some a16 := rfl
theorem c16 {x0 x1 : AV} {H : AH} : callR tbl 16 [x0, x1] H = runR tbl a16 [.code a16.body] (ainit [x0, x1]) H := callR_of tbl16 (Nat.le_of_ble_eq_true rfl)
theorem b16 : a16.body = (.seq (.reg d16_0) (.seq (.seq (.reg d16_1) (.cond (.t 11) (.seq (.reg d16_2) .ret) .skip)) (.seq (.seq (.reg d16_3) (.block 0 (.loop l16_9))) (.seq (.reg d16_10) .ret)))) := rfl
theorem s16 : a16.res = [(.tmp 4)] := rfl
theorem tbl17 : tbl 17 = some a17 := rfl
theorem c17 {x0 : AV} {H : AH} : callR tbl 17 [x0] H = runR tbl a17 [.code a17.body] (ainit [x0]) H := callR_of tbl17 (Nat.le_of_ble_eq_true rfl)
theorem b17 : a17.body = (.seq (.reg d17_0) (.seq (.reg d17_1) .ret)) := rfl
theorem s17 : a17.res = [(.tmp 2)] := rfl
theorem tbl18 : tbl 18 = some a18 := rfl
theorem c18 {x0 : AV} {H : AH} : callR tbl 18 [x0] H = runR tbl a18 [.code a18.body] (ainit [x0]) H := callR_of tbl18 (Nat.le_of_ble_eq_true rfl)
theorem b18 : a18.body = (.seq (.reg d18_0) (.seq (.reg d18_1) .ret)) := rfl
theorem s18 : a18.res = [(.tmp 2)] := rfl
theorem tbl19 : tbl 19 = some a19 := rfl
theorem c19 {x0 : AV} {H : AH} : callR tbl 19 [x0] H = runR tbl a19 [.code a19.body] (ainit [x0]) H := callR_of tbl19 (Nat.le_of_ble_eq_true rfl)
theorem b19 : a19.body = (.seq (.reg d19_0) (.seq (.seq (.reg d19_1) (.cond (.t 6) (.seq (.reg d19_2) .ret) .skip)) (.seq (.drw d19_3) .ret))) := rfl
theorem s19 : a19.res = [(.cell 2 (some 1))] := rfl
theorem tbl20 : tbl 20 = some a20 := rfl
theorem c20 {x0 x1 : AV} {H : AH} : callR tbl 20 [x0, x1] H = runR tbl a20 [.code a20.body] (ainit [x0, x1]) H := callR_of tbl20 (Nat.le_of_ble_eq_true rfl)
theorem b20 : a20.body = (.seq (.reg d20_0) (.seq (.seq (.reg d20_1) (.cond (.t 30) (.seq (.reg d20_2) .ret) .skip)) (.seq (.reg d20_3) .ret))) := rfl
theorem s20 : a20.res = [(.cell 4 (some 1)), (.tmp 5)] := rfl
theorem tbl21 : tbl 21 = some a21 := rfl
theorem c21 {x0 x1 : AV} {H : AH} : callR tbl 21 [x0, x1] H = runR tbl a21 [.code a21.body] (ainit [x0, x1]) H := callR_of tbl21 (Nat.le_of_ble_eq_true rfl)
theorem b21 : a21.body = (.seq (.reg d21_0) (.seq (.reg d21_1) (.seq (.seq (.reg d21_2) (.cond (.t 12) (.seq (.drw d21_3) .ret) .skip)) (.seq (.drw d21_4) .ret)))) := rfl
theorem s21 : a21.res = [(.cell 4 (some 2)), (.cell 5 (some 1)), (.tmp 6)] := rfl
theorem tbl22 : tbl 22 = some a22 := rfl
theorem c22 {x0 : AV} {H : AH} : callR tbl 22 [x0] H = runR tbl a22 [.code a22.body] (ainit [x0]) H := callR_of tbl22 (Nat.le_of_ble_eq_true rfl)
theorem b22 : a22.body = (.seq (.reg d22_0) (.seq (.seq (.reg d22_1) (.cond (.t 4) (.seq (.reg d22_2) .ret) .skip)) (.seq (.reg d22_3) .ret))) := rfl
theorem s22 : a22.res = [(.tmp 2)] := rfl
theorem tbl23 : tbl 23 = some a23 := rfl
theorem c23 {x0 : AV} {H : AH} : callR tbl 23 [x0] H = runR tbl a23 [.code a23.body] (ainit [x0]) H := callR_of tbl23 (Nat.le_of_ble_eq_true rfl)
theorem b23 : a23.body = (.seq (.reg d23_0) (.seq (.reg d23_1) (.seq (.seq (.reg d23_2) (.block 0 (.loop l23_9))) (.seq (.reg d23_10) (.seq (.seq (.reg d23_11) (.block 2 (.loop l23_16))) (.seq (.reg d23_17) .ret)))))) := rfl
theorem s23 : a23.res = [(.tmp 2)] := rfl
theorem tbl24 : tbl 24 = some a24 := rfl
theorem c24 {x0 x1 : AV} {H : AH} : callR tbl 24 [x0, x1] H = runR tbl a24 [.code a24.body] (ainit [x0, x1]) H := callR_of tbl24 (Nat.le_of_ble_eq_true rfl)
theorem b24 : a24.body = (.seq (.reg d24_0) (.seq (.reg d24_1) .ret)) := rfl
theorem s24 : a24.res = [(.tmp 4)] := rfl
theorem tbl25 : tbl 25 = some a25 := rfl
theorem c25 {x0 x1 : AV} {H : AH} : callR tbl 25 [x0, x1] H = runR tbl a25 [.code a25.body] (ainit [x0, x1]) H := callR_of tbl25 (Nat.le_of_ble_eq_true rfl)
theorem b25 : a25.body = (.seq (.reg d25_0) (.seq (.seq (.reg d25_1) (.cond (.t 6) (.reg d25_2) .skip)) (.seq (.seq (.reg d25_3) (.seq (.reg d25_4) (.cond (.t 16) (.reg d25_5) .skip))) (.seq (.reg d25_6) .ret)))) := rfl
theorem s25 : a25.res = [(.tmp 4)] := rfl
theorem tbl26 : tbl 26 = some a26 := rfl
theorem c26 {x0 x1 : AV} {H : AH} : callR tbl 26 [x0, x1] H = runR tbl a26 [.code a26.body] (ainit [x0, x1]) H := callR_of tbl26 (Nat.le_of_ble_eq_true rfl)
theorem b26 : a26.body = (.seq (.reg d26_0) (.seq (.seq (.reg d26_1) (.block 0 (.loop l26_7))) (.seq (.reg d26_8) .ret))) := rfl
theorem s26 : a26.res = [(.tmp 4)] := rfl
theorem tbl27 : tbl 27 = some a27 := rfl
theorem c27 {x0 x1 : AV} {H : AH} : callR tbl 27 [x0, x1] H = runR tbl a27 [.code a27.body] (ainit [x0, x1]) H := callR_of tbl27 (Nat.le_of_ble_eq_true rfl)
theorem b27 : a27.body = (.seq (.reg d27_0) (.seq (.reg d27_1) .ret)) := rfl
theorem s27 : a27.res = [(.tmp 3)] := rfl
theorem tbl_ok : ∀ f a, tbl f = some a → cfun Try.prog f = some a := by
  intro f a h
  unfold tbl at h
  split at h
  · cases h; exact a3_ok
  · cases h; exact a4_ok
  · cases h; exact a5_ok
  · cases h; exact a6_ok
  · cases h; exact a7_ok
  · cases h; exact a8_ok
  · cases h; exact a9_ok
  · cases h; exact a10_ok
  · cases h; exact a11_ok
  · cases h; exact a12_ok
  · cases h; exact a13_ok
  · cases h; exact a14_ok
  · cases h; exact a15_ok
  · cases h; exact a16_ok
  · cases h; exact a17_ok
  · cases h; exact a18_ok
  · cases h; exact a19_ok
  · cases h; exact a20_ok
  · cases h; exact a21_ok
  · cases h; exact a22_ok
  · cases h; exact a23_ok
  · cases h; exact a24_ok
  · cases h; exact a25_ok
  · cases h; exact a26_ok
  · cases h; exact a27_ok
  · cases h
end Go.Proofs.Ytehkhecmkncfoaa.Abs
