/- The functions that the laws of this seat reach, in the plain machine's form, and that they are the loaded ones. Printed by a program of this seat's own (gencode.py). No condition of its own. -/
import Derived.Test.YtokfnhildehndaaProg
import Derived.Test.YtokfnhildehndaaAbs3
import Derived.Test.YtokfnhildehndaaEval
import Derived.KernelRfl
namespace Go.Proofs.Ytokfnhildehndaa.Abs
set_option linter.unusedVariables false
set_option maxRecDepth 100000
/-- futtock/futtocklaw11.UsesPlays -/
def d5_0 : List AOper := [
  ⟨(some 2), none, (.val (.c (.b false)))⟩]
theorem r5_0 {fn : AFun} {K : List AItem} {t : Nat → AV} {H : AH} {T : Tbl} : runR T fn (.code (.reg d5_0) :: K) t H = regR T fn K (aops (callR T) [
  ⟨(some 2), none, (.val (.c (.b false)))⟩] t H) := runR_reg'
def d5_1 : List AOper := [
  ⟨(some 21), none, (.call 7 [])⟩,
  ⟨(some 3), none, (.val (.t 21))⟩]
theorem r5_1 {fn : AFun} {K : List AItem} {t : Nat → AV} {H : AH} {T : Tbl} : runR T fn (.code (.reg d5_1) :: K) t H = regR T fn K (aops (callR T) [
  ⟨(some 21), none, (.call 7 [])⟩,
  ⟨(some 3), none, (.val (.t 21))⟩] t H) := runR_reg'
def d5_2 : List AOper := [
  ⟨(some 4), none, (.alloc [(.sl none 0 0 true 0)])⟩]
theorem r5_2 {fn : AFun} {K : List AItem} {t : Nat → AV} {H : AH} {T : Tbl} : runR T fn (.code (.reg d5_2) :: K) t H = regR T fn K (aops (callR T) [
  ⟨(some 4), none, (.alloc [(.sl none 0 0 true 0)])⟩] t H) := runR_reg'
def d5_3 : List AOper := [
  ⟨(some 22), none, (.val (.t 3))⟩,
  ⟨(some 23), none, (.eqn 0 false (.t 22) (.c (.p none)))⟩]
theorem r5_3 {fn : AFun} {K : List AItem} {t : Nat → AV} {H : AH} {T : Tbl} : runR T fn (.code (.reg d5_3) :: K) t H = regR T fn K (aops (callR T) [
  ⟨(some 22), none, (.val (.t 3))⟩,
  ⟨(some 23), none, (.eqn 0 false (.t 22) (.c (.p none)))⟩] t H) := runR_reg'
def d5_4 : List AOper := [
  ⟨(some 2), none, (.val (.c (.b false)))⟩]
theorem r5_4 {fn : AFun} {K : List AItem} {t : Nat → AV} {H : AH} {T : Tbl} : runR T fn (.code (.reg d5_4) :: K) t H = regR T fn K (aops (callR T) [
  ⟨(some 2), none, (.val (.c (.b false)))⟩] t H) := runR_reg'
def d5_5 : List AOper := [
  ⟨(some 24), none, (.val (.t 0))⟩,
  ⟨(some 25), none, (.call 8 [(.t 24)])⟩,
  ⟨(some 26), none, (.len (.t 25))⟩,
  ⟨(some 27), none, (.val (.c (.i .i64 0)))⟩]
theorem r5_5 {fn : AFun} {K : List AItem} {t : Nat → AV} {H : AH} {T : Tbl} : runR T fn (.code (.reg d5_5) :: K) t H = regR T fn K (aops (callR T) [
  ⟨(some 24), none, (.val (.t 0))⟩,
  ⟨(some 25), none, (.call 8 [(.t 24)])⟩,
  ⟨(some 26), none, (.len (.t 25))⟩,
  ⟨(some 27), none, (.val (.c (.i .i64 0)))⟩] t H) := runR_reg'
def d5_6 : List AOper := [
  ⟨(some 28), none, (.bin .lss (.t 27) (.t 26))⟩]
theorem r5_6 {fn : AFun} {K : List AItem} {t : Nat → AV} {H : AH} {T : Tbl} : runR T fn (.code (.reg d5_6) :: K) t H = regR T fn K (aops (callR T) [
  ⟨(some 28), none, (.bin .lss (.t 27) (.t 26))⟩] t H) := runR_reg'
def d5_7 : List AOper := [
  ⟨(some 29), none, (.ia 4 (.t 25) (.t 27))⟩,
  ⟨(some 30), none, (.ld (some 4) (.t 29))⟩,
  ⟨(some 6), none, (.alloc [(.i .u8 0), (.i .i64 0), (.i .i64 0), (.i .i64 0)])⟩,
  ⟨none, none, (.st 4 (.t 6) (.t 30))⟩]
theorem r5_7 {fn : AFun} {K : List AItem} {t : Nat → AV} {H : AH} {T : Tbl} : runR T fn (.code (.reg d5_7) :: K) t H = regR T fn K (aops (callR T) [
  ⟨(some 29), none, (.ia 4 (.t 25) (.t 27))⟩,
  ⟨(some 30), none, (.ld (some 4) (.t 29))⟩,
  ⟨(some 6), none, (.alloc [(.i .u8 0), (.i .i64 0), (.i .i64 0), (.i .i64 0)])⟩,
  ⟨none, none, (.st 4 (.t 6) (.t 30))⟩] t H) := runR_reg'
def d5_8 : List AOper := [
  ⟨(some 31), none, (.fa 1 (.t 6))⟩,
  ⟨(some 32), none, (.fa 0 (.t 31))⟩,
  ⟨(some 33), none, (.ld none (.t 32))⟩,
  ⟨(some 34), none, (.fa 1 (.t 6))⟩,
  ⟨(some 35), none, (.fa 1 (.t 34))⟩,
  ⟨(some 36), none, (.ld none (.t 35))⟩,
  ⟨(some 37), none, (.fa 1 (.t 6))⟩,
  ⟨(some 38), none, (.fa 2 (.t 37))⟩,
  ⟨(some 39), none, (.ld none (.t 38))⟩,
  ⟨(some 40), none, (.build [(.i .i64 0), (.i .i64 0), (.i .i64 0)] [(0, 1, (.t 33)), (1, 1, (.t 36)), (2, 1, (.t 39))])⟩,
  ⟨(some 7), none, (.alloc [(.i .i64 0), (.i .i64 0), (.i .i64 0)])⟩,
  ⟨none, none, (.st 3 (.t 7) (.t 40))⟩]
theorem r5_8 {fn : AFun} {K : List AItem} {t : Nat → AV} {H : AH} {T : Tbl} : runR T fn (.code (.reg d5_8) :: K) t H = regR T fn K (aops (callR T) [
  ⟨(some 31), none, (.fa 1 (.t 6))⟩,
  ⟨(some 32), none, (.fa 0 (.t 31))⟩,
  ⟨(some 33), none, (.ld none (.t 32))⟩,
  ⟨(some 34), none, (.fa 1 (.t 6))⟩,
  ⟨(some 35), none, (.fa 1 (.t 34))⟩,
  ⟨(some 36), none, (.ld none (.t 35))⟩,
  ⟨(some 37), none, (.fa 1 (.t 6))⟩,
  ⟨(some 38), none, (.fa 2 (.t 37))⟩,
  ⟨(some 39), none, (.ld none (.t 38))⟩,
  ⟨(some 40), none, (.build [(.i .i64 0), (.i .i64 0), (.i .i64 0)] [(0, 1, (.t 33)), (1, 1, (.t 36)), (2, 1, (.t 39))])⟩,
  ⟨(some 7), none, (.alloc [(.i .i64 0), (.i .i64 0), (.i .i64 0)])⟩,
  ⟨none, none, (.st 3 (.t 7) (.t 40))⟩] t H) := runR_reg'
def d5_9 : List AOper := [
  ⟨(some 8), none, (.val (.c (.b false)))⟩]
theorem r5_9 {fn : AFun} {K : List AItem} {t : Nat → AV} {H : AH} {T : Tbl} : runR T fn (.code (.reg d5_9) :: K) t H = regR T fn K (aops (callR T) [
  ⟨(some 8), none, (.val (.c (.b false)))⟩] t H) := runR_reg'
def d5_10 : List AOper := [
  ⟨(some 41), none, (.fa 0 (.t 6))⟩,
  ⟨(some 42), none, (.ld none (.t 41))⟩,
  ⟨(some 43), none, (.bin .rem (.t 42) (.c (.i .u8 3)))⟩,
  ⟨(some 44), none, (.bin .eql (.t 43) (.c (.i .u8 1)))⟩]
theorem r5_10 {fn : AFun} {K : List AItem} {t : Nat → AV} {H : AH} {T : Tbl} : runR T fn (.code (.reg d5_10) :: K) t H = regR T fn K (aops (callR T) [
  ⟨(some 41), none, (.fa 0 (.t 6))⟩,
  ⟨(some 42), none, (.ld none (.t 41))⟩,
  ⟨(some 43), none, (.bin .rem (.t 42) (.c (.i .u8 3)))⟩,
  ⟨(some 44), none, (.bin .eql (.t 43) (.c (.i .u8 1)))⟩] t H) := runR_reg'
def d5_11 : List AOper := [
  ⟨(some 46), none, (.val (.t 3))⟩,
  ⟨(some 47), none, (.fa 0 (.t 7))⟩,
  ⟨(some 48), none, (.ld none (.t 47))⟩,
  ⟨(some 49), none, (.call 13 [(.t 46), (.t 48)])⟩,
  ⟨(some 45), none, (.val (.t 49))⟩,
  ⟨(some 50), none, (.ext (.t 45) 0)⟩,
  ⟨(some 51), none, (.ext (.t 45) 1)⟩,
  ⟨(some 9), none, (.alloc [(.i .i64 0), (.i .i64 0), (.i .i64 0)])⟩,
  ⟨none, none, (.st 3 (.t 9) (.t 50))⟩,
  ⟨(some 10), none, (.val (.t 51))⟩]
theorem r5_11 {fn : AFun} {K : List AItem} {t : Nat → AV} {H : AH} {T : Tbl} : runR T fn (.code (.reg d5_11) :: K) t H = regR T fn K (aops (callR T) [
  ⟨(some 46), none, (.val (.t 3))⟩,
  ⟨(some 47), none, (.fa 0 (.t 7))⟩,
  ⟨(some 48), none, (.ld none (.t 47))⟩,
  ⟨(some 49), none, (.call 13 [(.t 46), (.t 48)])⟩,
  ⟨(some 45), none, (.val (.t 49))⟩,
  ⟨(some 50), none, (.ext (.t 45) 0)⟩,
  ⟨(some 51), none, (.ext (.t 45) 1)⟩,
  ⟨(some 9), none, (.alloc [(.i .i64 0), (.i .i64 0), (.i .i64 0)])⟩,
  ⟨none, none, (.st 3 (.t 9) (.t 50))⟩,
  ⟨(some 10), none, (.val (.t 51))⟩] t H) := runR_reg'
def d5_12 : List AOper := [
  ⟨(some 53), none, (.fa 0 (.t 7))⟩,
  ⟨(some 54), none, (.ld none (.t 53))⟩,
  ⟨(some 55), none, (.call 17 [(.t 4), (.t 54)])⟩,
  ⟨(some 52), none, (.val (.t 55))⟩,
  ⟨(some 56), none, (.ext (.t 52) 0)⟩,
  ⟨(some 57), none, (.ext (.t 52) 1)⟩,
  ⟨(some 11), none, (.alloc [(.i .i64 0), (.i .i64 0), (.i .i64 0)])⟩,
  ⟨none, none, (.st 3 (.t 11) (.t 56))⟩,
  ⟨(some 12), none, (.val (.t 57))⟩]
theorem r5_12 {fn : AFun} {K : List AItem} {t : Nat → AV} {H : AH} {T : Tbl} : runR T fn (.code (.reg d5_12) :: K) t H = regR T fn K (aops (callR T) [
  ⟨(some 53), none, (.fa 0 (.t 7))⟩,
  ⟨(some 54), none, (.ld none (.t 53))⟩,
  ⟨(some 55), none, (.call 17 [(.t 4), (.t 54)])⟩,
  ⟨(some 52), none, (.val (.t 55))⟩,
  ⟨(some 56), none, (.ext (.t 52) 0)⟩,
  ⟨(some 57), none, (.ext (.t 52) 1)⟩,
  ⟨(some 11), none, (.alloc [(.i .i64 0), (.i .i64 0), (.i .i64 0)])⟩,
  ⟨none, none, (.st 3 (.t 11) (.t 56))⟩,
  ⟨(some 12), none, (.val (.t 57))⟩] t H) := runR_reg'
def d5_13 : List AOper := [
  ⟨(some 58), none, (.ld (some 3) (.t 9))⟩,
  ⟨(some 59), none, (.bsl [(.i .i64 0), (.i .i64 0), (.i .i64 0)] 1 [(0, 3, (.t 58))])⟩,
  ⟨(some 60), none, (.ld (some 3) (.t 11))⟩,
  ⟨(some 61), none, (.bsl [(.i .i64 0), (.i .i64 0), (.i .i64 0)] 1 [(0, 3, (.t 60))])⟩,
  ⟨(some 62), none, (.call 18 [(.t 59), (.t 61)])⟩,
  ⟨(some 63), none, (.val (.t 62))⟩,
  ⟨(some 64), (some (63, true)), (.val (.t 10))⟩,
  ⟨(some 65), (some (63, true)), (.val (.t 12))⟩,
  ⟨(some 66), (some (63, true)), (.bin .eql (.t 64) (.t 65))⟩,
  ⟨(some 67), none, (.pick (.t 63) (.t 66) (.c (.b false)))⟩,
  ⟨(some 8), none, (.val (.t 67))⟩]
theorem r5_13 {fn : AFun} {K : List AItem} {t : Nat → AV} {H : AH} {T : Tbl} : runR T fn (.code (.reg d5_13) :: K) t H = regR T fn K (aops (callR T) [
  ⟨(some 58), none, (.ld (some 3) (.t 9))⟩,
  ⟨(some 59), none, (.bsl [(.i .i64 0), (.i .i64 0), (.i .i64 0)] 1 [(0, 3, (.t 58))])⟩,
  ⟨(some 60), none, (.ld (some 3) (.t 11))⟩,
  ⟨(some 61), none, (.bsl [(.i .i64 0), (.i .i64 0), (.i .i64 0)] 1 [(0, 3, (.t 60))])⟩,
  ⟨(some 62), none, (.call 18 [(.t 59), (.t 61)])⟩,
  ⟨(some 63), none, (.val (.t 62))⟩,
  ⟨(some 64), (some (63, true)), (.val (.t 10))⟩,
  ⟨(some 65), (some (63, true)), (.val (.t 12))⟩,
  ⟨(some 66), (some (63, true)), (.bin .eql (.t 64) (.t 65))⟩,
  ⟨(some 67), none, (.pick (.t 63) (.t 66) (.c (.b false)))⟩,
  ⟨(some 8), none, (.val (.t 67))⟩] t H) := runR_reg'
def d5_14 : List (AOper × List Nat) := [
  (⟨(some 68), none, (.val (.t 3))⟩, []),
  (⟨(some 69), none, (.ld (some 3) (.t 7))⟩, [1]),
  (⟨(some 70), none, (.call 9 [(.t 68), (.t 69)])⟩, []),
  (⟨(some 71), none, (.fa 1 (.t 6))⟩, []),
  (⟨(some 72), none, (.ld (some 3) (.t 71))⟩, [2]),
  (⟨(some 73), none, (.call 19 [(.t 4), (.t 72)])⟩, []),
  (⟨(some 74), none, (.bin .eql (.t 70) (.t 73))⟩, []),
  (⟨(some 8), none, (.val (.t 74))⟩, [])]
theorem r5_14 {fn : AFun} {K : List AItem} {t : Nat → AV} {H : AH} {T : Tbl} : runR T fn (.code (.drw d5_14) :: K) t H = regR T fn K (adrn (callR T) [
  (⟨(some 68), none, (.val (.t 3))⟩, []),
  (⟨(some 69), none, (.ld (some 3) (.t 7))⟩, [1]),
  (⟨(some 70), none, (.call 9 [(.t 68), (.t 69)])⟩, []),
  (⟨(some 71), none, (.fa 1 (.t 6))⟩, []),
  (⟨(some 72), none, (.ld (some 3) (.t 71))⟩, [2]),
  (⟨(some 73), none, (.call 19 [(.t 4), (.t 72)])⟩, []),
  (⟨(some 74), none, (.bin .eql (.t 70) (.t 73))⟩, []),
  (⟨(some 8), none, (.val (.t 74))⟩, [])] t H [H]) := runR_free rfl
def d5_15 : List AOper := [
  ⟨(some 76), none, (.val (.t 3))⟩,
  ⟨(some 77), none, (.fa 1 (.t 7))⟩,
  ⟨(some 78), none, (.ld none (.t 77))⟩,
  ⟨(some 79), none, (.call 11 [(.t 76), (.t 78)])⟩,
  ⟨(some 75), none, (.val (.t 79))⟩,
  ⟨(some 80), none, (.ext (.t 75) 0)⟩,
  ⟨(some 81), none, (.ext (.t 75) 1)⟩,
  ⟨(some 13), none, (.val (.t 80))⟩,
  ⟨(some 14), none, (.val (.t 81))⟩]
theorem r5_15 {fn : AFun} {K : List AItem} {t : Nat → AV} {H : AH} {T : Tbl} : runR T fn (.code (.reg d5_15) :: K) t H = regR T fn K (aops (callR T) [
  ⟨(some 76), none, (.val (.t 3))⟩,
  ⟨(some 77), none, (.fa 1 (.t 7))⟩,
  ⟨(some 78), none, (.ld none (.t 77))⟩,
  ⟨(some 79), none, (.call 11 [(.t 76), (.t 78)])⟩,
  ⟨(some 75), none, (.val (.t 79))⟩,
  ⟨(some 80), none, (.ext (.t 75) 0)⟩,
  ⟨(some 81), none, (.ext (.t 75) 1)⟩,
  ⟨(some 13), none, (.val (.t 80))⟩,
  ⟨(some 14), none, (.val (.t 81))⟩] t H) := runR_reg'
def d5_16 : List AOper := [
  ⟨(some 83), none, (.fa 1 (.t 7))⟩,
  ⟨(some 84), none, (.ld none (.t 83))⟩,
  ⟨(some 85), none, (.call 20 [(.t 4), (.t 84)])⟩,
  ⟨(some 82), none, (.val (.t 85))⟩,
  ⟨(some 86), none, (.ext (.t 82) 0)⟩,
  ⟨(some 87), none, (.ext (.t 82) 1)⟩,
  ⟨(some 15), none, (.val (.t 86))⟩,
  ⟨(some 16), none, (.val (.t 87))⟩]
theorem r5_16 {fn : AFun} {K : List AItem} {t : Nat → AV} {H : AH} {T : Tbl} : runR T fn (.code (.reg d5_16) :: K) t H = regR T fn K (aops (callR T) [
  ⟨(some 83), none, (.fa 1 (.t 7))⟩,
  ⟨(some 84), none, (.ld none (.t 83))⟩,
  ⟨(some 85), none, (.call 20 [(.t 4), (.t 84)])⟩,
  ⟨(some 82), none, (.val (.t 85))⟩,
  ⟨(some 86), none, (.ext (.t 82) 0)⟩,
  ⟨(some 87), none, (.ext (.t 82) 1)⟩,
  ⟨(some 15), none, (.val (.t 86))⟩,
  ⟨(some 16), none, (.val (.t 87))⟩] t H) := runR_reg'
def d5_17 : List AOper := [
  ⟨(some 89), none, (.val (.t 3))⟩,
  ⟨(some 90), none, (.fa 0 (.t 7))⟩,
  ⟨(some 91), none, (.ld none (.t 90))⟩,
  ⟨(some 92), none, (.call 12 [(.t 89), (.t 91)])⟩,
  ⟨(some 88), none, (.val (.t 92))⟩,
  ⟨(some 93), none, (.ext (.t 88) 0)⟩,
  ⟨(some 94), none, (.ext (.t 88) 1)⟩,
  ⟨(some 17), none, (.val (.t 93))⟩,
  ⟨(some 18), none, (.val (.t 94))⟩]
theorem r5_17 {fn : AFun} {K : List AItem} {t : Nat → AV} {H : AH} {T : Tbl} : runR T fn (.code (.reg d5_17) :: K) t H = regR T fn K (aops (callR T) [
  ⟨(some 89), none, (.val (.t 3))⟩,
  ⟨(some 90), none, (.fa 0 (.t 7))⟩,
  ⟨(some 91), none, (.ld none (.t 90))⟩,
  ⟨(some 92), none, (.call 12 [(.t 89), (.t 91)])⟩,
  ⟨(some 88), none, (.val (.t 92))⟩,
  ⟨(some 93), none, (.ext (.t 88) 0)⟩,
  ⟨(some 94), none, (.ext (.t 88) 1)⟩,
  ⟨(some 17), none, (.val (.t 93))⟩,
  ⟨(some 18), none, (.val (.t 94))⟩] t H) := runR_reg'
def d5_18 : List AOper := [
  ⟨(some 96), none, (.fa 0 (.t 7))⟩,
  ⟨(some 97), none, (.ld none (.t 96))⟩,
  ⟨(some 98), none, (.call 21 [(.t 4), (.t 97)])⟩,
  ⟨(some 95), none, (.val (.t 98))⟩,
  ⟨(some 99), none, (.ext (.t 95) 0)⟩,
  ⟨(some 100), none, (.ext (.t 95) 1)⟩,
  ⟨(some 19), none, (.val (.t 99))⟩,
  ⟨(some 20), none, (.val (.t 100))⟩]
theorem r5_18 {fn : AFun} {K : List AItem} {t : Nat → AV} {H : AH} {T : Tbl} : runR T fn (.code (.reg d5_18) :: K) t H = regR T fn K (aops (callR T) [
  ⟨(some 96), none, (.fa 0 (.t 7))⟩,
  ⟨(some 97), none, (.ld none (.t 96))⟩,
  ⟨(some 98), none, (.call 21 [(.t 4), (.t 97)])⟩,
  ⟨(some 95), none, (.val (.t 98))⟩,
  ⟨(some 99), none, (.ext (.t 95) 0)⟩,
  ⟨(some 100), none, (.ext (.t 95) 1)⟩,
  ⟨(some 19), none, (.val (.t 99))⟩,
  ⟨(some 20), none, (.val (.t 100))⟩] t H) := runR_reg'
def d5_19 : List (AOper × List Nat) := [
  (⟨(some 101), none, (.val (.t 8))⟩, []),
  (⟨(some 102), none, (.un .not (.t 101))⟩, []),
  (⟨(some 103), none, (.val (.t 102))⟩, []),
  (⟨(some 104), (some (103, false)), (.val (.t 13))⟩, []),
  (⟨(some 105), (some (103, false)), (.val (.t 15))⟩, []),
  (⟨(some 106), (some (103, false)), (.bin .neq (.t 104) (.t 105))⟩, []),
  (⟨(some 107), none, (.pick (.t 103) (.c (.b true)) (.t 106))⟩, []),
  (⟨(some 108), none, (.val (.t 107))⟩, []),
  (⟨(some 109), (some (108, false)), (.val (.t 14))⟩, []),
  (⟨(some 110), (some (108, false)), (.val (.t 16))⟩, []),
  (⟨(some 111), (some (108, false)), (.eqb true (.t 109) (.t 110))⟩, []),
  (⟨(some 112), none, (.pick (.t 108) (.c (.b true)) (.t 111))⟩, []),
  (⟨(some 113), none, (.val (.t 112))⟩, []),
  (⟨(some 114), (some (113, false)), (.val (.t 17))⟩, []),
  (⟨(some 115), (some (113, false)), (.val (.t 19))⟩, []),
  (⟨(some 116), (some (113, false)), (.bin .neq (.t 114) (.t 115))⟩, []),
  (⟨(some 117), none, (.pick (.t 113) (.c (.b true)) (.t 116))⟩, []),
  (⟨(some 118), none, (.val (.t 117))⟩, []),
  (⟨(some 119), (some (118, false)), (.val (.t 18))⟩, []),
  (⟨(some 120), (some (118, false)), (.val (.t 20))⟩, []),
  (⟨(some 121), (some (118, false)), (.eqb true (.t 119) (.t 120))⟩, []),
  (⟨(some 122), none, (.pick (.t 118) (.c (.b true)) (.t 121))⟩, []),
  (⟨(some 123), none, (.val (.t 122))⟩, []),
  (⟨(some 124), (some (123, false)), (.val (.t 3))⟩, []),
  (⟨(some 125), (some (123, false)), (.call 10 [(.t 124)])⟩, []),
  (⟨(some 126), (some (123, false)), (.fa 0 (.t 4))⟩, []),
  (⟨(some 127), (some (123, false)), (.ld none (.t 126))⟩, [2]),
  (⟨(some 128), (some (123, false)), (.call 18 [(.t 125), (.t 127)])⟩, []),
  (⟨(some 129), (some (123, false)), (.un .not (.t 128))⟩, []),
  (⟨(some 130), none, (.pick (.t 123) (.c (.b true)) (.t 129))⟩, []),
  (⟨(some 131), none, (.val (.t 130))⟩, []),
  (⟨(some 132), (some (131, false)), (.val (.t 3))⟩, []),
  (⟨(some 133), (some (131, false)), (.fa 2 (.t 7))⟩, []),
  (⟨(some 134), (some (131, false)), (.ld none (.t 133))⟩, [1]),
  (⟨(some 135), (some (131, false)), (.call 15 [(.t 132), (.t 134)])⟩, []),
  (⟨(some 136), (some (131, false)), (.fa 2 (.t 7))⟩, []),
  (⟨(some 137), (some (131, false)), (.ld none (.t 136))⟩, [2]),
  (⟨(some 138), (some (131, false)), (.call 22 [(.t 4), (.t 137)])⟩, []),
  (⟨(some 139), (some (131, false)), (.call 18 [(.t 135), (.t 138)])⟩, []),
  (⟨(some 140), (some (131, false)), (.un .not (.t 139))⟩, []),
  (⟨(some 141), none, (.pick (.t 131) (.c (.b true)) (.t 140))⟩, []),
  (⟨(some 142), none, (.val (.t 141))⟩, []),
  (⟨(some 143), (some (142, false)), (.val (.t 3))⟩, []),
  (⟨(some 144), (some (142, false)), (.call 16 [(.t 143)])⟩, []),
  (⟨(some 145), (some (142, false)), (.fa 0 (.t 4))⟩, []),
  (⟨(some 146), (some (142, false)), (.ld none (.t 145))⟩, [2]),
  (⟨(some 147), (some (142, false)), (.len (.t 146))⟩, []),
  (⟨(some 148), (some (142, false)), (.bin .neq (.t 144) (.t 147))⟩, []),
  (⟨(some 149), none, (.pick (.t 142) (.c (.b true)) (.t 148))⟩, [])]
theorem r5_19 {fn : AFun} {K : List AItem} {t : Nat → AV} {H : AH} {T : Tbl} : runR T fn (.code (.drw d5_19) :: K) t H = regR T fn K (adrn (callR T) [
  (⟨(some 101), none, (.val (.t 8))⟩, []),
  (⟨(some 102), none, (.un .not (.t 101))⟩, []),
  (⟨(some 103), none, (.val (.t 102))⟩, []),
  (⟨(some 104), (some (103, false)), (.val (.t 13))⟩, []),
  (⟨(some 105), (some (103, false)), (.val (.t 15))⟩, []),
  (⟨(some 106), (some (103, false)), (.bin .neq (.t 104) (.t 105))⟩, []),
  (⟨(some 107), none, (.pick (.t 103) (.c (.b true)) (.t 106))⟩, []),
  (⟨(some 108), none, (.val (.t 107))⟩, []),
  (⟨(some 109), (some (108, false)), (.val (.t 14))⟩, []),
  (⟨(some 110), (some (108, false)), (.val (.t 16))⟩, []),
  (⟨(some 111), (some (108, false)), (.eqb true (.t 109) (.t 110))⟩, []),
  (⟨(some 112), none, (.pick (.t 108) (.c (.b true)) (.t 111))⟩, []),
  (⟨(some 113), none, (.val (.t 112))⟩, []),
  (⟨(some 114), (some (113, false)), (.val (.t 17))⟩, []),
  (⟨(some 115), (some (113, false)), (.val (.t 19))⟩, []),
  (⟨(some 116), (some (113, false)), (.bin .neq (.t 114) (.t 115))⟩, []),
  (⟨(some 117), none, (.pick (.t 113) (.c (.b true)) (.t 116))⟩, []),
  (⟨(some 118), none, (.val (.t 117))⟩, []),
  (⟨(some 119), (some (118, false)), (.val (.t 18))⟩, []),
  (⟨(some 120), (some (118, false)), (.val (.t 20))⟩, []),
  (⟨(some 121), (some (118, false)), (.eqb true (.t 119) (.t 120))⟩, []),
  (⟨(some 122), none, (.pick (.t 118) (.c (.b true)) (.t 121))⟩, []),
  (⟨(some 123), none, (.val (.t 122))⟩, []),
  (⟨(some 124), (some (123, false)), (.val (.t 3))⟩, []),
  (⟨(some 125), (some (123, false)), (.call 10 [(.t 124)])⟩, []),
  (⟨(some 126), (some (123, false)), (.fa 0 (.t 4))⟩, []),
  (⟨(some 127), (some (123, false)), (.ld none (.t 126))⟩, [2]),
  (⟨(some 128), (some (123, false)), (.call 18 [(.t 125), (.t 127)])⟩, []),
  (⟨(some 129), (some (123, false)), (.un .not (.t 128))⟩, []),
  (⟨(some 130), none, (.pick (.t 123) (.c (.b true)) (.t 129))⟩, []),
  (⟨(some 131), none, (.val (.t 130))⟩, []),
  (⟨(some 132), (some (131, false)), (.val (.t 3))⟩, []),
  (⟨(some 133), (some (131, false)), (.fa 2 (.t 7))⟩, []),
  (⟨(some 134), (some (131, false)), (.ld none (.t 133))⟩, [1]),
  (⟨(some 135), (some (131, false)), (.call 15 [(.t 132), (.t 134)])⟩, []),
  (⟨(some 136), (some (131, false)), (.fa 2 (.t 7))⟩, []),
  (⟨(some 137), (some (131, false)), (.ld none (.t 136))⟩, [2]),
  (⟨(some 138), (some (131, false)), (.call 22 [(.t 4), (.t 137)])⟩, []),
  (⟨(some 139), (some (131, false)), (.call 18 [(.t 135), (.t 138)])⟩, []),
  (⟨(some 140), (some (131, false)), (.un .not (.t 139))⟩, []),
  (⟨(some 141), none, (.pick (.t 131) (.c (.b true)) (.t 140))⟩, []),
  (⟨(some 142), none, (.val (.t 141))⟩, []),
  (⟨(some 143), (some (142, false)), (.val (.t 3))⟩, []),
  (⟨(some 144), (some (142, false)), (.call 16 [(.t 143)])⟩, []),
  (⟨(some 145), (some (142, false)), (.fa 0 (.t 4))⟩, []),
  (⟨(some 146), (some (142, false)), (.ld none (.t 145))⟩, [2]),
  (⟨(some 147), (some (142, false)), (.len (.t 146))⟩, []),
  (⟨(some 148), (some (142, false)), (.bin .neq (.t 144) (.t 147))⟩, []),
  (⟨(some 149), none, (.pick (.t 142) (.c (.b true)) (.t 148))⟩, [])] t H [H]) := runR_free rfl
def d5_20 : List AOper := [
  ⟨(some 2), none, (.val (.c (.b false)))⟩]
theorem r5_20 {fn : AFun} {K : List AItem} {t : Nat → AV} {H : AH} {T : Tbl} : runR T fn (.code (.reg d5_20) :: K) t H = regR T fn K (aops (callR T) [
  ⟨(some 2), none, (.val (.c (.b false)))⟩] t H) := runR_reg'
def d5_21 : List AOper := [
  ⟨(some 150), none, (.bin .add (.t 27) (.c (.i .i64 1)))⟩,
  ⟨(some 27), none, (.val (.t 150))⟩]
theorem r5_21 {fn : AFun} {K : List AItem} {t : Nat → AV} {H : AH} {T : Tbl} : runR T fn (.code (.reg d5_21) :: K) t H = regR T fn K (aops (callR T) [
  ⟨(some 150), none, (.bin .add (.t 27) (.c (.i .i64 1)))⟩,
  ⟨(some 27), none, (.val (.t 150))⟩] t H) := runR_reg'
def l5_22 : ACode := (.seq (.reg d5_6) (.seq (.cond (.t 28) .skip (.exit 0)) (.seq (.block 1 (.seq (.reg d5_7) (.seq (.reg d5_8) (.seq (.reg d5_9) (.seq (.seq (.reg d5_10) (.cond (.t 44) (.seq (.reg d5_11) (.seq (.reg d5_12) (.reg d5_13))) (.drw d5_14))) (.seq (.reg d5_15) (.seq (.reg d5_16) (.seq (.reg d5_17) (.seq (.reg d5_18) (.seq (.drw d5_19) (.cond (.t 149) (.seq (.reg d5_20) .ret) .skip))))))))))) (.reg d5_21))))
def d5_23 : List AOper := [
  ⟨(some 151), none, (.call 14 [])⟩,
  ⟨(some 2), none, (.val (.t 151))⟩]
theorem r5_23 {fn : AFun} {K : List AItem} {t : Nat → AV} {H : AH} {T : Tbl} : runR T fn (.code (.reg d5_23) :: K) t H = regR T fn K (aops (callR T) [
  ⟨(some 151), none, (.call 14 [])⟩,
  ⟨(some 2), none, (.val (.t 151))⟩] t H) := runR_reg'
def a5 : AFun := ⟨152, [(.tmp 2)], (.seq (.reg d5_0) (.seq (.reg d5_1) (.seq (.reg d5_2) (.seq (.seq (.reg d5_3) (.cond (.t 23) (.seq (.reg d5_4) .ret) .skip)) (.seq (.seq (.reg d5_5) (.block 0 (.loop l5_22))) (.seq (.reg d5_23) .ret))))))⟩
theorem a5_ok : cfun Try.prog 5 = some a5 := by kernel_rfl
/-- futtock/uses.New -/
def d7_0 : List AOper := [
  ⟨(some 0), none, (.val (.c (.p none)))⟩]
theorem r7_0 {fn : AFun} {K : List AItem} {t : Nat → AV} {H : AH} {T : Tbl} : runR T fn (.code (.reg d7_0) :: K) t H = regR T fn K (aops (callR T) [
  ⟨(some 0), none, (.val (.c (.p none)))⟩] t H) := runR_reg'
def d7_1 : List AOper := [
  ⟨(some 1), none, .mkm⟩,
  ⟨(some 2), none, .mkm⟩,
  ⟨(some 3), none, (.build [(.mp none), (.mp none)] [(0, 1, (.t 1)), (1, 1, (.t 2))])⟩,
  ⟨(some 4), none, (.box (.t 3))⟩,
  ⟨(some 0), none, (.val (.t 4))⟩]
theorem r7_1 {fn : AFun} {K : List AItem} {t : Nat → AV} {H : AH} {T : Tbl} : runR T fn (.code (.reg d7_1) :: K) t H = regR T fn K (aops (callR T) [
  ⟨(some 1), none, .mkm⟩,
  ⟨(some 2), none, .mkm⟩,
  ⟨(some 3), none, (.build [(.mp none), (.mp none)] [(0, 1, (.t 1)), (1, 1, (.t 2))])⟩,
  ⟨(some 4), none, (.box (.t 3))⟩,
  ⟨(some 0), none, (.val (.t 4))⟩] t H) := runR_reg'
def a7 : AFun := ⟨5, [(.tmp 0)], (.seq (.reg d7_0) (.seq (.reg d7_1) .ret))⟩
theorem a7_ok : cfun Try.prog 7 = some a7 := by kernel_rfl
/-- futtock/futtocklaw11.short -/
def d8_0 : List AOper := [
  ⟨(some 2), none, (.val (.c (.sl none 0 0 true 0)))⟩]
theorem r8_0 {fn : AFun} {K : List AItem} {t : Nat → AV} {H : AH} {T : Tbl} : runR T fn (.code (.reg d8_0) :: K) t H = regR T fn K (aops (callR T) [
  ⟨(some 2), none, (.val (.c (.sl none 0 0 true 0)))⟩] t H) := runR_reg'
def d8_1 : List AOper := [
  ⟨(some 3), none, (.val (.t 0))⟩,
  ⟨(some 4), none, (.val (.t 0))⟩,
  ⟨(some 5), none, (.len (.t 4))⟩,
  ⟨(some 6), none, (.mm false [(.t 5), (.c (.i .i64 200))])⟩,
  ⟨(some 7), none, (.sls 4 (.t 3) none (some (.t 6)) none)⟩,
  ⟨(some 2), none, (.val (.t 7))⟩]
theorem r8_1 {fn : AFun} {K : List AItem} {t : Nat → AV} {H : AH} {T : Tbl} : runR T fn (.code (.reg d8_1) :: K) t H = regR T fn K (aops (callR T) [
  ⟨(some 3), none, (.val (.t 0))⟩,
  ⟨(some 4), none, (.val (.t 0))⟩,
  ⟨(some 5), none, (.len (.t 4))⟩,
  ⟨(some 6), none, (.mm false [(.t 5), (.c (.i .i64 200))])⟩,
  ⟨(some 7), none, (.sls 4 (.t 3) none (some (.t 6)) none)⟩,
  ⟨(some 2), none, (.val (.t 7))⟩] t H) := runR_reg'
def a8 : AFun := ⟨8, [(.tmp 2)], (.seq (.reg d8_0) (.seq (.reg d8_1) .ret))⟩
theorem a8_ok : cfun Try.prog 8 = some a8 := by kernel_rfl
/-- (*futtock/uses.Book).Add -/
def d9_0 : List AOper := [
  ⟨(some 3), none, (.box (.t 1))⟩,
  ⟨(some 4), none, (.val (.c (.i .i64 0)))⟩]
theorem r9_0 {fn : AFun} {K : List AItem} {t : Nat → AV} {H : AH} {T : Tbl} : runR T fn (.code (.reg d9_0) :: K) t H = regR T fn K (aops (callR T) [
  ⟨(some 3), none, (.box (.t 1))⟩,
  ⟨(some 4), none, (.val (.c (.i .i64 0)))⟩] t H) := runR_reg'
def d9_1 : List AOper := [
  ⟨(some 9), none, (.val (.t 0))⟩,
  ⟨(some 10), none, (.call 23 [(.t 9)])⟩,
  ⟨(some 11), none, (.un .not (.t 10))⟩]
theorem r9_1 {fn : AFun} {K : List AItem} {t : Nat → AV} {H : AH} {T : Tbl} : runR T fn (.code (.reg d9_1) :: K) t H = regR T fn K (aops (callR T) [
  ⟨(some 9), none, (.val (.t 0))⟩,
  ⟨(some 10), none, (.call 23 [(.t 9)])⟩,
  ⟨(some 11), none, (.un .not (.t 10))⟩] t H) := runR_reg'
def d9_2 : List AOper := [
  ⟨(some 4), none, (.val (.c (.i .i64 2)))⟩]
theorem r9_2 {fn : AFun} {K : List AItem} {t : Nat → AV} {H : AH} {T : Tbl} : runR T fn (.code (.reg d9_2) :: K) t H = regR T fn K (aops (callR T) [
  ⟨(some 4), none, (.val (.c (.i .i64 2)))⟩] t H) := runR_reg'
def d9_3 : List (AOper × List Nat) := [
  (⟨(some 13), none, (.val (.t 0))⟩, []),
  (⟨(some 14), none, (.nilc (.t 13))⟩, []),
  (⟨(some 15), none, (.fa 0 (.t 14))⟩, []),
  (⟨(some 16), none, (.ld none (.t 15))⟩, [1]),
  (⟨(some 17), none, (.fa 0 (.t 3))⟩, []),
  (⟨(some 18), none, (.ld none (.t 17))⟩, [1]),
  (⟨(some 19), none, (.lk [0] (.agg [(.i .i64 0), (.i .i64 0), (.i .i64 0)]) (.t 16) (.t 18) true)⟩, [1]),
  (⟨(some 12), none, (.val (.t 19))⟩, []),
  (⟨(some 20), none, (.ext (.t 12) 0)⟩, []),
  (⟨(some 21), none, (.ext (.t 12) 1)⟩, []),
  (⟨(some 5), none, (.alloc [(.i .i64 0), (.i .i64 0), (.i .i64 0)])⟩, []),
  (⟨none, none, (.st 3 (.t 5) (.t 20))⟩, []),
  (⟨(some 6), none, (.val (.t 21))⟩, [])]
theorem r9_3 {fn : AFun} {K : List AItem} {t : Nat → AV} {H : AH} {T : Tbl} : runR T fn (.code (.drw d9_3) :: K) t H = regR T fn K (aops (callR T) [
  ⟨(some 13), none, (.val (.t 0))⟩,
  ⟨(some 14), none, (.nilc (.t 13))⟩,
  ⟨(some 15), none, (.fa 0 (.t 14))⟩,
  ⟨(some 16), none, (.ld none (.t 15))⟩,
  ⟨(some 17), none, (.fa 0 (.t 3))⟩,
  ⟨(some 18), none, (.ld none (.t 17))⟩,
  ⟨(some 19), none, (.lk [0] (.agg [(.i .i64 0), (.i .i64 0), (.i .i64 0)]) (.t 16) (.t 18) true)⟩,
  ⟨(some 12), none, (.val (.t 19))⟩,
  ⟨(some 20), none, (.ext (.t 12) 0)⟩,
  ⟨(some 21), none, (.ext (.t 12) 1)⟩,
  ⟨(some 5), none, (.alloc [(.i .i64 0), (.i .i64 0), (.i .i64 0)])⟩,
  ⟨none, none, (.st 3 (.t 5) (.t 20))⟩,
  ⟨(some 6), none, (.val (.t 21))⟩] t H) := runR_plain rfl
def d9_4 : List (AOper × List Nat) := [
  (⟨(some 23), none, (.val (.t 0))⟩, []),
  (⟨(some 24), none, (.nilc (.t 23))⟩, []),
  (⟨(some 25), none, (.fa 1 (.t 24))⟩, []),
  (⟨(some 26), none, (.ld none (.t 25))⟩, [1]),
  (⟨(some 27), none, (.fa 1 (.t 3))⟩, []),
  (⟨(some 28), none, (.ld none (.t 27))⟩, [1]),
  (⟨(some 29), none, (.lk [0] (.i .i64 0) (.t 26) (.t 28) true)⟩, [1]),
  (⟨(some 22), none, (.val (.t 29))⟩, []),
  (⟨(some 30), none, (.ext (.t 22) 0)⟩, []),
  (⟨(some 31), none, (.ext (.t 22) 1)⟩, []),
  (⟨(some 7), none, (.val (.t 30))⟩, []),
  (⟨(some 8), none, (.val (.t 31))⟩, [])]
theorem r9_4 {fn : AFun} {K : List AItem} {t : Nat → AV} {H : AH} {T : Tbl} : runR T fn (.code (.drw d9_4) :: K) t H = regR T fn K (aops (callR T) [
  ⟨(some 23), none, (.val (.t 0))⟩,
  ⟨(some 24), none, (.nilc (.t 23))⟩,
  ⟨(some 25), none, (.fa 1 (.t 24))⟩,
  ⟨(some 26), none, (.ld none (.t 25))⟩,
  ⟨(some 27), none, (.fa 1 (.t 3))⟩,
  ⟨(some 28), none, (.ld none (.t 27))⟩,
  ⟨(some 29), none, (.lk [0] (.i .i64 0) (.t 26) (.t 28) true)⟩,
  ⟨(some 22), none, (.val (.t 29))⟩,
  ⟨(some 30), none, (.ext (.t 22) 0)⟩,
  ⟨(some 31), none, (.ext (.t 22) 1)⟩,
  ⟨(some 7), none, (.val (.t 30))⟩,
  ⟨(some 8), none, (.val (.t 31))⟩] t H) := runR_plain rfl
def d9_5 : List AOper := [
  ⟨(some 33), none, (.fa 0 (.t 3))⟩,
  ⟨(some 34), none, (.ld none (.t 33))⟩,
  ⟨(some 35), none, (.call 24 [(.t 34), (.c (.i .i64 4096))])⟩,
  ⟨(some 36), none, (.un .not (.t 35))⟩,
  ⟨(some 37), none, (.val (.t 36))⟩,
  ⟨(some 38), (some (37, false)), (.fa 1 (.t 3))⟩,
  ⟨(some 39), (some (37, false)), (.ld none (.t 38))⟩,
  ⟨(some 40), (some (37, false)), (.call 24 [(.t 39), (.c (.i .i64 65536))])⟩,
  ⟨(some 41), (some (37, false)), (.un .not (.t 40))⟩,
  ⟨(some 42), none, (.pick (.t 37) (.c (.b true)) (.t 41))⟩,
  ⟨(some 43), none, (.val (.t 42))⟩,
  ⟨(some 44), (some (43, false)), (.fa 2 (.t 3))⟩,
  ⟨(some 45), (some (43, false)), (.ld none (.t 44))⟩,
  ⟨(some 46), (some (43, false)), (.call 24 [(.t 45), (.c (.i .i64 256))])⟩,
  ⟨(some 47), (some (43, false)), (.un .not (.t 46))⟩,
  ⟨(some 48), none, (.pick (.t 43) (.c (.b true)) (.t 47))⟩,
  ⟨(some 32), none, (.val (.t 48))⟩]
theorem r9_5 {fn : AFun} {K : List AItem} {t : Nat → AV} {H : AH} {T : Tbl} : runR T fn (.code (.reg d9_5) :: K) t H = regR T fn K (aops (callR T) [
  ⟨(some 33), none, (.fa 0 (.t 3))⟩,
  ⟨(some 34), none, (.ld none (.t 33))⟩,
  ⟨(some 35), none, (.call 24 [(.t 34), (.c (.i .i64 4096))])⟩,
  ⟨(some 36), none, (.un .not (.t 35))⟩,
  ⟨(some 37), none, (.val (.t 36))⟩,
  ⟨(some 38), (some (37, false)), (.fa 1 (.t 3))⟩,
  ⟨(some 39), (some (37, false)), (.ld none (.t 38))⟩,
  ⟨(some 40), (some (37, false)), (.call 24 [(.t 39), (.c (.i .i64 65536))])⟩,
  ⟨(some 41), (some (37, false)), (.un .not (.t 40))⟩,
  ⟨(some 42), none, (.pick (.t 37) (.c (.b true)) (.t 41))⟩,
  ⟨(some 43), none, (.val (.t 42))⟩,
  ⟨(some 44), (some (43, false)), (.fa 2 (.t 3))⟩,
  ⟨(some 45), (some (43, false)), (.ld none (.t 44))⟩,
  ⟨(some 46), (some (43, false)), (.call 24 [(.t 45), (.c (.i .i64 256))])⟩,
  ⟨(some 47), (some (43, false)), (.un .not (.t 46))⟩,
  ⟨(some 48), none, (.pick (.t 43) (.c (.b true)) (.t 47))⟩,
  ⟨(some 32), none, (.val (.t 48))⟩] t H) := runR_reg'
def d9_6 : List AOper := [
  ⟨(some 4), none, (.val (.c (.i .i64 1)))⟩]
theorem r9_6 {fn : AFun} {K : List AItem} {t : Nat → AV} {H : AH} {T : Tbl} : runR T fn (.code (.reg d9_6) :: K) t H = regR T fn K (aops (callR T) [
  ⟨(some 4), none, (.val (.c (.i .i64 1)))⟩] t H) := runR_reg'
def d9_7 : List AOper := [
  ⟨(some 50), none, (.val (.t 6))⟩,
  ⟨(some 51), none, (.val (.t 50))⟩,
  ⟨(some 52), (some (51, false)), (.val (.t 8))⟩,
  ⟨(some 53), none, (.pick (.t 51) (.c (.b true)) (.t 52))⟩,
  ⟨(some 49), none, (.val (.t 53))⟩]
theorem r9_7 {fn : AFun} {K : List AItem} {t : Nat → AV} {H : AH} {T : Tbl} : runR T fn (.code (.reg d9_7) :: K) t H = regR T fn K (aops (callR T) [
  ⟨(some 50), none, (.val (.t 6))⟩,
  ⟨(some 51), none, (.val (.t 50))⟩,
  ⟨(some 52), (some (51, false)), (.val (.t 8))⟩,
  ⟨(some 53), none, (.pick (.t 51) (.c (.b true)) (.t 52))⟩,
  ⟨(some 49), none, (.val (.t 53))⟩] t H) := runR_reg'
def d9_8 : List AOper := [
  ⟨(some 4), none, (.val (.c (.i .i64 7)))⟩]
theorem r9_8 {fn : AFun} {K : List AItem} {t : Nat → AV} {H : AH} {T : Tbl} : runR T fn (.code (.reg d9_8) :: K) t H = regR T fn K (aops (callR T) [
  ⟨(some 4), none, (.val (.c (.i .i64 7)))⟩] t H) := runR_reg'
def d9_9 : List (AOper × List Nat) := [
  (⟨(some 54), none, (.val (.t 0))⟩, []),
  (⟨(some 55), none, (.nilc (.t 54))⟩, []),
  (⟨(some 56), none, (.fa 0 (.t 55))⟩, []),
  (⟨(some 57), none, (.ld none (.t 56))⟩, [1]),
  (⟨(some 58), none, (.fa 0 (.t 3))⟩, []),
  (⟨(some 59), none, (.ld none (.t 58))⟩, [1]),
  (⟨(some 60), none, (.ld (some 3) (.t 3))⟩, [1]),
  (⟨none, none, (.mu [0] (.t 57) (.t 59) (.t 60))⟩, [])]
theorem r9_9 {fn : AFun} {K : List AItem} {t : Nat → AV} {H : AH} {T : Tbl} : runR T fn (.code (.drw d9_9) :: K) t H = regR T fn K (aops (callR T) [
  ⟨(some 54), none, (.val (.t 0))⟩,
  ⟨(some 55), none, (.nilc (.t 54))⟩,
  ⟨(some 56), none, (.fa 0 (.t 55))⟩,
  ⟨(some 57), none, (.ld none (.t 56))⟩,
  ⟨(some 58), none, (.fa 0 (.t 3))⟩,
  ⟨(some 59), none, (.ld none (.t 58))⟩,
  ⟨(some 60), none, (.ld (some 3) (.t 3))⟩,
  ⟨none, none, (.mu [0] (.t 57) (.t 59) (.t 60))⟩] t H) := runR_plain rfl
def d9_10 : List (AOper × List Nat) := [
  (⟨(some 61), none, (.val (.t 0))⟩, []),
  (⟨(some 62), none, (.nilc (.t 61))⟩, []),
  (⟨(some 63), none, (.fa 1 (.t 62))⟩, []),
  (⟨(some 64), none, (.ld none (.t 63))⟩, [1]),
  (⟨(some 65), none, (.fa 1 (.t 3))⟩, []),
  (⟨(some 66), none, (.ld none (.t 65))⟩, [1]),
  (⟨(some 67), none, (.fa 0 (.t 3))⟩, []),
  (⟨(some 68), none, (.ld none (.t 67))⟩, [1]),
  (⟨none, none, (.mu [0] (.t 64) (.t 66) (.t 68))⟩, [])]
theorem r9_10 {fn : AFun} {K : List AItem} {t : Nat → AV} {H : AH} {T : Tbl} : runR T fn (.code (.drw d9_10) :: K) t H = regR T fn K (aops (callR T) [
  ⟨(some 61), none, (.val (.t 0))⟩,
  ⟨(some 62), none, (.nilc (.t 61))⟩,
  ⟨(some 63), none, (.fa 1 (.t 62))⟩,
  ⟨(some 64), none, (.ld none (.t 63))⟩,
  ⟨(some 65), none, (.fa 1 (.t 3))⟩,
  ⟨(some 66), none, (.ld none (.t 65))⟩,
  ⟨(some 67), none, (.fa 0 (.t 3))⟩,
  ⟨(some 68), none, (.ld none (.t 67))⟩,
  ⟨none, none, (.mu [0] (.t 64) (.t 66) (.t 68))⟩] t H) := runR_plain rfl
def d9_11 : List AOper := [
  ⟨(some 4), none, (.val (.c (.i .i64 0)))⟩]
theorem r9_11 {fn : AFun} {K : List AItem} {t : Nat → AV} {H : AH} {T : Tbl} : runR T fn (.code (.reg d9_11) :: K) t H = regR T fn K (aops (callR T) [
  ⟨(some 4), none, (.val (.c (.i .i64 0)))⟩] t H) := runR_reg'
def a9 : AFun := ⟨69, [(.tmp 4)], (.seq (.reg d9_0) (.seq (.seq (.reg d9_1) (.cond (.t 11) (.seq (.reg d9_2) .ret) .skip)) (.seq (.drw d9_3) (.seq (.drw d9_4) (.seq (.block 0 (.seq (.reg d9_5) (.cond (.t 32) (.seq (.reg d9_6) .ret) (.seq (.reg d9_7) (.cond (.t 49) (.seq (.reg d9_8) .ret) .skip))))) (.seq (.drw d9_9) (.seq (.drw d9_10) (.seq (.reg d9_11) .ret))))))))⟩
theorem a9_ok : cfun Try.prog 9 = some a9 := by kernel_rfl
/-- (*futtock/uses.Book).All -/
def d10_0 : List AOper := [
  ⟨(some 2), none, (.val (.c (.sl none 0 0 true 0)))⟩]
theorem r10_0 {fn : AFun} {K : List AItem} {t : Nat → AV} {H : AH} {T : Tbl} : runR T fn (.code (.reg d10_0) :: K) t H = regR T fn K (aops (callR T) [
  ⟨(some 2), none, (.val (.c (.sl none 0 0 true 0)))⟩] t H) := runR_reg'
def d10_1 : List AOper := [
  ⟨(some 3), none, (.val (.t 0))⟩,
  ⟨(some 4), none, (.call 23 [(.t 3)])⟩,
  ⟨(some 5), none, (.un .not (.t 4))⟩]
theorem r10_1 {fn : AFun} {K : List AItem} {t : Nat → AV} {H : AH} {T : Tbl} : runR T fn (.code (.reg d10_1) :: K) t H = regR T fn K (aops (callR T) [
  ⟨(some 3), none, (.val (.t 0))⟩,
  ⟨(some 4), none, (.call 23 [(.t 3)])⟩,
  ⟨(some 5), none, (.un .not (.t 4))⟩] t H) := runR_reg'
def d10_2 : List AOper := [
  ⟨(some 2), none, (.val (.c (.sl none 0 0 true 0)))⟩]
theorem r10_2 {fn : AFun} {K : List AItem} {t : Nat → AV} {H : AH} {T : Tbl} : runR T fn (.code (.reg d10_2) :: K) t H = regR T fn K (aops (callR T) [
  ⟨(some 2), none, (.val (.c (.sl none 0 0 true 0)))⟩] t H) := runR_reg'
def d10_3 : List AOper := [
  ⟨(some 6), none, (.val (.t 0))⟩,
  ⟨(some 7), none, (.nilc (.t 6))⟩,
  ⟨(some 8), none, (.fa 0 (.t 7))⟩,
  ⟨(some 9), none, (.ld none (.t 8))⟩,
  ⟨(some 10), none, (.call 26 [(.t 9)])⟩,
  ⟨(some 11), none, (.call 25 [(.t 10), (.c (.fn (.func 27) [] []))])⟩,
  ⟨(some 2), none, (.val (.t 11))⟩]
theorem r10_3 {fn : AFun} {K : List AItem} {t : Nat → AV} {H : AH} {T : Tbl} : runR T fn (.code (.reg d10_3) :: K) t H = regR T fn K (aops (callR T) [
  ⟨(some 6), none, (.val (.t 0))⟩,
  ⟨(some 7), none, (.nilc (.t 6))⟩,
  ⟨(some 8), none, (.fa 0 (.t 7))⟩,
  ⟨(some 9), none, (.ld none (.t 8))⟩,
  ⟨(some 10), none, (.call 26 [(.t 9)])⟩,
  ⟨(some 11), none, (.call 25 [(.t 10), (.c (.fn (.func 27) [] []))])⟩,
  ⟨(some 2), none, (.val (.t 11))⟩] t H) := runR_reg'
def a10 : AFun := ⟨12, [(.tmp 2)], (.seq (.reg d10_0) (.seq (.seq (.reg d10_1) (.cond (.t 5) (.seq (.reg d10_2) .ret) .skip)) (.seq (.reg d10_3) .ret)))⟩
theorem a10_ok : cfun Try.prog 10 = some a10 := by kernel_rfl
/-- (*futtock/uses.Book).Slot -/
def d11_0 : List AOper := [
  ⟨(some 4), none, (.val (.c (.i .i64 0)))⟩,
  ⟨(some 5), none, (.val (.c (.b false)))⟩]
theorem r11_0 {fn : AFun} {K : List AItem} {t : Nat → AV} {H : AH} {T : Tbl} : runR T fn (.code (.reg d11_0) :: K) t H = regR T fn K (aops (callR T) [
  ⟨(some 4), none, (.val (.c (.i .i64 0)))⟩,
  ⟨(some 5), none, (.val (.c (.b false)))⟩] t H) := runR_reg'
def d11_1 : List AOper := [
  ⟨(some 8), none, (.val (.t 0))⟩,
  ⟨(some 9), none, (.call 23 [(.t 8)])⟩,
  ⟨(some 10), none, (.un .not (.t 9))⟩]
theorem r11_1 {fn : AFun} {K : List AItem} {t : Nat → AV} {H : AH} {T : Tbl} : runR T fn (.code (.reg d11_1) :: K) t H = regR T fn K (aops (callR T) [
  ⟨(some 8), none, (.val (.t 0))⟩,
  ⟨(some 9), none, (.call 23 [(.t 8)])⟩,
  ⟨(some 10), none, (.un .not (.t 9))⟩] t H) := runR_reg'
def d11_2 : List AOper := [
  ⟨(some 4), none, (.val (.c (.i .i64 0)))⟩,
  ⟨(some 5), none, (.val (.c (.b false)))⟩]
theorem r11_2 {fn : AFun} {K : List AItem} {t : Nat → AV} {H : AH} {T : Tbl} : runR T fn (.code (.reg d11_2) :: K) t H = regR T fn K (aops (callR T) [
  ⟨(some 4), none, (.val (.c (.i .i64 0)))⟩,
  ⟨(some 5), none, (.val (.c (.b false)))⟩] t H) := runR_reg'
def d11_3 : List AOper := [
  ⟨(some 12), none, (.val (.t 0))⟩,
  ⟨(some 13), none, (.nilc (.t 12))⟩,
  ⟨(some 14), none, (.fa 1 (.t 13))⟩,
  ⟨(some 15), none, (.ld none (.t 14))⟩,
  ⟨(some 16), none, (.val (.t 1))⟩,
  ⟨(some 17), none, (.lk [0] (.i .i64 0) (.t 15) (.t 16) true)⟩,
  ⟨(some 11), none, (.val (.t 17))⟩,
  ⟨(some 18), none, (.ext (.t 11) 0)⟩,
  ⟨(some 19), none, (.ext (.t 11) 1)⟩,
  ⟨(some 6), none, (.val (.t 18))⟩,
  ⟨(some 7), none, (.val (.t 19))⟩]
theorem r11_3 {fn : AFun} {K : List AItem} {t : Nat → AV} {H : AH} {T : Tbl} : runR T fn (.code (.reg d11_3) :: K) t H = regR T fn K (aops (callR T) [
  ⟨(some 12), none, (.val (.t 0))⟩,
  ⟨(some 13), none, (.nilc (.t 12))⟩,
  ⟨(some 14), none, (.fa 1 (.t 13))⟩,
  ⟨(some 15), none, (.ld none (.t 14))⟩,
  ⟨(some 16), none, (.val (.t 1))⟩,
  ⟨(some 17), none, (.lk [0] (.i .i64 0) (.t 15) (.t 16) true)⟩,
  ⟨(some 11), none, (.val (.t 17))⟩,
  ⟨(some 18), none, (.ext (.t 11) 0)⟩,
  ⟨(some 19), none, (.ext (.t 11) 1)⟩,
  ⟨(some 6), none, (.val (.t 18))⟩,
  ⟨(some 7), none, (.val (.t 19))⟩] t H) := runR_reg'
def d11_4 : List AOper := [
  ⟨(some 20), none, (.val (.t 6))⟩,
  ⟨(some 21), none, (.val (.t 7))⟩,
  ⟨(some 4), none, (.val (.t 20))⟩,
  ⟨(some 5), none, (.val (.t 21))⟩]
theorem r11_4 {fn : AFun} {K : List AItem} {t : Nat → AV} {H : AH} {T : Tbl} : runR T fn (.code (.reg d11_4) :: K) t H = regR T fn K (aops (callR T) [
  ⟨(some 20), none, (.val (.t 6))⟩,
  ⟨(some 21), none, (.val (.t 7))⟩,
  ⟨(some 4), none, (.val (.t 20))⟩,
  ⟨(some 5), none, (.val (.t 21))⟩] t H) := runR_reg'
def a11 : AFun := ⟨22, [(.tmp 4), (.tmp 5)], (.seq (.reg d11_0) (.seq (.seq (.reg d11_1) (.cond (.t 10) (.seq (.reg d11_2) .ret) .skip)) (.seq (.reg d11_3) (.seq (.reg d11_4) .ret))))⟩
theorem a11_ok : cfun Try.prog 11 = some a11 := by kernel_rfl
/-- (*futtock/uses.Book).Obj -/
def d12_0 : List AOper := [
  ⟨(some 4), none, (.val (.c (.i .i64 0)))⟩,
  ⟨(some 5), none, (.val (.c (.b false)))⟩]
theorem r12_0 {fn : AFun} {K : List AItem} {t : Nat → AV} {H : AH} {T : Tbl} : runR T fn (.code (.reg d12_0) :: K) t H = regR T fn K (aops (callR T) [
  ⟨(some 4), none, (.val (.c (.i .i64 0)))⟩,
  ⟨(some 5), none, (.val (.c (.b false)))⟩] t H) := runR_reg'
def d12_1 : List AOper := [
  ⟨(some 8), none, (.val (.t 0))⟩,
  ⟨(some 9), none, (.call 23 [(.t 8)])⟩,
  ⟨(some 10), none, (.un .not (.t 9))⟩]
theorem r12_1 {fn : AFun} {K : List AItem} {t : Nat → AV} {H : AH} {T : Tbl} : runR T fn (.code (.reg d12_1) :: K) t H = regR T fn K (aops (callR T) [
  ⟨(some 8), none, (.val (.t 0))⟩,
  ⟨(some 9), none, (.call 23 [(.t 8)])⟩,
  ⟨(some 10), none, (.un .not (.t 9))⟩] t H) := runR_reg'
def d12_2 : List AOper := [
  ⟨(some 4), none, (.val (.c (.i .i64 0)))⟩,
  ⟨(some 5), none, (.val (.c (.b false)))⟩]
theorem r12_2 {fn : AFun} {K : List AItem} {t : Nat → AV} {H : AH} {T : Tbl} : runR T fn (.code (.reg d12_2) :: K) t H = regR T fn K (aops (callR T) [
  ⟨(some 4), none, (.val (.c (.i .i64 0)))⟩,
  ⟨(some 5), none, (.val (.c (.b false)))⟩] t H) := runR_reg'
def d12_3 : List AOper := [
  ⟨(some 12), none, (.val (.t 0))⟩,
  ⟨(some 13), none, (.nilc (.t 12))⟩,
  ⟨(some 14), none, (.fa 0 (.t 13))⟩,
  ⟨(some 15), none, (.ld none (.t 14))⟩,
  ⟨(some 16), none, (.val (.t 1))⟩,
  ⟨(some 17), none, (.lk [0] (.agg [(.i .i64 0), (.i .i64 0), (.i .i64 0)]) (.t 15) (.t 16) true)⟩,
  ⟨(some 11), none, (.val (.t 17))⟩,
  ⟨(some 18), none, (.ext (.t 11) 0)⟩,
  ⟨(some 19), none, (.ext (.t 11) 1)⟩,
  ⟨(some 6), none, (.alloc [(.i .i64 0), (.i .i64 0), (.i .i64 0)])⟩,
  ⟨none, none, (.st 3 (.t 6) (.t 18))⟩,
  ⟨(some 7), none, (.val (.t 19))⟩]
theorem r12_3 {fn : AFun} {K : List AItem} {t : Nat → AV} {H : AH} {T : Tbl} : runR T fn (.code (.reg d12_3) :: K) t H = regR T fn K (aops (callR T) [
  ⟨(some 12), none, (.val (.t 0))⟩,
  ⟨(some 13), none, (.nilc (.t 12))⟩,
  ⟨(some 14), none, (.fa 0 (.t 13))⟩,
  ⟨(some 15), none, (.ld none (.t 14))⟩,
  ⟨(some 16), none, (.val (.t 1))⟩,
  ⟨(some 17), none, (.lk [0] (.agg [(.i .i64 0), (.i .i64 0), (.i .i64 0)]) (.t 15) (.t 16) true)⟩,
  ⟨(some 11), none, (.val (.t 17))⟩,
  ⟨(some 18), none, (.ext (.t 11) 0)⟩,
  ⟨(some 19), none, (.ext (.t 11) 1)⟩,
  ⟨(some 6), none, (.alloc [(.i .i64 0), (.i .i64 0), (.i .i64 0)])⟩,
  ⟨none, none, (.st 3 (.t 6) (.t 18))⟩,
  ⟨(some 7), none, (.val (.t 19))⟩] t H) := runR_reg'
def d12_4 : List AOper := [
  ⟨(some 20), none, (.fa 1 (.t 6))⟩,
  ⟨(some 21), none, (.ld none (.t 20))⟩,
  ⟨(some 22), none, (.val (.t 7))⟩,
  ⟨(some 4), none, (.val (.t 21))⟩,
  ⟨(some 5), none, (.val (.t 22))⟩]
theorem r12_4 {fn : AFun} {K : List AItem} {t : Nat → AV} {H : AH} {T : Tbl} : runR T fn (.code (.reg d12_4) :: K) t H = regR T fn K (aops (callR T) [
  ⟨(some 20), none, (.fa 1 (.t 6))⟩,
  ⟨(some 21), none, (.ld none (.t 20))⟩,
  ⟨(some 22), none, (.val (.t 7))⟩,
  ⟨(some 4), none, (.val (.t 21))⟩,
  ⟨(some 5), none, (.val (.t 22))⟩] t H) := runR_reg'
def a12 : AFun := ⟨23, [(.tmp 4), (.tmp 5)], (.seq (.reg d12_0) (.seq (.seq (.reg d12_1) (.cond (.t 10) (.seq (.reg d12_2) .ret) .skip)) (.seq (.reg d12_3) (.seq (.reg d12_4) .ret))))⟩
theorem a12_ok : cfun Try.prog 12 = some a12 := by kernel_rfl
/-- (*futtock/uses.Book).Drop -/
def d13_0 : List AOper := [
  ⟨(some 4), none, (.alloc [(.i .i64 0), (.i .i64 0), (.i .i64 0)])⟩,
  ⟨(some 5), none, (.val (.c (.i .i64 0)))⟩]
theorem r13_0 {fn : AFun} {K : List AItem} {t : Nat → AV} {H : AH} {T : Tbl} : runR T fn (.code (.reg d13_0) :: K) t H = regR T fn K (aops (callR T) [
  ⟨(some 4), none, (.alloc [(.i .i64 0), (.i .i64 0), (.i .i64 0)])⟩,
  ⟨(some 5), none, (.val (.c (.i .i64 0)))⟩] t H) := runR_reg'
def d13_1 : List AOper := [
  ⟨(some 8), none, (.val (.t 0))⟩,
  ⟨(some 9), none, (.call 23 [(.t 8)])⟩,
  ⟨(some 10), none, (.un .not (.t 9))⟩]
theorem r13_1 {fn : AFun} {K : List AItem} {t : Nat → AV} {H : AH} {T : Tbl} : runR T fn (.code (.reg d13_1) :: K) t H = regR T fn K (aops (callR T) [
  ⟨(some 8), none, (.val (.t 0))⟩,
  ⟨(some 9), none, (.call 23 [(.t 8)])⟩,
  ⟨(some 10), none, (.un .not (.t 9))⟩] t H) := runR_reg'
def d13_2 : List AOper := [
  ⟨(some 11), none, (.build [(.i .i64 0), (.i .i64 0), (.i .i64 0)] [])⟩,
  ⟨none, none, (.st 3 (.t 4) (.t 11))⟩,
  ⟨(some 5), none, (.val (.c (.i .i64 2)))⟩]
theorem r13_2 {fn : AFun} {K : List AItem} {t : Nat → AV} {H : AH} {T : Tbl} : runR T fn (.code (.reg d13_2) :: K) t H = regR T fn K (aops (callR T) [
  ⟨(some 11), none, (.build [(.i .i64 0), (.i .i64 0), (.i .i64 0)] [])⟩,
  ⟨none, none, (.st 3 (.t 4) (.t 11))⟩,
  ⟨(some 5), none, (.val (.c (.i .i64 2)))⟩] t H) := runR_reg'
def d13_3 : List AOper := [
  ⟨(some 13), none, (.val (.t 0))⟩,
  ⟨(some 14), none, (.nilc (.t 13))⟩,
  ⟨(some 15), none, (.fa 0 (.t 14))⟩,
  ⟨(some 16), none, (.ld none (.t 15))⟩,
  ⟨(some 17), none, (.val (.t 1))⟩,
  ⟨(some 18), none, (.lk [0] (.agg [(.i .i64 0), (.i .i64 0), (.i .i64 0)]) (.t 16) (.t 17) true)⟩,
  ⟨(some 12), none, (.val (.t 18))⟩,
  ⟨(some 19), none, (.ext (.t 12) 0)⟩,
  ⟨(some 20), none, (.ext (.t 12) 1)⟩,
  ⟨(some 6), none, (.alloc [(.i .i64 0), (.i .i64 0), (.i .i64 0)])⟩,
  ⟨none, none, (.st 3 (.t 6) (.t 19))⟩,
  ⟨(some 7), none, (.val (.t 20))⟩]
theorem r13_3 {fn : AFun} {K : List AItem} {t : Nat → AV} {H : AH} {T : Tbl} : runR T fn (.code (.reg d13_3) :: K) t H = regR T fn K (aops (callR T) [
  ⟨(some 13), none, (.val (.t 0))⟩,
  ⟨(some 14), none, (.nilc (.t 13))⟩,
  ⟨(some 15), none, (.fa 0 (.t 14))⟩,
  ⟨(some 16), none, (.ld none (.t 15))⟩,
  ⟨(some 17), none, (.val (.t 1))⟩,
  ⟨(some 18), none, (.lk [0] (.agg [(.i .i64 0), (.i .i64 0), (.i .i64 0)]) (.t 16) (.t 17) true)⟩,
  ⟨(some 12), none, (.val (.t 18))⟩,
  ⟨(some 19), none, (.ext (.t 12) 0)⟩,
  ⟨(some 20), none, (.ext (.t 12) 1)⟩,
  ⟨(some 6), none, (.alloc [(.i .i64 0), (.i .i64 0), (.i .i64 0)])⟩,
  ⟨none, none, (.st 3 (.t 6) (.t 19))⟩,
  ⟨(some 7), none, (.val (.t 20))⟩] t H) := runR_reg'
def d13_4 : List AOper := [
  ⟨(some 21), none, (.val (.t 7))⟩,
  ⟨(some 22), none, (.un .not (.t 21))⟩]
theorem r13_4 {fn : AFun} {K : List AItem} {t : Nat → AV} {H : AH} {T : Tbl} : runR T fn (.code (.reg d13_4) :: K) t H = regR T fn K (aops (callR T) [
  ⟨(some 21), none, (.val (.t 7))⟩,
  ⟨(some 22), none, (.un .not (.t 21))⟩] t H) := runR_reg'
def d13_5 : List AOper := [
  ⟨(some 23), none, (.build [(.i .i64 0), (.i .i64 0), (.i .i64 0)] [])⟩,
  ⟨none, none, (.st 3 (.t 4) (.t 23))⟩,
  ⟨(some 5), none, (.val (.c (.i .i64 6)))⟩]
theorem r13_5 {fn : AFun} {K : List AItem} {t : Nat → AV} {H : AH} {T : Tbl} : runR T fn (.code (.reg d13_5) :: K) t H = regR T fn K (aops (callR T) [
  ⟨(some 23), none, (.build [(.i .i64 0), (.i .i64 0), (.i .i64 0)] [])⟩,
  ⟨none, none, (.st 3 (.t 4) (.t 23))⟩,
  ⟨(some 5), none, (.val (.c (.i .i64 6)))⟩] t H) := runR_reg'
def d13_6 : List AOper := [
  ⟨(some 24), none, (.val (.t 0))⟩,
  ⟨(some 25), none, (.nilc (.t 24))⟩,
  ⟨(some 26), none, (.fa 0 (.t 25))⟩,
  ⟨(some 27), none, (.ld none (.t 26))⟩,
  ⟨(some 28), none, (.val (.t 1))⟩,
  ⟨none, none, (.dl [0] (.t 27) (.t 28))⟩]
theorem r13_6 {fn : AFun} {K : List AItem} {t : Nat → AV} {H : AH} {T : Tbl} : runR T fn (.code (.reg d13_6) :: K) t H = regR T fn K (aops (callR T) [
  ⟨(some 24), none, (.val (.t 0))⟩,
  ⟨(some 25), none, (.nilc (.t 24))⟩,
  ⟨(some 26), none, (.fa 0 (.t 25))⟩,
  ⟨(some 27), none, (.ld none (.t 26))⟩,
  ⟨(some 28), none, (.val (.t 1))⟩,
  ⟨none, none, (.dl [0] (.t 27) (.t 28))⟩] t H) := runR_reg'
def d13_7 : List (AOper × List Nat) := [
  (⟨(some 29), none, (.val (.t 0))⟩, []),
  (⟨(some 30), none, (.nilc (.t 29))⟩, []),
  (⟨(some 31), none, (.fa 1 (.t 30))⟩, []),
  (⟨(some 32), none, (.ld none (.t 31))⟩, [1]),
  (⟨(some 33), none, (.fa 1 (.t 6))⟩, []),
  (⟨(some 34), none, (.ld none (.t 33))⟩, [1]),
  (⟨none, none, (.dl [0] (.t 32) (.t 34))⟩, [])]
theorem r13_7 {fn : AFun} {K : List AItem} {t : Nat → AV} {H : AH} {T : Tbl} : runR T fn (.code (.drw d13_7) :: K) t H = regR T fn K (aops (callR T) [
  ⟨(some 29), none, (.val (.t 0))⟩,
  ⟨(some 30), none, (.nilc (.t 29))⟩,
  ⟨(some 31), none, (.fa 1 (.t 30))⟩,
  ⟨(some 32), none, (.ld none (.t 31))⟩,
  ⟨(some 33), none, (.fa 1 (.t 6))⟩,
  ⟨(some 34), none, (.ld none (.t 33))⟩,
  ⟨none, none, (.dl [0] (.t 32) (.t 34))⟩] t H) := runR_plain rfl
def d13_8 : List AOper := [
  ⟨(some 35), none, (.ld (some 3) (.t 6))⟩,
  ⟨none, none, (.st 3 (.t 4) (.t 35))⟩,
  ⟨(some 5), none, (.val (.c (.i .i64 0)))⟩]
theorem r13_8 {fn : AFun} {K : List AItem} {t : Nat → AV} {H : AH} {T : Tbl} : runR T fn (.code (.reg d13_8) :: K) t H = regR T fn K (aops (callR T) [
  ⟨(some 35), none, (.ld (some 3) (.t 6))⟩,
  ⟨none, none, (.st 3 (.t 4) (.t 35))⟩,
  ⟨(some 5), none, (.val (.c (.i .i64 0)))⟩] t H) := runR_reg'
def a13 : AFun := ⟨36, [(.cell 4 (some 3)), (.tmp 5)], (.seq (.reg d13_0) (.seq (.seq (.reg d13_1) (.cond (.t 10) (.seq (.reg d13_2) .ret) .skip)) (.seq (.reg d13_3) (.seq (.seq (.reg d13_4) (.cond (.t 22) (.seq (.reg d13_5) .ret) .skip)) (.seq (.reg d13_6) (.seq (.drw d13_7) (.seq (.reg d13_8) .ret)))))))⟩
theorem a13_ok : cfun Try.prog 13 = some a13 := by kernel_rfl
/-- futtock/futtocklaw11.alive -/
def d14_0 : List AOper := [
  ⟨(some 0), none, (.val (.c (.b false)))⟩]
theorem r14_0 {fn : AFun} {K : List AItem} {t : Nat → AV} {H : AH} {T : Tbl} : runR T fn (.code (.reg d14_0) :: K) t H = regR T fn K (aops (callR T) [
  ⟨(some 0), none, (.val (.c (.b false)))⟩] t H) := runR_reg'
def d14_1 : List AOper := [
  ⟨(some 4), none, (.call 7 [])⟩,
  ⟨(some 1), none, (.val (.t 4))⟩]
theorem r14_1 {fn : AFun} {K : List AItem} {t : Nat → AV} {H : AH} {T : Tbl} : runR T fn (.code (.reg d14_1) :: K) t H = regR T fn K (aops (callR T) [
  ⟨(some 4), none, (.call 7 [])⟩,
  ⟨(some 1), none, (.val (.t 4))⟩] t H) := runR_reg'
def d14_2 : List AOper := [
  ⟨(some 5), none, (.val (.t 1))⟩,
  ⟨(some 6), none, (.eqn 0 false (.t 5) (.c (.p none)))⟩,
  ⟨(some 7), none, (.val (.t 6))⟩,
  ⟨(some 8), (some (7, false)), (.val (.t 1))⟩,
  ⟨(some 9), (some (7, false)), (.build [(.i .i64 0), (.i .i64 0), (.i .i64 0)] [(0, 1, (.c (.i .i64 1))), (1, 1, (.c (.i .i64 7)))])⟩,
  ⟨(some 10), (some (7, false)), (.call 9 [(.t 8), (.t 9)])⟩,
  ⟨(some 11), (some (7, false)), (.bin .neq (.t 10) (.c (.i .i64 0)))⟩,
  ⟨(some 12), none, (.pick (.t 7) (.c (.b true)) (.t 11))⟩]
theorem r14_2 {fn : AFun} {K : List AItem} {t : Nat → AV} {H : AH} {T : Tbl} : runR T fn (.code (.reg d14_2) :: K) t H = regR T fn K (aops (callR T) [
  ⟨(some 5), none, (.val (.t 1))⟩,
  ⟨(some 6), none, (.eqn 0 false (.t 5) (.c (.p none)))⟩,
  ⟨(some 7), none, (.val (.t 6))⟩,
  ⟨(some 8), (some (7, false)), (.val (.t 1))⟩,
  ⟨(some 9), (some (7, false)), (.build [(.i .i64 0), (.i .i64 0), (.i .i64 0)] [(0, 1, (.c (.i .i64 1))), (1, 1, (.c (.i .i64 7)))])⟩,
  ⟨(some 10), (some (7, false)), (.call 9 [(.t 8), (.t 9)])⟩,
  ⟨(some 11), (some (7, false)), (.bin .neq (.t 10) (.c (.i .i64 0)))⟩,
  ⟨(some 12), none, (.pick (.t 7) (.c (.b true)) (.t 11))⟩] t H) := runR_reg'
def d14_3 : List AOper := [
  ⟨(some 0), none, (.val (.c (.b false)))⟩]
theorem r14_3 {fn : AFun} {K : List AItem} {t : Nat → AV} {H : AH} {T : Tbl} : runR T fn (.code (.reg d14_3) :: K) t H = regR T fn K (aops (callR T) [
  ⟨(some 0), none, (.val (.c (.b false)))⟩] t H) := runR_reg'
def d14_4 : List AOper := [
  ⟨(some 14), none, (.val (.t 1))⟩,
  ⟨(some 15), none, (.call 11 [(.t 14), (.c (.i .i64 7))])⟩,
  ⟨(some 13), none, (.val (.t 15))⟩,
  ⟨(some 16), none, (.ext (.t 13) 0)⟩,
  ⟨(some 17), none, (.ext (.t 13) 1)⟩,
  ⟨(some 2), none, (.val (.t 16))⟩,
  ⟨(some 3), none, (.val (.t 17))⟩]
theorem r14_4 {fn : AFun} {K : List AItem} {t : Nat → AV} {H : AH} {T : Tbl} : runR T fn (.code (.reg d14_4) :: K) t H = regR T fn K (aops (callR T) [
  ⟨(some 14), none, (.val (.t 1))⟩,
  ⟨(some 15), none, (.call 11 [(.t 14), (.c (.i .i64 7))])⟩,
  ⟨(some 13), none, (.val (.t 15))⟩,
  ⟨(some 16), none, (.ext (.t 13) 0)⟩,
  ⟨(some 17), none, (.ext (.t 13) 1)⟩,
  ⟨(some 2), none, (.val (.t 16))⟩,
  ⟨(some 3), none, (.val (.t 17))⟩] t H) := runR_reg'
def d14_5 : List AOper := [
  ⟨(some 18), none, (.val (.t 2))⟩,
  ⟨(some 19), none, (.bin .eql (.t 18) (.c (.i .i64 1)))⟩,
  ⟨(some 20), none, (.val (.t 19))⟩,
  ⟨(some 21), (some (20, true)), (.val (.t 3))⟩,
  ⟨(some 22), none, (.pick (.t 20) (.t 21) (.c (.b false)))⟩,
  ⟨(some 23), none, (.val (.t 22))⟩,
  ⟨(some 24), (some (23, true)), (.val (.t 1))⟩,
  ⟨(some 25), (some (23, true)), (.build [(.i .i64 0), (.i .i64 0), (.i .i64 0)] [(0, 1, (.c (.i .i64 2))), (1, 1, (.c (.i .i64 7)))])⟩,
  ⟨(some 26), (some (23, true)), (.call 9 [(.t 24), (.t 25)])⟩,
  ⟨(some 27), (some (23, true)), (.bin .eql (.t 26) (.c (.i .i64 7)))⟩,
  ⟨(some 28), none, (.pick (.t 23) (.t 27) (.c (.b false)))⟩,
  ⟨(some 29), none, (.val (.t 28))⟩,
  ⟨(some 30), (some (29, true)), (.val (.t 1))⟩,
  ⟨(some 31), (some (29, true)), (.call 16 [(.t 30)])⟩,
  ⟨(some 32), (some (29, true)), (.bin .eql (.t 31) (.c (.i .i64 1)))⟩,
  ⟨(some 33), none, (.pick (.t 29) (.t 32) (.c (.b false)))⟩,
  ⟨(some 0), none, (.val (.t 33))⟩]
theorem r14_5 {fn : AFun} {K : List AItem} {t : Nat → AV} {H : AH} {T : Tbl} : runR T fn (.code (.reg d14_5) :: K) t H = regR T fn K (aops (callR T) [
  ⟨(some 18), none, (.val (.t 2))⟩,
  ⟨(some 19), none, (.bin .eql (.t 18) (.c (.i .i64 1)))⟩,
  ⟨(some 20), none, (.val (.t 19))⟩,
  ⟨(some 21), (some (20, true)), (.val (.t 3))⟩,
  ⟨(some 22), none, (.pick (.t 20) (.t 21) (.c (.b false)))⟩,
  ⟨(some 23), none, (.val (.t 22))⟩,
  ⟨(some 24), (some (23, true)), (.val (.t 1))⟩,
  ⟨(some 25), (some (23, true)), (.build [(.i .i64 0), (.i .i64 0), (.i .i64 0)] [(0, 1, (.c (.i .i64 2))), (1, 1, (.c (.i .i64 7)))])⟩,
  ⟨(some 26), (some (23, true)), (.call 9 [(.t 24), (.t 25)])⟩,
  ⟨(some 27), (some (23, true)), (.bin .eql (.t 26) (.c (.i .i64 7)))⟩,
  ⟨(some 28), none, (.pick (.t 23) (.t 27) (.c (.b false)))⟩,
  ⟨(some 29), none, (.val (.t 28))⟩,
  ⟨(some 30), (some (29, true)), (.val (.t 1))⟩,
  ⟨(some 31), (some (29, true)), (.call 16 [(.t 30)])⟩,
  ⟨(some 32), (some (29, true)), (.bin .eql (.t 31) (.c (.i .i64 1)))⟩,
  ⟨(some 33), none, (.pick (.t 29) (.t 32) (.c (.b false)))⟩,
  ⟨(some 0), none, (.val (.t 33))⟩] t H) := runR_reg'
def a14 : AFun := ⟨34, [(.tmp 0)], (.seq (.reg d14_0) (.seq (.reg d14_1) (.seq (.seq (.reg d14_2) (.cond (.t 12) (.seq (.reg d14_3) .ret) .skip)) (.seq (.reg d14_4) (.seq (.reg d14_5) .ret)))))⟩
theorem a14_ok : cfun Try.prog 14 = some a14 := by kernel_rfl
/-- (*futtock/uses.Book).Of -/
def d15_0 : List AOper := [
  ⟨(some 3), none, (.box (.t 1))⟩,
  ⟨(some 4), none, (.val (.c (.sl none 0 0 true 0)))⟩]
theorem r15_0 {fn : AFun} {K : List AItem} {t : Nat → AV} {H : AH} {T : Tbl} : runR T fn (.code (.reg d15_0) :: K) t H = regR T fn K (aops (callR T) [
  ⟨(some 3), none, (.box (.t 1))⟩,
  ⟨(some 4), none, (.val (.c (.sl none 0 0 true 0)))⟩] t H) := runR_reg'
def d15_1 : List AOper := [
  ⟨(some 5), none, (.val (.t 0))⟩,
  ⟨(some 6), none, (.call 10 [(.t 5)])⟩,
  ⟨(some 7), none, (.mkf (.func 30) [] [(.t 3)])⟩,
  ⟨(some 8), none, (.call 29 [(.t 6), (.t 7)])⟩,
  ⟨(some 4), none, (.val (.t 8))⟩]
theorem r15_1 {fn : AFun} {K : List AItem} {t : Nat → AV} {H : AH} {T : Tbl} : runR T fn (.code (.reg d15_1) :: K) t H = regR T fn K (aops (callR T) [
  ⟨(some 5), none, (.val (.t 0))⟩,
  ⟨(some 6), none, (.call 10 [(.t 5)])⟩,
  ⟨(some 7), none, (.mkf (.func 30) [] [(.t 3)])⟩,
  ⟨(some 8), none, (.call 29 [(.t 6), (.t 7)])⟩,
  ⟨(some 4), none, (.val (.t 8))⟩] t H) := runR_reg'
def a15 : AFun := ⟨9, [(.tmp 4)], (.seq (.reg d15_0) (.seq (.reg d15_1) .ret))⟩
theorem a15_ok : cfun Try.prog 15 = some a15 := by kernel_rfl
/-- (*futtock/uses.Book).Len -/
def d16_0 : List AOper := [
  ⟨(some 2), none, (.val (.c (.i .i64 0)))⟩]
theorem r16_0 {fn : AFun} {K : List AItem} {t : Nat → AV} {H : AH} {T : Tbl} : runR T fn (.code (.reg d16_0) :: K) t H = regR T fn K (aops (callR T) [
  ⟨(some 2), none, (.val (.c (.i .i64 0)))⟩] t H) := runR_reg'
def d16_1 : List AOper := [
  ⟨(some 3), none, (.val (.t 0))⟩,
  ⟨(some 4), none, (.call 23 [(.t 3)])⟩,
  ⟨(some 5), none, (.un .not (.t 4))⟩]
theorem r16_1 {fn : AFun} {K : List AItem} {t : Nat → AV} {H : AH} {T : Tbl} : runR T fn (.code (.reg d16_1) :: K) t H = regR T fn K (aops (callR T) [
  ⟨(some 3), none, (.val (.t 0))⟩,
  ⟨(some 4), none, (.call 23 [(.t 3)])⟩,
  ⟨(some 5), none, (.un .not (.t 4))⟩] t H) := runR_reg'
def d16_2 : List AOper := [
  ⟨(some 2), none, (.val (.c (.i .i64 0)))⟩]
theorem r16_2 {fn : AFun} {K : List AItem} {t : Nat → AV} {H : AH} {T : Tbl} : runR T fn (.code (.reg d16_2) :: K) t H = regR T fn K (aops (callR T) [
  ⟨(some 2), none, (.val (.c (.i .i64 0)))⟩] t H) := runR_reg'
def d16_3 : List AOper := [
  ⟨(some 6), none, (.val (.t 0))⟩,
  ⟨(some 7), none, (.nilc (.t 6))⟩,
  ⟨(some 8), none, (.fa 0 (.t 7))⟩,
  ⟨(some 9), none, (.ld none (.t 8))⟩,
  ⟨(some 10), none, (.lenm (.t 9))⟩,
  ⟨(some 2), none, (.val (.t 10))⟩]
theorem r16_3 {fn : AFun} {K : List AItem} {t : Nat → AV} {H : AH} {T : Tbl} : runR T fn (.code (.reg d16_3) :: K) t H = regR T fn K (aops (callR T) [
  ⟨(some 6), none, (.val (.t 0))⟩,
  ⟨(some 7), none, (.nilc (.t 6))⟩,
  ⟨(some 8), none, (.fa 0 (.t 7))⟩,
  ⟨(some 9), none, (.ld none (.t 8))⟩,
  ⟨(some 10), none, (.lenm (.t 9))⟩,
  ⟨(some 2), none, (.val (.t 10))⟩] t H) := runR_reg'
def a16 : AFun := ⟨11, [(.tmp 2)], (.seq (.reg d16_0) (.seq (.seq (.reg d16_1) (.cond (.t 5) (.seq (.reg d16_2) .ret) .skip)) (.seq (.reg d16_3) .ret)))⟩
theorem a16_ok : cfun Try.prog 16 = some a16 := by kernel_rfl
/-- (*futtock/futtockref11.Book).Drop -/
def d17_0 : List AOper := [
  ⟨(some 4), none, (.alloc [(.i .i64 0), (.i .i64 0), (.i .i64 0)])⟩,
  ⟨(some 5), none, (.val (.c (.i .i64 0)))⟩]
theorem r17_0 {fn : AFun} {K : List AItem} {t : Nat → AV} {H : AH} {T : Tbl} : runR T fn (.code (.reg d17_0) :: K) t H = regR T fn K (aops (callR T) [
  ⟨(some 4), none, (.alloc [(.i .i64 0), (.i .i64 0), (.i .i64 0)])⟩,
  ⟨(some 5), none, (.val (.c (.i .i64 0)))⟩] t H) := runR_reg'
def d17_1 : List AOper := [
  ⟨(some 6), none, (.val (.c (.i .i64 0)))⟩]
theorem r17_1 {fn : AFun} {K : List AItem} {t : Nat → AV} {H : AH} {T : Tbl} : runR T fn (.code (.reg d17_1) :: K) t H = regR T fn K (aops (callR T) [
  ⟨(some 6), none, (.val (.c (.i .i64 0)))⟩] t H) := runR_reg'
def d17_2 : List AOper := [
  ⟨(some 8), none, (.val (.t 6))⟩,
  ⟨(some 9), none, (.val (.t 0))⟩,
  ⟨(some 10), none, (.nilc (.t 9))⟩,
  ⟨(some 11), none, (.fa 0 (.t 10))⟩,
  ⟨(some 12), none, (.ld none (.t 11))⟩,
  ⟨(some 13), none, (.len (.t 12))⟩,
  ⟨(some 14), none, (.bin .lss (.t 8) (.t 13))⟩]
theorem r17_2 {fn : AFun} {K : List AItem} {t : Nat → AV} {H : AH} {T : Tbl} : runR T fn (.code (.reg d17_2) :: K) t H = regR T fn K (aops (callR T) [
  ⟨(some 8), none, (.val (.t 6))⟩,
  ⟨(some 9), none, (.val (.t 0))⟩,
  ⟨(some 10), none, (.nilc (.t 9))⟩,
  ⟨(some 11), none, (.fa 0 (.t 10))⟩,
  ⟨(some 12), none, (.ld none (.t 11))⟩,
  ⟨(some 13), none, (.len (.t 12))⟩,
  ⟨(some 14), none, (.bin .lss (.t 8) (.t 13))⟩] t H) := runR_reg'
def d17_3 : List AOper := [
  ⟨(some 17), none, (.val (.t 0))⟩,
  ⟨(some 18), none, (.nilc (.t 17))⟩,
  ⟨(some 19), none, (.fa 0 (.t 18))⟩,
  ⟨(some 20), none, (.ld none (.t 19))⟩,
  ⟨(some 21), none, (.val (.t 6))⟩,
  ⟨(some 22), none, (.ia 3 (.t 20) (.t 21))⟩,
  ⟨(some 23), none, (.fa 0 (.t 22))⟩,
  ⟨(some 24), none, (.ld none (.t 23))⟩,
  ⟨(some 25), none, (.val (.t 1))⟩,
  ⟨(some 26), none, (.bin .eql (.t 24) (.t 25))⟩]
theorem r17_3 {fn : AFun} {K : List AItem} {t : Nat → AV} {H : AH} {T : Tbl} : runR T fn (.code (.reg d17_3) :: K) t H = regR T fn K (aops (callR T) [
  ⟨(some 17), none, (.val (.t 0))⟩,
  ⟨(some 18), none, (.nilc (.t 17))⟩,
  ⟨(some 19), none, (.fa 0 (.t 18))⟩,
  ⟨(some 20), none, (.ld none (.t 19))⟩,
  ⟨(some 21), none, (.val (.t 6))⟩,
  ⟨(some 22), none, (.ia 3 (.t 20) (.t 21))⟩,
  ⟨(some 23), none, (.fa 0 (.t 22))⟩,
  ⟨(some 24), none, (.ld none (.t 23))⟩,
  ⟨(some 25), none, (.val (.t 1))⟩,
  ⟨(some 26), none, (.bin .eql (.t 24) (.t 25))⟩] t H) := runR_reg'
def d17_4 : List AOper := [
  ⟨(some 27), none, (.val (.t 0))⟩,
  ⟨(some 28), none, (.nilc (.t 27))⟩,
  ⟨(some 29), none, (.fa 0 (.t 28))⟩,
  ⟨(some 30), none, (.ld none (.t 29))⟩,
  ⟨(some 31), none, (.val (.t 6))⟩,
  ⟨(some 32), none, (.ia 3 (.t 30) (.t 31))⟩,
  ⟨(some 33), none, (.ld (some 3) (.t 32))⟩,
  ⟨(some 7), none, (.alloc [(.i .i64 0), (.i .i64 0), (.i .i64 0)])⟩,
  ⟨none, none, (.st 3 (.t 7) (.t 33))⟩]
theorem r17_4 {fn : AFun} {K : List AItem} {t : Nat → AV} {H : AH} {T : Tbl} : runR T fn (.code (.reg d17_4) :: K) t H = regR T fn K (aops (callR T) [
  ⟨(some 27), none, (.val (.t 0))⟩,
  ⟨(some 28), none, (.nilc (.t 27))⟩,
  ⟨(some 29), none, (.fa 0 (.t 28))⟩,
  ⟨(some 30), none, (.ld none (.t 29))⟩,
  ⟨(some 31), none, (.val (.t 6))⟩,
  ⟨(some 32), none, (.ia 3 (.t 30) (.t 31))⟩,
  ⟨(some 33), none, (.ld (some 3) (.t 32))⟩,
  ⟨(some 7), none, (.alloc [(.i .i64 0), (.i .i64 0), (.i .i64 0)])⟩,
  ⟨none, none, (.st 3 (.t 7) (.t 33))⟩] t H) := runR_reg'
def d17_5 : List (AOper × List Nat) := [
  (⟨(some 34), none, (.val (.t 0))⟩, []),
  (⟨(some 35), none, (.val (.t 0))⟩, []),
  (⟨(some 36), none, (.nilc (.t 35))⟩, []),
  (⟨(some 37), none, (.fa 0 (.t 36))⟩, []),
  (⟨(some 38), none, (.ld none (.t 37))⟩, [1]),
  (⟨(some 39), none, (.val (.t 6))⟩, []),
  (⟨(some 40), none, (.sls 3 (.t 38) none (some (.t 39)) none)⟩, []),
  (⟨(some 41), none, (.app [(.i .i64 0), (.i .i64 0), (.i .i64 0)] 24 (.c (.sl none 0 0 true 0)) (.t 40))⟩, []),
  (⟨(some 42), none, (.val (.t 0))⟩, []),
  (⟨(some 43), none, (.nilc (.t 42))⟩, []),
  (⟨(some 44), none, (.fa 0 (.t 43))⟩, []),
  (⟨(some 45), none, (.ld none (.t 44))⟩, [2]),
  (⟨(some 46), none, (.val (.t 6))⟩, []),
  (⟨(some 47), none, (.bin .add (.t 46) (.c (.i .i64 1)))⟩, []),
  (⟨(some 48), none, (.sls 3 (.t 45) (some (.t 47)) none none)⟩, []),
  (⟨(some 49), none, (.app [(.i .i64 0), (.i .i64 0), (.i .i64 0)] 24 (.t 41) (.t 48))⟩, []),
  (⟨(some 50), none, (.nilc (.t 34))⟩, []),
  (⟨(some 51), none, (.fa 0 (.t 50))⟩, []),
  (⟨none, none, (.st 1 (.t 51) (.t 49))⟩, [])]
theorem r17_5 {fn : AFun} {K : List AItem} {t : Nat → AV} {H : AH} {T : Tbl} : runR T fn (.code (.drw d17_5) :: K) t H = regR T fn K (adrn (callR T) [
  (⟨(some 34), none, (.val (.t 0))⟩, []),
  (⟨(some 35), none, (.val (.t 0))⟩, []),
  (⟨(some 36), none, (.nilc (.t 35))⟩, []),
  (⟨(some 37), none, (.fa 0 (.t 36))⟩, []),
  (⟨(some 38), none, (.ld none (.t 37))⟩, [1]),
  (⟨(some 39), none, (.val (.t 6))⟩, []),
  (⟨(some 40), none, (.sls 3 (.t 38) none (some (.t 39)) none)⟩, []),
  (⟨(some 41), none, (.app [(.i .i64 0), (.i .i64 0), (.i .i64 0)] 24 (.c (.sl none 0 0 true 0)) (.t 40))⟩, []),
  (⟨(some 42), none, (.val (.t 0))⟩, []),
  (⟨(some 43), none, (.nilc (.t 42))⟩, []),
  (⟨(some 44), none, (.fa 0 (.t 43))⟩, []),
  (⟨(some 45), none, (.ld none (.t 44))⟩, [2]),
  (⟨(some 46), none, (.val (.t 6))⟩, []),
  (⟨(some 47), none, (.bin .add (.t 46) (.c (.i .i64 1)))⟩, []),
  (⟨(some 48), none, (.sls 3 (.t 45) (some (.t 47)) none none)⟩, []),
  (⟨(some 49), none, (.app [(.i .i64 0), (.i .i64 0), (.i .i64 0)] 24 (.t 41) (.t 48))⟩, []),
  (⟨(some 50), none, (.nilc (.t 34))⟩, []),
  (⟨(some 51), none, (.fa 0 (.t 50))⟩, []),
  (⟨none, none, (.st 1 (.t 51) (.t 49))⟩, [])] t H [H]) := runR_free rfl
def d17_6 : List AOper := [
  ⟨(some 52), none, (.ld (some 3) (.t 7))⟩,
  ⟨none, none, (.st 3 (.t 4) (.t 52))⟩,
  ⟨(some 5), none, (.val (.c (.i .i64 0)))⟩]
theorem r17_6 {fn : AFun} {K : List AItem} {t : Nat → AV} {H : AH} {T : Tbl} : runR T fn (.code (.reg d17_6) :: K) t H = regR T fn K (aops (callR T) [
  ⟨(some 52), none, (.ld (some 3) (.t 7))⟩,
  ⟨none, none, (.st 3 (.t 4) (.t 52))⟩,
  ⟨(some 5), none, (.val (.c (.i .i64 0)))⟩] t H) := runR_reg'
def d17_7 : List AOper := [
  ⟨(some 15), none, (.val (.t 6))⟩,
  ⟨(some 16), none, (.bin .add (.t 15) (.c (.i .i64 1)))⟩,
  ⟨(some 6), none, (.val (.t 16))⟩]
theorem r17_7 {fn : AFun} {K : List AItem} {t : Nat → AV} {H : AH} {T : Tbl} : runR T fn (.code (.reg d17_7) :: K) t H = regR T fn K (aops (callR T) [
  ⟨(some 15), none, (.val (.t 6))⟩,
  ⟨(some 16), none, (.bin .add (.t 15) (.c (.i .i64 1)))⟩,
  ⟨(some 6), none, (.val (.t 16))⟩] t H) := runR_reg'
def l17_8 : ACode := (.seq (.seq (.reg d17_2) (.cond (.t 14) .skip (.exit 0))) (.seq (.block 1 (.seq (.reg d17_3) (.cond (.t 26) (.seq (.reg d17_4) (.seq (.drw d17_5) (.seq (.reg d17_6) .ret))) .skip))) (.reg d17_7)))
def d17_9 : List AOper := [
  ⟨(some 53), none, (.build [(.i .i64 0), (.i .i64 0), (.i .i64 0)] [])⟩,
  ⟨none, none, (.st 3 (.t 4) (.t 53))⟩,
  ⟨(some 5), none, (.val (.c (.i .i64 6)))⟩]
theorem r17_9 {fn : AFun} {K : List AItem} {t : Nat → AV} {H : AH} {T : Tbl} : runR T fn (.code (.reg d17_9) :: K) t H = regR T fn K (aops (callR T) [
  ⟨(some 53), none, (.build [(.i .i64 0), (.i .i64 0), (.i .i64 0)] [])⟩,
  ⟨none, none, (.st 3 (.t 4) (.t 53))⟩,
  ⟨(some 5), none, (.val (.c (.i .i64 6)))⟩] t H) := runR_reg'
def a17 : AFun := ⟨54, [(.cell 4 (some 3)), (.tmp 5)], (.seq (.reg d17_0) (.seq (.seq (.reg d17_1) (.block 0 (.loop l17_8))) (.seq (.reg d17_9) .ret)))⟩
theorem a17_ok : cfun Try.prog 17 = some a17 := by kernel_rfl
/-- futtock/futtocklaw11.same -/
def d18_0 : List AOper := [
  ⟨(some 4), none, (.val (.c (.b false)))⟩]
theorem r18_0 {fn : AFun} {K : List AItem} {t : Nat → AV} {H : AH} {T : Tbl} : runR T fn (.code (.reg d18_0) :: K) t H = regR T fn K (aops (callR T) [
  ⟨(some 4), none, (.val (.c (.b false)))⟩] t H) := runR_reg'
def d18_1 : List AOper := [
  ⟨(some 7), none, (.val (.t 0))⟩,
  ⟨(some 8), none, (.len (.t 7))⟩,
  ⟨(some 9), none, (.val (.t 1))⟩,
  ⟨(some 10), none, (.len (.t 9))⟩,
  ⟨(some 11), none, (.bin .neq (.t 8) (.t 10))⟩]
theorem r18_1 {fn : AFun} {K : List AItem} {t : Nat → AV} {H : AH} {T : Tbl} : runR T fn (.code (.reg d18_1) :: K) t H = regR T fn K (aops (callR T) [
  ⟨(some 7), none, (.val (.t 0))⟩,
  ⟨(some 8), none, (.len (.t 7))⟩,
  ⟨(some 9), none, (.val (.t 1))⟩,
  ⟨(some 10), none, (.len (.t 9))⟩,
  ⟨(some 11), none, (.bin .neq (.t 8) (.t 10))⟩] t H) := runR_reg'
def d18_2 : List AOper := [
  ⟨(some 4), none, (.val (.c (.b false)))⟩]
theorem r18_2 {fn : AFun} {K : List AItem} {t : Nat → AV} {H : AH} {T : Tbl} : runR T fn (.code (.reg d18_2) :: K) t H = regR T fn K (aops (callR T) [
  ⟨(some 4), none, (.val (.c (.b false)))⟩] t H) := runR_reg'
def d18_3 : List AOper := [
  ⟨(some 12), none, (.val (.t 0))⟩,
  ⟨(some 13), none, (.len (.t 12))⟩,
  ⟨(some 14), none, (.val (.c (.i .i64 0)))⟩]
theorem r18_3 {fn : AFun} {K : List AItem} {t : Nat → AV} {H : AH} {T : Tbl} : runR T fn (.code (.reg d18_3) :: K) t H = regR T fn K (aops (callR T) [
  ⟨(some 12), none, (.val (.t 0))⟩,
  ⟨(some 13), none, (.len (.t 12))⟩,
  ⟨(some 14), none, (.val (.c (.i .i64 0)))⟩] t H) := runR_reg'
def d18_4 : List AOper := [
  ⟨(some 15), none, (.bin .lss (.t 14) (.t 13))⟩]
theorem r18_4 {fn : AFun} {K : List AItem} {t : Nat → AV} {H : AH} {T : Tbl} : runR T fn (.code (.reg d18_4) :: K) t H = regR T fn K (aops (callR T) [
  ⟨(some 15), none, (.bin .lss (.t 14) (.t 13))⟩] t H) := runR_reg'
def d18_5 : List AOper := [
  ⟨(some 16), none, (.val (.t 14))⟩,
  ⟨(some 17), none, (.ia 3 (.t 12) (.t 14))⟩,
  ⟨(some 18), none, (.ld (some 3) (.t 17))⟩,
  ⟨(some 6), none, (.alloc [(.i .i64 0), (.i .i64 0), (.i .i64 0)])⟩,
  ⟨(some 5), none, (.val (.t 16))⟩,
  ⟨none, none, (.st 3 (.t 6) (.t 18))⟩]
theorem r18_5 {fn : AFun} {K : List AItem} {t : Nat → AV} {H : AH} {T : Tbl} : runR T fn (.code (.reg d18_5) :: K) t H = regR T fn K (aops (callR T) [
  ⟨(some 16), none, (.val (.t 14))⟩,
  ⟨(some 17), none, (.ia 3 (.t 12) (.t 14))⟩,
  ⟨(some 18), none, (.ld (some 3) (.t 17))⟩,
  ⟨(some 6), none, (.alloc [(.i .i64 0), (.i .i64 0), (.i .i64 0)])⟩,
  ⟨(some 5), none, (.val (.t 16))⟩,
  ⟨none, none, (.st 3 (.t 6) (.t 18))⟩] t H) := runR_reg'
def d18_6 : List (AOper × List Nat) := [
  (⟨(some 19), none, (.fa 0 (.t 6))⟩, []),
  (⟨(some 20), none, (.ld none (.t 19))⟩, [1]),
  (⟨(some 21), none, (.fa 1 (.t 6))⟩, []),
  (⟨(some 22), none, (.ld none (.t 21))⟩, [1]),
  (⟨(some 23), none, (.fa 2 (.t 6))⟩, []),
  (⟨(some 24), none, (.ld none (.t 23))⟩, [1]),
  (⟨(some 25), none, (.build [(.i .i64 0), (.i .i64 0), (.i .i64 0)] [(0, 1, (.t 20)), (1, 1, (.t 22)), (2, 1, (.t 24))])⟩, []),
  (⟨(some 26), none, (.val (.t 1))⟩, []),
  (⟨(some 27), none, (.val (.t 5))⟩, []),
  (⟨(some 28), none, (.ia 3 (.t 26) (.t 27))⟩, []),
  (⟨(some 29), none, (.ld (some 3) (.t 28))⟩, [1]),
  (⟨(some 30), none, (.eqc [0, 0, 0] true (.t 25) (.t 29))⟩, [])]
theorem r18_6 {fn : AFun} {K : List AItem} {t : Nat → AV} {H : AH} {T : Tbl} : runR T fn (.code (.drw d18_6) :: K) t H = regR T fn K (aops (callR T) [
  ⟨(some 19), none, (.fa 0 (.t 6))⟩,
  ⟨(some 20), none, (.ld none (.t 19))⟩,
  ⟨(some 21), none, (.fa 1 (.t 6))⟩,
  ⟨(some 22), none, (.ld none (.t 21))⟩,
  ⟨(some 23), none, (.fa 2 (.t 6))⟩,
  ⟨(some 24), none, (.ld none (.t 23))⟩,
  ⟨(some 25), none, (.build [(.i .i64 0), (.i .i64 0), (.i .i64 0)] [(0, 1, (.t 20)), (1, 1, (.t 22)), (2, 1, (.t 24))])⟩,
  ⟨(some 26), none, (.val (.t 1))⟩,
  ⟨(some 27), none, (.val (.t 5))⟩,
  ⟨(some 28), none, (.ia 3 (.t 26) (.t 27))⟩,
  ⟨(some 29), none, (.ld (some 3) (.t 28))⟩,
  ⟨(some 30), none, (.eqc [0, 0, 0] true (.t 25) (.t 29))⟩] t H) := runR_plain rfl
def d18_7 : List AOper := [
  ⟨(some 4), none, (.val (.c (.b false)))⟩]
theorem r18_7 {fn : AFun} {K : List AItem} {t : Nat → AV} {H : AH} {T : Tbl} : runR T fn (.code (.reg d18_7) :: K) t H = regR T fn K (aops (callR T) [
  ⟨(some 4), none, (.val (.c (.b false)))⟩] t H) := runR_reg'
def d18_8 : List AOper := [
  ⟨(some 31), none, (.bin .add (.t 14) (.c (.i .i64 1)))⟩,
  ⟨(some 14), none, (.val (.t 31))⟩]
theorem r18_8 {fn : AFun} {K : List AItem} {t : Nat → AV} {H : AH} {T : Tbl} : runR T fn (.code (.reg d18_8) :: K) t H = regR T fn K (aops (callR T) [
  ⟨(some 31), none, (.bin .add (.t 14) (.c (.i .i64 1)))⟩,
  ⟨(some 14), none, (.val (.t 31))⟩] t H) := runR_reg'
def l18_9 : ACode := (.seq (.reg d18_4) (.seq (.cond (.t 15) .skip (.exit 0)) (.seq (.block 1 (.seq (.reg d18_5) (.seq (.drw d18_6) (.cond (.t 30) (.seq (.reg d18_7) .ret) .skip)))) (.reg d18_8))))
def d18_10 : List AOper := [
  ⟨(some 4), none, (.val (.c (.b true)))⟩]
theorem r18_10 {fn : AFun} {K : List AItem} {t : Nat → AV} {H : AH} {T : Tbl} : runR T fn (.code (.reg d18_10) :: K) t H = regR T fn K (aops (callR T) [
  ⟨(some 4), none, (.val (.c (.b true)))⟩] t H) := runR_reg'
def a18 : AFun := ⟨32, [(.tmp 4)], (.seq (.reg d18_0) (.seq (.seq (.reg d18_1) (.cond (.t 11) (.seq (.reg d18_2) .ret) .skip)) (.seq (.seq (.reg d18_3) (.block 0 (.loop l18_9))) (.seq (.reg d18_10) .ret))))⟩
theorem a18_ok : cfun Try.prog 18 = some a18 := by kernel_rfl
/-- (*futtock/futtockref11.Book).Add -/
def d19_0 : List AOper := [
  ⟨(some 3), none, (.box (.t 1))⟩,
  ⟨(some 4), none, (.val (.c (.i .i64 0)))⟩]
theorem r19_0 {fn : AFun} {K : List AItem} {t : Nat → AV} {H : AH} {T : Tbl} : runR T fn (.code (.reg d19_0) :: K) t H = regR T fn K (aops (callR T) [
  ⟨(some 3), none, (.box (.t 1))⟩,
  ⟨(some 4), none, (.val (.c (.i .i64 0)))⟩] t H) := runR_reg'
def d19_1 : List AOper := [
  ⟨(some 8), none, (.fa 0 (.t 3))⟩,
  ⟨(some 9), none, (.ld none (.t 8))⟩,
  ⟨(some 10), none, (.bin .lss (.t 9) (.c (.i .i64 0)))⟩,
  ⟨(some 11), none, (.val (.t 10))⟩,
  ⟨(some 12), (some (11, false)), (.fa 0 (.t 3))⟩,
  ⟨(some 13), (some (11, false)), (.ld none (.t 12))⟩,
  ⟨(some 14), (some (11, false)), (.bin .geq (.t 13) (.c (.i .i64 4096)))⟩,
  ⟨(some 15), none, (.pick (.t 11) (.c (.b true)) (.t 14))⟩,
  ⟨(some 16), none, (.val (.t 15))⟩,
  ⟨(some 17), (some (16, false)), (.fa 1 (.t 3))⟩,
  ⟨(some 18), (some (16, false)), (.ld none (.t 17))⟩,
  ⟨(some 19), (some (16, false)), (.bin .lss (.t 18) (.c (.i .i64 0)))⟩,
  ⟨(some 20), none, (.pick (.t 16) (.c (.b true)) (.t 19))⟩,
  ⟨(some 21), none, (.val (.t 20))⟩,
  ⟨(some 22), (some (21, false)), (.fa 1 (.t 3))⟩,
  ⟨(some 23), (some (21, false)), (.ld none (.t 22))⟩,
  ⟨(some 24), (some (21, false)), (.bin .geq (.t 23) (.c (.i .i64 65536)))⟩,
  ⟨(some 25), none, (.pick (.t 21) (.c (.b true)) (.t 24))⟩,
  ⟨(some 26), none, (.val (.t 25))⟩,
  ⟨(some 27), (some (26, false)), (.fa 2 (.t 3))⟩,
  ⟨(some 28), (some (26, false)), (.ld none (.t 27))⟩,
  ⟨(some 29), (some (26, false)), (.bin .lss (.t 28) (.c (.i .i64 0)))⟩,
  ⟨(some 30), none, (.pick (.t 26) (.c (.b true)) (.t 29))⟩,
  ⟨(some 31), none, (.val (.t 30))⟩,
  ⟨(some 32), (some (31, false)), (.fa 2 (.t 3))⟩,
  ⟨(some 33), (some (31, false)), (.ld none (.t 32))⟩,
  ⟨(some 34), (some (31, false)), (.bin .geq (.t 33) (.c (.i .i64 256)))⟩,
  ⟨(some 35), none, (.pick (.t 31) (.c (.b true)) (.t 34))⟩]
theorem r19_1 {fn : AFun} {K : List AItem} {t : Nat → AV} {H : AH} {T : Tbl} : runR T fn (.code (.reg d19_1) :: K) t H = regR T fn K (aops (callR T) [
  ⟨(some 8), none, (.fa 0 (.t 3))⟩,
  ⟨(some 9), none, (.ld none (.t 8))⟩,
  ⟨(some 10), none, (.bin .lss (.t 9) (.c (.i .i64 0)))⟩,
  ⟨(some 11), none, (.val (.t 10))⟩,
  ⟨(some 12), (some (11, false)), (.fa 0 (.t 3))⟩,
  ⟨(some 13), (some (11, false)), (.ld none (.t 12))⟩,
  ⟨(some 14), (some (11, false)), (.bin .geq (.t 13) (.c (.i .i64 4096)))⟩,
  ⟨(some 15), none, (.pick (.t 11) (.c (.b true)) (.t 14))⟩,
  ⟨(some 16), none, (.val (.t 15))⟩,
  ⟨(some 17), (some (16, false)), (.fa 1 (.t 3))⟩,
  ⟨(some 18), (some (16, false)), (.ld none (.t 17))⟩,
  ⟨(some 19), (some (16, false)), (.bin .lss (.t 18) (.c (.i .i64 0)))⟩,
  ⟨(some 20), none, (.pick (.t 16) (.c (.b true)) (.t 19))⟩,
  ⟨(some 21), none, (.val (.t 20))⟩,
  ⟨(some 22), (some (21, false)), (.fa 1 (.t 3))⟩,
  ⟨(some 23), (some (21, false)), (.ld none (.t 22))⟩,
  ⟨(some 24), (some (21, false)), (.bin .geq (.t 23) (.c (.i .i64 65536)))⟩,
  ⟨(some 25), none, (.pick (.t 21) (.c (.b true)) (.t 24))⟩,
  ⟨(some 26), none, (.val (.t 25))⟩,
  ⟨(some 27), (some (26, false)), (.fa 2 (.t 3))⟩,
  ⟨(some 28), (some (26, false)), (.ld none (.t 27))⟩,
  ⟨(some 29), (some (26, false)), (.bin .lss (.t 28) (.c (.i .i64 0)))⟩,
  ⟨(some 30), none, (.pick (.t 26) (.c (.b true)) (.t 29))⟩,
  ⟨(some 31), none, (.val (.t 30))⟩,
  ⟨(some 32), (some (31, false)), (.fa 2 (.t 3))⟩,
  ⟨(some 33), (some (31, false)), (.ld none (.t 32))⟩,
  ⟨(some 34), (some (31, false)), (.bin .geq (.t 33) (.c (.i .i64 256)))⟩,
  ⟨(some 35), none, (.pick (.t 31) (.c (.b true)) (.t 34))⟩] t H) := runR_reg'
def d19_2 : List AOper := [
  ⟨(some 4), none, (.val (.c (.i .i64 1)))⟩]
theorem r19_2 {fn : AFun} {K : List AItem} {t : Nat → AV} {H : AH} {T : Tbl} : runR T fn (.code (.reg d19_2) :: K) t H = regR T fn K (aops (callR T) [
  ⟨(some 4), none, (.val (.c (.i .i64 1)))⟩] t H) := runR_reg'
def d19_3 : List AOper := [
  ⟨(some 5), none, (.val (.c (.sl none 0 0 true 0)))⟩,
  ⟨(some 6), none, (.val (.c (.sl none 0 0 true 0)))⟩]
theorem r19_3 {fn : AFun} {K : List AItem} {t : Nat → AV} {H : AH} {T : Tbl} : runR T fn (.code (.reg d19_3) :: K) t H = regR T fn K (aops (callR T) [
  ⟨(some 5), none, (.val (.c (.sl none 0 0 true 0)))⟩,
  ⟨(some 6), none, (.val (.c (.sl none 0 0 true 0)))⟩] t H) := runR_reg'
def d19_4 : List AOper := [
  ⟨(some 7), none, (.val (.c (.i .i64 0)))⟩]
theorem r19_4 {fn : AFun} {K : List AItem} {t : Nat → AV} {H : AH} {T : Tbl} : runR T fn (.code (.reg d19_4) :: K) t H = regR T fn K (aops (callR T) [
  ⟨(some 7), none, (.val (.c (.i .i64 0)))⟩] t H) := runR_reg'
def d19_5 : List AOper := [
  ⟨(some 36), none, (.val (.t 7))⟩,
  ⟨(some 37), none, (.val (.t 0))⟩,
  ⟨(some 38), none, (.nilc (.t 37))⟩,
  ⟨(some 39), none, (.fa 0 (.t 38))⟩,
  ⟨(some 40), none, (.ld none (.t 39))⟩,
  ⟨(some 41), none, (.len (.t 40))⟩,
  ⟨(some 42), none, (.bin .lss (.t 36) (.t 41))⟩]
theorem r19_5 {fn : AFun} {K : List AItem} {t : Nat → AV} {H : AH} {T : Tbl} : runR T fn (.code (.reg d19_5) :: K) t H = regR T fn K (aops (callR T) [
  ⟨(some 36), none, (.val (.t 7))⟩,
  ⟨(some 37), none, (.val (.t 0))⟩,
  ⟨(some 38), none, (.nilc (.t 37))⟩,
  ⟨(some 39), none, (.fa 0 (.t 38))⟩,
  ⟨(some 40), none, (.ld none (.t 39))⟩,
  ⟨(some 41), none, (.len (.t 40))⟩,
  ⟨(some 42), none, (.bin .lss (.t 36) (.t 41))⟩] t H) := runR_reg'
def d19_6 : List (AOper × List Nat) := [
  (⟨(some 45), none, (.val (.t 0))⟩, []),
  (⟨(some 46), none, (.nilc (.t 45))⟩, []),
  (⟨(some 47), none, (.fa 0 (.t 46))⟩, []),
  (⟨(some 48), none, (.ld none (.t 47))⟩, [1]),
  (⟨(some 49), none, (.val (.t 7))⟩, []),
  (⟨(some 50), none, (.ia 3 (.t 48) (.t 49))⟩, []),
  (⟨(some 51), none, (.fa 0 (.t 50))⟩, []),
  (⟨(some 52), none, (.ld none (.t 51))⟩, [1]),
  (⟨(some 53), none, (.fa 0 (.t 3))⟩, []),
  (⟨(some 54), none, (.ld none (.t 53))⟩, [1]),
  (⟨(some 55), none, (.bin .eql (.t 52) (.t 54))⟩, []),
  (⟨(some 56), none, (.val (.t 55))⟩, []),
  (⟨(some 57), (some (56, false)), (.val (.t 0))⟩, []),
  (⟨(some 58), (some (56, false)), (.nilc (.t 57))⟩, []),
  (⟨(some 59), (some (56, false)), (.fa 0 (.t 58))⟩, []),
  (⟨(some 60), (some (56, false)), (.ld none (.t 59))⟩, [1]),
  (⟨(some 61), (some (56, false)), (.val (.t 7))⟩, []),
  (⟨(some 62), (some (56, false)), (.ia 3 (.t 60) (.t 61))⟩, []),
  (⟨(some 63), (some (56, false)), (.fa 1 (.t 62))⟩, []),
  (⟨(some 64), (some (56, false)), (.ld none (.t 63))⟩, [1]),
  (⟨(some 65), (some (56, false)), (.fa 1 (.t 3))⟩, []),
  (⟨(some 66), (some (56, false)), (.ld none (.t 65))⟩, [1]),
  (⟨(some 67), (some (56, false)), (.bin .eql (.t 64) (.t 66))⟩, []),
  (⟨(some 68), none, (.pick (.t 56) (.c (.b true)) (.t 67))⟩, [])]
theorem r19_6 {fn : AFun} {K : List AItem} {t : Nat → AV} {H : AH} {T : Tbl} : runR T fn (.code (.drw d19_6) :: K) t H = regR T fn K (aops (callR T) [
  ⟨(some 45), none, (.val (.t 0))⟩,
  ⟨(some 46), none, (.nilc (.t 45))⟩,
  ⟨(some 47), none, (.fa 0 (.t 46))⟩,
  ⟨(some 48), none, (.ld none (.t 47))⟩,
  ⟨(some 49), none, (.val (.t 7))⟩,
  ⟨(some 50), none, (.ia 3 (.t 48) (.t 49))⟩,
  ⟨(some 51), none, (.fa 0 (.t 50))⟩,
  ⟨(some 52), none, (.ld none (.t 51))⟩,
  ⟨(some 53), none, (.fa 0 (.t 3))⟩,
  ⟨(some 54), none, (.ld none (.t 53))⟩,
  ⟨(some 55), none, (.bin .eql (.t 52) (.t 54))⟩,
  ⟨(some 56), none, (.val (.t 55))⟩,
  ⟨(some 57), (some (56, false)), (.val (.t 0))⟩,
  ⟨(some 58), (some (56, false)), (.nilc (.t 57))⟩,
  ⟨(some 59), (some (56, false)), (.fa 0 (.t 58))⟩,
  ⟨(some 60), (some (56, false)), (.ld none (.t 59))⟩,
  ⟨(some 61), (some (56, false)), (.val (.t 7))⟩,
  ⟨(some 62), (some (56, false)), (.ia 3 (.t 60) (.t 61))⟩,
  ⟨(some 63), (some (56, false)), (.fa 1 (.t 62))⟩,
  ⟨(some 64), (some (56, false)), (.ld none (.t 63))⟩,
  ⟨(some 65), (some (56, false)), (.fa 1 (.t 3))⟩,
  ⟨(some 66), (some (56, false)), (.ld none (.t 65))⟩,
  ⟨(some 67), (some (56, false)), (.bin .eql (.t 64) (.t 66))⟩,
  ⟨(some 68), none, (.pick (.t 56) (.c (.b true)) (.t 67))⟩] t H) := runR_plain rfl
def d19_7 : List AOper := [
  ⟨(some 4), none, (.val (.c (.i .i64 7)))⟩]
theorem r19_7 {fn : AFun} {K : List AItem} {t : Nat → AV} {H : AH} {T : Tbl} : runR T fn (.code (.reg d19_7) :: K) t H = regR T fn K (aops (callR T) [
  ⟨(some 4), none, (.val (.c (.i .i64 7)))⟩] t H) := runR_reg'
def d19_8 : List (AOper × List Nat) := [
  (⟨(some 69), none, (.val (.t 0))⟩, []),
  (⟨(some 70), none, (.nilc (.t 69))⟩, []),
  (⟨(some 71), none, (.fa 0 (.t 70))⟩, []),
  (⟨(some 72), none, (.ld none (.t 71))⟩, [1]),
  (⟨(some 73), none, (.val (.t 7))⟩, []),
  (⟨(some 74), none, (.ia 3 (.t 72) (.t 73))⟩, []),
  (⟨(some 75), none, (.fa 0 (.t 74))⟩, []),
  (⟨(some 76), none, (.ld none (.t 75))⟩, [1]),
  (⟨(some 77), none, (.fa 0 (.t 3))⟩, []),
  (⟨(some 78), none, (.ld none (.t 77))⟩, [1]),
  (⟨(some 79), none, (.bin .lss (.t 76) (.t 78))⟩, [])]
theorem r19_8 {fn : AFun} {K : List AItem} {t : Nat → AV} {H : AH} {T : Tbl} : runR T fn (.code (.drw d19_8) :: K) t H = regR T fn K (aops (callR T) [
  ⟨(some 69), none, (.val (.t 0))⟩,
  ⟨(some 70), none, (.nilc (.t 69))⟩,
  ⟨(some 71), none, (.fa 0 (.t 70))⟩,
  ⟨(some 72), none, (.ld none (.t 71))⟩,
  ⟨(some 73), none, (.val (.t 7))⟩,
  ⟨(some 74), none, (.ia 3 (.t 72) (.t 73))⟩,
  ⟨(some 75), none, (.fa 0 (.t 74))⟩,
  ⟨(some 76), none, (.ld none (.t 75))⟩,
  ⟨(some 77), none, (.fa 0 (.t 3))⟩,
  ⟨(some 78), none, (.ld none (.t 77))⟩,
  ⟨(some 79), none, (.bin .lss (.t 76) (.t 78))⟩] t H) := runR_plain rfl
def d19_9 : List AOper := [
  ⟨(some 80), none, (.val (.t 5))⟩,
  ⟨(some 81), none, (.val (.t 0))⟩,
  ⟨(some 82), none, (.nilc (.t 81))⟩,
  ⟨(some 83), none, (.fa 0 (.t 82))⟩,
  ⟨(some 84), none, (.ld none (.t 83))⟩,
  ⟨(some 85), none, (.val (.t 7))⟩,
  ⟨(some 86), none, (.ia 3 (.t 84) (.t 85))⟩,
  ⟨(some 87), none, (.ld (some 3) (.t 86))⟩,
  ⟨(some 88), none, (.bsl [(.i .i64 0), (.i .i64 0), (.i .i64 0)] 1 [(0, 3, (.t 87))])⟩,
  ⟨(some 89), none, (.app [(.i .i64 0), (.i .i64 0), (.i .i64 0)] 24 (.t 80) (.t 88))⟩,
  ⟨(some 5), none, (.val (.t 89))⟩]
theorem r19_9 {fn : AFun} {K : List AItem} {t : Nat → AV} {H : AH} {T : Tbl} : runR T fn (.code (.reg d19_9) :: K) t H = regR T fn K (aops (callR T) [
  ⟨(some 80), none, (.val (.t 5))⟩,
  ⟨(some 81), none, (.val (.t 0))⟩,
  ⟨(some 82), none, (.nilc (.t 81))⟩,
  ⟨(some 83), none, (.fa 0 (.t 82))⟩,
  ⟨(some 84), none, (.ld none (.t 83))⟩,
  ⟨(some 85), none, (.val (.t 7))⟩,
  ⟨(some 86), none, (.ia 3 (.t 84) (.t 85))⟩,
  ⟨(some 87), none, (.ld (some 3) (.t 86))⟩,
  ⟨(some 88), none, (.bsl [(.i .i64 0), (.i .i64 0), (.i .i64 0)] 1 [(0, 3, (.t 87))])⟩,
  ⟨(some 89), none, (.app [(.i .i64 0), (.i .i64 0), (.i .i64 0)] 24 (.t 80) (.t 88))⟩,
  ⟨(some 5), none, (.val (.t 89))⟩] t H) := runR_reg'
def d19_10 : List AOper := [
  ⟨(some 90), none, (.val (.t 6))⟩,
  ⟨(some 91), none, (.val (.t 0))⟩,
  ⟨(some 92), none, (.nilc (.t 91))⟩,
  ⟨(some 93), none, (.fa 0 (.t 92))⟩,
  ⟨(some 94), none, (.ld none (.t 93))⟩,
  ⟨(some 95), none, (.val (.t 7))⟩,
  ⟨(some 96), none, (.ia 3 (.t 94) (.t 95))⟩,
  ⟨(some 97), none, (.ld (some 3) (.t 96))⟩,
  ⟨(some 98), none, (.bsl [(.i .i64 0), (.i .i64 0), (.i .i64 0)] 1 [(0, 3, (.t 97))])⟩,
  ⟨(some 99), none, (.app [(.i .i64 0), (.i .i64 0), (.i .i64 0)] 24 (.t 90) (.t 98))⟩,
  ⟨(some 6), none, (.val (.t 99))⟩]
theorem r19_10 {fn : AFun} {K : List AItem} {t : Nat → AV} {H : AH} {T : Tbl} : runR T fn (.code (.reg d19_10) :: K) t H = regR T fn K (aops (callR T) [
  ⟨(some 90), none, (.val (.t 6))⟩,
  ⟨(some 91), none, (.val (.t 0))⟩,
  ⟨(some 92), none, (.nilc (.t 91))⟩,
  ⟨(some 93), none, (.fa 0 (.t 92))⟩,
  ⟨(some 94), none, (.ld none (.t 93))⟩,
  ⟨(some 95), none, (.val (.t 7))⟩,
  ⟨(some 96), none, (.ia 3 (.t 94) (.t 95))⟩,
  ⟨(some 97), none, (.ld (some 3) (.t 96))⟩,
  ⟨(some 98), none, (.bsl [(.i .i64 0), (.i .i64 0), (.i .i64 0)] 1 [(0, 3, (.t 97))])⟩,
  ⟨(some 99), none, (.app [(.i .i64 0), (.i .i64 0), (.i .i64 0)] 24 (.t 90) (.t 98))⟩,
  ⟨(some 6), none, (.val (.t 99))⟩] t H) := runR_reg'
def d19_11 : List AOper := [
  ⟨(some 43), none, (.val (.t 7))⟩,
  ⟨(some 44), none, (.bin .add (.t 43) (.c (.i .i64 1)))⟩,
  ⟨(some 7), none, (.val (.t 44))⟩]
theorem r19_11 {fn : AFun} {K : List AItem} {t : Nat → AV} {H : AH} {T : Tbl} : runR T fn (.code (.reg d19_11) :: K) t H = regR T fn K (aops (callR T) [
  ⟨(some 43), none, (.val (.t 7))⟩,
  ⟨(some 44), none, (.bin .add (.t 43) (.c (.i .i64 1)))⟩,
  ⟨(some 7), none, (.val (.t 44))⟩] t H) := runR_reg'
def l19_12 : ACode := (.seq (.seq (.reg d19_5) (.cond (.t 42) .skip (.exit 0))) (.seq (.block 1 (.seq (.seq (.drw d19_6) (.cond (.t 68) (.seq (.reg d19_7) .ret) .skip)) (.seq (.drw d19_8) (.cond (.t 79) (.reg d19_9) (.reg d19_10))))) (.reg d19_11)))
def d19_13 : List AOper := [
  ⟨(some 100), none, (.val (.t 0))⟩,
  ⟨(some 101), none, (.val (.t 5))⟩,
  ⟨(some 102), none, (.ld (some 3) (.t 3))⟩,
  ⟨(some 103), none, (.bsl [(.i .i64 0), (.i .i64 0), (.i .i64 0)] 1 [(0, 3, (.t 102))])⟩,
  ⟨(some 104), none, (.app [(.i .i64 0), (.i .i64 0), (.i .i64 0)] 24 (.t 101) (.t 103))⟩,
  ⟨(some 105), none, (.val (.t 6))⟩,
  ⟨(some 106), none, (.app [(.i .i64 0), (.i .i64 0), (.i .i64 0)] 24 (.t 104) (.t 105))⟩,
  ⟨(some 107), none, (.nilc (.t 100))⟩,
  ⟨(some 108), none, (.fa 0 (.t 107))⟩,
  ⟨none, none, (.st 1 (.t 108) (.t 106))⟩]
theorem r19_13 {fn : AFun} {K : List AItem} {t : Nat → AV} {H : AH} {T : Tbl} : runR T fn (.code (.reg d19_13) :: K) t H = regR T fn K (aops (callR T) [
  ⟨(some 100), none, (.val (.t 0))⟩,
  ⟨(some 101), none, (.val (.t 5))⟩,
  ⟨(some 102), none, (.ld (some 3) (.t 3))⟩,
  ⟨(some 103), none, (.bsl [(.i .i64 0), (.i .i64 0), (.i .i64 0)] 1 [(0, 3, (.t 102))])⟩,
  ⟨(some 104), none, (.app [(.i .i64 0), (.i .i64 0), (.i .i64 0)] 24 (.t 101) (.t 103))⟩,
  ⟨(some 105), none, (.val (.t 6))⟩,
  ⟨(some 106), none, (.app [(.i .i64 0), (.i .i64 0), (.i .i64 0)] 24 (.t 104) (.t 105))⟩,
  ⟨(some 107), none, (.nilc (.t 100))⟩,
  ⟨(some 108), none, (.fa 0 (.t 107))⟩,
  ⟨none, none, (.st 1 (.t 108) (.t 106))⟩] t H) := runR_reg'
def d19_14 : List AOper := [
  ⟨(some 4), none, (.val (.c (.i .i64 0)))⟩]
theorem r19_14 {fn : AFun} {K : List AItem} {t : Nat → AV} {H : AH} {T : Tbl} : runR T fn (.code (.reg d19_14) :: K) t H = regR T fn K (aops (callR T) [
  ⟨(some 4), none, (.val (.c (.i .i64 0)))⟩] t H) := runR_reg'
def a19 : AFun := ⟨109, [(.tmp 4)], (.seq (.reg d19_0) (.seq (.seq (.reg d19_1) (.cond (.t 35) (.seq (.reg d19_2) .ret) .skip)) (.seq (.reg d19_3) (.seq (.seq (.reg d19_4) (.block 0 (.loop l19_12))) (.seq (.reg d19_13) (.seq (.reg d19_14) .ret))))))⟩
theorem a19_ok : cfun Try.prog 19 = some a19 := by kernel_rfl
/-- (*futtock/futtockref11.Book).Slot -/
def d20_0 : List AOper := [
  ⟨(some 4), none, (.val (.c (.i .i64 0)))⟩,
  ⟨(some 5), none, (.val (.c (.b false)))⟩]
theorem r20_0 {fn : AFun} {K : List AItem} {t : Nat → AV} {H : AH} {T : Tbl} : runR T fn (.code (.reg d20_0) :: K) t H = regR T fn K (aops (callR T) [
  ⟨(some 4), none, (.val (.c (.i .i64 0)))⟩,
  ⟨(some 5), none, (.val (.c (.b false)))⟩] t H) := runR_reg'
def d20_1 : List AOper := [
  ⟨(some 6), none, (.val (.c (.i .i64 0)))⟩]
theorem r20_1 {fn : AFun} {K : List AItem} {t : Nat → AV} {H : AH} {T : Tbl} : runR T fn (.code (.reg d20_1) :: K) t H = regR T fn K (aops (callR T) [
  ⟨(some 6), none, (.val (.c (.i .i64 0)))⟩] t H) := runR_reg'
def d20_2 : List AOper := [
  ⟨(some 7), none, (.val (.t 6))⟩,
  ⟨(some 8), none, (.val (.t 0))⟩,
  ⟨(some 9), none, (.nilc (.t 8))⟩,
  ⟨(some 10), none, (.fa 0 (.t 9))⟩,
  ⟨(some 11), none, (.ld none (.t 10))⟩,
  ⟨(some 12), none, (.len (.t 11))⟩,
  ⟨(some 13), none, (.bin .lss (.t 7) (.t 12))⟩]
theorem r20_2 {fn : AFun} {K : List AItem} {t : Nat → AV} {H : AH} {T : Tbl} : runR T fn (.code (.reg d20_2) :: K) t H = regR T fn K (aops (callR T) [
  ⟨(some 7), none, (.val (.t 6))⟩,
  ⟨(some 8), none, (.val (.t 0))⟩,
  ⟨(some 9), none, (.nilc (.t 8))⟩,
  ⟨(some 10), none, (.fa 0 (.t 9))⟩,
  ⟨(some 11), none, (.ld none (.t 10))⟩,
  ⟨(some 12), none, (.len (.t 11))⟩,
  ⟨(some 13), none, (.bin .lss (.t 7) (.t 12))⟩] t H) := runR_reg'
def d20_3 : List AOper := [
  ⟨(some 16), none, (.val (.t 0))⟩,
  ⟨(some 17), none, (.nilc (.t 16))⟩,
  ⟨(some 18), none, (.fa 0 (.t 17))⟩,
  ⟨(some 19), none, (.ld none (.t 18))⟩,
  ⟨(some 20), none, (.val (.t 6))⟩,
  ⟨(some 21), none, (.ia 3 (.t 19) (.t 20))⟩,
  ⟨(some 22), none, (.fa 1 (.t 21))⟩,
  ⟨(some 23), none, (.ld none (.t 22))⟩,
  ⟨(some 24), none, (.val (.t 1))⟩,
  ⟨(some 25), none, (.bin .eql (.t 23) (.t 24))⟩]
theorem r20_3 {fn : AFun} {K : List AItem} {t : Nat → AV} {H : AH} {T : Tbl} : runR T fn (.code (.reg d20_3) :: K) t H = regR T fn K (aops (callR T) [
  ⟨(some 16), none, (.val (.t 0))⟩,
  ⟨(some 17), none, (.nilc (.t 16))⟩,
  ⟨(some 18), none, (.fa 0 (.t 17))⟩,
  ⟨(some 19), none, (.ld none (.t 18))⟩,
  ⟨(some 20), none, (.val (.t 6))⟩,
  ⟨(some 21), none, (.ia 3 (.t 19) (.t 20))⟩,
  ⟨(some 22), none, (.fa 1 (.t 21))⟩,
  ⟨(some 23), none, (.ld none (.t 22))⟩,
  ⟨(some 24), none, (.val (.t 1))⟩,
  ⟨(some 25), none, (.bin .eql (.t 23) (.t 24))⟩] t H) := runR_reg'
def d20_4 : List AOper := [
  ⟨(some 26), none, (.val (.t 0))⟩,
  ⟨(some 27), none, (.nilc (.t 26))⟩,
  ⟨(some 28), none, (.fa 0 (.t 27))⟩,
  ⟨(some 29), none, (.ld none (.t 28))⟩,
  ⟨(some 30), none, (.val (.t 6))⟩,
  ⟨(some 31), none, (.ia 3 (.t 29) (.t 30))⟩,
  ⟨(some 32), none, (.fa 0 (.t 31))⟩,
  ⟨(some 33), none, (.ld none (.t 32))⟩,
  ⟨(some 4), none, (.val (.t 33))⟩,
  ⟨(some 5), none, (.val (.c (.b true)))⟩]
theorem r20_4 {fn : AFun} {K : List AItem} {t : Nat → AV} {H : AH} {T : Tbl} : runR T fn (.code (.reg d20_4) :: K) t H = regR T fn K (aops (callR T) [
  ⟨(some 26), none, (.val (.t 0))⟩,
  ⟨(some 27), none, (.nilc (.t 26))⟩,
  ⟨(some 28), none, (.fa 0 (.t 27))⟩,
  ⟨(some 29), none, (.ld none (.t 28))⟩,
  ⟨(some 30), none, (.val (.t 6))⟩,
  ⟨(some 31), none, (.ia 3 (.t 29) (.t 30))⟩,
  ⟨(some 32), none, (.fa 0 (.t 31))⟩,
  ⟨(some 33), none, (.ld none (.t 32))⟩,
  ⟨(some 4), none, (.val (.t 33))⟩,
  ⟨(some 5), none, (.val (.c (.b true)))⟩] t H) := runR_reg'
def d20_5 : List AOper := [
  ⟨(some 14), none, (.val (.t 6))⟩,
  ⟨(some 15), none, (.bin .add (.t 14) (.c (.i .i64 1)))⟩,
  ⟨(some 6), none, (.val (.t 15))⟩]
theorem r20_5 {fn : AFun} {K : List AItem} {t : Nat → AV} {H : AH} {T : Tbl} : runR T fn (.code (.reg d20_5) :: K) t H = regR T fn K (aops (callR T) [
  ⟨(some 14), none, (.val (.t 6))⟩,
  ⟨(some 15), none, (.bin .add (.t 14) (.c (.i .i64 1)))⟩,
  ⟨(some 6), none, (.val (.t 15))⟩] t H) := runR_reg'
def l20_6 : ACode := (.seq (.seq (.reg d20_2) (.cond (.t 13) .skip (.exit 0))) (.seq (.block 1 (.seq (.reg d20_3) (.cond (.t 25) (.seq (.reg d20_4) .ret) .skip))) (.reg d20_5)))
def d20_7 : List AOper := [
  ⟨(some 4), none, (.val (.c (.i .i64 0)))⟩,
  ⟨(some 5), none, (.val (.c (.b false)))⟩]
theorem r20_7 {fn : AFun} {K : List AItem} {t : Nat → AV} {H : AH} {T : Tbl} : runR T fn (.code (.reg d20_7) :: K) t H = regR T fn K (aops (callR T) [
  ⟨(some 4), none, (.val (.c (.i .i64 0)))⟩,
  ⟨(some 5), none, (.val (.c (.b false)))⟩] t H) := runR_reg'
def a20 : AFun := ⟨34, [(.tmp 4), (.tmp 5)], (.seq (.reg d20_0) (.seq (.seq (.reg d20_1) (.block 0 (.loop l20_6))) (.seq (.reg d20_7) .ret)))⟩
theorem a20_ok : cfun Try.prog 20 = some a20 := by kernel_rfl
/-- (*futtock/futtockref11.Book).Obj -/
def d21_0 : List AOper := [
  ⟨(some 4), none, (.val (.c (.i .i64 0)))⟩,
  ⟨(some 5), none, (.val (.c (.b false)))⟩]
theorem r21_0 {fn : AFun} {K : List AItem} {t : Nat → AV} {H : AH} {T : Tbl} : runR T fn (.code (.reg d21_0) :: K) t H = regR T fn K (aops (callR T) [
  ⟨(some 4), none, (.val (.c (.i .i64 0)))⟩,
  ⟨(some 5), none, (.val (.c (.b false)))⟩] t H) := runR_reg'
def d21_1 : List AOper := [
  ⟨(some 6), none, (.val (.c (.i .i64 0)))⟩]
theorem r21_1 {fn : AFun} {K : List AItem} {t : Nat → AV} {H : AH} {T : Tbl} : runR T fn (.code (.reg d21_1) :: K) t H = regR T fn K (aops (callR T) [
  ⟨(some 6), none, (.val (.c (.i .i64 0)))⟩] t H) := runR_reg'
def d21_2 : List AOper := [
  ⟨(some 7), none, (.val (.t 6))⟩,
  ⟨(some 8), none, (.val (.t 0))⟩,
  ⟨(some 9), none, (.nilc (.t 8))⟩,
  ⟨(some 10), none, (.fa 0 (.t 9))⟩,
  ⟨(some 11), none, (.ld none (.t 10))⟩,
  ⟨(some 12), none, (.len (.t 11))⟩,
  ⟨(some 13), none, (.bin .lss (.t 7) (.t 12))⟩]
theorem r21_2 {fn : AFun} {K : List AItem} {t : Nat → AV} {H : AH} {T : Tbl} : runR T fn (.code (.reg d21_2) :: K) t H = regR T fn K (aops (callR T) [
  ⟨(some 7), none, (.val (.t 6))⟩,
  ⟨(some 8), none, (.val (.t 0))⟩,
  ⟨(some 9), none, (.nilc (.t 8))⟩,
  ⟨(some 10), none, (.fa 0 (.t 9))⟩,
  ⟨(some 11), none, (.ld none (.t 10))⟩,
  ⟨(some 12), none, (.len (.t 11))⟩,
  ⟨(some 13), none, (.bin .lss (.t 7) (.t 12))⟩] t H) := runR_reg'
def d21_3 : List AOper := [
  ⟨(some 16), none, (.val (.t 0))⟩,
  ⟨(some 17), none, (.nilc (.t 16))⟩,
  ⟨(some 18), none, (.fa 0 (.t 17))⟩,
  ⟨(some 19), none, (.ld none (.t 18))⟩,
  ⟨(some 20), none, (.val (.t 6))⟩,
  ⟨(some 21), none, (.ia 3 (.t 19) (.t 20))⟩,
  ⟨(some 22), none, (.fa 0 (.t 21))⟩,
  ⟨(some 23), none, (.ld none (.t 22))⟩,
  ⟨(some 24), none, (.val (.t 1))⟩,
  ⟨(some 25), none, (.bin .eql (.t 23) (.t 24))⟩]
theorem r21_3 {fn : AFun} {K : List AItem} {t : Nat → AV} {H : AH} {T : Tbl} : runR T fn (.code (.reg d21_3) :: K) t H = regR T fn K (aops (callR T) [
  ⟨(some 16), none, (.val (.t 0))⟩,
  ⟨(some 17), none, (.nilc (.t 16))⟩,
  ⟨(some 18), none, (.fa 0 (.t 17))⟩,
  ⟨(some 19), none, (.ld none (.t 18))⟩,
  ⟨(some 20), none, (.val (.t 6))⟩,
  ⟨(some 21), none, (.ia 3 (.t 19) (.t 20))⟩,
  ⟨(some 22), none, (.fa 0 (.t 21))⟩,
  ⟨(some 23), none, (.ld none (.t 22))⟩,
  ⟨(some 24), none, (.val (.t 1))⟩,
  ⟨(some 25), none, (.bin .eql (.t 23) (.t 24))⟩] t H) := runR_reg'
def d21_4 : List AOper := [
  ⟨(some 26), none, (.val (.t 0))⟩,
  ⟨(some 27), none, (.nilc (.t 26))⟩,
  ⟨(some 28), none, (.fa 0 (.t 27))⟩,
  ⟨(some 29), none, (.ld none (.t 28))⟩,
  ⟨(some 30), none, (.val (.t 6))⟩,
  ⟨(some 31), none, (.ia 3 (.t 29) (.t 30))⟩,
  ⟨(some 32), none, (.fa 1 (.t 31))⟩,
  ⟨(some 33), none, (.ld none (.t 32))⟩,
  ⟨(some 4), none, (.val (.t 33))⟩,
  ⟨(some 5), none, (.val (.c (.b true)))⟩]
theorem r21_4 {fn : AFun} {K : List AItem} {t : Nat → AV} {H : AH} {T : Tbl} : runR T fn (.code (.reg d21_4) :: K) t H = regR T fn K (aops (callR T) [
  ⟨(some 26), none, (.val (.t 0))⟩,
  ⟨(some 27), none, (.nilc (.t 26))⟩,
  ⟨(some 28), none, (.fa 0 (.t 27))⟩,
  ⟨(some 29), none, (.ld none (.t 28))⟩,
  ⟨(some 30), none, (.val (.t 6))⟩,
  ⟨(some 31), none, (.ia 3 (.t 29) (.t 30))⟩,
  ⟨(some 32), none, (.fa 1 (.t 31))⟩,
  ⟨(some 33), none, (.ld none (.t 32))⟩,
  ⟨(some 4), none, (.val (.t 33))⟩,
  ⟨(some 5), none, (.val (.c (.b true)))⟩] t H) := runR_reg'
def d21_5 : List AOper := [
  ⟨(some 14), none, (.val (.t 6))⟩,
  ⟨(some 15), none, (.bin .add (.t 14) (.c (.i .i64 1)))⟩,
  ⟨(some 6), none, (.val (.t 15))⟩]
theorem r21_5 {fn : AFun} {K : List AItem} {t : Nat → AV} {H : AH} {T : Tbl} : runR T fn (.code (.reg d21_5) :: K) t H = regR T fn K (aops (callR T) [
  ⟨(some 14), none, (.val (.t 6))⟩,
  ⟨(some 15), none, (.bin .add (.t 14) (.c (.i .i64 1)))⟩,
  ⟨(some 6), none, (.val (.t 15))⟩] t H) := runR_reg'
def l21_6 : ACode := (.seq (.seq (.reg d21_2) (.cond (.t 13) .skip (.exit 0))) (.seq (.block 1 (.seq (.reg d21_3) (.cond (.t 25) (.seq (.reg d21_4) .ret) .skip))) (.reg d21_5)))
def d21_7 : List AOper := [
  ⟨(some 4), none, (.val (.c (.i .i64 0)))⟩,
  ⟨(some 5), none, (.val (.c (.b false)))⟩]
theorem r21_7 {fn : AFun} {K : List AItem} {t : Nat → AV} {H : AH} {T : Tbl} : runR T fn (.code (.reg d21_7) :: K) t H = regR T fn K (aops (callR T) [
  ⟨(some 4), none, (.val (.c (.i .i64 0)))⟩,
  ⟨(some 5), none, (.val (.c (.b false)))⟩] t H) := runR_reg'
def a21 : AFun := ⟨34, [(.tmp 4), (.tmp 5)], (.seq (.reg d21_0) (.seq (.seq (.reg d21_1) (.block 0 (.loop l21_6))) (.seq (.reg d21_7) .ret)))⟩
theorem a21_ok : cfun Try.prog 21 = some a21 := by kernel_rfl
/-- (*futtock/futtockref11.Book).Of -/
def d22_0 : List AOper := [
  ⟨(some 4), none, (.val (.c (.sl none 0 0 true 0)))⟩]
theorem r22_0 {fn : AFun} {K : List AItem} {t : Nat → AV} {H : AH} {T : Tbl} : runR T fn (.code (.reg d22_0) :: K) t H = regR T fn K (aops (callR T) [
  ⟨(some 4), none, (.val (.c (.sl none 0 0 true 0)))⟩] t H) := runR_reg'
def d22_1 : List AOper := [
  ⟨(some 5), none, (.val (.c (.sl none 0 0 true 0)))⟩]
theorem r22_1 {fn : AFun} {K : List AItem} {t : Nat → AV} {H : AH} {T : Tbl} : runR T fn (.code (.reg d22_1) :: K) t H = regR T fn K (aops (callR T) [
  ⟨(some 5), none, (.val (.c (.sl none 0 0 true 0)))⟩] t H) := runR_reg'
def d22_2 : List AOper := [
  ⟨(some 6), none, (.val (.c (.i .i64 0)))⟩]
theorem r22_2 {fn : AFun} {K : List AItem} {t : Nat → AV} {H : AH} {T : Tbl} : runR T fn (.code (.reg d22_2) :: K) t H = regR T fn K (aops (callR T) [
  ⟨(some 6), none, (.val (.c (.i .i64 0)))⟩] t H) := runR_reg'
def d22_3 : List AOper := [
  ⟨(some 7), none, (.val (.t 6))⟩,
  ⟨(some 8), none, (.val (.t 0))⟩,
  ⟨(some 9), none, (.nilc (.t 8))⟩,
  ⟨(some 10), none, (.fa 0 (.t 9))⟩,
  ⟨(some 11), none, (.ld none (.t 10))⟩,
  ⟨(some 12), none, (.len (.t 11))⟩,
  ⟨(some 13), none, (.bin .lss (.t 7) (.t 12))⟩]
theorem r22_3 {fn : AFun} {K : List AItem} {t : Nat → AV} {H : AH} {T : Tbl} : runR T fn (.code (.reg d22_3) :: K) t H = regR T fn K (aops (callR T) [
  ⟨(some 7), none, (.val (.t 6))⟩,
  ⟨(some 8), none, (.val (.t 0))⟩,
  ⟨(some 9), none, (.nilc (.t 8))⟩,
  ⟨(some 10), none, (.fa 0 (.t 9))⟩,
  ⟨(some 11), none, (.ld none (.t 10))⟩,
  ⟨(some 12), none, (.len (.t 11))⟩,
  ⟨(some 13), none, (.bin .lss (.t 7) (.t 12))⟩] t H) := runR_reg'
def d22_4 : List AOper := [
  ⟨(some 16), none, (.val (.t 0))⟩,
  ⟨(some 17), none, (.nilc (.t 16))⟩,
  ⟨(some 18), none, (.fa 0 (.t 17))⟩,
  ⟨(some 19), none, (.ld none (.t 18))⟩,
  ⟨(some 20), none, (.val (.t 6))⟩,
  ⟨(some 21), none, (.ia 3 (.t 19) (.t 20))⟩,
  ⟨(some 22), none, (.fa 2 (.t 21))⟩,
  ⟨(some 23), none, (.ld none (.t 22))⟩,
  ⟨(some 24), none, (.val (.t 1))⟩,
  ⟨(some 25), none, (.bin .eql (.t 23) (.t 24))⟩]
theorem r22_4 {fn : AFun} {K : List AItem} {t : Nat → AV} {H : AH} {T : Tbl} : runR T fn (.code (.reg d22_4) :: K) t H = regR T fn K (aops (callR T) [
  ⟨(some 16), none, (.val (.t 0))⟩,
  ⟨(some 17), none, (.nilc (.t 16))⟩,
  ⟨(some 18), none, (.fa 0 (.t 17))⟩,
  ⟨(some 19), none, (.ld none (.t 18))⟩,
  ⟨(some 20), none, (.val (.t 6))⟩,
  ⟨(some 21), none, (.ia 3 (.t 19) (.t 20))⟩,
  ⟨(some 22), none, (.fa 2 (.t 21))⟩,
  ⟨(some 23), none, (.ld none (.t 22))⟩,
  ⟨(some 24), none, (.val (.t 1))⟩,
  ⟨(some 25), none, (.bin .eql (.t 23) (.t 24))⟩] t H) := runR_reg'
def d22_5 : List AOper := [
  ⟨(some 26), none, (.val (.t 5))⟩,
  ⟨(some 27), none, (.val (.t 0))⟩,
  ⟨(some 28), none, (.nilc (.t 27))⟩,
  ⟨(some 29), none, (.fa 0 (.t 28))⟩,
  ⟨(some 30), none, (.ld none (.t 29))⟩,
  ⟨(some 31), none, (.val (.t 6))⟩,
  ⟨(some 32), none, (.ia 3 (.t 30) (.t 31))⟩,
  ⟨(some 33), none, (.ld (some 3) (.t 32))⟩,
  ⟨(some 34), none, (.bsl [(.i .i64 0), (.i .i64 0), (.i .i64 0)] 1 [(0, 3, (.t 33))])⟩,
  ⟨(some 35), none, (.app [(.i .i64 0), (.i .i64 0), (.i .i64 0)] 24 (.t 26) (.t 34))⟩,
  ⟨(some 5), none, (.val (.t 35))⟩]
theorem r22_5 {fn : AFun} {K : List AItem} {t : Nat → AV} {H : AH} {T : Tbl} : runR T fn (.code (.reg d22_5) :: K) t H = regR T fn K (aops (callR T) [
  ⟨(some 26), none, (.val (.t 5))⟩,
  ⟨(some 27), none, (.val (.t 0))⟩,
  ⟨(some 28), none, (.nilc (.t 27))⟩,
  ⟨(some 29), none, (.fa 0 (.t 28))⟩,
  ⟨(some 30), none, (.ld none (.t 29))⟩,
  ⟨(some 31), none, (.val (.t 6))⟩,
  ⟨(some 32), none, (.ia 3 (.t 30) (.t 31))⟩,
  ⟨(some 33), none, (.ld (some 3) (.t 32))⟩,
  ⟨(some 34), none, (.bsl [(.i .i64 0), (.i .i64 0), (.i .i64 0)] 1 [(0, 3, (.t 33))])⟩,
  ⟨(some 35), none, (.app [(.i .i64 0), (.i .i64 0), (.i .i64 0)] 24 (.t 26) (.t 34))⟩,
  ⟨(some 5), none, (.val (.t 35))⟩] t H) := runR_reg'
def d22_6 : List AOper := [
  ⟨(some 14), none, (.val (.t 6))⟩,
  ⟨(some 15), none, (.bin .add (.t 14) (.c (.i .i64 1)))⟩,
  ⟨(some 6), none, (.val (.t 15))⟩]
theorem r22_6 {fn : AFun} {K : List AItem} {t : Nat → AV} {H : AH} {T : Tbl} : runR T fn (.code (.reg d22_6) :: K) t H = regR T fn K (aops (callR T) [
  ⟨(some 14), none, (.val (.t 6))⟩,
  ⟨(some 15), none, (.bin .add (.t 14) (.c (.i .i64 1)))⟩,
  ⟨(some 6), none, (.val (.t 15))⟩] t H) := runR_reg'
def l22_7 : ACode := (.seq (.seq (.reg d22_3) (.cond (.t 13) .skip (.exit 0))) (.seq (.block 1 (.seq (.reg d22_4) (.cond (.t 25) (.reg d22_5) .skip))) (.reg d22_6)))
def d22_8 : List AOper := [
  ⟨(some 36), none, (.val (.t 5))⟩,
  ⟨(some 4), none, (.val (.t 36))⟩]
theorem r22_8 {fn : AFun} {K : List AItem} {t : Nat → AV} {H : AH} {T : Tbl} : runR T fn (.code (.reg d22_8) :: K) t H = regR T fn K (aops (callR T) [
  ⟨(some 36), none, (.val (.t 5))⟩,
  ⟨(some 4), none, (.val (.t 36))⟩] t H) := runR_reg'
def a22 : AFun := ⟨37, [(.tmp 4)], (.seq (.reg d22_0) (.seq (.reg d22_1) (.seq (.seq (.reg d22_2) (.block 0 (.loop l22_7))) (.seq (.reg d22_8) .ret))))⟩
theorem a22_ok : cfun Try.prog 22 = some a22 := by kernel_rfl
/-- (*futtock/uses.Book).ok -/
def d23_0 : List AOper := [
  ⟨(some 2), none, (.val (.c (.b false)))⟩]
theorem r23_0 {fn : AFun} {K : List AItem} {t : Nat → AV} {H : AH} {T : Tbl} : runR T fn (.code (.reg d23_0) :: K) t H = regR T fn K (aops (callR T) [
  ⟨(some 2), none, (.val (.c (.b false)))⟩] t H) := runR_reg'
def d23_1 : List AOper := [
  ⟨(some 3), none, (.val (.t 0))⟩,
  ⟨(some 4), none, (.eqn 0 true (.t 3) (.c (.p none)))⟩,
  ⟨(some 5), none, (.val (.t 4))⟩,
  ⟨(some 6), (some (5, true)), (.val (.t 0))⟩,
  ⟨(some 7), (some (5, true)), (.nilc (.t 6))⟩,
  ⟨(some 8), (some (5, true)), (.fa 0 (.t 7))⟩,
  ⟨(some 9), (some (5, true)), (.ld none (.t 8))⟩,
  ⟨(some 10), (some (5, true)), (.eqn 2 true (.t 9) (.c (.mp none)))⟩,
  ⟨(some 11), none, (.pick (.t 5) (.t 10) (.c (.b false)))⟩,
  ⟨(some 2), none, (.val (.t 11))⟩]
theorem r23_1 {fn : AFun} {K : List AItem} {t : Nat → AV} {H : AH} {T : Tbl} : runR T fn (.code (.reg d23_1) :: K) t H = regR T fn K (aops (callR T) [
  ⟨(some 3), none, (.val (.t 0))⟩,
  ⟨(some 4), none, (.eqn 0 true (.t 3) (.c (.p none)))⟩,
  ⟨(some 5), none, (.val (.t 4))⟩,
  ⟨(some 6), (some (5, true)), (.val (.t 0))⟩,
  ⟨(some 7), (some (5, true)), (.nilc (.t 6))⟩,
  ⟨(some 8), (some (5, true)), (.fa 0 (.t 7))⟩,
  ⟨(some 9), (some (5, true)), (.ld none (.t 8))⟩,
  ⟨(some 10), (some (5, true)), (.eqn 2 true (.t 9) (.c (.mp none)))⟩,
  ⟨(some 11), none, (.pick (.t 5) (.t 10) (.c (.b false)))⟩,
  ⟨(some 2), none, (.val (.t 11))⟩] t H) := runR_reg'
def a23 : AFun := ⟨12, [(.tmp 2)], (.seq (.reg d23_0) (.seq (.reg d23_1) .ret))⟩
theorem a23_ok : cfun Try.prog 23 = some a23 := by kernel_rfl
/-- futtock/uses.below -/
def d24_0 : List AOper := [
  ⟨(some 4), none, (.val (.c (.b false)))⟩]
theorem r24_0 {fn : AFun} {K : List AItem} {t : Nat → AV} {H : AH} {T : Tbl} : runR T fn (.code (.reg d24_0) :: K) t H = regR T fn K (aops (callR T) [
  ⟨(some 4), none, (.val (.c (.b false)))⟩] t H) := runR_reg'
def d24_1 : List AOper := [
  ⟨(some 5), none, (.val (.t 0))⟩,
  ⟨(some 6), none, (.bin .geq (.t 5) (.c (.i .i64 0)))⟩,
  ⟨(some 7), none, (.val (.t 6))⟩,
  ⟨(some 8), (some (7, true)), (.val (.t 0))⟩,
  ⟨(some 9), (some (7, true)), (.val (.t 1))⟩,
  ⟨(some 10), (some (7, true)), (.bin .lss (.t 8) (.t 9))⟩,
  ⟨(some 11), none, (.pick (.t 7) (.t 10) (.c (.b false)))⟩,
  ⟨(some 4), none, (.val (.t 11))⟩]
theorem r24_1 {fn : AFun} {K : List AItem} {t : Nat → AV} {H : AH} {T : Tbl} : runR T fn (.code (.reg d24_1) :: K) t H = regR T fn K (aops (callR T) [
  ⟨(some 5), none, (.val (.t 0))⟩,
  ⟨(some 6), none, (.bin .geq (.t 5) (.c (.i .i64 0)))⟩,
  ⟨(some 7), none, (.val (.t 6))⟩,
  ⟨(some 8), (some (7, true)), (.val (.t 0))⟩,
  ⟨(some 9), (some (7, true)), (.val (.t 1))⟩,
  ⟨(some 10), (some (7, true)), (.bin .lss (.t 8) (.t 9))⟩,
  ⟨(some 11), none, (.pick (.t 7) (.t 10) (.c (.b false)))⟩,
  ⟨(some 4), none, (.val (.t 11))⟩] t H) := runR_reg'
def a24 : AFun := ⟨12, [(.tmp 4)], (.seq (.reg d24_0) (.seq (.reg d24_1) .ret))⟩
theorem a24_ok : cfun Try.prog 24 = some a24 := by kernel_rfl
/-- slices.SortedFunc[futtock/uses.Pair] -/
def d25_0 : List AOper := [
  ⟨(some 4), none, (.val (.c (.sl none 0 0 true 0)))⟩]
theorem r25_0 {fn : AFun} {K : List AItem} {t : Nat → AV} {H : AH} {T : Tbl} : runR T fn (.code (.reg d25_0) :: K) t H = regR T fn K (aops (callR T) [
  ⟨(some 4), none, (.val (.c (.sl none 0 0 true 0)))⟩] t H) := runR_reg'
def d25_1 : List AOper := [
  ⟨(some 6), none, (.val (.t 0))⟩,
  ⟨(some 7), none, (.call 31 [(.t 6)])⟩,
  ⟨(some 5), none, (.val (.t 7))⟩]
theorem r25_1 {fn : AFun} {K : List AItem} {t : Nat → AV} {H : AH} {T : Tbl} : runR T fn (.code (.reg d25_1) :: K) t H = regR T fn K (aops (callR T) [
  ⟨(some 6), none, (.val (.t 0))⟩,
  ⟨(some 7), none, (.call 31 [(.t 6)])⟩,
  ⟨(some 5), none, (.val (.t 7))⟩] t H) := runR_reg'
def d25_2 : List AOper := [
  ⟨(some 8), none, (.val (.t 5))⟩,
  ⟨(some 9), none, (.val (.t 1))⟩,
  ⟨(some 10), none, (.call 32 [(.t 8), (.t 9)])⟩]
theorem r25_2 {fn : AFun} {K : List AItem} {t : Nat → AV} {H : AH} {T : Tbl} : runR T fn (.code (.reg d25_2) :: K) t H = regR T fn K (aops (callR T) [
  ⟨(some 8), none, (.val (.t 5))⟩,
  ⟨(some 9), none, (.val (.t 1))⟩,
  ⟨(some 10), none, (.call 32 [(.t 8), (.t 9)])⟩] t H) := runR_reg'
def d25_3 : List AOper := [
  ⟨(some 11), none, (.val (.t 5))⟩,
  ⟨(some 4), none, (.val (.t 11))⟩]
theorem r25_3 {fn : AFun} {K : List AItem} {t : Nat → AV} {H : AH} {T : Tbl} : runR T fn (.code (.reg d25_3) :: K) t H = regR T fn K (aops (callR T) [
  ⟨(some 11), none, (.val (.t 5))⟩,
  ⟨(some 4), none, (.val (.t 11))⟩] t H) := runR_reg'
def a25 : AFun := ⟨12, [(.tmp 4)], (.seq (.reg d25_0) (.seq (.reg d25_1) (.seq (.reg d25_2) (.seq (.reg d25_3) .ret))))⟩
theorem a25_ok : cfun Try.prog 25 = some a25 := by kernel_rfl
/-- maps.Values[map[int]futtock/uses.Pair,int,futtock/uses.Pair] -/
def d26_0 : List AOper := [
  ⟨(some 1), none, (.box (.t 0))⟩,
  ⟨(some 2), none, (.val (.c .nf))⟩]
theorem r26_0 {fn : AFun} {K : List AItem} {t : Nat → AV} {H : AH} {T : Tbl} : runR T fn (.code (.reg d26_0) :: K) t H = regR T fn K (aops (callR T) [
  ⟨(some 1), none, (.box (.t 0))⟩,
  ⟨(some 2), none, (.val (.c .nf))⟩] t H) := runR_reg'
def d26_1 : List AOper := [
  ⟨(some 3), none, (.mkf (.func 33) [] [(.t 1)])⟩,
  ⟨(some 2), none, (.val (.t 3))⟩]
theorem r26_1 {fn : AFun} {K : List AItem} {t : Nat → AV} {H : AH} {T : Tbl} : runR T fn (.code (.reg d26_1) :: K) t H = regR T fn K (aops (callR T) [
  ⟨(some 3), none, (.mkf (.func 33) [] [(.t 1)])⟩,
  ⟨(some 2), none, (.val (.t 3))⟩] t H) := runR_reg'
def a26 : AFun := ⟨4, [(.tmp 2)], (.seq (.reg d26_0) (.seq (.reg d26_1) .ret))⟩
theorem a26_ok : cfun Try.prog 26 = some a26 := by kernel_rfl
/-- (*futtock/uses.Book).All$1 -/
def d27_0 : List AOper := [
  ⟨(some 2), none, (.box (.t 0))⟩,
  ⟨(some 3), none, (.box (.t 1))⟩,
  ⟨(some 4), none, (.val (.c (.i .i64 0)))⟩]
theorem r27_0 {fn : AFun} {K : List AItem} {t : Nat → AV} {H : AH} {T : Tbl} : runR T fn (.code (.reg d27_0) :: K) t H = regR T fn K (aops (callR T) [
  ⟨(some 2), none, (.box (.t 0))⟩,
  ⟨(some 3), none, (.box (.t 1))⟩,
  ⟨(some 4), none, (.val (.c (.i .i64 0)))⟩] t H) := runR_reg'
def d27_1 : List AOper := [
  ⟨(some 5), none, (.fa 0 (.t 2))⟩,
  ⟨(some 6), none, (.ld none (.t 5))⟩,
  ⟨(some 7), none, (.fa 0 (.t 3))⟩,
  ⟨(some 8), none, (.ld none (.t 7))⟩,
  ⟨(some 9), none, (.call 28 [(.t 6), (.t 8)])⟩,
  ⟨(some 4), none, (.val (.t 9))⟩]
theorem r27_1 {fn : AFun} {K : List AItem} {t : Nat → AV} {H : AH} {T : Tbl} : runR T fn (.code (.reg d27_1) :: K) t H = regR T fn K (aops (callR T) [
  ⟨(some 5), none, (.fa 0 (.t 2))⟩,
  ⟨(some 6), none, (.ld none (.t 5))⟩,
  ⟨(some 7), none, (.fa 0 (.t 3))⟩,
  ⟨(some 8), none, (.ld none (.t 7))⟩,
  ⟨(some 9), none, (.call 28 [(.t 6), (.t 8)])⟩,
  ⟨(some 4), none, (.val (.t 9))⟩] t H) := runR_reg'
def a27 : AFun := ⟨10, [(.tmp 4)], (.seq (.reg d27_0) (.seq (.reg d27_1) .ret))⟩
theorem a27_ok : cfun Try.prog 27 = some a27 := by kernel_rfl
/-- cmp.Compare[int] -/
def d28_0 : List AOper := [
  ⟨(some 4), none, (.val (.c (.i .i64 0)))⟩]
theorem r28_0 {fn : AFun} {K : List AItem} {t : Nat → AV} {H : AH} {T : Tbl} : runR T fn (.code (.reg d28_0) :: K) t H = regR T fn K (aops (callR T) [
  ⟨(some 4), none, (.val (.c (.i .i64 0)))⟩] t H) := runR_reg'
def d28_1 : List AOper := [
  ⟨(some 7), none, (.val (.t 0))⟩,
  ⟨(some 8), none, (.call 34 [(.t 7)])⟩,
  ⟨(some 5), none, (.val (.t 8))⟩]
theorem r28_1 {fn : AFun} {K : List AItem} {t : Nat → AV} {H : AH} {T : Tbl} : runR T fn (.code (.reg d28_1) :: K) t H = regR T fn K (aops (callR T) [
  ⟨(some 7), none, (.val (.t 0))⟩,
  ⟨(some 8), none, (.call 34 [(.t 7)])⟩,
  ⟨(some 5), none, (.val (.t 8))⟩] t H) := runR_reg'
def d28_2 : List AOper := [
  ⟨(some 9), none, (.val (.t 1))⟩,
  ⟨(some 10), none, (.call 34 [(.t 9)])⟩,
  ⟨(some 6), none, (.val (.t 10))⟩]
theorem r28_2 {fn : AFun} {K : List AItem} {t : Nat → AV} {H : AH} {T : Tbl} : runR T fn (.code (.reg d28_2) :: K) t H = regR T fn K (aops (callR T) [
  ⟨(some 9), none, (.val (.t 1))⟩,
  ⟨(some 10), none, (.call 34 [(.t 9)])⟩,
  ⟨(some 6), none, (.val (.t 10))⟩] t H) := runR_reg'
def d28_3 : List AOper := [
  ⟨(some 11), none, (.val (.t 5))⟩]
theorem r28_3 {fn : AFun} {K : List AItem} {t : Nat → AV} {H : AH} {T : Tbl} : runR T fn (.code (.reg d28_3) :: K) t H = regR T fn K (aops (callR T) [
  ⟨(some 11), none, (.val (.t 5))⟩] t H) := runR_reg'
def d28_4 : List AOper := [
  ⟨(some 12), none, (.val (.t 6))⟩]
theorem r28_4 {fn : AFun} {K : List AItem} {t : Nat → AV} {H : AH} {T : Tbl} : runR T fn (.code (.reg d28_4) :: K) t H = regR T fn K (aops (callR T) [
  ⟨(some 12), none, (.val (.t 6))⟩] t H) := runR_reg'
def d28_5 : List AOper := [
  ⟨(some 4), none, (.val (.c (.i .i64 0)))⟩]
theorem r28_5 {fn : AFun} {K : List AItem} {t : Nat → AV} {H : AH} {T : Tbl} : runR T fn (.code (.reg d28_5) :: K) t H = regR T fn K (aops (callR T) [
  ⟨(some 4), none, (.val (.c (.i .i64 0)))⟩] t H) := runR_reg'
def d28_6 : List AOper := [
  ⟨(some 4), none, (.val (.c (.i .i64 (-1))))⟩]
theorem r28_6 {fn : AFun} {K : List AItem} {t : Nat → AV} {H : AH} {T : Tbl} : runR T fn (.code (.reg d28_6) :: K) t H = regR T fn K (aops (callR T) [
  ⟨(some 4), none, (.val (.c (.i .i64 (-1))))⟩] t H) := runR_reg'
def d28_7 : List AOper := [
  ⟨(some 13), none, (.val (.t 6))⟩]
theorem r28_7 {fn : AFun} {K : List AItem} {t : Nat → AV} {H : AH} {T : Tbl} : runR T fn (.code (.reg d28_7) :: K) t H = regR T fn K (aops (callR T) [
  ⟨(some 13), none, (.val (.t 6))⟩] t H) := runR_reg'
def d28_8 : List AOper := [
  ⟨(some 4), none, (.val (.c (.i .i64 1)))⟩]
theorem r28_8 {fn : AFun} {K : List AItem} {t : Nat → AV} {H : AH} {T : Tbl} : runR T fn (.code (.reg d28_8) :: K) t H = regR T fn K (aops (callR T) [
  ⟨(some 4), none, (.val (.c (.i .i64 1)))⟩] t H) := runR_reg'
def d28_9 : List AOper := [
  ⟨(some 14), none, (.val (.t 0))⟩,
  ⟨(some 15), none, (.val (.t 1))⟩,
  ⟨(some 16), none, (.bin .lss (.t 14) (.t 15))⟩]
theorem r28_9 {fn : AFun} {K : List AItem} {t : Nat → AV} {H : AH} {T : Tbl} : runR T fn (.code (.reg d28_9) :: K) t H = regR T fn K (aops (callR T) [
  ⟨(some 14), none, (.val (.t 0))⟩,
  ⟨(some 15), none, (.val (.t 1))⟩,
  ⟨(some 16), none, (.bin .lss (.t 14) (.t 15))⟩] t H) := runR_reg'
def d28_10 : List AOper := [
  ⟨(some 4), none, (.val (.c (.i .i64 (-1))))⟩]
theorem r28_10 {fn : AFun} {K : List AItem} {t : Nat → AV} {H : AH} {T : Tbl} : runR T fn (.code (.reg d28_10) :: K) t H = regR T fn K (aops (callR T) [
  ⟨(some 4), none, (.val (.c (.i .i64 (-1))))⟩] t H) := runR_reg'
def d28_11 : List AOper := [
  ⟨(some 17), none, (.val (.t 0))⟩,
  ⟨(some 18), none, (.val (.t 1))⟩,
  ⟨(some 19), none, (.bin .gtr (.t 17) (.t 18))⟩]
theorem r28_11 {fn : AFun} {K : List AItem} {t : Nat → AV} {H : AH} {T : Tbl} : runR T fn (.code (.reg d28_11) :: K) t H = regR T fn K (aops (callR T) [
  ⟨(some 17), none, (.val (.t 0))⟩,
  ⟨(some 18), none, (.val (.t 1))⟩,
  ⟨(some 19), none, (.bin .gtr (.t 17) (.t 18))⟩] t H) := runR_reg'
def d28_12 : List AOper := [
  ⟨(some 4), none, (.val (.c (.i .i64 1)))⟩]
theorem r28_12 {fn : AFun} {K : List AItem} {t : Nat → AV} {H : AH} {T : Tbl} : runR T fn (.code (.reg d28_12) :: K) t H = regR T fn K (aops (callR T) [
  ⟨(some 4), none, (.val (.c (.i .i64 1)))⟩] t H) := runR_reg'
def d28_13 : List AOper := [
  ⟨(some 4), none, (.val (.c (.i .i64 0)))⟩]
theorem r28_13 {fn : AFun} {K : List AItem} {t : Nat → AV} {H : AH} {T : Tbl} : runR T fn (.code (.reg d28_13) :: K) t H = regR T fn K (aops (callR T) [
  ⟨(some 4), none, (.val (.c (.i .i64 0)))⟩] t H) := runR_reg'
def a28 : AFun := ⟨20, [(.tmp 4)], (.seq (.reg d28_0) (.seq (.reg d28_1) (.seq (.reg d28_2) (.seq (.seq (.reg d28_3) (.cond (.t 11) (.seq (.seq (.reg d28_4) (.cond (.t 12) (.seq (.reg d28_5) .ret) .skip)) (.seq (.reg d28_6) .ret)) .skip)) (.seq (.seq (.reg d28_7) (.cond (.t 13) (.seq (.reg d28_8) .ret) .skip)) (.seq (.seq (.reg d28_9) (.cond (.t 16) (.seq (.reg d28_10) .ret) .skip)) (.seq (.seq (.reg d28_11) (.cond (.t 19) (.seq (.reg d28_12) .ret) .skip)) (.seq (.reg d28_13) .ret))))))))⟩
theorem a28_ok : cfun Try.prog 28 = some a28 := by kernel_rfl
/-- slices.DeleteFunc[[]futtock/uses.Pair,futtock/uses.Pair] -/
def d29_0 : List AOper := [
  ⟨(some 4), none, (.val (.c (.sl none 0 0 true 0)))⟩]
theorem r29_0 {fn : AFun} {K : List AItem} {t : Nat → AV} {H : AH} {T : Tbl} : runR T fn (.code (.reg d29_0) :: K) t H = regR T fn K (aops (callR T) [
  ⟨(some 4), none, (.val (.c (.sl none 0 0 true 0)))⟩] t H) := runR_reg'
def d29_1 : List AOper := [
  ⟨(some 8), none, (.val (.t 0))⟩,
  ⟨(some 9), none, (.val (.t 1))⟩,
  ⟨(some 10), none, (.call 35 [(.t 8), (.t 9)])⟩,
  ⟨(some 5), none, (.val (.t 10))⟩]
theorem r29_1 {fn : AFun} {K : List AItem} {t : Nat → AV} {H : AH} {T : Tbl} : runR T fn (.code (.reg d29_1) :: K) t H = regR T fn K (aops (callR T) [
  ⟨(some 8), none, (.val (.t 0))⟩,
  ⟨(some 9), none, (.val (.t 1))⟩,
  ⟨(some 10), none, (.call 35 [(.t 8), (.t 9)])⟩,
  ⟨(some 5), none, (.val (.t 10))⟩] t H) := runR_reg'
def d29_2 : List AOper := [
  ⟨(some 11), none, (.val (.t 5))⟩,
  ⟨(some 12), none, (.bin .eql (.t 11) (.c (.i .i64 (-1))))⟩]
theorem r29_2 {fn : AFun} {K : List AItem} {t : Nat → AV} {H : AH} {T : Tbl} : runR T fn (.code (.reg d29_2) :: K) t H = regR T fn K (aops (callR T) [
  ⟨(some 11), none, (.val (.t 5))⟩,
  ⟨(some 12), none, (.bin .eql (.t 11) (.c (.i .i64 (-1))))⟩] t H) := runR_reg'
def d29_3 : List AOper := [
  ⟨(some 13), none, (.val (.t 0))⟩,
  ⟨(some 4), none, (.val (.t 13))⟩]
theorem r29_3 {fn : AFun} {K : List AItem} {t : Nat → AV} {H : AH} {T : Tbl} : runR T fn (.code (.reg d29_3) :: K) t H = regR T fn K (aops (callR T) [
  ⟨(some 13), none, (.val (.t 0))⟩,
  ⟨(some 4), none, (.val (.t 13))⟩] t H) := runR_reg'
def d29_4 : List AOper := [
  ⟨(some 14), none, (.val (.t 5))⟩,
  ⟨(some 15), none, (.bin .add (.t 14) (.c (.i .i64 1)))⟩,
  ⟨(some 6), none, (.val (.t 15))⟩]
theorem r29_4 {fn : AFun} {K : List AItem} {t : Nat → AV} {H : AH} {T : Tbl} : runR T fn (.code (.reg d29_4) :: K) t H = regR T fn K (aops (callR T) [
  ⟨(some 14), none, (.val (.t 5))⟩,
  ⟨(some 15), none, (.bin .add (.t 14) (.c (.i .i64 1)))⟩,
  ⟨(some 6), none, (.val (.t 15))⟩] t H) := runR_reg'
def d29_5 : List AOper := [
  ⟨(some 16), none, (.val (.t 6))⟩,
  ⟨(some 17), none, (.val (.t 0))⟩,
  ⟨(some 18), none, (.len (.t 17))⟩,
  ⟨(some 19), none, (.bin .lss (.t 16) (.t 18))⟩]
theorem r29_5 {fn : AFun} {K : List AItem} {t : Nat → AV} {H : AH} {T : Tbl} : runR T fn (.code (.reg d29_5) :: K) t H = regR T fn K (aops (callR T) [
  ⟨(some 16), none, (.val (.t 6))⟩,
  ⟨(some 17), none, (.val (.t 0))⟩,
  ⟨(some 18), none, (.len (.t 17))⟩,
  ⟨(some 19), none, (.bin .lss (.t 16) (.t 18))⟩] t H) := runR_reg'
def d29_6 : List AOper := [
  ⟨(some 22), none, (.val (.t 0))⟩,
  ⟨(some 23), none, (.val (.t 6))⟩,
  ⟨(some 24), none, (.ia 3 (.t 22) (.t 23))⟩,
  ⟨(some 25), none, (.ld (some 3) (.t 24))⟩,
  ⟨(some 7), none, (.alloc [(.i .i64 0), (.i .i64 0), (.i .i64 0)])⟩,
  ⟨none, none, (.st 3 (.t 7) (.t 25))⟩]
theorem r29_6 {fn : AFun} {K : List AItem} {t : Nat → AV} {H : AH} {T : Tbl} : runR T fn (.code (.reg d29_6) :: K) t H = regR T fn K (aops (callR T) [
  ⟨(some 22), none, (.val (.t 0))⟩,
  ⟨(some 23), none, (.val (.t 6))⟩,
  ⟨(some 24), none, (.ia 3 (.t 22) (.t 23))⟩,
  ⟨(some 25), none, (.ld (some 3) (.t 24))⟩,
  ⟨(some 7), none, (.alloc [(.i .i64 0), (.i .i64 0), (.i .i64 0)])⟩,
  ⟨none, none, (.st 3 (.t 7) (.t 25))⟩] t H) := runR_reg'
def d29_7 : List AOper := [
  ⟨(some 26), none, (.val (.t 1))⟩,
  ⟨(some 27), none, (.ld (some 3) (.t 7))⟩,
  ⟨(some 28), none, (.callv (.t 26) [(.t 27)])⟩,
  ⟨(some 29), none, (.un .not (.t 28))⟩]
theorem r29_7 {fn : AFun} {K : List AItem} {t : Nat → AV} {H : AH} {T : Tbl} : runR T fn (.code (.reg d29_7) :: K) t H = regR T fn K (aops (callR T) [
  ⟨(some 26), none, (.val (.t 1))⟩,
  ⟨(some 27), none, (.ld (some 3) (.t 7))⟩,
  ⟨(some 28), none, (.callv (.t 26) [(.t 27)])⟩,
  ⟨(some 29), none, (.un .not (.t 28))⟩] t H) := runR_reg'
def d29_8 : List AOper := [
  ⟨(some 30), none, (.val (.t 0))⟩,
  ⟨(some 31), none, (.val (.t 5))⟩,
  ⟨(some 32), none, (.ld (some 3) (.t 7))⟩,
  ⟨(some 33), none, (.ia 3 (.t 30) (.t 31))⟩,
  ⟨none, none, (.st 3 (.t 33) (.t 32))⟩]
theorem r29_8 {fn : AFun} {K : List AItem} {t : Nat → AV} {H : AH} {T : Tbl} : runR T fn (.code (.reg d29_8) :: K) t H = regR T fn K (aops (callR T) [
  ⟨(some 30), none, (.val (.t 0))⟩,
  ⟨(some 31), none, (.val (.t 5))⟩,
  ⟨(some 32), none, (.ld (some 3) (.t 7))⟩,
  ⟨(some 33), none, (.ia 3 (.t 30) (.t 31))⟩,
  ⟨none, none, (.st 3 (.t 33) (.t 32))⟩] t H) := runR_reg'
def d29_9 : List AOper := [
  ⟨(some 34), none, (.val (.t 5))⟩,
  ⟨(some 35), none, (.bin .add (.t 34) (.c (.i .i64 1)))⟩,
  ⟨(some 5), none, (.val (.t 35))⟩]
theorem r29_9 {fn : AFun} {K : List AItem} {t : Nat → AV} {H : AH} {T : Tbl} : runR T fn (.code (.reg d29_9) :: K) t H = regR T fn K (aops (callR T) [
  ⟨(some 34), none, (.val (.t 5))⟩,
  ⟨(some 35), none, (.bin .add (.t 34) (.c (.i .i64 1)))⟩,
  ⟨(some 5), none, (.val (.t 35))⟩] t H) := runR_reg'
def d29_10 : List AOper := [
  ⟨(some 20), none, (.val (.t 6))⟩,
  ⟨(some 21), none, (.bin .add (.t 20) (.c (.i .i64 1)))⟩,
  ⟨(some 6), none, (.val (.t 21))⟩]
theorem r29_10 {fn : AFun} {K : List AItem} {t : Nat → AV} {H : AH} {T : Tbl} : runR T fn (.code (.reg d29_10) :: K) t H = regR T fn K (aops (callR T) [
  ⟨(some 20), none, (.val (.t 6))⟩,
  ⟨(some 21), none, (.bin .add (.t 20) (.c (.i .i64 1)))⟩,
  ⟨(some 6), none, (.val (.t 21))⟩] t H) := runR_reg'
def l29_11 : ACode := (.seq (.seq (.reg d29_5) (.cond (.t 19) .skip (.exit 0))) (.seq (.block 1 (.seq (.reg d29_6) (.seq (.reg d29_7) (.cond (.t 29) (.seq (.reg d29_8) (.reg d29_9)) .skip)))) (.reg d29_10)))
def d29_12 : List AOper := [
  ⟨(some 36), none, (.val (.t 0))⟩,
  ⟨(some 37), none, (.val (.t 5))⟩,
  ⟨(some 38), none, (.sls 3 (.t 36) (some (.t 37)) none none)⟩,
  ⟨none, none, (.clr [(.i .i64 0), (.i .i64 0), (.i .i64 0)] (.t 38))⟩]
theorem r29_12 {fn : AFun} {K : List AItem} {t : Nat → AV} {H : AH} {T : Tbl} : runR T fn (.code (.reg d29_12) :: K) t H = regR T fn K (aops (callR T) [
  ⟨(some 36), none, (.val (.t 0))⟩,
  ⟨(some 37), none, (.val (.t 5))⟩,
  ⟨(some 38), none, (.sls 3 (.t 36) (some (.t 37)) none none)⟩,
  ⟨none, none, (.clr [(.i .i64 0), (.i .i64 0), (.i .i64 0)] (.t 38))⟩] t H) := runR_reg'
def d29_13 : List AOper := [
  ⟨(some 39), none, (.val (.t 0))⟩,
  ⟨(some 40), none, (.val (.t 5))⟩,
  ⟨(some 41), none, (.sls 3 (.t 39) none (some (.t 40)) none)⟩,
  ⟨(some 4), none, (.val (.t 41))⟩]
theorem r29_13 {fn : AFun} {K : List AItem} {t : Nat → AV} {H : AH} {T : Tbl} : runR T fn (.code (.reg d29_13) :: K) t H = regR T fn K (aops (callR T) [
  ⟨(some 39), none, (.val (.t 0))⟩,
  ⟨(some 40), none, (.val (.t 5))⟩,
  ⟨(some 41), none, (.sls 3 (.t 39) none (some (.t 40)) none)⟩,
  ⟨(some 4), none, (.val (.t 41))⟩] t H) := runR_reg'
def a29 : AFun := ⟨42, [(.tmp 4)], (.seq (.reg d29_0) (.seq (.reg d29_1) (.seq (.seq (.reg d29_2) (.cond (.t 12) (.seq (.reg d29_3) .ret) .skip)) (.seq (.seq (.reg d29_4) (.block 0 (.loop l29_11))) (.seq (.reg d29_12) (.seq (.reg d29_13) .ret))))))⟩
theorem a29_ok : cfun Try.prog 29 = some a29 := by kernel_rfl
/-- (*futtock/uses.Book).Of$1 -/
def d30_0 : List AOper := [
  ⟨(some 2), none, (.box (.t 0))⟩,
  ⟨(some 3), none, (.val (.c (.b false)))⟩]
theorem r30_0 {fn : AFun} {K : List AItem} {t : Nat → AV} {H : AH} {T : Tbl} : runR T fn (.code (.reg d30_0) :: K) t H = regR T fn K (aops (callR T) [
  ⟨(some 2), none, (.box (.t 0))⟩,
  ⟨(some 3), none, (.val (.c (.b false)))⟩] t H) := runR_reg'
def d30_1 : List AOper := [
  ⟨(some 4), none, (.fa 2 (.t 2))⟩,
  ⟨(some 5), none, (.ld none (.t 4))⟩,
  ⟨(some 6), none, (.ld none (.t 1))⟩,
  ⟨(some 7), none, (.bin .neq (.t 5) (.t 6))⟩,
  ⟨(some 3), none, (.val (.t 7))⟩]
theorem r30_1 {fn : AFun} {K : List AItem} {t : Nat → AV} {H : AH} {T : Tbl} : runR T fn (.code (.reg d30_1) :: K) t H = regR T fn K (aops (callR T) [
  ⟨(some 4), none, (.fa 2 (.t 2))⟩,
  ⟨(some 5), none, (.ld none (.t 4))⟩,
  ⟨(some 6), none, (.ld none (.t 1))⟩,
  ⟨(some 7), none, (.bin .neq (.t 5) (.t 6))⟩,
  ⟨(some 3), none, (.val (.t 7))⟩] t H) := runR_reg'
def a30 : AFun := ⟨8, [(.tmp 3)], (.seq (.reg d30_0) (.seq (.reg d30_1) .ret))⟩
theorem a30_ok : cfun Try.prog 30 = some a30 := by kernel_rfl
/-- slices.Collect[futtock/uses.Pair] -/
def d31_0 : List AOper := [
  ⟨(some 2), none, (.val (.c (.sl none 0 0 true 0)))⟩]
theorem r31_0 {fn : AFun} {K : List AItem} {t : Nat → AV} {H : AH} {T : Tbl} : runR T fn (.code (.reg d31_0) :: K) t H = regR T fn K (aops (callR T) [
  ⟨(some 2), none, (.val (.c (.sl none 0 0 true 0)))⟩] t H) := runR_reg'
def d31_1 : List AOper := [
  ⟨(some 3), none, (.val (.t 0))⟩,
  ⟨(some 4), none, (.call 36 [(.c (.sl none 0 0 true 0)), (.t 3)])⟩,
  ⟨(some 2), none, (.val (.t 4))⟩]
theorem r31_1 {fn : AFun} {K : List AItem} {t : Nat → AV} {H : AH} {T : Tbl} : runR T fn (.code (.reg d31_1) :: K) t H = regR T fn K (aops (callR T) [
  ⟨(some 3), none, (.val (.t 0))⟩,
  ⟨(some 4), none, (.call 36 [(.c (.sl none 0 0 true 0)), (.t 3)])⟩,
  ⟨(some 2), none, (.val (.t 4))⟩] t H) := runR_reg'
def a31 : AFun := ⟨5, [(.tmp 2)], (.seq (.reg d31_0) (.seq (.reg d31_1) .ret))⟩
theorem a31_ok : cfun Try.prog 31 = some a31 := by kernel_rfl
/-- slices.SortFunc[[]futtock/uses.Pair,futtock/uses.Pair] -/
def d32_0 : List AOper := [
  ⟨(some 5), none, (.val (.t 0))⟩,
  ⟨(some 6), none, (.len (.t 5))⟩,
  ⟨(some 4), none, (.val (.t 6))⟩]
theorem r32_0 {fn : AFun} {K : List AItem} {t : Nat → AV} {H : AH} {T : Tbl} : runR T fn (.code (.reg d32_0) :: K) t H = regR T fn K (aops (callR T) [
  ⟨(some 5), none, (.val (.t 0))⟩,
  ⟨(some 6), none, (.len (.t 5))⟩,
  ⟨(some 4), none, (.val (.t 6))⟩] t H) := runR_reg'
def d32_1 : List AOper := [
  ⟨(some 7), none, (.val (.t 0))⟩,
  ⟨(some 8), none, (.val (.t 4))⟩,
  ⟨(some 9), none, (.val (.t 4))⟩,
  ⟨(some 10), none, (.cvi .u64 (.t 9))⟩,
  ⟨(some 11), none, (.call 38 [(.t 10)])⟩,
  ⟨(some 12), none, (.val (.t 1))⟩,
  ⟨(some 13), none, (.call 37 [(.t 7), (.c (.i .i64 0)), (.t 8), (.t 11), (.t 12)])⟩]
theorem r32_1 {fn : AFun} {K : List AItem} {t : Nat → AV} {H : AH} {T : Tbl} : runR T fn (.code (.reg d32_1) :: K) t H = regR T fn K (aops (callR T) [
  ⟨(some 7), none, (.val (.t 0))⟩,
  ⟨(some 8), none, (.val (.t 4))⟩,
  ⟨(some 9), none, (.val (.t 4))⟩,
  ⟨(some 10), none, (.cvi .u64 (.t 9))⟩,
  ⟨(some 11), none, (.call 38 [(.t 10)])⟩,
  ⟨(some 12), none, (.val (.t 1))⟩,
  ⟨(some 13), none, (.call 37 [(.t 7), (.c (.i .i64 0)), (.t 8), (.t 11), (.t 12)])⟩] t H) := runR_reg'
def a32 : AFun := ⟨14, [], (.seq (.reg d32_0) (.reg d32_1))⟩
theorem a32_ok : cfun Try.prog 32 = some a32 := by kernel_rfl
/-- maps.Values[map[int]futtock/uses.Pair,int,futtock/uses.Pair]$1 -/
def d33_0 : List AOper := [
  ⟨(some 5), none, (.ld none (.t 1))⟩,
  ⟨(some 6), none, (.rng (.t 5))⟩]
theorem r33_0 {fn : AFun} {K : List AItem} {t : Nat → AV} {H : AH} {T : Tbl} : runR T fn (.code (.reg d33_0) :: K) t H = regR T fn K (aops (callR T) [
  ⟨(some 5), none, (.ld none (.t 1))⟩,
  ⟨(some 6), none, (.rng (.t 5))⟩] t H) := runR_reg'
def d33_1 : List AOper := [
  ⟨(some 7), none, (.nxt (.t 6))⟩,
  ⟨(some 8), none, (.ext (.t 7) 0)⟩]
theorem r33_1 {fn : AFun} {K : List AItem} {t : Nat → AV} {H : AH} {T : Tbl} : runR T fn (.code (.reg d33_1) :: K) t H = regR T fn K (aops (callR T) [
  ⟨(some 7), none, (.nxt (.t 6))⟩,
  ⟨(some 8), none, (.ext (.t 7) 0)⟩] t H) := runR_reg'
def d33_2 : List AOper := [
  ⟨(some 9), none, (.ent (.t 6))⟩,
  ⟨(some 10), none, (.ext (.t 9) 1)⟩,
  ⟨(some 4), none, (.alloc [(.i .i64 0), (.i .i64 0), (.i .i64 0)])⟩,
  ⟨none, none, (.st 3 (.t 4) (.t 10))⟩]
theorem r33_2 {fn : AFun} {K : List AItem} {t : Nat → AV} {H : AH} {T : Tbl} : runR T fn (.code (.reg d33_2) :: K) t H = regR T fn K (aops (callR T) [
  ⟨(some 9), none, (.ent (.t 6))⟩,
  ⟨(some 10), none, (.ext (.t 9) 1)⟩,
  ⟨(some 4), none, (.alloc [(.i .i64 0), (.i .i64 0), (.i .i64 0)])⟩,
  ⟨none, none, (.st 3 (.t 4) (.t 10))⟩] t H) := runR_reg'
def d33_3 : List AOper := [
  ⟨(some 11), none, (.val (.t 0))⟩,
  ⟨(some 12), none, (.ld (some 3) (.t 4))⟩,
  ⟨(some 13), none, (.callv (.t 11) [(.t 12)])⟩,
  ⟨(some 14), none, (.un .not (.t 13))⟩]
theorem r33_3 {fn : AFun} {K : List AItem} {t : Nat → AV} {H : AH} {T : Tbl} : runR T fn (.code (.reg d33_3) :: K) t H = regR T fn K (aops (callR T) [
  ⟨(some 11), none, (.val (.t 0))⟩,
  ⟨(some 12), none, (.ld (some 3) (.t 4))⟩,
  ⟨(some 13), none, (.callv (.t 11) [(.t 12)])⟩,
  ⟨(some 14), none, (.un .not (.t 13))⟩] t H) := runR_reg'
def l33_4 : ACode := (.seq (.reg d33_1) (.seq (.cond (.t 8) .skip (.exit 0)) (.block 1 (.seq (.reg d33_2) (.seq (.reg d33_3) (.cond (.t 14) .ret .skip))))))
def a33 : AFun := ⟨15, [], (.seq (.reg d33_0) (.block 0 (.loop l33_4)))⟩
theorem a33_ok : cfun Try.prog 33 = some a33 := by kernel_rfl
/-- cmp.isNaN[int] -/
def d34_0 : List AOper := [
  ⟨(some 2), none, (.val (.c (.b false)))⟩]
theorem r34_0 {fn : AFun} {K : List AItem} {t : Nat → AV} {H : AH} {T : Tbl} : runR T fn (.code (.reg d34_0) :: K) t H = regR T fn K (aops (callR T) [
  ⟨(some 2), none, (.val (.c (.b false)))⟩] t H) := runR_reg'
def d34_1 : List AOper := [
  ⟨(some 3), none, (.val (.t 0))⟩,
  ⟨(some 4), none, (.val (.t 0))⟩,
  ⟨(some 5), none, (.bin .neq (.t 3) (.t 4))⟩,
  ⟨(some 2), none, (.val (.t 5))⟩]
theorem r34_1 {fn : AFun} {K : List AItem} {t : Nat → AV} {H : AH} {T : Tbl} : runR T fn (.code (.reg d34_1) :: K) t H = regR T fn K (aops (callR T) [
  ⟨(some 3), none, (.val (.t 0))⟩,
  ⟨(some 4), none, (.val (.t 0))⟩,
  ⟨(some 5), none, (.bin .neq (.t 3) (.t 4))⟩,
  ⟨(some 2), none, (.val (.t 5))⟩] t H) := runR_reg'
def a34 : AFun := ⟨6, [(.tmp 2)], (.seq (.reg d34_0) (.seq (.reg d34_1) .ret))⟩
theorem a34_ok : cfun Try.prog 34 = some a34 := by kernel_rfl
/-- slices.IndexFunc[[]futtock/uses.Pair,futtock/uses.Pair] -/
def d35_0 : List AOper := [
  ⟨(some 4), none, (.val (.c (.i .i64 0)))⟩]
theorem r35_0 {fn : AFun} {K : List AItem} {t : Nat → AV} {H : AH} {T : Tbl} : runR T fn (.code (.reg d35_0) :: K) t H = regR T fn K (aops (callR T) [
  ⟨(some 4), none, (.val (.c (.i .i64 0)))⟩] t H) := runR_reg'
def d35_1 : List AOper := [
  ⟨(some 6), none, (.val (.t 0))⟩,
  ⟨(some 7), none, (.len (.t 6))⟩,
  ⟨(some 8), none, (.val (.c (.i .i64 0)))⟩]
theorem r35_1 {fn : AFun} {K : List AItem} {t : Nat → AV} {H : AH} {T : Tbl} : runR T fn (.code (.reg d35_1) :: K) t H = regR T fn K (aops (callR T) [
  ⟨(some 6), none, (.val (.t 0))⟩,
  ⟨(some 7), none, (.len (.t 6))⟩,
  ⟨(some 8), none, (.val (.c (.i .i64 0)))⟩] t H) := runR_reg'
def d35_2 : List AOper := [
  ⟨(some 9), none, (.bin .lss (.t 8) (.t 7))⟩]
theorem r35_2 {fn : AFun} {K : List AItem} {t : Nat → AV} {H : AH} {T : Tbl} : runR T fn (.code (.reg d35_2) :: K) t H = regR T fn K (aops (callR T) [
  ⟨(some 9), none, (.bin .lss (.t 8) (.t 7))⟩] t H) := runR_reg'
def d35_3 : List AOper := [
  ⟨(some 10), none, (.val (.t 8))⟩,
  ⟨(some 5), none, (.val (.t 10))⟩]
theorem r35_3 {fn : AFun} {K : List AItem} {t : Nat → AV} {H : AH} {T : Tbl} : runR T fn (.code (.reg d35_3) :: K) t H = regR T fn K (aops (callR T) [
  ⟨(some 10), none, (.val (.t 8))⟩,
  ⟨(some 5), none, (.val (.t 10))⟩] t H) := runR_reg'
def d35_4 : List AOper := [
  ⟨(some 11), none, (.val (.t 1))⟩,
  ⟨(some 12), none, (.val (.t 0))⟩,
  ⟨(some 13), none, (.val (.t 5))⟩,
  ⟨(some 14), none, (.ia 3 (.t 12) (.t 13))⟩,
  ⟨(some 15), none, (.ld (some 3) (.t 14))⟩,
  ⟨(some 16), none, (.callv (.t 11) [(.t 15)])⟩]
theorem r35_4 {fn : AFun} {K : List AItem} {t : Nat → AV} {H : AH} {T : Tbl} : runR T fn (.code (.reg d35_4) :: K) t H = regR T fn K (aops (callR T) [
  ⟨(some 11), none, (.val (.t 1))⟩,
  ⟨(some 12), none, (.val (.t 0))⟩,
  ⟨(some 13), none, (.val (.t 5))⟩,
  ⟨(some 14), none, (.ia 3 (.t 12) (.t 13))⟩,
  ⟨(some 15), none, (.ld (some 3) (.t 14))⟩,
  ⟨(some 16), none, (.callv (.t 11) [(.t 15)])⟩] t H) := runR_reg'
def d35_5 : List AOper := [
  ⟨(some 17), none, (.val (.t 5))⟩,
  ⟨(some 4), none, (.val (.t 17))⟩]
theorem r35_5 {fn : AFun} {K : List AItem} {t : Nat → AV} {H : AH} {T : Tbl} : runR T fn (.code (.reg d35_5) :: K) t H = regR T fn K (aops (callR T) [
  ⟨(some 17), none, (.val (.t 5))⟩,
  ⟨(some 4), none, (.val (.t 17))⟩] t H) := runR_reg'
def d35_6 : List AOper := [
  ⟨(some 18), none, (.bin .add (.t 8) (.c (.i .i64 1)))⟩,
  ⟨(some 8), none, (.val (.t 18))⟩]
theorem r35_6 {fn : AFun} {K : List AItem} {t : Nat → AV} {H : AH} {T : Tbl} : runR T fn (.code (.reg d35_6) :: K) t H = regR T fn K (aops (callR T) [
  ⟨(some 18), none, (.bin .add (.t 8) (.c (.i .i64 1)))⟩,
  ⟨(some 8), none, (.val (.t 18))⟩] t H) := runR_reg'
def l35_7 : ACode := (.seq (.reg d35_2) (.seq (.cond (.t 9) .skip (.exit 0)) (.seq (.block 1 (.seq (.reg d35_3) (.seq (.reg d35_4) (.cond (.t 16) (.seq (.reg d35_5) .ret) .skip)))) (.reg d35_6))))
def d35_8 : List AOper := [
  ⟨(some 4), none, (.val (.c (.i .i64 (-1))))⟩]
theorem r35_8 {fn : AFun} {K : List AItem} {t : Nat → AV} {H : AH} {T : Tbl} : runR T fn (.code (.reg d35_8) :: K) t H = regR T fn K (aops (callR T) [
  ⟨(some 4), none, (.val (.c (.i .i64 (-1))))⟩] t H) := runR_reg'
def a35 : AFun := ⟨19, [(.tmp 4)], (.seq (.reg d35_0) (.seq (.seq (.reg d35_1) (.block 0 (.loop l35_7))) (.seq (.reg d35_8) .ret)))⟩
theorem a35_ok : cfun Try.prog 35 = some a35 := by kernel_rfl
/-- slices.AppendSeq[[]futtock/uses.Pair,futtock/uses.Pair] -/
def d36_0 : List AOper := [
  ⟨(some 2), none, (.box (.t 0))⟩,
  ⟨(some 4), none, (.val (.c (.sl none 0 0 true 0)))⟩]
theorem r36_0 {fn : AFun} {K : List AItem} {t : Nat → AV} {H : AH} {T : Tbl} : runR T fn (.code (.reg d36_0) :: K) t H = regR T fn K (aops (callR T) [
  ⟨(some 2), none, (.box (.t 0))⟩,
  ⟨(some 4), none, (.val (.c (.sl none 0 0 true 0)))⟩] t H) := runR_reg'
def d36_1 : List AOper := [
  ⟨(some 6), none, (.val (.t 1))⟩]
theorem r36_1 {fn : AFun} {K : List AItem} {t : Nat → AV} {H : AH} {T : Tbl} : runR T fn (.code (.reg d36_1) :: K) t H = regR T fn K (aops (callR T) [
  ⟨(some 6), none, (.val (.t 1))⟩] t H) := runR_reg'
def d36_2 : List AOper := [
  ⟨(some 5), none, (.alloc [(.i .i64 0), (.i .i64 0), (.i .i64 0)])⟩,
  ⟨none, none, (.st 3 (.t 5) (.t 7))⟩]
theorem r36_2 {fn : AFun} {K : List AItem} {t : Nat → AV} {H : AH} {T : Tbl} : runR T fn (.code (.reg d36_2) :: K) t H = regR T fn K (aops (callR T) [
  ⟨(some 5), none, (.alloc [(.i .i64 0), (.i .i64 0), (.i .i64 0)])⟩,
  ⟨none, none, (.st 3 (.t 5) (.t 7))⟩] t H) := runR_reg'
def d36_3 : List AOper := [
  ⟨(some 8), none, (.ld none (.t 2))⟩,
  ⟨(some 9), none, (.ld (some 3) (.t 5))⟩,
  ⟨(some 10), none, (.bsl [(.i .i64 0), (.i .i64 0), (.i .i64 0)] 1 [(0, 3, (.t 9))])⟩,
  ⟨(some 11), none, (.app [(.i .i64 0), (.i .i64 0), (.i .i64 0)] 24 (.t 8) (.t 10))⟩,
  ⟨none, none, (.st 1 (.t 2) (.t 11))⟩]
theorem r36_3 {fn : AFun} {K : List AItem} {t : Nat → AV} {H : AH} {T : Tbl} : runR T fn (.code (.reg d36_3) :: K) t H = regR T fn K (aops (callR T) [
  ⟨(some 8), none, (.ld none (.t 2))⟩,
  ⟨(some 9), none, (.ld (some 3) (.t 5))⟩,
  ⟨(some 10), none, (.bsl [(.i .i64 0), (.i .i64 0), (.i .i64 0)] 1 [(0, 3, (.t 9))])⟩,
  ⟨(some 11), none, (.app [(.i .i64 0), (.i .i64 0), (.i .i64 0)] 24 (.t 8) (.t 10))⟩,
  ⟨none, none, (.st 1 (.t 2) (.t 11))⟩] t H) := runR_reg'
def f36_4a : ACode := (.reg d36_2)
def f36_4b : ACode := (.block 1 (.reg d36_3))
def d36_5 : List AOper := [
  ⟨(some 12), none, (.ld none (.t 2))⟩,
  ⟨(some 4), none, (.val (.t 12))⟩]
theorem r36_5 {fn : AFun} {K : List AItem} {t : Nat → AV} {H : AH} {T : Tbl} : runR T fn (.code (.reg d36_5) :: K) t H = regR T fn K (aops (callR T) [
  ⟨(some 12), none, (.ld none (.t 2))⟩,
  ⟨(some 4), none, (.val (.t 12))⟩] t H) := runR_reg'
def a36 : AFun := ⟨13, [(.tmp 4)], (.seq (.reg d36_0) (.seq (.seq (.reg d36_1) (.block 0 (.rf (.t 6) [7] f36_4a f36_4b))) (.seq (.reg d36_5) .ret)))⟩
theorem a36_ok : cfun Try.prog 36 = some a36 := by kernel_rfl
/-- All of them. -/
def tblE : FuncId → Option AFun
  | 5 => some a5
  | 7 => some a7
  | 8 => some a8
  | 9 => some a9
  | 10 => some a10
  | 11 => some a11
  | 12 => some a12
  | 13 => some a13
  | 14 => some a14
  | 15 => some a15
  | 16 => some a16
  | 17 => some a17
  | 18 => some a18
  | 19 => some a19
  | 20 => some a20
  | 21 => some a21
  | 22 => some a22
  | 23 => some a23
  | 24 => some a24
  | 25 => some a25
  | 26 => some a26
  | 27 => some a27
  | 28 => some a28
  | 29 => some a29
  | 30 => some a30
  | 31 => some a31
  | 32 => some a32
  | 33 => some a33
  | 34 => some a34
  | 35 => some a35
  | 36 => some a36
  | _ => none
/-- Those that the plain machine runs. -/
def tblF : FuncId → Option AFun
  | 5 => some a5
  | 7 => some a7
  | 8 => some a8
  | 9 => some a9
  | 10 => some a10
  | 11 => some a11
  | 12 => some a12
  | 13 => some a13
  | 14 => some a14
  | 15 => some a15
  | 16 => some a16
  | 17 => some a17
  | 18 => some a18
  | 19 => some a19
  | 20 => some a20
  | 21 => some a21
  | 22 => some a22
  | 23 => some a23
  | 24 => some a24
  | 26 => some a26
  | 27 => some a27
  | 28 => some a28
  | 29 => some a29
  | 30 => some a30
  | 31 => some a31
  | 33 => some a33
  | 34 => some a34
  | 35 => some a35
  | 36 => some a36
  | _ => none
structure Prm where
  p : PrimF
  up : ∀ f a H v H', p f a H = some (v, H') → H.n ≤ H'.n
def tblP (q : Prm) : Tbl := ⟨tblF, q.p, q.up⟩
theorem tbl5 {q : Prm} : (tblP q).f 5 = some a5 := rfl
theorem c5 {q : Prm} {x0 : AV} {H : AH} : callR (tblP q) 5 [x0] H = runR (tblP q) a5 [.code a5.body] (ainit [x0]) H := callR_of tbl5 (Nat.le_of_ble_eq_true rfl)
theorem b5 : a5.body = (.seq (.reg d5_0) (.seq (.reg d5_1) (.seq (.reg d5_2) (.seq (.seq (.reg d5_3) (.cond (.t 23) (.seq (.reg d5_4) .ret) .skip)) (.seq (.seq (.reg d5_5) (.block 0 (.loop l5_22))) (.seq (.reg d5_23) .ret)))))) := rfl
theorem s5 : a5.res = [(.tmp 2)] := rfl
theorem tbl7 {q : Prm} : (tblP q).f 7 = some a7 := rfl
theorem c7 {q : Prm} {H : AH} : callR (tblP q) 7 [] H = runR (tblP q) a7 [.code a7.body] (ainit []) H := callR_of tbl7 (Nat.le_of_ble_eq_true rfl)
theorem b7 : a7.body = (.seq (.reg d7_0) (.seq (.reg d7_1) .ret)) := rfl
theorem s7 : a7.res = [(.tmp 0)] := rfl
theorem tbl8 {q : Prm} : (tblP q).f 8 = some a8 := rfl
theorem c8 {q : Prm} {x0 : AV} {H : AH} : callR (tblP q) 8 [x0] H = runR (tblP q) a8 [.code a8.body] (ainit [x0]) H := callR_of tbl8 (Nat.le_of_ble_eq_true rfl)
theorem b8 : a8.body = (.seq (.reg d8_0) (.seq (.reg d8_1) .ret)) := rfl
theorem s8 : a8.res = [(.tmp 2)] := rfl
theorem tbl9 {q : Prm} : (tblP q).f 9 = some a9 := rfl
theorem c9 {q : Prm} {x0 x1 : AV} {H : AH} : callR (tblP q) 9 [x0, x1] H = runR (tblP q) a9 [.code a9.body] (ainit [x0, x1]) H := callR_of tbl9 (Nat.le_of_ble_eq_true rfl)
theorem b9 : a9.body = (.seq (.reg d9_0) (.seq (.seq (.reg d9_1) (.cond (.t 11) (.seq (.reg d9_2) .ret) .skip)) (.seq (.drw d9_3) (.seq (.drw d9_4) (.seq (.block 0 (.seq (.reg d9_5) (.cond (.t 32) (.seq (.reg d9_6) .ret) (.seq (.reg d9_7) (.cond (.t 49) (.seq (.reg d9_8) .ret) .skip))))) (.seq (.drw d9_9) (.seq (.drw d9_10) (.seq (.reg d9_11) .ret)))))))) := rfl
theorem s9 : a9.res = [(.tmp 4)] := rfl
theorem tbl10 {q : Prm} : (tblP q).f 10 = some a10 := rfl
theorem c10 {q : Prm} {x0 : AV} {H : AH} : callR (tblP q) 10 [x0] H = runR (tblP q) a10 [.code a10.body] (ainit [x0]) H := callR_of tbl10 (Nat.le_of_ble_eq_true rfl)
theorem b10 : a10.body = (.seq (.reg d10_0) (.seq (.seq (.reg d10_1) (.cond (.t 5) (.seq (.reg d10_2) .ret) .skip)) (.seq (.reg d10_3) .ret))) := rfl
theorem s10 : a10.res = [(.tmp 2)] := rfl
theorem tbl11 {q : Prm} : (tblP q).f 11 = some a11 := rfl
theorem c11 {q : Prm} {x0 x1 : AV} {H : AH} : callR (tblP q) 11 [x0, x1] H = runR (tblP q) a11 [.code a11.body] (ainit [x0, x1]) H := callR_of tbl11 (Nat.le_of_ble_eq_true rfl)
theorem b11 : a11.body = (.seq (.reg d11_0) (.seq (.seq (.reg d11_1) (.cond (.t 10) (.seq (.reg d11_2) .ret) .skip)) (.seq (.reg d11_3) (.seq (.reg d11_4) .ret)))) := rfl
theorem s11 : a11.res = [(.tmp 4), (.tmp 5)] := rfl
theorem tbl12 {q : Prm} : (tblP q).f 12 = some a12 := rfl
theorem c12 {q : Prm} {x0 x1 : AV} {H : AH} : callR (tblP q) 12 [x0, x1] H = runR (tblP q) a12 [.code a12.body] (ainit [x0, x1]) H := callR_of tbl12 (Nat.le_of_ble_eq_true rfl)
theorem b12 : a12.body = (.seq (.reg d12_0) (.seq (.seq (.reg d12_1) (.cond (.t 10) (.seq (.reg d12_2) .ret) .skip)) (.seq (.reg d12_3) (.seq (.reg d12_4) .ret)))) := rfl
theorem s12 : a12.res = [(.tmp 4), (.tmp 5)] := rfl
theorem tbl13 {q : Prm} : (tblP q).f 13 = some a13 := rfl
theorem c13 {q : Prm} {x0 x1 : AV} {H : AH} : callR (tblP q) 13 [x0, x1] H = runR (tblP q) a13 [.code a13.body] (ainit [x0, x1]) H := callR_of tbl13 (Nat.le_of_ble_eq_true rfl)
theorem b13 : a13.body = (.seq (.reg d13_0) (.seq (.seq (.reg d13_1) (.cond (.t 10) (.seq (.reg d13_2) .ret) .skip)) (.seq (.reg d13_3) (.seq (.seq (.reg d13_4) (.cond (.t 22) (.seq (.reg d13_5) .ret) .skip)) (.seq (.reg d13_6) (.seq (.drw d13_7) (.seq (.reg d13_8) .ret))))))) := rfl
theorem s13 : a13.res = [(.cell 4 (some 3)), (.tmp 5)] := rfl
theorem tbl14 {q : Prm} : (tblP q).f 14 = some a14 := rfl
theorem c14 {q : Prm} {H : AH} : callR (tblP q) 14 [] H = runR (tblP q) a14 [.code a14.body] (ainit []) H := callR_of tbl14 (Nat.le_of_ble_eq_true rfl)
theorem b14 : a14.body = (.seq (.reg d14_0) (.seq (.reg d14_1) (.seq (.seq (.reg d14_2) (.cond (.t 12) (.seq (.reg d14_3) .ret) .skip)) (.seq (.reg d14_4) (.seq (.reg d14_5) .ret))))) := rfl
theorem s14 : a14.res = [(.tmp 0)] := rfl
theorem tbl15 {q : Prm} : (tblP q).f 15 = some a15 := rfl
theorem c15 {q : Prm} {x0 x1 : AV} {H : AH} : callR (tblP q) 15 [x0, x1] H = runR (tblP q) a15 [.code a15.body] (ainit [x0, x1]) H := callR_of tbl15 (Nat.le_of_ble_eq_true rfl)
theorem b15 : a15.body = (.seq (.reg d15_0) (.seq (.reg d15_1) .ret)) := rfl
theorem s15 : a15.res = [(.tmp 4)] := rfl
theorem tbl16 {q : Prm} : (tblP q).f 16 = some a16 := rfl
theorem c16 {q : Prm} {x0 : AV} {H : AH} : callR (tblP q) 16 [x0] H = runR (tblP q) a16 [.code a16.body] (ainit [x0]) H := callR_of tbl16 (Nat.le_of_ble_eq_true rfl)
theorem b16 : a16.body = (.seq (.reg d16_0) (.seq (.seq (.reg d16_1) (.cond (.t 5) (.seq (.reg d16_2) .ret) .skip)) (.seq (.reg d16_3) .ret))) := rfl
theorem s16 : a16.res = [(.tmp 2)] := rfl
theorem tbl17 {q : Prm} : (tblP q).f 17 = some a17 := rfl
theorem c17 {q : Prm} {x0 x1 : AV} {H : AH} : callR (tblP q) 17 [x0, x1] H = runR (tblP q) a17 [.code a17.body] (ainit [x0, x1]) H := callR_of tbl17 (Nat.le_of_ble_eq_true rfl)
theorem b17 : a17.body = (.seq (.reg d17_0) (.seq (.seq (.reg d17_1) (.block 0 (.loop l17_8))) (.seq (.reg d17_9) .ret))) := rfl
theorem s17 : a17.res = [(.cell 4 (some 3)), (.tmp 5)] := rfl
theorem tbl18 {q : Prm} : (tblP q).f 18 = some a18 := rfl
theorem c18 {q : Prm} {x0 x1 : AV} {H : AH} : callR (tblP q) 18 [x0, x1] H = runR (tblP q) a18 [.code a18.body] (ainit [x0, x1]) H := callR_of tbl18 (Nat.le_of_ble_eq_true rfl)
theorem b18 : a18.body = (.seq (.reg d18_0) (.seq (.seq (.reg d18_1) (.cond (.t 11) (.seq (.reg d18_2) .ret) .skip)) (.seq (.seq (.reg d18_3) (.block 0 (.loop l18_9))) (.seq (.reg d18_10) .ret)))) := rfl
theorem s18 : a18.res = [(.tmp 4)] := rfl
theorem tbl19 {q : Prm} : (tblP q).f 19 = some a19 := rfl
theorem c19 {q : Prm} {x0 x1 : AV} {H : AH} : callR (tblP q) 19 [x0, x1] H = runR (tblP q) a19 [.code a19.body] (ainit [x0, x1]) H := callR_of tbl19 (Nat.le_of_ble_eq_true rfl)
theorem b19 : a19.body = (.seq (.reg d19_0) (.seq (.seq (.reg d19_1) (.cond (.t 35) (.seq (.reg d19_2) .ret) .skip)) (.seq (.reg d19_3) (.seq (.seq (.reg d19_4) (.block 0 (.loop l19_12))) (.seq (.reg d19_13) (.seq (.reg d19_14) .ret)))))) := rfl
theorem s19 : a19.res = [(.tmp 4)] := rfl
theorem tbl20 {q : Prm} : (tblP q).f 20 = some a20 := rfl
theorem c20 {q : Prm} {x0 x1 : AV} {H : AH} : callR (tblP q) 20 [x0, x1] H = runR (tblP q) a20 [.code a20.body] (ainit [x0, x1]) H := callR_of tbl20 (Nat.le_of_ble_eq_true rfl)
theorem b20 : a20.body = (.seq (.reg d20_0) (.seq (.seq (.reg d20_1) (.block 0 (.loop l20_6))) (.seq (.reg d20_7) .ret))) := rfl
theorem s20 : a20.res = [(.tmp 4), (.tmp 5)] := rfl
theorem tbl21 {q : Prm} : (tblP q).f 21 = some a21 := rfl
theorem c21 {q : Prm} {x0 x1 : AV} {H : AH} : callR (tblP q) 21 [x0, x1] H = runR (tblP q) a21 [.code a21.body] (ainit [x0, x1]) H := callR_of tbl21 (Nat.le_of_ble_eq_true rfl)
theorem b21 : a21.body = (.seq (.reg d21_0) (.seq (.seq (.reg d21_1) (.block 0 (.loop l21_6))) (.seq (.reg d21_7) .ret))) := rfl
theorem s21 : a21.res = [(.tmp 4), (.tmp 5)] := rfl
theorem tbl22 {q : Prm} : (tblP q).f 22 = some a22 := rfl
theorem c22 {q : Prm} {x0 x1 : AV} {H : AH} : callR (tblP q) 22 [x0, x1] H = runR (tblP q) a22 [.code a22.body] (ainit [x0, x1]) H := callR_of tbl22 (Nat.le_of_ble_eq_true rfl)
theorem b22 : a22.body = (.seq (.reg d22_0) (.seq (.reg d22_1) (.seq (.seq (.reg d22_2) (.block 0 (.loop l22_7))) (.seq (.reg d22_8) .ret)))) := rfl
theorem s22 : a22.res = [(.tmp 4)] := rfl
theorem tbl23 {q : Prm} : (tblP q).f 23 = some a23 := rfl
theorem c23 {q : Prm} {x0 : AV} {H : AH} : callR (tblP q) 23 [x0] H = runR (tblP q) a23 [.code a23.body] (ainit [x0]) H := callR_of tbl23 (Nat.le_of_ble_eq_true rfl)
theorem b23 : a23.body = (.seq (.reg d23_0) (.seq (.reg d23_1) .ret)) := rfl
theorem s23 : a23.res = [(.tmp 2)] := rfl
theorem tbl24 {q : Prm} : (tblP q).f 24 = some a24 := rfl
theorem c24 {q : Prm} {x0 x1 : AV} {H : AH} : callR (tblP q) 24 [x0, x1] H = runR (tblP q) a24 [.code a24.body] (ainit [x0, x1]) H := callR_of tbl24 (Nat.le_of_ble_eq_true rfl)
theorem b24 : a24.body = (.seq (.reg d24_0) (.seq (.reg d24_1) .ret)) := rfl
theorem s24 : a24.res = [(.tmp 4)] := rfl
theorem b25 : a25.body = (.seq (.reg d25_0) (.seq (.reg d25_1) (.seq (.reg d25_2) (.seq (.reg d25_3) .ret)))) := rfl
theorem s25 : a25.res = [(.tmp 4)] := rfl
theorem tbl26 {q : Prm} : (tblP q).f 26 = some a26 := rfl
theorem c26 {q : Prm} {x0 : AV} {H : AH} : callR (tblP q) 26 [x0] H = runR (tblP q) a26 [.code a26.body] (ainit [x0]) H := callR_of tbl26 (Nat.le_of_ble_eq_true rfl)
theorem b26 : a26.body = (.seq (.reg d26_0) (.seq (.reg d26_1) .ret)) := rfl
theorem s26 : a26.res = [(.tmp 2)] := rfl
theorem tbl27 {q : Prm} : (tblP q).f 27 = some a27 := rfl
theorem c27 {q : Prm} {x0 x1 : AV} {H : AH} : callR (tblP q) 27 [x0, x1] H = runR (tblP q) a27 [.code a27.body] (ainit [x0, x1]) H := callR_of tbl27 (Nat.le_of_ble_eq_true rfl)
theorem b27 : a27.body = (.seq (.reg d27_0) (.seq (.reg d27_1) .ret)) := rfl
theorem s27 : a27.res = [(.tmp 4)] := rfl
theorem tbl28 {q : Prm} : (tblP q).f 28 = some a28 := rfl
theorem c28 {q : Prm} {x0 x1 : AV} {H : AH} : callR (tblP q) 28 [x0, x1] H = runR (tblP q) a28 [.code a28.body] (ainit [x0, x1]) H := callR_of tbl28 (Nat.le_of_ble_eq_true rfl)
theorem b28 : a28.body = (.seq (.reg d28_0) (.seq (.reg d28_1) (.seq (.reg d28_2) (.seq (.seq (.reg d28_3) (.cond (.t 11) (.seq (.seq (.reg d28_4) (.cond (.t 12) (.seq (.reg d28_5) .ret) .skip)) (.seq (.reg d28_6) .ret)) .skip)) (.seq (.seq (.reg d28_7) (.cond (.t 13) (.seq (.reg d28_8) .ret) .skip)) (.seq (.seq (.reg d28_9) (.cond (.t 16) (.seq (.reg d28_10) .ret) .skip)) (.seq (.seq (.reg d28_11) (.cond (.t 19) (.seq (.reg d28_12) .ret) .skip)) (.seq (.reg d28_13) .ret)))))))) := rfl
theorem s28 : a28.res = [(.tmp 4)] := rfl
theorem tbl29 {q : Prm} : (tblP q).f 29 = some a29 := rfl
theorem c29 {q : Prm} {x0 x1 : AV} {H : AH} : callR (tblP q) 29 [x0, x1] H = runR (tblP q) a29 [.code a29.body] (ainit [x0, x1]) H := callR_of tbl29 (Nat.le_of_ble_eq_true rfl)
theorem b29 : a29.body = (.seq (.reg d29_0) (.seq (.reg d29_1) (.seq (.seq (.reg d29_2) (.cond (.t 12) (.seq (.reg d29_3) .ret) .skip)) (.seq (.seq (.reg d29_4) (.block 0 (.loop l29_11))) (.seq (.reg d29_12) (.seq (.reg d29_13) .ret)))))) := rfl
theorem s29 : a29.res = [(.tmp 4)] := rfl
theorem tbl30 {q : Prm} : (tblP q).f 30 = some a30 := rfl
theorem c30 {q : Prm} {x0 x1 : AV} {H : AH} : callR (tblP q) 30 [x0, x1] H = runR (tblP q) a30 [.code a30.body] (ainit [x0, x1]) H := callR_of tbl30 (Nat.le_of_ble_eq_true rfl)
theorem b30 : a30.body = (.seq (.reg d30_0) (.seq (.reg d30_1) .ret)) := rfl
theorem s30 : a30.res = [(.tmp 3)] := rfl
theorem tbl31 {q : Prm} : (tblP q).f 31 = some a31 := rfl
theorem c31 {q : Prm} {x0 : AV} {H : AH} : callR (tblP q) 31 [x0] H = runR (tblP q) a31 [.code a31.body] (ainit [x0]) H := callR_of tbl31 (Nat.le_of_ble_eq_true rfl)
theorem b31 : a31.body = (.seq (.reg d31_0) (.seq (.reg d31_1) .ret)) := rfl
theorem s31 : a31.res = [(.tmp 2)] := rfl
theorem b32 : a32.body = (.seq (.reg d32_0) (.reg d32_1)) := rfl
theorem s32 : a32.res = [] := rfl
theorem tbl33 {q : Prm} : (tblP q).f 33 = some a33 := rfl
theorem c33 {q : Prm} {x0 x1 : AV} {H : AH} : callR (tblP q) 33 [x0, x1] H = runR (tblP q) a33 [.code a33.body] (ainit [x0, x1]) H := callR_of tbl33 (Nat.le_of_ble_eq_true rfl)
theorem b33 : a33.body = (.seq (.reg d33_0) (.block 0 (.loop l33_4))) := rfl
theorem s33 : a33.res = [] := rfl
theorem tbl34 {q : Prm} : (tblP q).f 34 = some a34 := rfl
theorem c34 {q : Prm} {x0 : AV} {H : AH} : callR (tblP q) 34 [x0] H = runR (tblP q) a34 [.code a34.body] (ainit [x0]) H := callR_of tbl34 (Nat.le_of_ble_eq_true rfl)
theorem b34 : a34.body = (.seq (.reg d34_0) (.seq (.reg d34_1) .ret)) := rfl
theorem s34 : a34.res = [(.tmp 2)] := rfl
theorem tbl35 {q : Prm} : (tblP q).f 35 = some a35 := rfl
theorem c35 {q : Prm} {x0 x1 : AV} {H : AH} : callR (tblP q) 35 [x0, x1] H = runR (tblP q) a35 [.code a35.body] (ainit [x0, x1]) H := callR_of tbl35 (Nat.le_of_ble_eq_true rfl)
theorem b35 : a35.body = (.seq (.reg d35_0) (.seq (.seq (.reg d35_1) (.block 0 (.loop l35_7))) (.seq (.reg d35_8) .ret))) := rfl
theorem s35 : a35.res = [(.tmp 4)] := rfl
theorem tbl36 {q : Prm} : (tblP q).f 36 = some a36 := rfl
theorem c36 {q : Prm} {x0 x1 : AV} {H : AH} : callR (tblP q) 36 [x0, x1] H = runR (tblP q) a36 [.code a36.body] (ainit [x0, x1]) H := callR_of tbl36 (Nat.le_of_ble_eq_true rfl)
theorem b36 : a36.body = (.seq (.reg d36_0) (.seq (.seq (.reg d36_1) (.block 0 (.rf (.t 6) [7] f36_4a f36_4b))) (.seq (.reg d36_5) .ret))) := rfl
theorem s36 : a36.res = [(.tmp 4)] := rfl
theorem tblE_ok : ∀ f a, tblE f = some a → cfun Try.prog f = some a := by
  intro f a h
  unfold tblE at h
  split at h
  · cases h; exact a5_ok
  · cases h; exact a7_ok
  · cases h; exact a8_ok
  · cases h; exact a9_ok
  · cases h; exact a10_ok
  · cases h; exact a11_ok
  · cases h; exact a12_ok
  · cases h; exact a13_ok
  · cases h; exact a14_ok
  · cases h; exact a15_ok
  · cases h; exact a16_ok
  · cases h; exact a17_ok
  · cases h; exact a18_ok
  · cases h; exact a19_ok
  · cases h; exact a20_ok
  · cases h; exact a21_ok
  · cases h; exact a22_ok
  · cases h; exact a23_ok
  · cases h; exact a24_ok
  · cases h; exact a25_ok
  · cases h; exact a26_ok
  · cases h; exact a27_ok
  · cases h; exact a28_ok
  · cases h; exact a29_ok
  · cases h; exact a30_ok
  · cases h; exact a31_ok
  · cases h; exact a32_ok
  · cases h; exact a33_ok
  · cases h; exact a34_ok
  · cases h; exact a35_ok
  · cases h; exact a36_ok
  · cases h
theorem tblF_ok : ∀ f a, tblF f = some a → cfun Try.prog f = some a := by
  intro f a h
  unfold tblF at h
  split at h
  · cases h; exact a5_ok
  · cases h; exact a7_ok
  · cases h; exact a8_ok
  · cases h; exact a9_ok
  · cases h; exact a10_ok
  · cases h; exact a11_ok
  · cases h; exact a12_ok
  · cases h; exact a13_ok
  · cases h; exact a14_ok
  · cases h; exact a15_ok
  · cases h; exact a16_ok
  · cases h; exact a17_ok
  · cases h; exact a18_ok
  · cases h; exact a19_ok
  · cases h; exact a20_ok
  · cases h; exact a21_ok
  · cases h; exact a22_ok
  · cases h; exact a23_ok
  · cases h; exact a24_ok
  · cases h; exact a26_ok
  · cases h; exact a27_ok
  · cases h; exact a28_ok
  · cases h; exact a29_ok
  · cases h; exact a30_ok
  · cases h; exact a31_ok
  · cases h; exact a33_ok
  · cases h; exact a34_ok
  · cases h; exact a35_ok
  · cases h; exact a36_ok
  · cases h
end Go.Proofs.Ytokfnhildehndaa.Abs
