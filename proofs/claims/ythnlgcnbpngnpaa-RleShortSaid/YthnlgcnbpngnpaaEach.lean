/- The walk of rle.each, once for each closure that it is called with: the calls are the runs. No condition of its own. -/
import Derived.Test.YthnlgcnbpngnpaaQ0
import Derived.WalkKit
import Derived.StillTailTactics
namespace Go.Proofs.Ythnlgcnbpngnpaa.Q
open Go.RowKit Go.Proofs.YthnlgcnbpngnpaaW.PrintWords Go.Proofs.YthnlgcnbpngnpaaW.PrintLast Go.Proofs.YthnlgcnbpngnpaaW.PrintMore
set_option linter.unusedVariables false
/-- Whether a run ends at a place. -/
def endsN (l : List Int) (i : Nat) : Bool := decide ((i : Int) = (l.length : Int) - 1 ∨ rd l ((i : Int) + 1) ≠ rd l i)
/-- Where the run that goes on at a place began. -/
def fromN (l : List Int) : Nat → Nat
  | 0 => 0
  | i + 1 => if endsN l i = true then i + 1 else fromN l i
/-- The runs that end below a place. -/
def callsN (l : List Int) : Nat → List (Int × Int)
  | 0 => []
  | i + 1 => if endsN l i = true then callsN l i ++ [(rd l i, (i : Int) + 1 - (fromN l i : Int))] else callsN l i
theorem fromN_le (l : List Int) : ∀ i, fromN l i ≤ i
  | 0 => Nat.le_refl _
  | i + 1 => by
    have := fromN_le l i
    simp only [fromN]
    split <;> omega

set_option maxRecDepth 100000 in
set_option maxHeartbeats 4000000 in
theorem each18 (A : Option Addr) (c : Nat) (l : List Int) (caps : Array Value) (Inv : List (Int × Int) → World → Prop)
    (hread : ∀ cs W, Inv cs W → Kd.C (Kd.int .i64) W A l.length l)
    (hdraw : ∀ cs W m, Inv cs W → Inv cs (W.drewN m))
    (hcl : ∀ i W, i < l.length → Inv (callsN l i) W → Calls Try.prog 18 (#[.int .i64 (rd l i), .int .i64 ((i : Int) + 1 - (fromN l i : Int))] ++ caps) W fun e w' => e = .returned (.tuple #[]) ∧ Inv (callsN l i ++ [(rd l i, (i : Int) + 1 - (fromN l i : Int))]) w')
    (hc : l.length ≤ c) (hl : l.length ≤ 100000) (w : World) (h0 : Inv [] w) :
    Calls Try.prog 17 #[.slice A l.length c, .func (.func 18) #[] caps] w fun e w' => e = .returned (.tuple #[]) ∧ Inv (callsN l l.length) w' := by
  have HR := Aside0.mk hread
  have HD := Aside0.mk hdraw
  have HC := Aside0.mk hcl
  have H0 := Aside0.mk h0
  clear hread hdraw hcl h0
  go_enter Try.func17, Try.ntmps17
  go_wp2
  go_loopw [4, 8] (fun v4 v8 wr => ∃ i : Nat, i ≤ l.length ∧ v4 = .int .i64 (fromN l i : Int) ∧ v8 = .int .i64 (i : Int) ∧ Aside0 (Inv (callsN l i) wr)) (fun _ v8 _ => l.length - (intOf v8).toNat)
  case atStart => exact ⟨0, Nat.zero_le _, rfl, rfl, H0⟩
  case round =>
    clear H0
    obtain ⟨i, hi, rfl, rfl, HI⟩ := hrel
    have hf := fromN_le l i
    by_cases hlt : i < l.length
    · have HS : Aside0 (callsN l (i + 1) = if endsN l i = true then callsN l i ++ [(rd l i, (i : Int) + 1 - (fromN l i : Int))] else callsN l i) := ⟨rfl⟩
      have HF : Aside0 (fromN l (i + 1) = if endsN l i = true then i + 1 else fromN l i) := ⟨rfl⟩
      obtain ⟨ad1, e1, hx1⟩ := Kd.at_int (HR.out _ _ HI.out) (i : Int) (by omega) (by omega)
      cases e1
      rw [Int.toNat_natCast] at hx1
      have hW1 : IntKind.i64.wrap ((i : Int) + 1) = (i : Int) + 1 := (i64_w _).trans (by unfold wrap64; omega)
      have hW2 : IntKind.i64.wrap ((l.length : Int) - 1) = (l.length : Int) - 1 := (i64_w _).trans (by unfold wrap64; omega)
      have hW3 : IntKind.i64.wrap ((i : Int) + 1 - (fromN l i : Int)) = (i : Int) + 1 - (fromN l i : Int) := (i64_w _).trans (by unfold wrap64; omega)
      by_cases hlast : i + 1 = l.length
      · have hend : Aside0 (endsN l i = true) := ⟨by unfold endsN; exact decide_eq_true (Or.inl (by omega))⟩
        have hlastI : ((i : Int) == (l.length : Int) - 1) = true := beq_iff_eq.mpr (by omega)
        clear hlast
        go_wp2
        repeat (go_quiet (fail); try go_wp2_with (go_at_call 18; refine (HC.out i _ hlt (by first | exact HI.out | exact HD.out _ _ _ HI.out)).mono ?_; rintro e w5 ⟨rfl, hI⟩; have HI5 := Aside0.mk hI; clear hI))
        go_roundw
        case rel => exact ⟨i + 1, by omega, by rw [HF.out, if_pos hend.out]; go_num, by go_num, by rw [HS.out, if_pos hend.out]; exact HI5⟩
        case measure => simp [intOf]; omega
      · have hlastN : ¬ (i : Int) = (l.length : Int) - 1 := by omega
        have hlt2 : i + 1 < l.length := by omega
        clear hlast
        obtain ⟨ad2, e2, hx2⟩ := Kd.at_int (HR.out _ _ HI.out) ((i : Int) + 1) (by omega) (by omega)
        obtain rfl : ad1 = ad2 := by injection e2
        clear e2
        have hx3 := hx2
        rw [show ((i : Int) + 1).toNat = i + 1 from by omega] at hx3
        have hx4 : wr.cell? ⟨ad1.block, ad1.off + (i + 1), none⟩ = some (.int .i64 (rd l ((i : Int) + 1))) := hx3
        have hq1 : (0 ≤ (i : Int) + 1) = True := eq_true (by omega)
        have hq2 : ((i : Int) + 1 < (l.length : Int)) = True := eq_true (by omega)
        have hlastI : ((i : Int) == (l.length : Int) - 1) = false := beq_eq_false_iff_ne.mpr hlastN
        by_cases hne : rd l ((i : Int) + 1) = rd l i
        · have hend : Aside0 (¬ endsN l i = true) := ⟨by unfold endsN; rw [decide_eq_true_eq]; rintro (h | h); exact hlastN h; exact h hne⟩
          have hneI : (rd l ((i : Int) + 1) != rd l (i : Int)) = false := by rw [hne]; exact bne_self_eq_false _
          clear hlastN hne
          go_wp2
          repeat (go_quiet (fail); try go_wp2)
          go_roundw
          case rel => exact ⟨i + 1, by omega, by rw [HF.out, if_neg hend.out], by go_num, by rw [HS.out, if_neg hend.out]; exact ⟨by first | exact HI.out | exact HD.out _ _ _ HI.out⟩⟩
          case measure => simp [intOf]; omega
        · have hend : Aside0 (endsN l i = true) := ⟨by unfold endsN; exact decide_eq_true (Or.inr hne)⟩
          have hneI : (rd l ((i : Int) + 1) != rd l (i : Int)) = true := bne_iff_ne.mpr hne
          clear hlastN hne
          go_wp2
          repeat (go_quiet (fail); try go_wp2_with (go_at_call 18; refine (HC.out i _ hlt (by first | exact HI.out | exact HD.out _ _ _ HI.out)).mono ?_; rintro e w5 ⟨rfl, hI⟩; have HI5 := Aside0.mk hI; clear hI))
          go_roundw
          case rel => exact ⟨i + 1, by omega, by rw [HF.out, if_pos hend.out]; go_num, by go_num, by rw [HS.out, if_pos hend.out]; exact HI5⟩
          case measure => simp [intOf]; omega
    · obtain rfl : i = l.length := by omega
      clear hlt
      go_wp2
      go_end0
      exact ⟨rfl, HI.out⟩

set_option maxRecDepth 100000 in
set_option maxHeartbeats 4000000 in
theorem each19 (A : Option Addr) (c : Nat) (l : List Int) (caps : Array Value) (Inv : List (Int × Int) → World → Prop)
    (hread : ∀ cs W, Inv cs W → Kd.C (Kd.int .i64) W A l.length l)
    (hdraw : ∀ cs W m, Inv cs W → Inv cs (W.drewN m))
    (hcl : ∀ i W, i < l.length → Inv (callsN l i) W → Calls Try.prog 19 (#[.int .i64 (rd l i), .int .i64 ((i : Int) + 1 - (fromN l i : Int))] ++ caps) W fun e w' => e = .returned (.tuple #[]) ∧ Inv (callsN l i ++ [(rd l i, (i : Int) + 1 - (fromN l i : Int))]) w')
    (hc : l.length ≤ c) (hl : l.length ≤ 100000) (w : World) (h0 : Inv [] w) :
    Calls Try.prog 17 #[.slice A l.length c, .func (.func 19) #[] caps] w fun e w' => e = .returned (.tuple #[]) ∧ Inv (callsN l l.length) w' := by
  have HR := Aside0.mk hread
  have HD := Aside0.mk hdraw
  have HC := Aside0.mk hcl
  have H0 := Aside0.mk h0
  clear hread hdraw hcl h0
  go_enter Try.func17, Try.ntmps17
  go_wp2
  go_loopw [4, 8] (fun v4 v8 wr => ∃ i : Nat, i ≤ l.length ∧ v4 = .int .i64 (fromN l i : Int) ∧ v8 = .int .i64 (i : Int) ∧ Aside0 (Inv (callsN l i) wr)) (fun _ v8 _ => l.length - (intOf v8).toNat)
  case atStart => exact ⟨0, Nat.zero_le _, rfl, rfl, H0⟩
  case round =>
    clear H0
    obtain ⟨i, hi, rfl, rfl, HI⟩ := hrel
    have hf := fromN_le l i
    by_cases hlt : i < l.length
    · have HS : Aside0 (callsN l (i + 1) = if endsN l i = true then callsN l i ++ [(rd l i, (i : Int) + 1 - (fromN l i : Int))] else callsN l i) := ⟨rfl⟩
      have HF : Aside0 (fromN l (i + 1) = if endsN l i = true then i + 1 else fromN l i) := ⟨rfl⟩
      obtain ⟨ad1, e1, hx1⟩ := Kd.at_int (HR.out _ _ HI.out) (i : Int) (by omega) (by omega)
      cases e1
      rw [Int.toNat_natCast] at hx1
      have hW1 : IntKind.i64.wrap ((i : Int) + 1) = (i : Int) + 1 := (i64_w _).trans (by unfold wrap64; omega)
      have hW2 : IntKind.i64.wrap ((l.length : Int) - 1) = (l.length : Int) - 1 := (i64_w _).trans (by unfold wrap64; omega)
      have hW3 : IntKind.i64.wrap ((i : Int) + 1 - (fromN l i : Int)) = (i : Int) + 1 - (fromN l i : Int) := (i64_w _).trans (by unfold wrap64; omega)
      by_cases hlast : i + 1 = l.length
      · have hend : Aside0 (endsN l i = true) := ⟨by unfold endsN; exact decide_eq_true (Or.inl (by omega))⟩
        have hlastI : ((i : Int) == (l.length : Int) - 1) = true := beq_iff_eq.mpr (by omega)
        clear hlast
        go_wp2
        repeat (go_quiet (fail); try go_wp2_with (go_at_call 19; refine (HC.out i _ hlt (by first | exact HI.out | exact HD.out _ _ _ HI.out)).mono ?_; rintro e w5 ⟨rfl, hI⟩; have HI5 := Aside0.mk hI; clear hI))
        go_roundw
        case rel => exact ⟨i + 1, by omega, by rw [HF.out, if_pos hend.out]; go_num, by go_num, by rw [HS.out, if_pos hend.out]; exact HI5⟩
        case measure => simp [intOf]; omega
      · have hlastN : ¬ (i : Int) = (l.length : Int) - 1 := by omega
        have hlt2 : i + 1 < l.length := by omega
        clear hlast
        obtain ⟨ad2, e2, hx2⟩ := Kd.at_int (HR.out _ _ HI.out) ((i : Int) + 1) (by omega) (by omega)
        obtain rfl : ad1 = ad2 := by injection e2
        clear e2
        have hx3 := hx2
        rw [show ((i : Int) + 1).toNat = i + 1 from by omega] at hx3
        have hx4 : wr.cell? ⟨ad1.block, ad1.off + (i + 1), none⟩ = some (.int .i64 (rd l ((i : Int) + 1))) := hx3
        have hq1 : (0 ≤ (i : Int) + 1) = True := eq_true (by omega)
        have hq2 : ((i : Int) + 1 < (l.length : Int)) = True := eq_true (by omega)
        have hlastI : ((i : Int) == (l.length : Int) - 1) = false := beq_eq_false_iff_ne.mpr hlastN
        by_cases hne : rd l ((i : Int) + 1) = rd l i
        · have hend : Aside0 (¬ endsN l i = true) := ⟨by unfold endsN; rw [decide_eq_true_eq]; rintro (h | h); exact hlastN h; exact h hne⟩
          have hneI : (rd l ((i : Int) + 1) != rd l (i : Int)) = false := by rw [hne]; exact bne_self_eq_false _
          clear hlastN hne
          go_wp2
          repeat (go_quiet (fail); try go_wp2)
          go_roundw
          case rel => exact ⟨i + 1, by omega, by rw [HF.out, if_neg hend.out], by go_num, by rw [HS.out, if_neg hend.out]; exact ⟨by first | exact HI.out | exact HD.out _ _ _ HI.out⟩⟩
          case measure => simp [intOf]; omega
        · have hend : Aside0 (endsN l i = true) := ⟨by unfold endsN; exact decide_eq_true (Or.inr hne)⟩
          have hneI : (rd l ((i : Int) + 1) != rd l (i : Int)) = true := bne_iff_ne.mpr hne
          clear hlastN hne
          go_wp2
          repeat (go_quiet (fail); try go_wp2_with (go_at_call 19; refine (HC.out i _ hlt (by first | exact HI.out | exact HD.out _ _ _ HI.out)).mono ?_; rintro e w5 ⟨rfl, hI⟩; have HI5 := Aside0.mk hI; clear hI))
          go_roundw
          case rel => exact ⟨i + 1, by omega, by rw [HF.out, if_pos hend.out]; go_num, by go_num, by rw [HS.out, if_pos hend.out]; exact HI5⟩
          case measure => simp [intOf]; omega
    · obtain rfl : i = l.length := by omega
      clear hlt
      go_wp2
      go_end0
      exact ⟨rfl, HI.out⟩

set_option maxRecDepth 100000 in
set_option maxHeartbeats 4000000 in
theorem each20 (A : Option Addr) (c : Nat) (l : List Int) (caps : Array Value) (Inv : List (Int × Int) → World → Prop)
    (hread : ∀ cs W, Inv cs W → Kd.C (Kd.int .i64) W A l.length l)
    (hdraw : ∀ cs W m, Inv cs W → Inv cs (W.drewN m))
    (hcl : ∀ i W, i < l.length → Inv (callsN l i) W → Calls Try.prog 20 (#[.int .i64 (rd l i), .int .i64 ((i : Int) + 1 - (fromN l i : Int))] ++ caps) W fun e w' => e = .returned (.tuple #[]) ∧ Inv (callsN l i ++ [(rd l i, (i : Int) + 1 - (fromN l i : Int))]) w')
    (hc : l.length ≤ c) (hl : l.length ≤ 100000) (w : World) (h0 : Inv [] w) :
    Calls Try.prog 17 #[.slice A l.length c, .func (.func 20) #[] caps] w fun e w' => e = .returned (.tuple #[]) ∧ Inv (callsN l l.length) w' := by
  have HR := Aside0.mk hread
  have HD := Aside0.mk hdraw
  have HC := Aside0.mk hcl
  have H0 := Aside0.mk h0
  clear hread hdraw hcl h0
  go_enter Try.func17, Try.ntmps17
  go_wp2
  go_loopw [4, 8] (fun v4 v8 wr => ∃ i : Nat, i ≤ l.length ∧ v4 = .int .i64 (fromN l i : Int) ∧ v8 = .int .i64 (i : Int) ∧ Aside0 (Inv (callsN l i) wr)) (fun _ v8 _ => l.length - (intOf v8).toNat)
  case atStart => exact ⟨0, Nat.zero_le _, rfl, rfl, H0⟩
  case round =>
    clear H0
    obtain ⟨i, hi, rfl, rfl, HI⟩ := hrel
    have hf := fromN_le l i
    by_cases hlt : i < l.length
    · have HS : Aside0 (callsN l (i + 1) = if endsN l i = true then callsN l i ++ [(rd l i, (i : Int) + 1 - (fromN l i : Int))] else callsN l i) := ⟨rfl⟩
      have HF : Aside0 (fromN l (i + 1) = if endsN l i = true then i + 1 else fromN l i) := ⟨rfl⟩
      obtain ⟨ad1, e1, hx1⟩ := Kd.at_int (HR.out _ _ HI.out) (i : Int) (by omega) (by omega)
      cases e1
      rw [Int.toNat_natCast] at hx1
      have hW1 : IntKind.i64.wrap ((i : Int) + 1) = (i : Int) + 1 := (i64_w _).trans (by unfold wrap64; omega)
      have hW2 : IntKind.i64.wrap ((l.length : Int) - 1) = (l.length : Int) - 1 := (i64_w _).trans (by unfold wrap64; omega)
      have hW3 : IntKind.i64.wrap ((i : Int) + 1 - (fromN l i : Int)) = (i : Int) + 1 - (fromN l i : Int) := (i64_w _).trans (by unfold wrap64; omega)
      by_cases hlast : i + 1 = l.length
      · have hend : Aside0 (endsN l i = true) := ⟨by unfold endsN; exact decide_eq_true (Or.inl (by omega))⟩
        have hlastI : ((i : Int) == (l.length : Int) - 1) = true := beq_iff_eq.mpr (by omega)
        clear hlast
        go_wp2
        repeat (go_quiet (fail); try go_wp2_with (go_at_call 20; refine (HC.out i _ hlt (by first | exact HI.out | exact HD.out _ _ _ HI.out)).mono ?_; rintro e w5 ⟨rfl, hI⟩; have HI5 := Aside0.mk hI; clear hI))
        go_roundw
        case rel => exact ⟨i + 1, by omega, by rw [HF.out, if_pos hend.out]; go_num, by go_num, by rw [HS.out, if_pos hend.out]; exact HI5⟩
        case measure => simp [intOf]; omega
      · have hlastN : ¬ (i : Int) = (l.length : Int) - 1 := by omega
        have hlt2 : i + 1 < l.length := by omega
        clear hlast
        obtain ⟨ad2, e2, hx2⟩ := Kd.at_int (HR.out _ _ HI.out) ((i : Int) + 1) (by omega) (by omega)
        obtain rfl : ad1 = ad2 := by injection e2
        clear e2
        have hx3 := hx2
        rw [show ((i : Int) + 1).toNat = i + 1 from by omega] at hx3
        have hx4 : wr.cell? ⟨ad1.block, ad1.off + (i + 1), none⟩ = some (.int .i64 (rd l ((i : Int) + 1))) := hx3
        have hq1 : (0 ≤ (i : Int) + 1) = True := eq_true (by omega)
        have hq2 : ((i : Int) + 1 < (l.length : Int)) = True := eq_true (by omega)
        have hlastI : ((i : Int) == (l.length : Int) - 1) = false := beq_eq_false_iff_ne.mpr hlastN
        by_cases hne : rd l ((i : Int) + 1) = rd l i
        · have hend : Aside0 (¬ endsN l i = true) := ⟨by unfold endsN; rw [decide_eq_true_eq]; rintro (h | h); exact hlastN h; exact h hne⟩
          have hneI : (rd l ((i : Int) + 1) != rd l (i : Int)) = false := by rw [hne]; exact bne_self_eq_false _
          clear hlastN hne
          go_wp2
          repeat (go_quiet (fail); try go_wp2)
          go_roundw
          case rel => exact ⟨i + 1, by omega, by rw [HF.out, if_neg hend.out], by go_num, by rw [HS.out, if_neg hend.out]; exact ⟨by first | exact HI.out | exact HD.out _ _ _ HI.out⟩⟩
          case measure => simp [intOf]; omega
        · have hend : Aside0 (endsN l i = true) := ⟨by unfold endsN; exact decide_eq_true (Or.inr hne)⟩
          have hneI : (rd l ((i : Int) + 1) != rd l (i : Int)) = true := bne_iff_ne.mpr hne
          clear hlastN hne
          go_wp2
          repeat (go_quiet (fail); try go_wp2_with (go_at_call 20; refine (HC.out i _ hlt (by first | exact HI.out | exact HD.out _ _ _ HI.out)).mono ?_; rintro e w5 ⟨rfl, hI⟩; have HI5 := Aside0.mk hI; clear hI))
          go_roundw
          case rel => exact ⟨i + 1, by omega, by rw [HF.out, if_pos hend.out]; go_num, by go_num, by rw [HS.out, if_pos hend.out]; exact HI5⟩
          case measure => simp [intOf]; omega
    · obtain rfl : i = l.length := by omega
      clear hlt
      go_wp2
      go_end0
      exact ⟨rfl, HI.out⟩
end Go.Proofs.Ythnlgcnbpngnpaa.Q
