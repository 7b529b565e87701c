/- Pure part of FieldPuts: the printed functions of layer 1 and its reference, in terms of the plain bits. -/
import Derived.Test.YtnjoadchhkhleaaQ8
import Derived.Test.YtnjoadchhkhleaaBits
import Derived.Laws.BitsAllLaws
namespace Go.Proofs.Ytnjoadchhkhleaa.Q
open Go.RowKit Go.Proofs.YtnjoadchhkhleaaW.PrintWords Go.Proofs.YtnjoadchhkhleaaW.PrintLast Go.Proofs.YtnjoadchhkhleaaW.PrintMore Fut

abbrev mayP (a d : Int) : Prop := 1 ≤ d ∧ a + d ≤ 64

theorem may_eq (a d : Int) (ha : 0 ≤ a) (hd : 0 ≤ d) (ha2 : a < 256) (hd2 : d < 256) : field_Field_May.f a d = some (decide (mayP a d)) := by
  unfold field_Field_May.f mayP
  by_cases h1 : d ≥ 1
  · rw [if_pos h1]
    by_cases h2 : a < 64
    · rw [if_pos h2]; congr 1; rw [decide_eq_decide]; omega
    · rw [if_neg h2]; congr 1; symm; rw [decide_eq_false_iff_not]; omega
  · rw [if_neg h1]; congr 1; symm; rw [decide_eq_false_iff_not]; omega

theorem rmay_eq (a d : Int) (ha : 0 ≤ a) (hd : 0 ≤ d) (ha2 : a < 256) (hd2 : d < 256) : futtockref01_May.f a d = some (decide (mayP a d)) := by
  unfold futtockref01_May.f mayP wrap64
  by_cases h1 : d ≥ 1
  · rw [if_pos h1]
    by_cases h2 : d ≤ 64
    · rw [if_pos h2]; congr 1; rw [decide_eq_decide]; omega
    · rw [if_neg h2]; congr 1; symm; rw [decide_eq_false_iff_not]; omega
  · rw [if_neg h1]; congr 1; symm; rw [decide_eq_false_iff_not]; omega

theorem most_eq (a d : Nat) (ha2 : a < 256) (hd2 : d < 256) : field_Field_Most.f a d = some (if mayP a d then ((2 ^ d - 1 : Nat) : Int) else 0) := by
  unfold field_Field_Most.f
  rw [may_eq _ _ (by omega) (by omega) (by omega) (by omega)]
  simp only [Option.bind_some]
  by_cases h : mayP a d
  · rw [if_pos (by simpa using h), if_pos h]
    have h' := h
    unfold mayP at h'
    congr 1
    unfold shr
    have e1 : ((64 - (d : Int)) % 256).toNat = 64 - d := by omega
    rw [e1, Nat.min_eq_left (by show 64 - d ≤ 64; omega)]
    obtain ⟨s, rfl⟩ : ∃ s, d = 64 - s := ⟨64 - d, by omega⟩
    have hs : s ≤ 63 := by omega
    rw [show 64 - (64 - s) = s from by omega]
    have : ((18446744073709551615 : Int) / 2 ^ s) = ((18446744073709551615 / 2 ^ s : Nat) : Int) := by simp
    rw [this]
    congr 1
    clear this h h' e1
    have : ∀ s, s ≤ 63 → 18446744073709551615 / 2 ^ s = 2 ^ (64 - s) - 1 := by decide
    exact this s hs
  · rw [if_neg (by simpa using h), if_neg h]

theorem pow_int (n : Nat) : ((2 : Int) ^ n) = ((2 ^ n : Nat) : Int) := by simp

theorem shl_nat (x n : Nat) (hn : n ≤ 64) : shl .u64 (x : Int) (n : Int) = ((x * 2 ^ n % 18446744073709551616 : Nat) : Int) := by
  unfold shl
  rw [Int.toNat_natCast, Nat.min_eq_left (by show n ≤ 64; exact hn), IntKind.wrap_u64, pow_int]
  simp

theorem mask_eq (a d : Nat) (ha2 : a < 256) (hd2 : d < 256) : field_Field_Mask.f a d = some (if mayP a d then ((mask a d : Nat) : Int) else 0) := by
  unfold field_Field_Mask.f
  rw [most_eq a d ha2 hd2]
  simp only [Option.bind_some]
  rw [if_pos (by omega)]
  congr 1
  by_cases h : mayP a d
  · rw [if_pos h, if_pos h]
    unfold mayP at h
    rw [shl_nat _ _ (by omega)]
    congr 1
    exact Nat.mod_eq_of_lt (mask_lt (a := a) (d := d) (by omega))
  · rw [if_neg h, if_neg h]
    unfold shl
    rw [Int.zero_mul]; decide

theorem put_eq (a d w v : Nat) (ha2 : a < 256) (hd2 : d < 256) (hw : w < 18446744073709551616) : field_Field_Put.f a d w v = some (if mayP a d then ((putN a d w v : Nat) : Int) else (w : Int)) := by
  unfold field_Field_Put.f
  rw [mask_eq a d ha2 hd2]
  simp only [Option.bind_some]
  rw [if_pos (by omega)]
  congr 1
  by_cases h : mayP a d
  · rw [if_pos h, if_pos h]
    unfold mayP at h
    have hm := mask_lt (a := a) (d := d) (by omega)
    have hm' : mask a d < 18446744073709551616 := hm
    rw [shl_nat _ _ (by omega), u64_andNot_nat _ _ hw hm', u64_and_nat _ _ (Nat.mod_lt _ (by decide)) hm', u64_or_nat]
    · rfl
    · exact Nat.lt_of_le_of_lt Nat.and_le_left hw
    · exact Nat.lt_of_le_of_lt Nat.and_le_right hm'
  · rw [if_neg h, if_neg h]
    have e1 : Go.bits .andNot .u64 (w : Int) 0 = ((w &&& (18446744073709551615 - 0) : Nat) : Int) := u64_andNot_nat w 0 hw (by decide)
    have hs : 0 ≤ shl .u64 (v : Int) (a : Int) ∧ shl .u64 (v : Int) (a : Int) < 18446744073709551616 := by
      unfold shl; rw [IntKind.wrap_u64]; omega
    have e2 : Go.bits .and .u64 (shl .u64 (v : Int) (a : Int)) 0 = (((shl .u64 (v : Int) (a : Int)).toNat &&& (0 : Int).toNat : Nat) : Int) := u64_and _ 0 hs.1 hs.2 (by decide) (by decide)
    rw [e1, e2]
    have e3 : w &&& 18446744073709551615 - 0 = w := by
      have : (18446744073709551615 - 0 : Nat) = 2 ^ 64 - 1 := rfl
      rw [this, Nat.and_two_pow_sub_one_eq_mod]
      exact Nat.mod_eq_of_lt hw
    rw [e3]
    simp only [Int.toNat_zero, Nat.and_zero]
    rw [u64_or_nat _ _ hw (by decide), Nat.or_zero]

/-! ### the reference -/
theorem power_l0 (n : Nat) (hn : n ≤ 63) (d : Nat) : ∀ (k i : Nat), i + d = n → d < k → futtockref01_power.l0 k (n : Int) ((2 ^ i : Nat) : Int) (i : Int) = some ((2 ^ n : Nat) : Int) := by
  induction d with
  | zero =>
    intro k i hi hk
    obtain ⟨k, rfl⟩ : ∃ m, k = m + 1 := ⟨k - 1, by omega⟩
    simp only [futtockref01_power.l0]
    rw [if_neg (by omega)]
    have : i = n := by omega
    rw [this]
  | succ d ih =>
    intro k i hi hk
    obtain ⟨k, rfl⟩ : ∃ m, k = m + 1 := ⟨k - 1, by omega⟩
    simp only [futtockref01_power.l0]
    rw [if_pos (by omega)]
    have e1 : IntKind.u64.wrap (((2 ^ i : Nat) : Int) * 2) = ((2 ^ (i + 1) : Nat) : Int) := by
      rw [IntKind.wrap_u64]
      have h2 : 2 ^ (i + 1) < 2 ^ 64 := Nat.pow_lt_pow_right (by omega) (by omega)
      have h3 : 2 ^ (i + 1) = 2 ^ i * 2 := Nat.pow_succ ..
      omega
    have e2 : wrap64 ((i : Int) + 1) = ((i + 1 : Nat) : Int) := by unfold wrap64; omega
    rw [e1, e2]
    exact ih k (i + 1) (by omega) (by omega)

theorem power_eq (n k : Nat) (hn : n ≤ 63) (hk : n < k) : futtockref01_power.f k (n : Int) = some ((2 ^ n : Nat) : Int) := by
  unfold futtockref01_power.f
  exact power_l0 n hn n k 0 (by omega) hk

theorem bit_step (w i : Nat) (hw : w < 18446744073709551616) : Int.tmod (IntKind.u64.wrap (Int.tdiv (w : Int) ((2 ^ i : Nat) : Int))) 2 = ((w.testBit i).toNat : Int) := by
  have e1 : Int.tdiv (w : Int) ((2 ^ i : Nat) : Int) = ((w / 2 ^ i : Nat) : Int) := by rw [Int.tdiv_eq_ediv_of_nonneg (by omega)]; simp
  rw [e1, ← bit_toNat]
  have h1 : w / 2 ^ i ≤ w := Nat.div_le_self ..
  clear e1
  generalize w / 2 ^ i = q at h1 ⊢
  rw [IntKind.wrap_u64, Int.tmod_eq_emod_of_nonneg (by omega)]
  omega

theorem add_step (f : Nat → Bool) (i : Nat) (hi : i < 64) (b : Bool) (hb : f i = b) : IntKind.u64.wrap ((bs f i : Nat) + IntKind.u64.wrap ((b.toNat : Int) * ((2 ^ i : Nat) : Int))) = ((bs f (i + 1) : Nat) : Int) := by
  subst hb
  have h1 := bs_lt f (i + 1)
  have h2 : 2 ^ (i + 1) ≤ 2 ^ 64 := Nat.pow_le_pow_right (by omega) (by omega)
  have e : bs f (i + 1) = bs f i + (f i).toNat * 2 ^ i := rfl
  have e2 : ((f i).toNat : Int) * ((2 ^ i : Nat) : Int) = (((f i).toNat * 2 ^ i : Nat) : Int) := by simp
  rw [e2, IntKind.wrap_u64, IntKind.wrap_u64]
  omega

theorem wrap_id (n : Int) (h1 : -9223372036854775808 ≤ n) (h2 : n < 9223372036854775808) : wrap64 n = n := by unfold wrap64; omega
theorem wrap_nat (n : Nat) (h : n < 1000) : wrap64 (n : Int) = n := wrap_id _ (by omega) (by omega)
theorem wrap_succ (n : Nat) (h : n < 1000) : wrap64 ((n : Int) + 1) = ((n + 1 : Nat) : Int) := by rw [wrap_id _ (by omega) (by omega)]; rfl

theorem put_l0 (a d w v : Nat) (hd : a + d ≤ 64) (ha : a < 64) (hw : w < 18446744073709551616) (hv : v < 18446744073709551616) (m : Nat) :
    ∀ (k i : Nat), i + m = 64 → 2 * m + 64 < k → futtockref01_Put.l0 k (w : Int) (v : Int) ((bs (putF a d w v) i : Nat) : Int) (i : Int) (a : Int) (d : Int) = some ((bs (putF a d w v) 64 : Nat) : Int) := by
  induction m with
  | zero =>
    intro k i hi hk
    obtain ⟨k, rfl⟩ : ∃ m, k = m + 1 := ⟨k - 1, by omega⟩
    simp only [futtockref01_Put.l0]
    rw [if_neg (by omega)]
    have : i = 64 := by omega
    rw [this]
  | succ m ih =>
    intro k i hi hk
    obtain ⟨k, rfl⟩ : ∃ m, k = m + 2 := ⟨k - 2, by omega⟩
    have hp : ((2 ^ i : Nat) : Int) ≠ 0 := by have := Nat.two_pow_pos i; omega
    have hi64 : (i : Int) < 64 := by omega
    have hi64' : i < 64 := by omega
    have p1 := power_eq i (k + 1) (by omega) (by omega)
    have p2 := power_eq i k (by omega) (by omega)
    have goon := ih k (i + 1) (by omega) (by omega)
    clear ih
    have e1 := wrap_nat a (by omega)
    have e3 := wrap_nat d (by omega)
    have e4 := wrap_succ i (by omega)
    have e2 := wrap_id ((i : Int) - a) (by omega) (by omega)
    rw [show k + 2 = (k + 1) + 1 from rfl]
    simp only [futtockref01_Put.l0]
    rw [if_pos hi64, p1]
    simp only [Option.bind_some]
    rw [if_neg hp, e1, e2, e3, bit_step w i hw]
    clear e1 e2 e3 p1
    by_cases h1 : a ≤ i
    · obtain ⟨c, hc⟩ : ∃ c, i - a = c := ⟨_, rfl⟩
      have ec : (i : Int) - a = (c : Int) := by clear e4; omega
      have hp2 : ((2 ^ c : Nat) : Int) ≠ 0 := by clear e4; have := Nat.two_pow_pos c; omega
      have hc0 : (c : Int) ≥ 0 := by clear e4; omega
      rw [ec, if_pos hc0]
      simp only [futtockref01_Put.j1]
      by_cases h2 : c < d
      · have p3 := power_eq c k (by clear e4; omega) (by clear e4; omega)
        have hf : putF a d w v i = v.testBit c := by unfold putF; rw [if_pos (by clear e4; omega), hc]
        rw [if_pos (by simpa using h2), p3]
        simp only [Option.bind_some]
        rw [if_neg hp2, p2]
        simp only [Option.bind_some]
        rw [bit_step v c hv, add_step (putF a d w v) i hi64' _ hf, e4]
        exact goon
      · have hf : putF a d w v i = w.testBit i := by unfold putF; rw [if_neg (by clear e4; omega)]
        rw [if_neg (by simpa using h2), p2]
        simp only [Option.bind_some]
        rw [add_step (putF a d w v) i hi64' _ hf, e4]
        exact goon
    · have hn : ¬ ((i : Int) - a ≥ 0) := by clear e4; omega
      have hf : putF a d w v i = w.testBit i := by unfold putF; rw [if_neg (by clear e4; omega)]
      rw [if_neg hn]
      simp only [futtockref01_Put.j1]
      rw [if_neg (by simp), p2]
      simp only [Option.bind_some]
      rw [add_step (putF a d w v) i hi64' _ hf, e4]
      exact goon

theorem rput_eq (a d w v k : Nat) (ha2 : a < 256) (hd2 : d < 256) (hw : w < 18446744073709551616) (hv : v < 18446744073709551616) (hk : 200 ≤ k) :
    futtockref01_Put.f k a d w v = some (if mayP a d then ((putN a d w v : Nat) : Int) else (w : Int)) := by
  unfold futtockref01_Put.f
  rw [rmay_eq _ _ (by omega) (by omega) (by omega) (by omega)]
  simp only [Option.bind_some]
  by_cases h : mayP a d
  · rw [if_pos (by simpa using h), if_pos h]
    unfold mayP at h
    rw [putN_bs (by omega) w v hw]
    exact put_l0 a d w v (by omega) (by omega) hw hv 64 k 0 (by omega) (by omega)
  · rw [if_neg (by simpa using h), if_neg h]

theorem alive_eq : futtocklaw01_alive.f = some true := by decide +kernel

theorem puts_pure (a d w v : Nat) (ha2 : a < 256) (hd2 : d < 256) (hw : w < 18446744073709551616) (hv : v < 18446744073709551616) : futtocklaw01_FieldPuts.f 200 a d w v = some true := by
  unfold futtocklaw01_FieldPuts.f
  rw [put_eq a d w v ha2 hd2 hw, rput_eq a d w v 200 ha2 hd2 hw hv (by omega)]
  simp only [Option.bind_some, if_true]
  rw [alive_eq]; rfl
end Go.Proofs.Ytnjoadchhkhleaa.Q
