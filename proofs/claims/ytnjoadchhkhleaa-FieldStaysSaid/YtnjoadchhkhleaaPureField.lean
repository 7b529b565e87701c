/- The functions of layer 1 and of its reference, told by plain sums of bits: what each answers at every input. No condition of its own. -/
import Derived.Test.YtnjoadchhkhleaaQ3
import Derived.Test.YtnjoadchhkhleaaBits
import Derived.Laws.BitsAllLaws
namespace Go.Proofs.Ytnjoadchhkhleaa.Q
open Go.RowKit Go.Proofs.YtnjoadchhkhleaaW.PrintWords Go.Proofs.YtnjoadchhkhleaaW.PrintLast Go.Proofs.YtnjoadchhkhleaaW.PrintMore Fut

abbrev mayP (a d : Int) : Prop := 1 ≤ d ∧ a + d ≤ 64

theorem may_eq (a d : Int) (ha : 0 ≤ a) (hd : 0 ≤ d) (ha2 : a < 256) (hd2 : d < 256) : field_Field_May.f a d = some (decide (mayP a d)) := by
  unfold field_Field_May.f mayP
  by_cases h1 : d ≥ 1
  · rw [if_pos h1]
    by_cases h2 : a < 64
    · rw [if_pos h2]; congr 1; rw [decide_eq_decide]; omega
    · rw [if_neg h2]; congr 1; symm; rw [decide_eq_false_iff_not]; omega
  · rw [if_neg h1]; congr 1; symm; rw [decide_eq_false_iff_not]; omega

theorem rmay_eq (a d : Int) (ha : 0 ≤ a) (hd : 0 ≤ d) (ha2 : a < 256) (hd2 : d < 256) : futtockref01_May.f a d = some (decide (mayP a d)) := by
  unfold futtockref01_May.f mayP wrap64
  by_cases h1 : d ≥ 1
  · rw [if_pos h1]
    by_cases h2 : d ≤ 64
    · rw [if_pos h2]; congr 1; rw [decide_eq_decide]; omega
    · rw [if_neg h2]; congr 1; symm; rw [decide_eq_false_iff_not]; omega
  · rw [if_neg h1]; congr 1; symm; rw [decide_eq_false_iff_not]; omega

theorem most_eq (a d : Nat) (ha2 : a < 256) (hd2 : d < 256) : field_Field_Most.f a d = some (if mayP a d then ((2 ^ d - 1 : Nat) : Int) else 0) := by
  unfold field_Field_Most.f
  rw [may_eq _ _ (by omega) (by omega) (by omega) (by omega)]
  simp only [Option.bind_some]
  by_cases h : mayP a d
  · rw [if_pos (by simpa using h), if_pos h]
    have h' := h
    unfold mayP at h'
    congr 1
    unfold shr
    have e1 : ((64 - (d : Int)) % 256).toNat = 64 - d := by omega
    rw [e1, Nat.min_eq_left (by show 64 - d ≤ 64; omega)]
    obtain ⟨s, rfl⟩ : ∃ s, d = 64 - s := ⟨64 - d, by omega⟩
    have hs : s ≤ 63 := by omega
    rw [show 64 - (64 - s) = s from by omega]
    have : ((18446744073709551615 : Int) / 2 ^ s) = ((18446744073709551615 / 2 ^ s : Nat) : Int) := by simp
    rw [this]
    congr 1
    clear this h h' e1
    have : ∀ s, s ≤ 63 → 18446744073709551615 / 2 ^ s = 2 ^ (64 - s) - 1 := by decide
    exact this s hs
  · rw [if_neg (by simpa using h), if_neg h]

theorem pow_int (n : Nat) : ((2 : Int) ^ n) = ((2 ^ n : Nat) : Int) := by simp

theorem shl_nat (x n : Nat) (hn : n ≤ 64) : shl .u64 (x : Int) (n : Int) = ((x * 2 ^ n % 18446744073709551616 : Nat) : Int) := by
  unfold shl
  rw [Int.toNat_natCast, Nat.min_eq_left (by show n ≤ 64; exact hn), IntKind.wrap_u64, pow_int]
  simp

theorem mask_eq (a d : Nat) (ha2 : a < 256) (hd2 : d < 256) : field_Field_Mask.f a d = some (if mayP a d then ((mask a d : Nat) : Int) else 0) := by
  unfold field_Field_Mask.f
  rw [most_eq a d ha2 hd2]
  simp only [Option.bind_some]
  rw [if_pos (by omega)]
  congr 1
  by_cases h : mayP a d
  · rw [if_pos h, if_pos h]
    unfold mayP at h
    rw [shl_nat _ _ (by omega)]
    congr 1
    exact Nat.mod_eq_of_lt (mask_lt (a := a) (d := d) (by omega))
  · rw [if_neg h, if_neg h]
    unfold shl
    rw [Int.zero_mul]; decide

theorem put_eq (a d w v : Nat) (ha2 : a < 256) (hd2 : d < 256) (hw : w < 18446744073709551616) : field_Field_Put.f a d w v = some (if mayP a d then ((putN a d w v : Nat) : Int) else (w : Int)) := by
  unfold field_Field_Put.f
  rw [mask_eq a d ha2 hd2]
  simp only [Option.bind_some]
  rw [if_pos (by omega)]
  congr 1
  by_cases h : mayP a d
  · rw [if_pos h, if_pos h]
    unfold mayP at h
    have hm := mask_lt (a := a) (d := d) (by omega)
    have hm' : mask a d < 18446744073709551616 := hm
    rw [shl_nat _ _ (by omega), u64_andNot_nat _ _ hw hm', u64_and_nat _ _ (Nat.mod_lt _ (by decide)) hm', u64_or_nat]
    · rfl
    · exact Nat.lt_of_le_of_lt Nat.and_le_left hw
    · exact Nat.lt_of_le_of_lt Nat.and_le_right hm'
  · rw [if_neg h, if_neg h]
    have e1 : Go.bits .andNot .u64 (w : Int) 0 = ((w &&& (18446744073709551615 - 0) : Nat) : Int) := u64_andNot_nat w 0 hw (by decide)
    have hs : 0 ≤ shl .u64 (v : Int) (a : Int) ∧ shl .u64 (v : Int) (a : Int) < 18446744073709551616 := by
      unfold shl; rw [IntKind.wrap_u64]; omega
    have e2 : Go.bits .and .u64 (shl .u64 (v : Int) (a : Int)) 0 = (((shl .u64 (v : Int) (a : Int)).toNat &&& (0 : Int).toNat : Nat) : Int) := u64_and _ 0 hs.1 hs.2 (by decide) (by decide)
    rw [e1, e2]
    have e3 : w &&& 18446744073709551615 - 0 = w := by
      have : (18446744073709551615 - 0 : Nat) = 2 ^ 64 - 1 := rfl
      rw [this, Nat.and_two_pow_sub_one_eq_mod]
      exact Nat.mod_eq_of_lt hw
    rw [e3]
    simp only [Int.toNat_zero, Nat.and_zero]
    rw [u64_or_nat _ _ hw (by decide), Nat.or_zero]

/-! ### the reference -/
theorem power_l0 (n : Nat) (hn : n ≤ 63) (d : Nat) : ∀ (k i : Nat), i + d = n → d < k → futtockref01_power.l0 k (n : Int) ((2 ^ i : Nat) : Int) (i : Int) = some ((2 ^ n : Nat) : Int) := by
  induction d with
  | zero =>
    intro k i hi hk
    obtain ⟨k, rfl⟩ : ∃ m, k = m + 1 := ⟨k - 1, by omega⟩
    simp only [futtockref01_power.l0]
    rw [if_neg (by omega)]
    have : i = n := by omega
    rw [this]
  | succ d ih =>
    intro k i hi hk
    obtain ⟨k, rfl⟩ : ∃ m, k = m + 1 := ⟨k - 1, by omega⟩
    simp only [futtockref01_power.l0]
    rw [if_pos (by omega)]
    have e1 : IntKind.u64.wrap (((2 ^ i : Nat) : Int) * 2) = ((2 ^ (i + 1) : Nat) : Int) := by
      rw [IntKind.wrap_u64]
      have h2 : 2 ^ (i + 1) < 2 ^ 64 := Nat.pow_lt_pow_right (by omega) (by omega)
      have h3 : 2 ^ (i + 1) = 2 ^ i * 2 := Nat.pow_succ ..
      omega
    have e2 : wrap64 ((i : Int) + 1) = ((i + 1 : Nat) : Int) := by unfold wrap64; omega
    rw [e1, e2]
    exact ih k (i + 1) (by omega) (by omega)

theorem power_eq (n k : Nat) (hn : n ≤ 63) (hk : n < k) : futtockref01_power.f k (n : Int) = some ((2 ^ n : Nat) : Int) := by
  unfold futtockref01_power.f
  exact power_l0 n hn n k 0 (by omega) hk

theorem bit_step (w i : Nat) (hw : w < 18446744073709551616) : Int.tmod (IntKind.u64.wrap (Int.tdiv (w : Int) ((2 ^ i : Nat) : Int))) 2 = ((w.testBit i).toNat : Int) := by
  have e1 : Int.tdiv (w : Int) ((2 ^ i : Nat) : Int) = ((w / 2 ^ i : Nat) : Int) := by rw [Int.tdiv_eq_ediv_of_nonneg (by omega)]; simp
  rw [e1, ← bit_toNat]
  have h1 : w / 2 ^ i ≤ w := Nat.div_le_self ..
  clear e1
  generalize w / 2 ^ i = q at h1 ⊢
  rw [IntKind.wrap_u64, Int.tmod_eq_emod_of_nonneg (by omega)]
  omega

theorem add_step (f : Nat → Bool) (i : Nat) (hi : i < 64) (b : Bool) (hb : f i = b) : IntKind.u64.wrap ((bs f i : Nat) + IntKind.u64.wrap ((b.toNat : Int) * ((2 ^ i : Nat) : Int))) = ((bs f (i + 1) : Nat) : Int) := by
  subst hb
  have h1 := bs_lt f (i + 1)
  have h2 : 2 ^ (i + 1) ≤ 2 ^ 64 := Nat.pow_le_pow_right (by omega) (by omega)
  have e : bs f (i + 1) = bs f i + (f i).toNat * 2 ^ i := rfl
  have e2 : ((f i).toNat : Int) * ((2 ^ i : Nat) : Int) = (((f i).toNat * 2 ^ i : Nat) : Int) := by simp
  rw [e2, IntKind.wrap_u64, IntKind.wrap_u64]
  omega

theorem wrap_id (n : Int) (h1 : -9223372036854775808 ≤ n) (h2 : n < 9223372036854775808) : wrap64 n = n := by unfold wrap64; omega
theorem wrap_nat (n : Nat) (h : n < 1000) : wrap64 (n : Int) = n := wrap_id _ (by omega) (by omega)
theorem wrap_succ (n : Nat) (h : n < 1000) : wrap64 ((n : Int) + 1) = ((n + 1 : Nat) : Int) := by rw [wrap_id _ (by omega) (by omega)]; rfl

theorem put_l0 (a d w v : Nat) (hd : a + d ≤ 64) (ha : a < 64) (hw : w < 18446744073709551616) (hv : v < 18446744073709551616) (m : Nat) :
    ∀ (k i : Nat), i + m = 64 → 2 * m + 64 < k → futtockref01_Put.l0 k (w : Int) (v : Int) ((bs (putF a d w v) i : Nat) : Int) (i : Int) (a : Int) (d : Int) = some ((bs (putF a d w v) 64 : Nat) : Int) := by
  induction m with
  | zero =>
    intro k i hi hk
    obtain ⟨k, rfl⟩ : ∃ m, k = m + 1 := ⟨k - 1, by omega⟩
    simp only [futtockref01_Put.l0]
    rw [if_neg (by omega)]
    have : i = 64 := by omega
    rw [this]
  | succ m ih =>
    intro k i hi hk
    obtain ⟨k, rfl⟩ : ∃ m, k = m + 2 := ⟨k - 2, by omega⟩
    have hp : ((2 ^ i : Nat) : Int) ≠ 0 := by have := Nat.two_pow_pos i; omega
    have hi64 : (i : Int) < 64 := by omega
    have hi64' : i < 64 := by omega
    have p1 := power_eq i (k + 1) (by omega) (by omega)
    have p2 := power_eq i k (by omega) (by omega)
    have goon := ih k (i + 1) (by omega) (by omega)
    clear ih
    have e1 := wrap_nat a (by omega)
    have e3 := wrap_nat d (by omega)
    have e4 := wrap_succ i (by omega)
    have e2 := wrap_id ((i : Int) - a) (by omega) (by omega)
    rw [show k + 2 = (k + 1) + 1 from rfl]
    simp only [futtockref01_Put.l0]
    rw [if_pos hi64, p1]
    simp only [Option.bind_some]
    rw [if_neg hp, e1, e2, e3, bit_step w i hw]
    clear e1 e2 e3 p1
    by_cases h1 : a ≤ i
    · obtain ⟨c, hc⟩ : ∃ c, i - a = c := ⟨_, rfl⟩
      have ec : (i : Int) - a = (c : Int) := by clear e4; omega
      have hp2 : ((2 ^ c : Nat) : Int) ≠ 0 := by clear e4; have := Nat.two_pow_pos c; omega
      have hc0 : (c : Int) ≥ 0 := by clear e4; omega
      rw [ec, if_pos hc0]
      simp only [futtockref01_Put.j1]
      by_cases h2 : c < d
      · have p3 := power_eq c k (by clear e4; omega) (by clear e4; omega)
        have hf : putF a d w v i = v.testBit c := by unfold putF; rw [if_pos (by clear e4; omega), hc]
        rw [if_pos (by simpa using h2), p3]
        simp only [Option.bind_some]
        rw [if_neg hp2, p2]
        simp only [Option.bind_some]
        rw [bit_step v c hv, add_step (putF a d w v) i hi64' _ hf, e4]
        exact goon
      · have hf : putF a d w v i = w.testBit i := by unfold putF; rw [if_neg (by clear e4; omega)]
        rw [if_neg (by simpa using h2), p2]
        simp only [Option.bind_some]
        rw [add_step (putF a d w v) i hi64' _ hf, e4]
        exact goon
    · have hn : ¬ ((i : Int) - a ≥ 0) := by clear e4; omega
      have hf : putF a d w v i = w.testBit i := by unfold putF; rw [if_neg (by clear e4; omega)]
      rw [if_neg hn]
      simp only [futtockref01_Put.j1]
      rw [if_neg (by simp), p2]
      simp only [Option.bind_some]
      rw [add_step (putF a d w v) i hi64' _ hf, e4]
      exact goon

theorem rput_eq (a d w v k : Nat) (ha2 : a < 256) (hd2 : d < 256) (hw : w < 18446744073709551616) (hv : v < 18446744073709551616) (hk : 200 ≤ k) :
    futtockref01_Put.f k a d w v = some (if mayP a d then ((putN a d w v : Nat) : Int) else (w : Int)) := by
  unfold futtockref01_Put.f
  rw [rmay_eq _ _ (by omega) (by omega) (by omega) (by omega)]
  simp only [Option.bind_some]
  by_cases h : mayP a d
  · rw [if_pos (by simpa using h), if_pos h]
    unfold mayP at h
    rw [putN_bs (by omega) w v hw]
    exact put_l0 a d w v (by omega) (by omega) hw hv 64 k 0 (by omega) (by omega)
  · rw [if_neg (by simpa using h), if_neg h]


theorem bd_u8 {a : Int} (h : (Lit.int .u8 a).wf = true) : 0 ≤ a ∧ a < 256 := by
  simp [Lit.wf, IntKind.min, IntKind.max, IntKind.signed, IntKind.bits] at h; omega
theorem bd_u64 {a : Int} (h : (Lit.int .u64 a).wf = true) : 0 ≤ a ∧ a < 18446744073709551616 := by
  simp [Lit.wf, IntKind.min, IntKind.max, IntKind.signed, IntKind.bits] at h; omega
theorem nat_u8 {a : Int} (h : (Lit.int .u8 a).wf = true) : ∃ n : Nat, a = n ∧ n < 256 := by
  obtain ⟨n, rfl⟩ := Int.eq_ofNat_of_zero_le (bd_u8 h).1
  exact ⟨n, rfl, by have := (bd_u8 h).2; omega⟩
theorem nat_u64 {a : Int} (h : (Lit.int .u64 a).wf = true) : ∃ n : Nat, a = n ∧ n < 18446744073709551616 := by
  obtain ⟨n, rfl⟩ := Int.eq_ofNat_of_zero_le (bd_u64 h).1
  exact ⟨n, rfl, by have := (bd_u64 h).2; omega⟩

theorem alive_eq : futtocklaw01_alive.f = some true := by decide +kernel

/-! ### what is got -/
theorem shr_nat (x n : Nat) (hn : n ≤ 64) : shr .u64 (x : Int) (n : Int) = ((x / 2 ^ n : Nat) : Int) := by
  unfold shr
  rw [Int.toNat_natCast, Nat.min_eq_left (by show n ≤ 64; exact hn), pow_int]
  simp

theorem getN_small (a d w : Nat) (hd : d ≤ 64) : getN a d w < 18446744073709551616 :=
  Nat.lt_of_lt_of_le (getN_lt a d w) (Nat.pow_le_pow_right (n := 2) (by omega) hd)

theorem get_eq (a d w : Nat) (ha2 : a < 256) (hd2 : d < 256) (hw : w < 18446744073709551616) : field_Field_Get.f a d w = some (if mayP a d then ((getN a d w : Nat) : Int) else 0) := by
  unfold field_Field_Get.f
  rw [if_pos (by omega), most_eq a d ha2 hd2]
  simp only [Option.bind_some]
  congr 1
  by_cases h : mayP a d
  · rw [if_pos h, if_pos h]
    unfold mayP at h
    rw [shr_nat _ _ (by omega), u64_and_nat]
    · rfl
    · exact Nat.lt_of_le_of_lt (Nat.div_le_self ..) hw
    · have h1 : 2 ^ d ≤ 2 ^ 64 := Nat.pow_le_pow_right (by omega) (by omega)
      have h2 := Nat.two_pow_pos d
      omega
  · rw [if_neg h, if_neg h]
    have hs : 0 ≤ shr .u64 (w : Int) (a : Int) ∧ shr .u64 (w : Int) (a : Int) < 18446744073709551616 := by
      unfold shr
      have hp : (0 : Int) < 2 ^ min (a : Int).toNat (IntKind.u64.bits) := Int.pow_pos (by omega)
      exact ⟨Int.ediv_nonneg (by omega) (by omega), Int.lt_of_le_of_lt (Int.ediv_le_self _ (by omega)) (by omega)⟩
    rw [u64_and _ 0 hs.1 hs.2 (by decide) (by decide)]
    simp

theorem get_add (f : Nat → Bool) (i : Nat) (hi : i < 64) (hf : f i = true) : IntKind.u64.wrap ((bs f i : Nat) + ((2 ^ i : Nat) : Int)) = ((bs f (i + 1) : Nat) : Int) := by
  have := add_step f i hi true hf
  simp only [Bool.toNat_true, Int.natCast_one, Int.one_mul] at this
  rw [← this]
  have h2 : IntKind.u64.wrap ((2 ^ i : Nat) : Int) = ((2 ^ i : Nat) : Int) := by
    have h1 : 2 ^ i < 2 ^ 64 := Nat.pow_lt_pow_right (by omega) (by omega)
    generalize 2 ^ i = q at h1 ⊢
    rw [IntKind.wrap_u64]; omega
  rw [h2]
theorem get_not (f : Nat → Bool) (i : Nat) (hf : f i = false) : bs f (i + 1) = bs f i := by
  simp [bs, hf]

theorem get_l0 (a d w : Nat) (hd : a + d ≤ 64) (hw : w < 18446744073709551616) (m : Nat) :
    ∀ (k i : Nat), i + m = d → 2 * m + 70 < k → futtockref01_Get.l0 k (w : Int) ((bs (fun j => w.testBit (a + j)) i : Nat) : Int) (i : Int) (a : Int) (d : Int) = some ((getN a d w : Nat) : Int) := by
  induction m with
  | zero =>
    intro k i hi hk
    obtain ⟨k, rfl⟩ : ∃ m, k = m + 1 := ⟨k - 1, by omega⟩
    have hn : ¬ ((i : Int) < d) := by omega
    have hid : i = d := by omega
    simp only [futtockref01_Get.l0]
    rw [wrap_nat d (by omega), if_neg hn, hid, getN_bs]
  | succ m ih =>
    intro k i hi hk
    obtain ⟨k, rfl⟩ : ∃ m, k = m + 1 := ⟨k - 1, by omega⟩
    have hlt : (i : Int) < d := by omega
    have p1 := power_eq (a + i) k (by omega) (by omega)
    have p2 := power_eq i k (by omega) (by omega)
    have hp : ((2 ^ (a + i) : Nat) : Int) ≠ 0 := by have := Nat.two_pow_pos (a + i); omega
    have goon := ih k (i + 1) (by omega) (by omega)
    have hi64 : i < 64 := by omega
    have e1 : wrap64 (wrap64 (a : Int) + (i : Int)) = ((a + i : Nat) : Int) := by
      rw [wrap_nat a (by omega), wrap_id _ (by omega) (by omega)]; rfl
    have e3 := wrap_nat d (by omega)
    have e4 := wrap_succ i (by omega)
    simp only [futtockref01_Get.l0]
    rw [e3, if_pos hlt, e1, p1]
    simp only [Option.bind_some]
    rw [if_neg hp, bit_step w _ hw, e4]
    cases hb : w.testBit (a + i) with
    | true =>
      rw [if_pos (by simp), p2]
      simp only [Option.bind_some]
      rw [get_add (fun j => w.testBit (a + j)) i hi64 hb]
      exact goon
    | false =>
      rw [if_neg (by simp)]
      rw [get_not (fun j => w.testBit (a + j)) i hb] at goon
      exact goon

theorem rget_eq (a d w k : Nat) (ha2 : a < 256) (hd2 : d < 256) (hw : w < 18446744073709551616) (hk : 250 ≤ k) : futtockref01_Get.f k a d w = some (if mayP a d then ((getN a d w : Nat) : Int) else 0) := by
  unfold futtockref01_Get.f
  rw [rmay_eq _ _ (by omega) (by omega) (by omega) (by omega)]
  simp only [Option.bind_some]
  by_cases h : mayP a d
  · rw [if_pos (by simpa using h), if_pos h]
    unfold mayP at h
    exact get_l0 a d w (by omega) hw d k 0 (by omega) (by omega)
  · rw [if_neg (by simpa using h), if_neg h]

theorem all64 : (18446744073709551615 : Nat) = 2 ^ 64 - 1 := by decide
theorem getN_all {a d : Nat} (h : a + d ≤ 64) : getN a d 18446744073709551615 = 2 ^ d - 1 := by
  apply Nat.eq_of_testBit_eq
  intro j
  rw [testBit_getN, all64, Nat.testBit_two_pow_sub_one, Nat.testBit_two_pow_sub_one]
  by_cases hj : j < d
  · simp [hj]; omega
  · simp [hj]
theorem putN_all {a d : Nat} (h : a + d ≤ 64) : putN a d 0 18446744073709551615 = mask a d := by
  apply Nat.eq_of_testBit_eq
  intro j
  rw [testBit_putN h _ _ _ (by decide), testBit_mask, all64, Nat.testBit_two_pow_sub_one]
  by_cases hj : a ≤ j ∧ j < a + d
  · rw [if_pos hj]; simp [hj.1, hj.2]; omega
  · rw [if_neg hj]; simp; omega

theorem rmost_eq (a d k : Nat) (ha2 : a < 256) (hd2 : d < 256) (hk : 250 ≤ k) : futtockref01_Most.f k a d = some (if mayP a d then ((2 ^ d - 1 : Nat) : Int) else 0) := by
  unfold futtockref01_Most.f
  have := rget_eq a d 18446744073709551615 k ha2 hd2 (by decide) hk
  rw [show ((18446744073709551615 : Nat) : Int) = 18446744073709551615 from rfl] at this
  rw [this]
  simp only [Option.bind_some]
  by_cases h : mayP a d
  · rw [if_pos h, if_pos h]; unfold mayP at h; rw [getN_all (by omega)]
  · rw [if_neg h, if_neg h]

theorem rmask_eq (a d k : Nat) (ha2 : a < 256) (hd2 : d < 256) (hk : 250 ≤ k) : futtockref01_Mask.f k a d = some (if mayP a d then ((mask a d : Nat) : Int) else 0) := by
  unfold futtockref01_Mask.f
  have := rput_eq a d 0 18446744073709551615 k ha2 hd2 (by decide) (by decide) (by omega)
  rw [show ((18446744073709551615 : Nat) : Int) = 18446744073709551615 from rfl, show ((0 : Nat) : Int) = 0 from rfl] at this
  rw [this]
  simp only [Option.bind_some]
  by_cases h : mayP a d
  · rw [if_pos h, if_pos h]; unfold mayP at h; rw [putN_all (by omega)]
  · rw [if_neg h, if_neg h]

/-! ### with a sign -/
def signN (d g : Nat) : Int := if g / 2 ^ (d - 1) % 2 = 1 then (g : Int) - 2 ^ d else g

theorem signed_eq (a d w : Nat) (ha2 : a < 256) (hd2 : d < 256) (hw : w < 18446744073709551616) : field_Field_Signed.f a d w = some (if mayP a d then signN d (getN a d w) else 0) := by
  unfold field_Field_Signed.f
  rw [may_eq _ _ (by omega) (by omega) (by omega) (by omega), get_eq a d w ha2 hd2 hw]
  simp only [Option.bind_some]
  by_cases h : mayP a d
  · rw [if_pos (by simpa using h), if_pos h, if_pos h]
    congr 1
    have h' := h
    unfold mayP at h'
    obtain ⟨s, hs⟩ : ∃ s, 64 - d = s := ⟨_, rfl⟩
    have e1 : (64 - (d : Int)) % 256 = (s : Int) := by omega
    have hs63 : s ≤ 63 := by omega
    have hds : d = 64 - s := by omega
    have hg := getN_lt a d w
    generalize getN a d w = g at hg ⊢
    rw [e1, shl_nat g s (by omega)]
    have h64 : 2 ^ d * 2 ^ s = 18446744073709551616 := by rw [← Nat.pow_add, show d + s = 64 from by omega]
    have h63 : 2 ^ (d - 1) * 2 ^ s = 9223372036854775808 := by rw [← Nat.pow_add, show d - 1 + s = 63 from by omega]
    have hdd : 2 ^ d = 2 ^ (d - 1) * 2 := by rw [← Nat.pow_succ]; congr 1; omega
    have hps := Nat.two_pow_pos s
    have hpd := Nat.two_pow_pos (d - 1)
    have hgs : g * 2 ^ s < 18446744073709551616 := by rw [← h64]; exact Nat.mul_lt_mul_of_pos_right hg hps
    rw [Nat.mod_eq_of_lt hgs]
    unfold shr
    rw [Int.toNat_natCast, Nat.min_eq_left (by show s ≤ 64; omega), pow_int]
    unfold signN
    have hq : g / 2 ^ (d - 1) % 2 = 1 ↔ 2 ^ (d - 1) ≤ g := by
      constructor
      · intro hq
        by_cases hl : g < 2 ^ (d - 1)
        · rw [Nat.div_eq_of_lt hl] at hq; omega
        · omega
      · intro hl
        have : g / 2 ^ (d - 1) = 1 := Nat.div_eq_of_lt_le (by omega) (by omega)
        rw [this]
    by_cases hl : 2 ^ (d - 1) ≤ g
    · rw [if_pos (hq.2 hl)]
      have h1 : 9223372036854775808 ≤ g * 2 ^ s := by rw [← h63]; exact Nat.mul_le_mul_right _ hl
      have e2 : wrap64 ((g * 2 ^ s : Nat) : Int) = ((g : Int) - 2 ^ d) * ((2 ^ s : Nat) : Int) := by
        have h64' : ((2 : Int) ^ d) * ((2 ^ s : Nat) : Int) = 18446744073709551616 := by rw [pow_int, ← Int.natCast_mul, h64]; rfl
        rw [Int.sub_mul, h64', ← Int.natCast_mul]
        generalize g * 2 ^ s = q at h1 hgs ⊢
        unfold wrap64; omega
      rw [e2, Int.mul_ediv_cancel _ (by omega)]
    · rw [if_neg (fun x => hl (hq.1 x))]
      have h1 : g * 2 ^ s < 9223372036854775808 := by rw [← h63]; exact Nat.mul_lt_mul_of_pos_right (by omega) hps
      have e2 : wrap64 ((g * 2 ^ s : Nat) : Int) = (g : Int) * ((2 ^ s : Nat) : Int) := by
        rw [← Int.natCast_mul]
        generalize g * 2 ^ s = q at h1 hgs ⊢
        unfold wrap64; omega
      rw [e2, Int.mul_ediv_cancel _ (by omega)]
  · rw [if_neg (by simpa using h), if_neg h]

theorem signed_l0 (d : Nat) (hd : 1 ≤ d) (m : Nat) : ∀ (k i n : Nat), i + m = 64 → d ≤ i → m + 70 < k → n + 2 ^ 64 = n + 2 ^ i + (2 ^ 64 - 2 ^ i) → n < 2 ^ i → n + (2 ^ 64 - 2 ^ i) < 18446744073709551616 →
    futtockref01_Signed.l0 k (n : Int) (i : Int) = some (wrap64 ((n + (2 ^ 64 - 2 ^ i) : Nat) : Int)) := by
  induction m with
  | zero =>
    intro k i n hi _ hk _ _ _
    obtain ⟨k, rfl⟩ : ∃ m, k = m + 1 := ⟨k - 1, by omega⟩
    have hn : ¬ ((i : Int) < 64) := by omega
    have hid : i = 64 := by omega
    simp only [futtockref01_Signed.l0]
    rw [if_neg hn, hid, Nat.sub_self, Nat.add_zero]
  | succ m ih =>
    intro k i n hi hdi hk _ hn hb
    obtain ⟨k, rfl⟩ : ∃ m, k = m + 1 := ⟨k - 1, by omega⟩
    have hlt : (i : Int) < 64 := by omega
    have p2 := power_eq i k (by omega) (by omega)
    have h1 : 2 ^ (i + 1) = 2 ^ i * 2 := Nat.pow_succ ..
    have h2 : 2 ^ (i + 1) ≤ 2 ^ 64 := Nat.pow_le_pow_right (by omega) (by omega)
    have goon := ih k (i + 1) (n + 2 ^ i) (by omega) (by omega) (by omega) (by omega) (by omega) (by omega)
    have e5 : n + 2 ^ i + (2 ^ 64 - 2 ^ (i + 1)) = n + (2 ^ 64 - 2 ^ i) := by omega
    rw [e5] at goon
    have e3 : IntKind.u64.wrap ((n : Int) + ((2 ^ i : Nat) : Int)) = ((n + 2 ^ i : Nat) : Int) := by
      generalize 2 ^ i = q at h1 h2 hn ⊢
      rw [IntKind.wrap_u64]; omega
    have e4 := wrap_succ i (by omega)
    simp only [futtockref01_Signed.l0]
    rw [if_pos hlt, p2]
    simp only [Option.bind_some]
    rw [e3, e4]
    exact goon

theorem rsigned_eq (a d w k : Nat) (ha2 : a < 256) (hd2 : d < 256) (hw : w < 18446744073709551616) (hk : 250 ≤ k) : futtockref01_Signed.f k a d w = some (if mayP a d then signN d (getN a d w) else 0) := by
  unfold futtockref01_Signed.f
  rw [rget_eq a d w k ha2 hd2 hw hk, rmay_eq _ _ (by omega) (by omega) (by omega) (by omega)]
  simp only [Option.bind_some]
  by_cases h : mayP a d
  · rw [if_pos (by simpa using h), if_pos h, if_pos h]
    have h' := h
    unfold mayP at h'
    have hg := getN_lt a d w
    have hgs := getN_small a d w (by omega)
    generalize getN a d w = g at hg hgs ⊢
    have p1 := power_eq (d - 1) k (by omega) (by omega)
    have hp : ((2 ^ (d - 1) : Nat) : Int) ≠ 0 := by have := Nat.two_pow_pos (d - 1); omega
    have hp64 : 2 ^ d ≤ 2 ^ 64 := Nat.pow_le_pow_right (by omega) (by omega)
    have l0 := signed_l0 d (by omega) (64 - d) k d g (by omega) (by omega) (by omega) (by omega) hg (by omega)
    have hbs : (Int.tmod (IntKind.u64.wrap (Int.tdiv (g : Int) ((2 ^ (d - 1) : Nat) : Int))) 2 = 1) ↔ g / 2 ^ (d - 1) % 2 = 1 := by
      rw [bit_step g _ hgs, ← bit_toNat]; omega
    have hg63 : g / 2 ^ (d - 1) % 2 ≠ 1 → g < 9223372036854775808 := by
      intro hq
      have hl : g < 2 ^ (d - 1) := by
        by_cases hl : g < 2 ^ (d - 1)
        · exact hl
        · have hdd : 2 ^ d = 2 ^ (d - 1) * 2 := by rw [← Nat.pow_succ]; congr 1; omega
          have : g / 2 ^ (d - 1) = 1 := Nat.div_eq_of_lt_le (by omega) (by omega)
          rw [this] at hq; omega
      have : 2 ^ (d - 1) ≤ 2 ^ 63 := Nat.pow_le_pow_right (by omega) (by omega)
      omega
    have hg63' : g / 2 ^ (d - 1) % 2 = 1 → wrap64 ((g + (2 ^ 64 - 2 ^ d) : Nat) : Int) = (g : Int) - 2 ^ d := by
      intro hq
      have hl : 2 ^ (d - 1) ≤ g := by
        by_cases hl : g < 2 ^ (d - 1)
        · rw [Nat.div_eq_of_lt hl] at hq; omega
        · omega
      have hdd : 2 ^ d = 2 ^ (d - 1) * 2 := by rw [← Nat.pow_succ]; congr 1; omega
      have hd63 : 2 ^ (d - 1) ≤ 2 ^ 63 := Nat.pow_le_pow_right (by omega) (by omega)
      rw [pow_int]
      generalize 2 ^ (d - 1) = p at hl hdd hd63
      generalize 2 ^ d = q at hg hp64 hdd ⊢
      subst hdd
      clear l0 hbs hg63 hp p1 hq
      unfold wrap64; omega
    have e1 : wrap64 (wrap64 (d : Int) - 1) = ((d - 1 : Nat) : Int) := by
      rw [wrap_nat d (by omega), wrap_id _ (by omega) (by omega)]; omega
    rw [e1, p1]
    simp only [Option.bind_some]
    rw [if_neg hp]
    unfold signN
    by_cases hq : g / 2 ^ (d - 1) % 2 = 1
    · rw [if_pos (hbs.2 hq), if_pos hq, wrap_nat d (by omega), l0, hg63' hq]
    · rw [if_neg (fun x => hq (hbs.1 x)), if_neg hq]
      have := hg63 hq
      rw [wrap_id _ (by omega) (by omega)]
  · rw [if_neg (by simpa using h), if_neg h]

/-! ### what fits -/
theorem fits_eq (a d v : Nat) (ha2 : a < 256) (hd2 : d < 256) : field_Field_Fits.f a d v = some (decide (mayP a d ∧ v < 2 ^ d)) := by
  unfold field_Field_Fits.f
  rw [may_eq _ _ (by omega) (by omega) (by omega) (by omega), most_eq a d ha2 hd2]
  simp only [Option.bind_some]
  have := Nat.two_pow_pos d
  by_cases h : mayP a d
  · rw [if_pos (by simpa using h), if_pos h]
    congr 1; rw [decide_eq_decide]
    constructor
    · intro hv; exact ⟨h, by omega⟩
    · intro hv; have := hv.2; omega
  · rw [if_neg (by simpa using h)]
    congr 1; symm; rw [decide_eq_false_iff_not]; exact fun hv => h hv.1

theorem rfits_eq (a d v k : Nat) (ha2 : a < 256) (hd2 : d < 256) (hk : 250 ≤ k) : futtockref01_Fits.f k a d v = some (decide (mayP a d ∧ v < 2 ^ d)) := by
  unfold futtockref01_Fits.f
  rw [rmay_eq _ _ (by omega) (by omega) (by omega) (by omega), rmost_eq a d k ha2 hd2 hk]
  simp only [Option.bind_some]
  have := Nat.two_pow_pos d
  by_cases h : mayP a d
  · rw [if_pos (by simpa using h), if_pos h]
    congr 1; rw [decide_eq_decide]
    constructor
    · intro hv; exact ⟨h, by omega⟩
    · intro hv; have := hv.2; omega
  · rw [if_neg (by simpa using h)]
    congr 1; symm; rw [decide_eq_false_iff_not]; exact fun hv => h hv.1
end Go.Proofs.Ytnjoadchhkhleaa.Q
