/- Plain facts on bits of natural numbers: sums of bits, fields of words. -/
namespace Fut

/-- The number whose bits below n are f's. -/
def bs (f : Nat → Bool) : Nat → Nat
  | 0 => 0
  | n + 1 => bs f n + (f n).toNat * 2 ^ n

theorem bs_lt (f : Nat → Bool) : ∀ n, bs f n < 2 ^ n
  | 0 => by simp [bs]
  | n + 1 => by
    have := bs_lt f n
    have h2 : 2 ^ (n + 1) = 2 ^ n * 2 := Nat.pow_succ ..
    have hb : (f n).toNat * 2 ^ n ≤ 2 ^ n := by cases f n <;> simp
    simp only [bs]; omega

theorem testBit_bs (f : Nat → Bool) : ∀ n j, (bs f n).testBit j = (decide (j < n) && f j)
  | 0, j => by simp [bs]
  | n + 1, j => by
    have e : bs f (n + 1) = 2 ^ n * (f n).toNat + bs f n := by simp only [bs]; rw [Nat.mul_comm]; omega
    rw [e, Nat.testBit_two_pow_mul_add _ (bs_lt f n)]
    by_cases h : j < n
    · rw [if_pos h, testBit_bs f n j]; simp [h]; omega
    · rw [if_neg h]
      by_cases h2 : j = n
      · subst h2; simp; cases f j <;> simp
      · have h3 : ¬ j < n + 1 := by omega
        have h4 : j - n ≠ 0 := by omega
        simp [h3]
        cases f n
        · simp
        · obtain ⟨c, hc⟩ : ∃ c, j - n = c + 1 := ⟨j - n - 1, by omega⟩
          rw [hc]; simp [Nat.testBit_succ]

theorem bs_ext {f g : Nat → Bool} {n : Nat} (h : ∀ i, i < n → f i = g i) : bs f n = bs g n := by
  induction n with
  | zero => rfl
  | succ n ih => simp only [bs]; rw [ih (fun i hi => h i (by omega)), h n (by omega)]

/-- What has no bits from n on is the sum of its bits. -/
theorem bs_of_lt {x n : Nat} (h : x < 2 ^ n) : bs x.testBit n = x := by
  apply Nat.eq_of_testBit_eq
  intro j
  rw [testBit_bs]
  by_cases hj : j < n
  · simp [hj]
  · simp [hj]; exact (Nat.testBit_lt_two_pow (Nat.lt_of_lt_of_le h (Nat.pow_le_pow_right (by omega) (by omega))))

theorem bit_toNat (x i : Nat) : x / 2 ^ i % 2 = (x.testBit i).toNat := (Nat.toNat_testBit x i).symm

/-- The bits of a field: those from a on, d of them. -/
def mask (a d : Nat) : Nat := (2 ^ d - 1) * 2 ^ a

theorem testBit_mask (a d j : Nat) : (mask a d).testBit j = (decide (a ≤ j) && decide (j < a + d)) := by
  unfold mask
  rw [Nat.testBit_mul_two_pow, Nat.testBit_two_pow_sub_one]
  by_cases h : a ≤ j
  · simp [h]; omega
  · simp [h]

theorem mask_lt {a d : Nat} (h : a + d ≤ 64) : mask a d < 2 ^ 64 := by
  unfold mask
  have h1 : 2 ^ d - 1 < 2 ^ d := by have := Nat.two_pow_pos d; omega
  calc (2 ^ d - 1) * 2 ^ a < 2 ^ d * 2 ^ a := Nat.mul_lt_mul_of_pos_right h1 (Nat.two_pow_pos a)
    _ = 2 ^ (d + a) := (Nat.pow_add ..).symm
    _ ≤ 2 ^ 64 := Nat.pow_le_pow_right (by omega) (by omega)

/-- w with the lowest d bits of v from a on. -/
def putN (a d w v : Nat) : Nat := (w &&& (18446744073709551615 - mask a d)) ||| (v * 2 ^ a % 18446744073709551616 &&& mask a d)

theorem testBit_not64 {m : Nat} (hm : m < 2 ^ 64) (j : Nat) : (18446744073709551615 - m).testBit j = (decide (j < 64) && !m.testBit j) := by
  have : 18446744073709551615 - m = 2 ^ 64 - (m + 1) := by omega
  rw [this, Nat.testBit_two_pow_sub_succ hm]

theorem testBit_putN {a d : Nat} (h : a + d ≤ 64) (w v j : Nat) (hw : w < 2 ^ 64) :
    (putN a d w v).testBit j = if a ≤ j ∧ j < a + d then v.testBit (j - a) else w.testBit j := by
  unfold putN
  rw [Nat.testBit_or, Nat.testBit_and, Nat.testBit_and, testBit_not64 (mask_lt h), testBit_mask, show (18446744073709551616 : Nat) = 2 ^ 64 from rfl, Nat.testBit_mod_two_pow, Nat.testBit_mul_two_pow]
  by_cases h1 : a ≤ j ∧ j < a + d
  · rw [if_pos h1]
    have h2 : j < 64 := by omega
    simp [h1.1, h1.2, h2]
  · rw [if_neg h1]
    have h3 : (decide (a ≤ j) && decide (j < a + d)) = false := by
      simp; omega
    rw [h3]
    by_cases h4 : j < 64
    · simp [h4]
    · have : w.testBit j = false := Nat.testBit_lt_two_pow (Nat.lt_of_lt_of_le hw (Nat.pow_le_pow_right (by omega) (by omega)))
      simp [this]

theorem putN_lt {a d : Nat} (h : a + d ≤ 64) (w v : Nat) (hw : w < 2 ^ 64) : putN a d w v < 2 ^ 64 := by
  unfold putN
  apply Nat.or_lt_two_pow
  · exact Nat.lt_of_le_of_lt (Nat.and_le_left) hw
  · exact Nat.lt_of_le_of_lt (Nat.and_le_right) (mask_lt h)

/-- The sum of bits that the reference makes. -/
def putF (a d w v : Nat) (j : Nat) : Bool := if a ≤ j ∧ j < a + d then v.testBit (j - a) else w.testBit j

theorem putN_bs {a d : Nat} (h : a + d ≤ 64) (w v : Nat) (hw : w < 2 ^ 64) : putN a d w v = bs (putF a d w v) 64 := by
  apply Nat.eq_of_testBit_eq
  intro j
  rw [testBit_putN h w v j hw, testBit_bs]
  by_cases hj : j < 64
  · simp [hj, putF]
  · have h1 : ¬ (a ≤ j ∧ j < a + d) := by omega
    have : w.testBit j = false := Nat.testBit_lt_two_pow (Nat.lt_of_lt_of_le hw (Nat.pow_le_pow_right (by omega) (by omega)))
    simp [hj, h1, this]

/-- A field's value. -/
def getN (a d w : Nat) : Nat := w / 2 ^ a &&& (2 ^ d - 1)

theorem testBit_getN (a d w j : Nat) : (getN a d w).testBit j = (decide (j < d) && w.testBit (a + j)) := by
  unfold getN
  rw [Nat.testBit_and, Nat.testBit_two_pow_sub_one, Nat.testBit_div_two_pow, Nat.add_comm j a, Bool.and_comm]

theorem getN_bs (a d w : Nat) : getN a d w = bs (fun j => w.testBit (a + j)) d := by
  apply Nat.eq_of_testBit_eq
  intro j
  rw [testBit_getN, testBit_bs]

theorem getN_lt (a d w : Nat) : getN a d w < 2 ^ d := by rw [getN_bs]; exact bs_lt _ _

end Fut
