/- The functions of layer 5 (draw) and of its reference that reckon, told by plain stirring; a source's next hash comes within three rounds. No condition of its own. -/
import Derived.Test.YtboomlocclionaaQ1
import Derived.Test.YtboomlocclionaaStir
import Derived.Laws.BitsAllLaws
namespace Go.Proofs.Ytboomlocclionaa.Q
open Go.RowKit Go.Proofs.YtboomlocclionaaW.PrintWords Go.Proofs.YtboomlocclionaaW.PrintLast Go.Proofs.YtboomlocclionaaW.PrintMore Fut

theorem bd_u64 {a : Int} (h : (Lit.int .u64 a).wf = true) : 0 ≤ a ∧ a < 18446744073709551616 := by
  simp [Lit.wf, IntKind.min, IntKind.max, IntKind.signed, IntKind.bits] at h; omega
theorem nat_u64 {a : Int} (h : (Lit.int .u64 a).wf = true) : ∃ n : Nat, a = n ∧ n < 2 ^ 64 := by
  obtain ⟨n, rfl⟩ := Int.eq_ofNat_of_zero_le (bd_u64 h).1
  exact ⟨n, rfl, by have := (bd_u64 h).2; omega⟩
theorem wrap_id (n : Int) (h1 : -9223372036854775808 ≤ n) (h2 : n < 9223372036854775808) : wrap64 n = n := by unfold wrap64; omega
theorem wrap_succ (n : Nat) (h : n < 100000) : wrap64 ((n : Int) + 1) = ((n + 1 : Nat) : Int) := by rw [wrap_id _ (by omega) (by omega)]; rfl
theorem pow_int (n : Nat) : ((2 : Int) ^ n) = ((2 ^ n : Nat) : Int) := by simp

theorem shl_nat (x n : Nat) (hn : n ≤ 64) : shl .u64 (x : Int) (n : Int) = ((x * 2 ^ n % 2 ^ 64 : Nat) : Int) := by
  unfold shl
  rw [Int.toNat_natCast, Nat.min_eq_left (by show n ≤ 64; exact hn), IntKind.wrap_u64, pow_int]
  simp
theorem shr_nat (x n : Nat) (hn : n ≤ 64) : shr .u64 (x : Int) (n : Int) = ((x / 2 ^ n : Nat) : Int) := by
  unfold shr
  rw [Int.toNat_natCast, Nat.min_eq_left (by show n ≤ 64; exact hn), pow_int]
  simp
theorem xor_nat {a b : Nat} (ha : a < 2 ^ 64) (hb : b < 2 ^ 64) : Go.bits .xor .u64 (a : Int) (b : Int) = ((a ^^^ b : Nat) : Int) := u64_xor_nat a b ha hb
theorem xor_lt {a b : Nat} (ha : a < 2 ^ 64) (hb : b < 2 ^ 64) : a ^^^ b < 2 ^ 64 := Nat.xor_lt_two_pow ha hb
theorem mod_lt64 (a : Nat) : a % 2 ^ 64 < 2 ^ 64 := Nat.mod_lt _ (by decide)
theorem div_lt64 {a : Nat} (n : Nat) (h : a < 2 ^ 64) : a / 2 ^ n < 2 ^ 64 := Nat.lt_of_le_of_lt (Nat.div_le_self ..) h

theorem stir_eq (x k : Nat) (hx : x < 2 ^ 64) (hk : 10 ≤ k) : draw_Stir.f k (x : Int) = some ((stirN x : Nat) : Int) := by
  have h13 := shl_nat x 13 (by decide)
  have hw7 : wrap64 (-(-7)) = 7 := wrap_id 7 (by decide) (by decide)
  have w1 : wrap64 ((0 : Int) + 1) = 1 := wrap_id 1 (by decide) (by decide)
  have w2 : wrap64 ((1 : Int) + 1) = 2 := wrap_id 2 (by decide) (by decide)
  have w3 : wrap64 ((2 : Int) + 1) = 3 := wrap_id 3 (by decide) (by decide)
  have r0 : rd [13, -7, 17] 0 = 13 := rfl
  have r1 : rd [13, -7, 17] 1 = -7 := rfl
  have r2 : rd [13, -7, 17] 2 = 17 := rfl
  have ha := xor_lt hx (mod_lt64 (x * 2 ^ 13))
  have hb := xor_lt ha (div_lt64 7 ha)
  have hc := xor_lt hb (mod_lt64 ((x ^^^ x * 2 ^ 13 % 2 ^ 64 ^^^ (x ^^^ x * 2 ^ 13 % 2 ^ 64) / 2 ^ 7) * 2 ^ 17))
  have h7 := shr_nat (x ^^^ x * 2 ^ 13 % 2 ^ 64) 7 (by decide)
  have h17 := shl_nat (x ^^^ x * 2 ^ 13 % 2 ^ 64 ^^^ (x ^^^ x * 2 ^ 13 % 2 ^ 64) / 2 ^ 7) 17 (by decide)
  obtain ⟨k, rfl⟩ : ∃ m, k = m + 1 := ⟨k - 1, by clear w1 w2 w3 h13 h7 h17 hw7; omega⟩
  unfold draw_Stir.f draw_turned.f
  simp only [draw_turned.l0, List.length_cons, List.length_nil]
  rw [if_pos (by decide), if_pos (by decide), if_pos (by decide), r0, if_neg (by decide), if_pos (by decide), w1, show (13 : Int) = ((13 : Nat) : Int) from rfl, h13, xor_nat hx (mod_lt64 _)]
  obtain ⟨k, rfl⟩ : ∃ m, k = m + 1 := ⟨k - 1, by clear w1 w2 w3 h13 h7 h17 hw7; omega⟩
  simp only [draw_turned.l0]
  rw [show (((13 : Nat) : Int)) = 13 from rfl]
  simp only [List.length_cons, List.length_nil]
  rw [if_pos (by decide), if_pos (by decide), if_pos (by decide), r1, if_pos (by decide), hw7, if_pos (by decide), w2, show (7 : Int) = ((7 : Nat) : Int) from rfl, h7, xor_nat ha (div_lt64 7 ha)]
  obtain ⟨k, rfl⟩ : ∃ m, k = m + 1 := ⟨k - 1, by clear w1 w2 w3 h13 h7 h17 hw7; omega⟩
  simp only [draw_turned.l0]
  rw [show (((7 : Nat) : Int)) = 7 from rfl]
  simp only [List.length_cons, List.length_nil]
  rw [if_pos (by decide), if_pos (by decide), if_pos (by decide), r2, if_neg (by decide), if_pos (by decide), w3, show (17 : Int) = ((17 : Nat) : Int) from rfl, h17, xor_nat hb (mod_lt64 _)]
  obtain ⟨k, rfl⟩ : ∃ m, k = m + 1 := ⟨k - 1, by clear w1 w2 w3 h13 h7 h17 hw7; omega⟩
  simp only [draw_turned.l0]
  rw [if_neg (by simp)]
  rfl

/-! ### the reference -/
theorem power_l0 (n : Nat) (hn : n ≤ 63) (d : Nat) : ∀ (k i : Nat), i + d = n → d < k → futtockref05_power.l0 k (n : Int) ((2 ^ i : Nat) : Int) (i : Int) = some ((2 ^ n : Nat) : Int) := by
  induction d with
  | zero =>
    intro k i hi hk
    obtain ⟨k, rfl⟩ : ∃ m, k = m + 1 := ⟨k - 1, by omega⟩
    simp only [futtockref05_power.l0]
    rw [if_neg (by omega)]
    have : i = n := by omega
    rw [this]
  | succ d ih =>
    intro k i hi hk
    obtain ⟨k, rfl⟩ : ∃ m, k = m + 1 := ⟨k - 1, by omega⟩
    simp only [futtockref05_power.l0]
    rw [if_pos (by omega)]
    have e1 : IntKind.u64.wrap (((2 ^ i : Nat) : Int) * 2) = ((2 ^ (i + 1) : Nat) : Int) := by
      rw [IntKind.wrap_u64]
      have h2 : 2 ^ (i + 1) < 2 ^ 64 := Nat.pow_lt_pow_right (by omega) (by omega)
      have h3 : 2 ^ (i + 1) = 2 ^ i * 2 := Nat.pow_succ ..
      omega
    have goon := ih k (i + 1) (by omega) (by omega)
    rw [e1, wrap_succ i (by omega)]
    exact goon
theorem power_eq (n k : Nat) (hn : n ≤ 63) (hk : n < k) : futtockref05_power.f k (n : Int) = some ((2 ^ n : Nat) : Int) := by
  unfold futtockref05_power.f
  exact power_l0 n hn n k 0 (by omega) hk
theorem p7 (k : Nat) (hk : 7 < k) : futtockref05_power.f k 7 = some ((2 ^ 7 : Nat) : Int) := power_eq 7 k (by decide) hk
theorem p13 (k : Nat) (hk : 13 < k) : futtockref05_power.f k 13 = some ((2 ^ 13 : Nat) : Int) := power_eq 13 k (by decide) hk
theorem p17 (k : Nat) (hk : 17 < k) : futtockref05_power.f k 17 = some ((2 ^ 17 : Nat) : Int) := power_eq 17 k (by decide) hk

theorem mul_nat (x n : Nat) : IntKind.u64.wrap ((x : Int) * ((2 ^ n : Nat) : Int)) = ((x * 2 ^ n % 2 ^ 64 : Nat) : Int) := by
  rw [← Int.natCast_mul, IntKind.wrap_u64]; rfl
theorem div_nat {x : Nat} (n : Nat) (hx : x < 2 ^ 64) : IntKind.u64.wrap (Int.tdiv (x : Int) ((2 ^ n : Nat) : Int)) = ((x / 2 ^ n : Nat) : Int) := by
  have e : Int.tdiv (x : Int) ((2 ^ n : Nat) : Int) = ((x / 2 ^ n : Nat) : Int) := by rw [Int.tdiv_eq_ediv_of_nonneg (by omega)]; simp
  have h := div_lt64 n hx
  rw [e]
  generalize x / 2 ^ n = q at h ⊢
  rw [IntKind.wrap_u64]; omega
theorem pow_ne (n : Nat) : ¬ (((2 ^ n : Nat) : Int) = 0) := by have := Nat.two_pow_pos n; omega

theorem rstir_eq (x k : Nat) (hx : x < 2 ^ 64) (hk : 20 ≤ k) : futtockref05_Stir.f k (x : Int) = some ((stirN x : Nat) : Int) := by
  have ha := xor_lt hx (mod_lt64 (x * 2 ^ 13))
  have hb := xor_lt ha (div_lt64 7 ha)
  unfold futtockref05_Stir.f
  rw [p13 k (by omega)]; simp only [Option.bind_some]
  rw [p7 k (by omega)]; simp only [Option.bind_some]
  rw [if_neg (pow_ne 7), p17 k (by omega)]; simp only [Option.bind_some]
  rw [mul_nat, xor_nat hx (mod_lt64 _), div_nat 7 ha, xor_nat ha (div_lt64 7 ha), mul_nat, xor_nat hb (mod_lt64 _)]
  rfl

/-! ### the way back -/
theorem left_l0 (y s : Nat) (hy : y < 2 ^ 64) (hs1 : 1 ≤ s) (hs : s ≤ 63) (m : Nat) : ∀ (k i e : Nat), 64 ≤ i + m * s → i < 64 + s → m + 70 < k → e = y * 2 ^ (i + s) % 2 ^ 64 →
    futtockref05_left.l0 k ((y ^^^ (y * 2 ^ s % 2 ^ 64) : Nat) : Int) (s : Int) ((y ^^^ e : Nat) : Int) (i : Int) = some (y : Int) := by
  induction m with
  | zero =>
    intro k i e hi _ hk he
    obtain ⟨k, rfl⟩ : ∃ m, k = m + 1 := ⟨k - 1, by omega⟩
    simp only [futtockref05_left.l0]
    rw [if_neg (by omega), he, sl_big _ _ (by omega), Nat.xor_zero]
  | succ m ih =>
    intro k i e hi hi2 hk he
    obtain ⟨k, rfl⟩ : ∃ m, k = m + 1 := ⟨k - 1, by omega⟩
    simp only [futtockref05_left.l0]
    by_cases h : i < 64
    · have hmul : (m + 1) * s = m * s + s := Nat.succ_mul m s
      have goon := ih k (i + s) (e * 2 ^ s % 2 ^ 64) (by omega) (by omega) (by omega) (by rw [he, sl_sl])
      have ew : wrap64 ((i : Int) + (s : Int)) = ((i + s : Nat) : Int) := by rw [wrap_id _ (by omega) (by omega)]; rfl
      have he' : e < 2 ^ 64 := by rw [he]; exact mod_lt64 _
      rw [if_pos (by clear ew; omega), power_eq s k hs (by clear ew; omega)]
      simp only [Option.bind_some]
      rw [mul_nat, xor_nat (xor_lt hy (mod_lt64 _)) (mod_lt64 _), left_round, ew]
      exact goon
    · rw [if_neg (by omega), he, sl_big _ _ (by omega), Nat.xor_zero]
theorem left_eq (y s k : Nat) (hy : y < 2 ^ 64) (hs1 : 1 ≤ s) (hs : s ≤ 63) (hk : 200 ≤ k) : futtockref05_left.f k ((y ^^^ (y * 2 ^ s % 2 ^ 64) : Nat) : Int) (s : Int) = some (y : Int) := by
  unfold futtockref05_left.f
  exact left_l0 y s hy hs1 hs 64 k 0 _ (by have := Nat.mul_le_mul_left 64 hs1; omega) (by omega) (by omega) (by rw [Nat.zero_add])
theorem right_l0 (y s : Nat) (hy : y < 2 ^ 64) (hs1 : 1 ≤ s) (hs : s ≤ 63) (m : Nat) : ∀ (k i e : Nat), 64 ≤ i + m * s → i < 64 + s → m + 70 < k → e = y / 2 ^ (i + s) →
    futtockref05_right.l0 k ((y ^^^ (y / 2 ^ s) : Nat) : Int) (s : Int) ((y ^^^ e : Nat) : Int) (i : Int) = some (y : Int) := by
  induction m with
  | zero =>
    intro k i e hi _ hk he
    obtain ⟨k, rfl⟩ : ∃ m, k = m + 1 := ⟨k - 1, by omega⟩
    simp only [futtockref05_right.l0]
    rw [if_neg (by omega), he, sr_big hy (by omega), Nat.xor_zero]
  | succ m ih =>
    intro k i e hi hi2 hk he
    obtain ⟨k, rfl⟩ : ∃ m, k = m + 1 := ⟨k - 1, by omega⟩
    simp only [futtockref05_right.l0]
    by_cases h : i < 64
    · have hmul : (m + 1) * s = m * s + s := Nat.succ_mul m s
      have goon := ih k (i + s) (e / 2 ^ s) (by omega) (by omega) (by omega) (by rw [he, sr_sr])
      have ew : wrap64 ((i : Int) + (s : Int)) = ((i + s : Nat) : Int) := by rw [wrap_id _ (by omega) (by omega)]; rfl
      have he' : e < 2 ^ 64 := by rw [he]; exact div_lt64 _ hy
      rw [if_pos (by clear ew; omega), power_eq s k hs (by clear ew; omega)]
      simp only [Option.bind_some]
      rw [if_neg (pow_ne s), div_nat s (xor_lt hy he'), xor_nat (xor_lt hy (div_lt64 s hy)) (div_lt64 s (xor_lt hy he')), right_round, ew]
      exact goon
    · rw [if_neg (by omega), he, sr_big hy (by omega), Nat.xor_zero]
theorem right_eq (y s k : Nat) (hy : y < 2 ^ 64) (hs1 : 1 ≤ s) (hs : s ≤ 63) (hk : 200 ≤ k) : futtockref05_right.f k ((y ^^^ (y / 2 ^ s) : Nat) : Int) (s : Int) = some (y : Int) := by
  unfold futtockref05_right.f
  exact right_l0 y s hy hs1 hs 64 k 0 _ (by have := Nat.mul_le_mul_left 64 hs1; omega) (by omega) (by omega) (by rw [Nat.zero_add])
theorem back_eq (x k : Nat) (hx : x < 2 ^ 64) (hk : 300 ≤ k) : futtockref05_Back.f k ((stirN x : Nat) : Int) = some (x : Int) := by
  have ha := xor_lt hx (mod_lt64 (x * 2 ^ 13))
  have hb := xor_lt ha (div_lt64 7 ha)
  have l1 := left_eq _ 17 k hb (by decide) (by decide) (by omega)
  have l2 := right_eq _ 7 k ha (by decide) (by decide) (by omega)
  have l3 := left_eq x 13 k hx (by decide) (by decide) (by omega)
  unfold futtockref05_Back.f stirN
  simp only
  rw [show (17 : Int) = ((17 : Nat) : Int) from rfl, l1]
  simp only [Option.bind_some]
  rw [show (7 : Int) = ((7 : Nat) : Int) from rfl, l2]
  simp only [Option.bind_some]
  rw [show (13 : Int) = ((13 : Nat) : Int) from rfl, l3]
  rfl

/-! ### sources -/
theorem hash_bits {t : Nat} (h : t < 2 ^ 64) : ((t : Int) / 8589934592) % 4294967296 = ((t / 2 ^ 33 : Nat) : Int) := by
  have h2 : t / 2 ^ 33 < 2 ^ 31 := by
    have : (2 : Nat) ^ 64 = 2 ^ 31 * 2 ^ 33 := by decide
    exact Nat.div_lt_of_lt_mul (by rw [Nat.mul_comm, ← this]; exact h)
  have h3 : (t : Int) / 8589934592 = ((t / 2 ^ 33 : Nat) : Int) := by simp
  rw [h3]
  omega

/-- The next hash: how many rounds, the state behind it. -/
def nextN (x : Nat) : Nat := if stirN x / 2 ^ 33 ≠ 0 then stirN x else if stirN (stirN x) / 2 ^ 33 ≠ 0 then stirN (stirN x) else stirN (stirN (stirN x))
theorem nextN_hash {x : Nat} (h : x < 2 ^ 64) (h0 : x ≠ 0) : nextN x / 2 ^ 33 ≠ 0 := by
  unfold nextN
  by_cases h1 : stirN x / 2 ^ 33 ≠ 0
  · rw [if_pos h1]; exact h1
  · rw [if_neg h1]
    by_cases h2 : stirN (stirN x) / 2 ^ 33 ≠ 0
    · rw [if_pos h2]; exact h2
    · rw [if_neg h2]
      intro h3
      exact h0 (no_three h (Decidable.not_not.1 h1) (Decidable.not_not.1 h2) h3)
theorem nextN_lt {x : Nat} (h : x < 2 ^ 64) : nextN x < 2 ^ 64 := by
  have h1 := stir_lt h
  have h2 := stir_lt h1
  have h3 := stir_lt h2
  unfold nextN
  split
  · exact h1
  · split
    · exact h2
    · exact h3
theorem nextN_ne {x : Nat} (h : x < 2 ^ 64) (h0 : x ≠ 0) : nextN x ≠ 0 := by
  intro e
  exact nextN_hash h h0 (by rw [e])

theorem hash_l0 (x c k : Nat) (h : x < 2 ^ 64) (h0 : x ≠ 0) (hk : 30 ≤ k) : draw_Source_Hash.l0 k (x : Int) (c : Int) = some (((nextN x / 2 ^ 33 : Nat) : Int), ((nextN x : Nat) : Int), mn (wrap64 ((c : Int) + 1)) 2147483647) := by
  have h1 := stir_lt h
  have h2 := stir_lt h1
  have h3 := stir_lt h2
  have hn := nextN_hash h h0
  obtain ⟨k, rfl⟩ : ∃ m, k = m + 1 := ⟨k - 1, by omega⟩
  simp only [draw_Source_Hash.l0]
  rw [stir_eq x k h (by omega)]
  simp only [Option.bind_some]
  rw [hash_bits h1]
  unfold nextN at hn ⊢
  by_cases e1 : stirN x / 2 ^ 33 ≠ 0
  · rw [if_neg (by omega), if_pos e1]
  · rw [if_pos (by omega), if_neg e1]
    rw [if_neg e1] at hn
    obtain ⟨k, rfl⟩ : ∃ m, k = m + 1 := ⟨k - 1, by omega⟩
    simp only [draw_Source_Hash.l0]
    rw [stir_eq _ k h1 (by omega)]
    simp only [Option.bind_some]
    rw [hash_bits h2]
    by_cases e2 : stirN (stirN x) / 2 ^ 33 ≠ 0
    · rw [if_neg (by omega), if_pos e2]
    · rw [if_pos (by omega), if_neg e2]
      rw [if_neg e2] at hn
      obtain ⟨k, rfl⟩ : ∃ m, k = m + 1 := ⟨k - 1, by omega⟩
      simp only [draw_Source_Hash.l0]
      rw [stir_eq _ k h2 (by omega)]
      simp only [Option.bind_some]
      rw [hash_bits h3, if_neg (by omega)]
theorem hash_eq (x c k : Nat) (h : x < 2 ^ 64) (h0 : x ≠ 0) (hk : 30 ≤ k) : draw_Source_Hash.f k (x : Int) (c : Int) = some (((nextN x / 2 ^ 33 : Nat) : Int), ((nextN x : Nat) : Int), mn (wrap64 ((c : Int) + 1)) 2147483647) := by
  unfold draw_Source_Hash.f
  rw [if_neg (by omega)]
  exact hash_l0 x c k h h0 hk

/-- A source's first state. -/
def firstN (seed : Nat) : Nat := if seed = 88172645463325252 then 1 else seed ^^^ 88172645463325252
theorem firstN_lt {s : Nat} (h : s < 2 ^ 64) : firstN s < 2 ^ 64 := by
  unfold firstN; split
  · decide
  · exact xor_lt h (by decide)
theorem firstN_ne (s : Nat) : firstN s ≠ 0 := by
  unfold firstN; split
  · decide
  · intro e
    rename_i h
    apply h
    have : s ^^^ 88172645463325252 ^^^ 88172645463325252 = 0 ^^^ 88172645463325252 := by rw [e]
    rw [Nat.xor_assoc, Nat.xor_self, Nat.xor_zero, Nat.zero_xor] at this
    exact this
theorem new_eq (s : Nat) (h : s < 2 ^ 64) : draw_New.f (s : Int) = some (((firstN s : Nat) : Int), 0) := by
  unfold draw_New.f firstN
  by_cases e : s = 88172645463325252
  · rw [if_pos (by omega), if_pos e]; rfl
  · rw [if_neg (by omega), if_neg e, show (88172645463325252 : Int) = ((88172645463325252 : Nat) : Int) from rfl, xor_nat h (by decide)]

theorem alive_eq (k : Nat) (hk : 30 ≤ k) : futtocklaw05_alive.f k = some true := by
  unfold futtocklaw05_alive.f
  rw [show (1 : Int) = ((1 : Nat) : Int) from rfl, stir_eq 1 k (by decide) (by omega)]
  simp only [Option.bind_some]
  rw [if_pos (by decide +kernel), show (0 : Int) = ((0 : Nat) : Int) from rfl, new_eq 0 (by decide)]
  simp only [Option.bind_some]
  rw [show ((0 : Int)) = ((0 : Nat) : Int) from rfl, hash_eq _ 0 k (firstN_lt (by decide)) (firstN_ne 0) hk]
  simp only [Option.bind_some]
  have := nextN_hash (firstN_lt (s := 0) (by decide)) (firstN_ne 0)
  exact congrArg some (bne_iff_ne.2 (by omega))
end Go.Proofs.Ytboomlocclionaa.Q
