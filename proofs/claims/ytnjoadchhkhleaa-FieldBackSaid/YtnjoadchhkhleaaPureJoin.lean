/- Lists of fields: whether they are apart, joined and split, told by plain functions; the program's and the document's answers are these. No condition of its own. -/
import Derived.Test.YtnjoadchhkhleaaPureField
import Derived.Test.YtnjoadchhkhleaaQ7
import Derived.Test.YtnjoadchhkhleaaQ9
namespace Go.Proofs.Ytnjoadchhkhleaa.Q
open Go.RowKit Go.Proofs.YtnjoadchhkhleaaW.PrintWords Go.Proofs.YtnjoadchhkhleaaW.PrintLast Go.Proofs.YtnjoadchhkhleaaW.PrintMore Fut

/-- The fields 0 to i - 1 are fields, no two with a bit in common. -/
def apartF (a d : Nat → Nat) : Nat → Bool
  | 0 => true
  | i + 1 => apartF a d i && (decide (mayP (a i) (d i)) && (List.range i).all fun k => decide (mask (a i) (d i) &&& mask (a k) (d k) = 0))

theorem apartF_le {a d : Nat → Nat} {i : Nat} : ∀ n, i ≤ n → apartF a d n = true → apartF a d i = true
  | 0, h, _ => by obtain rfl : i = 0 := by omega
                  rfl
  | n + 1, h, hn => by
    rcases Nat.lt_or_ge i (n + 1) with h1 | h1
    · simp only [apartF, Bool.and_eq_true] at hn
      exact apartF_le n (by omega) hn.1
    · obtain rfl : i = n + 1 := by omega
      exact hn
theorem apartF_false {a d : Nat → Nat} {i : Nat} (n : Nat) (h : i ≤ n) (hi : apartF a d i = false) : apartF a d n = false := by
  cases hn : apartF a d n with
  | false => rfl
  | true => rw [apartF_le n h hn] at hi; cases hi
theorem apartF_may {a d : Nat → Nat} {n : Nat} (h : apartF a d n = true) (i : Nat) (hi : i < n) : mayP (a i) (d i) := by
  have := apartF_le (i := i + 1) n (by omega) h
  simp only [apartF, Bool.and_eq_true, decide_eq_true_eq] at this
  exact this.2.1
theorem apartF_two {a d : Nat → Nat} {n : Nat} (h : apartF a d n = true) (i k : Nat) (hi : i < n) (hk : k < i) : mask (a i) (d i) &&& mask (a k) (d k) = 0 := by
  have := apartF_le (i := i + 1) n (by omega) h
  simp only [apartF, Bool.and_eq_true, decide_eq_true_eq, List.all_eq_true, List.mem_range] at this
  exact this.2.2 k hk

/-- All their bits. -/
def orF (a d : Nat → Nat) : Nat → Nat
  | 0 => 0
  | i + 1 => orF a d i ||| mask (a i) (d i)
theorem orF_lt {a d : Nat → Nat} : ∀ i, (∀ k, k < i → mayP (a k) (d k)) → orF a d i < 2 ^ 64
  | 0, _ => by simp [orF]
  | i + 1, h => Nat.or_lt_two_pow (orF_lt i (fun k hk => h k (by omega))) (mask_lt (by have := h i (by omega); unfold mayP at this; omega))
theorem orF_and {a d : Nat → Nat} (x : Nat) : ∀ i, orF a d i &&& x = 0 ↔ ∀ k, k < i → x &&& mask (a k) (d k) = 0
  | 0 => by simp [orF]
  | i + 1 => by
    have ih := orF_and (a := a) (d := d) x i
    simp only [orF]
    constructor
    · intro h k hk
      have hz : ∀ j, (((orF a d i).testBit j || (mask (a i) (d i)).testBit j) && x.testBit j) = false := by
        intro j
        have := congrArg (fun n => n.testBit j) h
        simpa [Nat.testBit_and, Nat.testBit_or] using this
      by_cases hki : k < i
      · refine ih.1 ?_ k hki
        apply Nat.eq_of_testBit_eq
        intro j
        have := hz j
        simp only [Nat.testBit_and, Nat.zero_testBit]
        cases h1 : (orF a d i).testBit j <;> cases h2 : x.testBit j <;> simp_all
      · obtain rfl : k = i := by omega
        apply Nat.eq_of_testBit_eq
        intro j
        have := hz j
        simp only [Nat.testBit_and, Nat.zero_testBit]
        cases h1 : (mask (a k) (d k)).testBit j <;> cases h2 : x.testBit j <;> simp_all
    · intro h
      have h0 := ih.2 (fun k hk => h k (by omega))
      have h1 := h i (by omega)
      apply Nat.eq_of_testBit_eq
      intro j
      have e0 := congrArg (fun n => n.testBit j) h0
      have e1 := congrArg (fun n => n.testBit j) h1
      simp only [Nat.testBit_and, Nat.testBit_or, Nat.zero_testBit] at e0 e1 ⊢
      cases h2 : (orF a d i).testBit j <;> cases h3 : x.testBit j <;> cases h4 : (mask (a i) (d i)).testBit j <;> simp_all

theorem mask_pos {a d : Nat} (h : 1 ≤ d) : mask a d ≠ 0 := by
  unfold mask
  have h1 : 2 ^ 1 ≤ 2 ^ d := Nat.pow_le_pow_right (by omega) h
  have h2 := Nat.two_pow_pos a
  have h3 : 0 < (2 ^ d - 1) * 2 ^ a := Nat.mul_pos (by omega) h2
  omega

/-- What is joined, from i on, m more. -/
def joinF (a d v : Nat → Nat) : Nat → Nat → Nat → Nat × Bool
  | 0, _, w => (w, true)
  | m + 1, i, w => if mayP (a i) (d i) ∧ v i < 2 ^ d i then joinF a d v m (i + 1) (putN (a i) (d i) w (v i)) else (0, false)

theorem joinF_lt {a d v : Nat → Nat} : ∀ m i w, w < 18446744073709551616 → (joinF a d v m i w).1 < 18446744073709551616
  | 0, _, w, h => h
  | m + 1, i, w, h => by
    unfold joinF
    by_cases h1 : mayP (a i) (d i) ∧ v i < 2 ^ d i
    · rw [if_pos h1]
      exact joinF_lt m _ _ (putN_lt (by have := h1.1; unfold mayP at this; omega) w _ h)
    · rw [if_neg h1]; decide

theorem joinF_no {a d v : Nat → Nat} : ∀ m i w, ¬ (joinF a d v m i w).2 = true → (joinF a d v m i w).1 = 0
  | 0, _, w, h => absurd rfl h
  | m + 1, i, w, h => by
    unfold joinF at h ⊢
    by_cases h1 : mayP (a i) (d i) ∧ v i < 2 ^ d i
    · rw [if_pos h1] at h ⊢; exact joinF_no m _ _ h
    · rw [if_neg h1]

/-- What was put before stays, where all are apart. -/
theorem get_put_other {a d a' d' : Nat} (h : a + d ≤ 64) (hm : mask a d &&& mask a' d' = 0) (w v : Nat) (hw : w < 2 ^ 64) : getN a' d' (putN a d w v) = getN a' d' w := by
  apply Nat.eq_of_testBit_eq
  intro j
  rw [testBit_getN, testBit_getN, testBit_putN h w v _ hw]
  by_cases hj : j < d'
  · have := congrArg (fun n => n.testBit (a' + j)) hm
    simp only [Nat.testBit_and, testBit_mask, Nat.zero_testBit] at this
    by_cases h2 : a ≤ a' + j ∧ a' + j < a + d
    · exfalso; simp [h2.1, h2.2, hj] at this
    · rw [if_neg h2]
  · simp [hj]
theorem get_put_same {a d : Nat} (h : a + d ≤ 64) (w v : Nat) (hw : w < 2 ^ 64) (hv : v < 2 ^ d) : getN a d (putN a d w v) = v := by
  apply Nat.eq_of_testBit_eq
  intro j
  rw [testBit_getN, testBit_putN h w v _ hw]
  by_cases hj : j < d
  · rw [if_pos (by omega), show a + j - a = j from by omega]; simp [hj]
  · have hv0 : v.testBit j = false := Nat.testBit_lt_two_pow (Nat.lt_of_lt_of_le hv (Nat.pow_le_pow_right (by omega) (by omega)))
    simp [hj, hv0]

theorem join_back {a d v : Nat → Nat} : ∀ m i w W, apartF a d (i + m) = true → w < 2 ^ 64 → (∀ k, k < i → getN (a k) (d k) w = v k) → joinF a d v m i w = (W, true) → ∀ k, k < i + m → getN (a k) (d k) W = v k
  | 0, i, w, W, _, _, hg, hj, k, hk => by
    simp only [joinF, Prod.mk.injEq, and_true] at hj
    subst hj
    exact hg k (by omega)
  | m + 1, i, w, W, ha, hw, hg, hj, k, hk => by
    unfold joinF at hj
    by_cases h1 : mayP (a i) (d i) ∧ v i < 2 ^ d i
    · rw [if_pos h1] at hj
      have hmay := h1.1
      unfold mayP at hmay
      refine join_back m (i + 1) _ W (by rw [show i + 1 + m = i + (m + 1) from by omega]; exact ha) (putN_lt (by omega) w _ hw) (fun k hk => ?_) hj k (by omega)
      by_cases hki : k < i
      · rw [get_put_other (by omega) (apartF_two ha i k (by omega) hki) w _ hw]
        exact hg k hki
      · obtain rfl : k = i := by omega
        exact get_put_same (by omega) w _ hw h1.2
    · rw [if_neg h1] at hj
      simp at hj

/-! ### the loops -/
section
variable (L : List S25) (R : List S23) (a d : Nat → Nat)

def Is25 : Prop := ∀ i, i < L.length → rd_T25 L (i : Int) = ⟨(a i : Int), (d i : Int)⟩ ∧ a i < 256 ∧ d i < 256
def Is23 : Prop := ∀ i, i < R.length → rd_T23 R (i : Int) = ⟨(a i : Int), (d i : Int)⟩ ∧ a i < 256 ∧ d i < 256

variable {L R a d}
theorem apart_l0 (hL : Is25 L a d) (hn : L.length ≤ 100) (m : Nat) : ∀ (k i : Nat), i + m = L.length → m < k → apartF a d i = true → field_Apart.l0 k ((orF a d i : Nat) : Int) L (L.length : Int) (i : Int) = some (apartF a d L.length) := by
  induction m with
  | zero =>
    intro k i hi hk ha
    obtain ⟨k, rfl⟩ : ∃ m, k = m + 1 := ⟨k - 1, by omega⟩
    simp only [field_Apart.l0]
    rw [if_neg (by omega), show L.length = i from by omega, ha]
  | succ m ih =>
    intro k i hi hk ha
    obtain ⟨k, rfl⟩ : ∃ m, k = m + 1 := ⟨k - 1, by omega⟩
    obtain ⟨hr, ha2, hd2⟩ := hL i (by omega)
    simp only [field_Apart.l0]
    rw [if_pos (by omega), if_pos (by omega), if_pos (by omega), hr]
    simp only []
    rw [mask_eq (a i) (d i) ha2 hd2]
    simp only [Option.bind_some]
    by_cases hm : mayP (a i) (d i)
    · rw [if_pos hm]
      have hm' := hm
      unfold mayP at hm'
      have hmz := mask_pos (a := a i) (d := d i) (by omega)
      have hlt := mask_lt (a := a i) (d := d i) (by omega)
      have holt := orF_lt i (fun k hk => apartF_may ha k hk)
      rw [if_neg (by omega), u64_and_nat _ _ holt hlt]
      by_cases hz : orF a d i &&& mask (a i) (d i) = 0
      · rw [if_pos (by rw [hz]; rfl), u64_or_nat _ _ holt hlt]
        have hi' : apartF a d (i + 1) = true := by
          simp only [apartF, ha, Bool.true_and, Bool.and_eq_true, decide_eq_true_eq, List.all_eq_true, List.mem_range]
          exact ⟨hm, fun k hk => (orF_and _ i).1 hz k hk⟩
        have := ih k (i + 1) (by omega) (by omega) hi'
        rw [wrap_succ i (by omega)]
        exact this
      · rw [if_neg (by omega)]
        congr 1; symm
        refine apartF_false (i := i + 1) _ (by omega) ?_
        simp only [apartF, ha, Bool.true_and]
        rw [decide_eq_true hm, Bool.true_and, ← Bool.not_eq_true, List.all_eq_true]
        intro h
        exact hz ((orF_and _ i).2 (fun k hk => by simpa using h k (List.mem_range.2 hk)))
    · rw [if_neg hm, if_pos rfl]
      congr 1; symm
      refine apartF_false (i := i + 1) _ (by omega) ?_
      simp [apartF, hm]
theorem apart_eq (hL : Is25 L a d) (hn : L.length ≤ 100) (k : Nat) (hk : 200 ≤ k) : field_Apart.f k L = some (apartF a d L.length) := by
  unfold field_Apart.f
  exact apart_l0 hL hn L.length k 0 (by omega) (by omega) rfl

theorem rapart_l1 (hR : Is23 R a d) (hn : R.length ≤ 100) (i : Nat) (hi : i < R.length) (hm : mayP (a i) (d i)) (Z : Option Bool) (m : Nat) : ∀ (k j : Nat), j + m = i → m + 300 < k →
    (∀ k', 300 ≤ k' → k ≤ k' + 1 + m → (∀ j, j < i → mask (a i) (d i) &&& mask (a j) (d j) = 0) → futtockref01_Apart.l0 k' R ((i + 1 : Nat) : Int) = Z) →
    ((∃ j, j < i ∧ mask (a i) (d i) &&& mask (a j) (d j) ≠ 0) → Z = some false) → (∀ k, k < i → mayP (a k) (d k)) → (∀ k, k < j → mask (a i) (d i) &&& mask (a k) (d k) = 0) →
    futtockref01_Apart.l1 k R (i : Int) (j : Int) = Z := by
  induction m with
  | zero =>
    intro k j hj hk hgo hno hmay hall
    obtain ⟨k, rfl⟩ : ∃ m, k = m + 1 := ⟨k - 1, by omega⟩
    simp only [futtockref01_Apart.l1]
    rw [if_neg (by omega), wrap_succ i (by omega)]
    exact hgo k (by omega) (by omega) (fun j' hj' => hall j' (by omega))
  | succ m ih =>
    intro k j hj hk hgo hno hmay hall
    obtain ⟨k, rfl⟩ : ∃ m, k = m + 1 := ⟨k - 1, by omega⟩
    obtain ⟨hri, hai, hdi⟩ := hR i hi
    obtain ⟨hrj, haj, hdj⟩ := hR j (by omega)
    have hmj := hmay j (by omega)
    simp only [futtockref01_Apart.l1]
    rw [if_pos (by omega), if_pos (by omega), if_pos (by omega), hri]
    simp only []
    rw [rmask_eq (a i) (d i) k hai hdi (by omega)]
    simp only [Option.bind_some]
    rw [if_pos (by omega), if_pos (by omega), hrj]
    simp only []
    rw [rmask_eq (a j) (d j) k haj hdj (by omega)]
    simp only [Option.bind_some]
    rw [if_pos hm, if_pos hmj]
    have hm' := hm
    have hmj' := hmj
    unfold mayP at hm' hmj'
    rw [u64_and_nat _ _ (mask_lt (by omega)) (mask_lt (by omega))]
    by_cases hz : mask (a i) (d i) &&& mask (a j) (d j) = 0
    · rw [if_pos (by rw [hz]; rfl), wrap_succ j (by omega)]
      refine ih k (j + 1) (by omega) (by omega) (fun k' h1 h2 h3 => hgo k' h1 (by omega) h3) hno hmay (fun k hk => ?_)
      by_cases hkj : k < j
      · exact hall k hkj
      · obtain rfl : k = j := by omega
        exact hz
    · rw [if_neg (by omega)]
      exact (hno ⟨j, by omega, hz⟩).symm
theorem rapart_l0 (hR : Is23 R a d) (hn : R.length ≤ 100) (m : Nat) : ∀ (k i : Nat), i + m = R.length → m * 200 + 300 < k → apartF a d i = true → futtockref01_Apart.l0 k R (i : Int) = some (apartF a d R.length) := by
  induction m with
  | zero =>
    intro k i hi hk ha
    obtain ⟨k, rfl⟩ : ∃ m, k = m + 1 := ⟨k - 1, by omega⟩
    simp only [futtockref01_Apart.l0]
    rw [if_neg (by omega), show R.length = i from by omega, ha]
  | succ m ih =>
    intro k i hi hk ha
    obtain ⟨k, rfl⟩ : ∃ m, k = m + 1 := ⟨k - 1, by omega⟩
    obtain ⟨hr, ha2, hd2⟩ := hR i (by omega)
    simp only [futtockref01_Apart.l0]
    rw [if_pos (by omega), if_pos (by omega), hr]
    simp only []
    rw [rmay_eq _ _ (by omega) (by omega) (by omega) (by omega)]
    simp only [Option.bind_some]
    by_cases hm : mayP (a i) (d i)
    · rw [if_pos (by simpa using hm)]
      refine rapart_l1 hR hn i (by omega) hm _ i k 0 (by omega) (by omega) (fun k' h1 h2 h3 => ?_) (fun ⟨j, hj, hz⟩ => ?_) (fun k hk => apartF_may ha k hk) (fun k hk => absurd hk (by omega))
      · refine ih k' (i + 1) (by omega) (by omega) ?_
        simp only [apartF, ha, Bool.true_and, Bool.and_eq_true, decide_eq_true_eq, List.all_eq_true, List.mem_range]
        exact ⟨hm, h3⟩
      · congr 1
        refine apartF_false (i := i + 1) _ (by omega) ?_
        simp only [apartF, ha, Bool.true_and]
        rw [decide_eq_true hm, Bool.true_and, ← Bool.not_eq_true, List.all_eq_true]
        intro h
        exact hz (by simpa using h j (List.mem_range.2 hj))
    · rw [if_neg (by simpa using hm)]
      congr 1; symm
      refine apartF_false (i := i + 1) _ (by omega) ?_
      simp [apartF, hm]
theorem rapart_eq (hR : Is23 R a d) (hn : R.length ≤ 50) (k : Nat) (hk : 11000 ≤ k) : futtockref01_Apart.f k R = some (apartF a d R.length) := by
  unfold futtockref01_Apart.f
  exact rapart_l0 hR (by omega) R.length k 0 (by omega) (by omega) rfl

variable {V : List Int} {v : Nat → Nat}
def IsV (V : List Int) (v : Nat → Nat) : Prop := ∀ i, i < V.length → rd V (i : Int) = (v i : Int) ∧ v i < 18446744073709551616

theorem join_l0 (hL : Is25 L a d) (hV : IsV V v) (hLV : L.length = V.length) (hn : L.length ≤ 100) (m : Nat) : ∀ (k i w : Nat), i + m = L.length → m < k → w < 18446744073709551616 →
    field_Join.l0 k V (w : Int) L (L.length : Int) (i : Int) = some ((((joinF a d v m i w).1 : Nat) : Int), (joinF a d v m i w).2) := by
  induction m with
  | zero =>
    intro k i w hi hk hw
    obtain ⟨k, rfl⟩ : ∃ m, k = m + 1 := ⟨k - 1, by omega⟩
    simp only [field_Join.l0]
    rw [if_neg (by omega)]; rfl
  | succ m ih =>
    intro k i w hi hk hw
    obtain ⟨k, rfl⟩ : ∃ m, k = m + 1 := ⟨k - 1, by omega⟩
    obtain ⟨hr, ha2, hd2⟩ := hL i (by omega)
    obtain ⟨hv, hv2⟩ := hV i (by omega)
    simp only [field_Join.l0]
    rw [if_pos (by omega), if_pos (by omega), if_pos (by omega), if_pos (by omega), hr, hv]
    simp only []
    rw [fits_eq (a i) (d i) (v i) ha2 hd2, put_eq (a i) (d i) w (v i) ha2 hd2 hw]
    simp only [Option.bind_some]
    unfold joinF
    by_cases h1 : mayP (a i) (d i) ∧ v i < 2 ^ d i
    · have hmay := h1.1
      rw [if_pos (by simpa using h1), if_pos hmay, if_pos h1, wrap_succ i (by omega)]
      exact ih k (i + 1) _ (by omega) (by omega) (putN_lt (by unfold mayP at hmay; omega) w _ hw)
    · rw [if_neg (by simpa using h1), if_neg h1]; rfl
/-- What Join answers. -/
def joinA (a d v : Nat → Nat) (n n' : Nat) : Nat × Bool := if n = n' ∧ apartF a d n = true then joinF a d v n 0 0 else (0, false)
theorem join_eq (hL : Is25 L a d) (hV : IsV V v) (hn : L.length ≤ 100) (k : Nat) (hk : 300 ≤ k) : field_Join.f k L V = some ((((joinA a d v L.length V.length).1 : Nat) : Int), (joinA a d v L.length V.length).2) := by
  obtain ⟨k, rfl⟩ : ∃ m, k = m + 1 := ⟨k - 1, by omega⟩
  unfold field_Join.f joinA
  by_cases h : L.length = V.length
  · rw [if_pos (by omega), apart_eq hL hn _ (by omega)]
    simp only [Option.bind_some]
    by_cases h2 : apartF a d L.length = true
    · rw [if_pos ⟨h, h2⟩, h2]
      simp only [field_Join.j0]
      rw [if_neg (by simp)]
      exact join_l0 hL hV h hn L.length k 0 0 (by omega) (by omega) (by decide)
    · rw [if_neg (fun x => h2 x.2)]
      simp only [field_Join.j0]
      rw [if_pos (by simpa using h2)]; rfl
  · rw [if_neg (by omega), if_neg (fun x => h x.1)]
    simp only [field_Join.j0]
    rw [if_pos trivial]; rfl

theorem rjoin_l0 (hR : Is23 R a d) (hV : IsV V v) (hRV : R.length = V.length) (hn : R.length ≤ 100) (m : Nat) : ∀ (k i w : Nat), i + m = R.length → 2 * m + 300 < k → w < 18446744073709551616 →
    futtockref01_Join.l0 k R V (w : Int) (i : Int) = some ((((joinF a d v m i w).1 : Nat) : Int), (joinF a d v m i w).2) := by
  induction m with
  | zero =>
    intro k i w hi hk hw
    obtain ⟨k, rfl⟩ : ∃ m, k = m + 2 := ⟨k - 2, by omega⟩
    rw [show k + 2 = (k + 1) + 1 from rfl]
    simp only [futtockref01_Join.l0]
    rw [if_neg (by omega)]
    simp only [futtockref01_Join.j2]
    rw [if_neg (by simp)]; rfl
  | succ m ih =>
    intro k i w hi hk hw
    obtain ⟨k, rfl⟩ : ∃ m, k = m + 2 := ⟨k - 2, by omega⟩
    obtain ⟨hr, ha2, hd2⟩ := hR i (by omega)
    obtain ⟨hv, hv2⟩ := hV i (by omega)
    rw [show k + 2 = (k + 1) + 1 from rfl]
    simp only [futtockref01_Join.l0]
    rw [if_pos (by omega), show decide ((i : Int) < (V.length : Int)) = true from decide_eq_true (by omega)]
    simp only [futtockref01_Join.j2]
    rw [if_pos trivial, if_pos (by omega), if_pos (by omega), if_pos (by omega), hr, hv]
    simp only []
    rw [rfits_eq (a i) (d i) (v i) k ha2 hd2 (by omega), rput_eq (a i) (d i) w (v i) k ha2 hd2 hw hv2 (by omega)]
    simp only [Option.bind_some]
    unfold joinF
    by_cases h1 : mayP (a i) (d i) ∧ v i < 2 ^ d i
    · have hmay := h1.1
      rw [if_pos (by simpa using h1), if_pos hmay, if_pos h1, wrap_succ i (by omega)]
      exact ih k (i + 1) _ (by omega) (by omega) (putN_lt (by unfold mayP at hmay; omega) w _ hw)
    · rw [if_neg (by simpa using h1), if_neg h1]; rfl
theorem rjoin_eq (hR : Is23 R a d) (hV : IsV V v) (hn : R.length ≤ 50) (k : Nat) (hk : 12000 ≤ k) : futtockref01_Join.f k R V = some ((((joinA a d v R.length V.length).1 : Nat) : Int), (joinA a d v R.length V.length).2) := by
  obtain ⟨k, rfl⟩ : ∃ m, k = m + 1 := ⟨k - 1, by omega⟩
  unfold futtockref01_Join.f joinA
  by_cases h : R.length = V.length
  · rw [if_pos (by omega), rapart_eq hR hn _ (by omega)]
    simp only [Option.bind_some]
    by_cases h2 : apartF a d R.length = true
    · rw [if_pos ⟨h, h2⟩, h2]
      simp only [futtockref01_Join.j0]
      rw [if_neg (by simp)]
      exact rjoin_l0 hR hV h (by omega) R.length k 0 0 (by omega) (by omega) (by decide)
    · rw [if_neg (fun x => h2 x.2)]
      simp only [futtockref01_Join.j0]
      rw [if_pos (by simpa using h2)]; rfl
  · rw [if_neg (by omega), if_neg (fun x => h x.1)]
    simp only [futtockref01_Join.j0]
    rw [if_pos trivial]; rfl

/-- What Split answers. -/
def splitF (a d : Nat → Nat) (w : Nat) (n : Nat) : List Int := (List.range n).map fun i => if mayP (a i) (d i) then ((getN (a i) (d i) w : Nat) : Int) else 0
theorem splitF_succ (a d : Nat → Nat) (w n : Nat) : splitF a d w (n + 1) = splitF a d w n ++ [if mayP (a n) (d n) then ((getN (a n) (d n) w : Nat) : Int) else 0] := by
  simp [splitF, List.range_succ]
theorem splitF_length (a d : Nat → Nat) (w n : Nat) : (splitF a d w n).length = n := by simp [splitF]
theorem split_l0 (hL : Is25 L a d) (hn : L.length ≤ 100) (w : Nat) (hw : w < 18446744073709551616) (m : Nat) : ∀ (k i : Nat), i + m = L.length → m < k → field_Split.l0 k (w : Int) (splitF a d w i) L (L.length : Int) (i : Int) = some (splitF a d w L.length) := by
  induction m with
  | zero =>
    intro k i hi hk
    obtain ⟨k, rfl⟩ : ∃ m, k = m + 1 := ⟨k - 1, by omega⟩
    simp only [field_Split.l0]
    rw [if_neg (by omega), show L.length = i from by omega]
  | succ m ih =>
    intro k i hi hk
    obtain ⟨k, rfl⟩ : ∃ m, k = m + 1 := ⟨k - 1, by omega⟩
    obtain ⟨hr, ha2, hd2⟩ := hL i (by omega)
    simp only [field_Split.l0]
    rw [if_pos (by omega), if_pos (by omega), if_pos (by omega), hr]
    simp only []
    rw [get_eq (a i) (d i) w ha2 hd2 hw]
    simp only [Option.bind_some]
    rw [if_pos (by rw [splitF_length]; omega), ← splitF_succ, wrap_succ i (by omega)]
    exact ih k (i + 1) (by omega) (by omega)
theorem split_eq (hL : Is25 L a d) (hn : L.length ≤ 100) (w : Nat) (hw : w < 18446744073709551616) (k : Nat) (hk : 200 ≤ k) : field_Split.f k L (w : Int) = some (splitF a d w L.length) := by
  unfold field_Split.f
  exact split_l0 hL hn w hw L.length k 0 (by omega) (by omega)

def conv (x : S23) : S25 := ⟨x.f0, x.f1⟩
theorem theirs_l0 (R : List S23) (hn : R.length ≤ 100) (m : Nat) : ∀ (k i : Nat), i + m = R.length → m < k → futtocklaw01_theirs.l0 k ((R.take i).map conv) R (R.length : Int) (i : Int) = some (R.map conv) := by
  induction m with
  | zero =>
    intro k i hi hk
    obtain ⟨k, rfl⟩ : ∃ m, k = m + 1 := ⟨k - 1, by omega⟩
    simp only [futtocklaw01_theirs.l0]
    rw [if_neg (by omega), List.take_of_length_le (by omega)]
  | succ m ih =>
    intro k i hi hk
    obtain ⟨k, rfl⟩ : ∃ m, k = m + 1 := ⟨k - 1, by omega⟩
    simp only [futtocklaw01_theirs.l0]
    rw [if_pos (by omega), if_pos (by omega), if_pos (by omega), if_pos (by simp; omega), wrap_succ i (by omega)]
    have e : (R.take i).map conv ++ [(⟨(rd_T23 R (i : Int)).f0, (rd_T23 R (i : Int)).f1⟩ : S25)] = (R.take (i + 1)).map conv := by
      rw [List.take_succ_eq_append_getElem (by omega), List.map_append]
      congr 1
      simp [rd_T23, conv, List.getD, List.getElem?_eq_getElem (show i < R.length by omega)]
    rw [e]
    exact ih k (i + 1) (by omega) (by omega)
theorem theirs_eq (R : List S23) (hn : R.length ≤ 100) (k : Nat) (hk : 200 ≤ k) : futtocklaw01_theirs.f k R = some (R.map conv) := by
  unfold futtocklaw01_theirs.f
  exact theirs_l0 R hn R.length k 0 (by omega) (by omega)
theorem is25_conv (hR : Is23 R a d) : Is25 (R.map conv) a d := by
  intro i hi
  rw [List.length_map] at hi
  obtain ⟨h1, h2, h3⟩ := hR i hi
  refine ⟨?_, h2, h3⟩
  have : rd_T25 (R.map conv) (i : Int) = conv (rd_T23 R (i : Int)) := by
    simp [rd_T25, rd_T23, List.getD, List.getElem?_eq_getElem hi]
  rw [this, h1]; rfl
end

/-- The numbers of a list of fields that came in. -/
theorem is23_of {R : List S23} (h : ∀ x ∈ R, (Lit.int .u8 x.f0).wf = true ∧ (Lit.int .u8 x.f1).wf = true) : Is23 R (fun i => (rd_T23 R (i : Int)).f0.toNat) (fun i => (rd_T23 R (i : Int)).f1.toNat) := by
  intro i hi
  have e : rd_T23 R (i : Int) = R[i] := by simp [rd_T23, List.getD, List.getElem?_eq_getElem hi]
  obtain ⟨h1, h2⟩ := h _ (List.getElem_mem hi)
  have b1 := bd_u8 h1
  have b2 := bd_u8 h2
  simp only [e]
  refine ⟨?_, by clear e; omega, by clear e; omega⟩
  cases hx : R[i] with
  | mk f0 f1 =>
    rw [hx] at b1 b2
    simp only at b1 b2 ⊢
    rw [Int.toNat_of_nonneg b1.1, Int.toNat_of_nonneg b2.1]
theorem isV_of {V : List Int} (h : ∀ x ∈ V, (Lit.int .u64 x).wf = true) : IsV V (fun i => (rd V (i : Int)).toNat) := by
  intro i hi
  have e : rd V (i : Int) = V[i] := by simp [rd, List.getD, List.getElem?_eq_getElem hi]
  have b := bd_u64 (h _ (List.getElem_mem hi))
  simp only [e]
  omega
end Go.Proofs.Ytnjoadchhkhleaa.Q
