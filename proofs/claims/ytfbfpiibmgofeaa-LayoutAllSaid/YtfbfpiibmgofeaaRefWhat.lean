/- The document's answers of layer 20 at every input, as plain functions. No condition of its own. -/
import Derived.Test.YtfbfpiibmgofeaaAt
namespace Go.Proofs.Ytfbfpiibmgofeaa.Q
open Go.RowKit Go.Proofs.YtfbfpiibmgofeaaW.PrintWords Go.Proofs.YtfbfpiibmgofeaaW.PrintLast Go.Proofs.YtfbfpiibmgofeaaW.PrintMore
theorem what_in : ∀ n : Nat, n < 128 → futtockref20_What.f 4000 (n : Int) = some (whatN n) := by decide +kernel
theorem wrap_id (n : Int) (h1 : -9223372036854775808 ≤ n) (h2 : n < 9223372036854775808) : wrap64 n = n := by unfold wrap64; omega
theorem most1 : futtockref20_most.f 1 = some 8 := by decide
theorem begin1 : futtockref20_begin.f 1 = some 0 := by decide
theorem atN1 (i k : Int) : atN 1 i k = if 0 ≤ i ∧ i < 8 then 0 + i else -1 := by unfold atN;  rw [if_pos rfl]
theorem rat1 (n : Nat) (i k : Int) : futtockref20_At.f (n + 1) 1 i k = some (atN 1 i k) := by
  unfold futtockref20_At.f
  rw [if_neg (by decide), if_neg (by decide), atN1]
  by_cases h0 : i < 0
  · rw [if_pos h0, if_neg (by omega)]
    simp only [futtockref20_At.j0, if_true]
  · rw [if_neg h0, most1]
    simp only [Option.bind_some, futtockref20_At.j0]
    by_cases h1 : i ≥ 8
    · rw [if_pos (by simpa using h1), if_neg (by omega)]
    · rw [if_neg (by simpa using h1)]
      rw [if_pos (by decide), begin1]
      simp only [Option.bind_some]
      rw [if_pos (by omega), wrap_id _ (by omega) (by omega)]
theorem most2 : futtockref20_most.f 2 = some 4 := by decide
theorem begin2 : futtockref20_begin.f 2 = some 8 := by decide
theorem atN2 (i k : Int) : atN 2 i k = if 0 ≤ i ∧ i < 4 then 8 + i else -1 := by unfold atN; rw [if_neg (by decide)]; rw [if_pos rfl]
theorem rat2 (n : Nat) (i k : Int) : futtockref20_At.f (n + 1) 2 i k = some (atN 2 i k) := by
  unfold futtockref20_At.f
  rw [if_neg (by decide), if_neg (by decide), atN2]
  by_cases h0 : i < 0
  · rw [if_pos h0, if_neg (by omega)]
    simp only [futtockref20_At.j0, if_true]
  · rw [if_neg h0, most2]
    simp only [Option.bind_some, futtockref20_At.j0]
    by_cases h1 : i ≥ 4
    · rw [if_pos (by simpa using h1), if_neg (by omega)]
    · rw [if_neg (by simpa using h1)]
      rw [if_pos (by decide), begin2]
      simp only [Option.bind_some]
      rw [if_pos (by omega), wrap_id _ (by omega) (by omega)]
theorem most3 : futtockref20_most.f 3 = some 16 := by decide
theorem begin3 : futtockref20_begin.f 3 = some 16 := by decide
theorem atN3 (i k : Int) : atN 3 i k = if 0 ≤ i ∧ i < 16 then 16 + i else -1 := by unfold atN; rw [if_neg (by decide)]; rw [if_neg (by decide)]; rw [if_pos rfl]
theorem rat3 (n : Nat) (i k : Int) : futtockref20_At.f (n + 1) 3 i k = some (atN 3 i k) := by
  unfold futtockref20_At.f
  rw [if_neg (by decide), if_neg (by decide), atN3]
  by_cases h0 : i < 0
  · rw [if_pos h0, if_neg (by omega)]
    simp only [futtockref20_At.j0, if_true]
  · rw [if_neg h0, most3]
    simp only [Option.bind_some, futtockref20_At.j0]
    by_cases h1 : i ≥ 16
    · rw [if_pos (by simpa using h1), if_neg (by omega)]
    · rw [if_neg (by simpa using h1)]
      rw [if_pos (by decide), begin3]
      simp only [Option.bind_some]
      rw [if_pos (by omega), wrap_id _ (by omega) (by omega)]
theorem most4 : futtockref20_most.f 4 = some 16 := by decide
theorem begin4 : futtockref20_begin.f 4 = some 32 := by decide
theorem atN4 (i k : Int) : atN 4 i k = if 0 ≤ i ∧ i < 16 then 32 + i else -1 := by unfold atN; rw [if_neg (by decide)]; rw [if_neg (by decide)]; rw [if_neg (by decide)]; rw [if_pos rfl]
theorem rat4 (n : Nat) (i k : Int) : futtockref20_At.f (n + 1) 4 i k = some (atN 4 i k) := by
  unfold futtockref20_At.f
  rw [if_neg (by decide), if_neg (by decide), atN4]
  by_cases h0 : i < 0
  · rw [if_pos h0, if_neg (by omega)]
    simp only [futtockref20_At.j0, if_true]
  · rw [if_neg h0, most4]
    simp only [Option.bind_some, futtockref20_At.j0]
    by_cases h1 : i ≥ 16
    · rw [if_pos (by simpa using h1), if_neg (by omega)]
    · rw [if_neg (by simpa using h1)]
      rw [if_pos (by decide), begin4]
      simp only [Option.bind_some]
      rw [if_pos (by omega), wrap_id _ (by omega) (by omega)]
theorem most5 : futtockref20_most.f 5 = some 8 := by decide
theorem begin5 : futtockref20_begin.f 5 = some 48 := by decide
theorem atN5 (i k : Int) : atN 5 i k = if 0 ≤ i ∧ i < 8 then 48 + i else -1 := by unfold atN; rw [if_neg (by decide)]; rw [if_neg (by decide)]; rw [if_neg (by decide)]; rw [if_neg (by decide)]; rw [if_pos rfl]
theorem rat5 (n : Nat) (i k : Int) : futtockref20_At.f (n + 1) 5 i k = some (atN 5 i k) := by
  unfold futtockref20_At.f
  rw [if_neg (by decide), if_neg (by decide), atN5]
  by_cases h0 : i < 0
  · rw [if_pos h0, if_neg (by omega)]
    simp only [futtockref20_At.j0, if_true]
  · rw [if_neg h0, most5]
    simp only [Option.bind_some, futtockref20_At.j0]
    by_cases h1 : i ≥ 8
    · rw [if_pos (by simpa using h1), if_neg (by omega)]
    · rw [if_neg (by simpa using h1)]
      rw [if_pos (by decide), begin5]
      simp only [Option.bind_some]
      rw [if_pos (by omega), wrap_id _ (by omega) (by omega)]
theorem most6 : futtockref20_most.f 6 = some 8 := by decide
theorem begin6 : futtockref20_begin.f 6 = some 56 := by decide
theorem atN6 (i k : Int) : atN 6 i k = if 0 ≤ i ∧ i < 8 then 56 + i else -1 := by unfold atN; rw [if_neg (by decide)]; rw [if_neg (by decide)]; rw [if_neg (by decide)]; rw [if_neg (by decide)]; rw [if_neg (by decide)]; rw [if_pos rfl]
theorem rat6 (n : Nat) (i k : Int) : futtockref20_At.f (n + 1) 6 i k = some (atN 6 i k) := by
  unfold futtockref20_At.f
  rw [if_neg (by decide), if_neg (by decide), atN6]
  by_cases h0 : i < 0
  · rw [if_pos h0, if_neg (by omega)]
    simp only [futtockref20_At.j0, if_true]
  · rw [if_neg h0, most6]
    simp only [Option.bind_some, futtockref20_At.j0]
    by_cases h1 : i ≥ 8
    · rw [if_pos (by simpa using h1), if_neg (by omega)]
    · rw [if_neg (by simpa using h1)]
      rw [if_pos (by decide), begin6]
      simp only [Option.bind_some]
      rw [if_pos (by omega), wrap_id _ (by omega) (by omega)]
theorem most7 : futtockref20_most.f 7 = some 8 := by decide
theorem begin7 : futtockref20_begin.f 7 = some 64 := by decide
theorem atN7 (i k : Int) : atN 7 i k = if 0 ≤ i ∧ i < 8 ∧ 0 ≤ k ∧ k < 8 then 64 + i * 8 + k else -1 := by unfold atN; rw [if_neg (by decide)]; rw [if_neg (by decide)]; rw [if_neg (by decide)]; rw [if_neg (by decide)]; rw [if_neg (by decide)]; rw [if_neg (by decide)]; rw [if_pos rfl]
theorem rat7 (n : Nat) (i k : Int) : futtockref20_At.f (n + 1) 7 i k = some (atN 7 i k) := by
  unfold futtockref20_At.f
  rw [if_neg (by decide), if_neg (by decide), atN7]
  by_cases h0 : i < 0
  · rw [if_pos h0, if_neg (by omega)]
    simp only [futtockref20_At.j0, if_true]
  · rw [if_neg h0, most7]
    simp only [Option.bind_some, futtockref20_At.j0]
    by_cases h1 : i ≥ 8
    · rw [if_pos (by simpa using h1), if_neg (by omega)]
    · rw [if_neg (by simpa using h1)]
      rw [if_neg (by decide)]
      by_cases h2 : k < 0
      · rw [if_pos h2, if_neg (by omega)]
      · rw [if_neg h2]
        by_cases h3 : k > 7
        · rw [if_pos h3, if_neg (by omega)]
        · rw [if_neg h3, begin7]
          simp only [Option.bind_some]
          rw [if_pos (by omega), wrap_id (8 * i) (by omega) (by omega), wrap_id (64 + 8 * i) (by omega) (by omega), wrap_id _ (by omega) (by omega)]
          congr 1; omega
theorem rat_eq (n : Nat) (kind i k : Int) : futtockref20_At.f (n + 1) kind i k = some (atN kind i k) := by
  by_cases h1 : kind = 1
  · subst h1; exact rat1 n i k
  by_cases h2 : kind = 2
  · subst h2; exact rat2 n i k
  by_cases h3 : kind = 3
  · subst h3; exact rat3 n i k
  by_cases h4 : kind = 4
  · subst h4; exact rat4 n i k
  by_cases h5 : kind = 5
  · subst h5; exact rat5 n i k
  by_cases h6 : kind = 6
  · subst h6; exact rat6 n i k
  by_cases h7 : kind = 7
  · subst h7; exact rat7 n i k
  have e : atN kind i k = -1 := by unfold atN; rw [if_neg h1, if_neg h2, if_neg h3, if_neg h4, if_neg h5, if_neg h6, if_neg h7]
  rw [e]
  unfold futtockref20_At.f
  by_cases hlo : kind < 1
  · rw [if_pos hlo]; simp only [futtockref20_At.j0, if_true]
  · rw [if_neg hlo, if_pos (by omega)]; simp only [futtockref20_At.j0, if_true]

/-- How many there are of a kind. -/
def mostN : Nat → Nat
  | 1 => 8
  | 2 => 4
  | 3 => 16
  | 4 => 16
  | 5 => 8
  | 6 => 8
  | 7 => 8
  | _ => 0
theorem most_eq_ : ∀ kind : Nat, kind < 8 → 1 ≤ kind → futtockref20_most.f (kind : Int) = some (mostN kind : Int) := by decide
theorem most_eq (kind : Nat) (h1 : 1 ≤ kind) (h7 : kind < 8) : futtockref20_most.f (kind : Int) = some (mostN kind : Int) := most_eq_ kind h7 h1
theorem mostN_le : ∀ kind : Nat, kind < 8 → mostN kind ≤ 16 := by decide
theorem atN_in (kind i k : Nat) (h1 : 1 ≤ kind) (h7 : kind < 8) (hi : i < mostN kind) (hk : k < 8) : 0 ≤ atN kind i k ∧ atN (kind : Int) i k < 128 := by
  have hc : kind = 1 ∨ kind = 2 ∨ kind = 3 ∨ kind = 4 ∨ kind = 5 ∨ kind = 6 ∨ kind = 7 := by omega
  rcases hc with rfl | rfl | rfl | rfl | rfl | rfl | rfl
  · have e := atN1 (i : Int) (k : Int)
    have hi' : i < 8 := hi
    rw [if_pos (by omega)] at e
    rw [show (((1 : Nat) : Int)) = 1 from rfl, e]; omega
  · have e := atN2 (i : Int) (k : Int)
    have hi' : i < 4 := hi
    rw [if_pos (by omega)] at e
    rw [show (((2 : Nat) : Int)) = 2 from rfl, e]; omega
  · have e := atN3 (i : Int) (k : Int)
    have hi' : i < 16 := hi
    rw [if_pos (by omega)] at e
    rw [show (((3 : Nat) : Int)) = 3 from rfl, e]; omega
  · have e := atN4 (i : Int) (k : Int)
    have hi' : i < 16 := hi
    rw [if_pos (by omega)] at e
    rw [show (((4 : Nat) : Int)) = 4 from rfl, e]; omega
  · have e := atN5 (i : Int) (k : Int)
    have hi' : i < 8 := hi
    rw [if_pos (by omega)] at e
    rw [show (((5 : Nat) : Int)) = 5 from rfl, e]; omega
  · have e := atN6 (i : Int) (k : Int)
    have hi' : i < 8 := hi
    rw [if_pos (by omega)] at e
    rw [show (((6 : Nat) : Int)) = 6 from rfl, e]; omega
  · have e := atN7 (i : Int) (k : Int)
    have hi' : i < 8 := hi
    rw [if_pos (by omega)] at e
    rw [show (((7 : Nat) : Int)) = 7 from rfl, e]; omega

section
variable {a : Int} (ha : a < 0 ∨ 128 ≤ a)
include ha
theorem l2_skip (kind i : Nat) (h1 : 1 ≤ kind) (h7 : kind < 8) (hi : i < mostN kind) (m : Nat) : ∀ (k n : Nat), k + m = 8 → futtockref20_What.l2 (n + m + 2) a kind i k = futtockref20_What.l1 (n + 1) a kind ((i + 1 : Nat) : Int) := by
  induction m with
  | zero =>
    intro k n hk
    have hi16 := mostN_le kind h7
    simp only [futtockref20_What.l2]
    rw [if_neg (by omega), wrap_id _ (by omega) (by omega)]; rfl
  | succ m ih =>
    intro k n hk
    have hin := atN_in kind i k h1 h7 hi (by omega)
    have e := ih (k + 1) n (by omega)
    rw [show n + (m + 1) + 2 = (n + m + 2) + 1 from by omega]
    simp only [futtockref20_What.l2]
    rw [if_pos (by omega), rat_eq]
    simp only [Option.bind_some]
    rw [if_neg (by omega), wrap_id _ (by omega) (by omega)]
    exact e
theorem l1_skip (kind : Nat) (h1 : 1 ≤ kind) (h7 : kind < 8) (m : Nat) : ∀ (i n : Nat), i + m = mostN kind → futtockref20_What.l1 (n + 10 * m + 1) a kind i = futtockref20_What.l0 n a ((kind + 1 : Nat) : Int) := by
  induction m with
  | zero =>
    intro i n hi
    simp only [futtockref20_What.l1]
    rw [most_eq kind h1 h7]
    simp only [Option.bind_some]
    rw [if_neg (by omega), wrap_id _ (by omega) (by omega)]; rfl
  | succ m ih =>
    intro i n hi
    have e := ih (i + 1) n (by omega)
    have e2 := l2_skip ha kind i h1 h7 (by omega) 8 0 (n + 10 * m) (by omega)
    rw [show n + 10 * (m + 1) + 1 = (n + 10 * m + 8 + 2) + 1 from by omega]
    simp only [futtockref20_What.l1]
    rw [most_eq kind h1 h7]
    simp only [Option.bind_some]
    rw [if_pos (by omega)]
    exact e2.trans e
theorem what_out (k : Nat) (hk : 4000 ≤ k) : futtockref20_What.f k a = some (0, 0, 0) := by
  have go : ∀ (m kind n : Nat), 1 ≤ kind → kind + m = 8 → futtockref20_What.l0 (n + 170 * m + 1) a kind = some (0, 0, 0) := by
    intro m
    induction m with
    | zero =>
      intro kind n h1 h8
      simp only [futtockref20_What.l0]
      rw [if_neg (by omega)]
    | succ m ih =>
      intro kind n h1 h8
      have hm := mostN_le kind (by omega)
      have e := ih (kind + 1) (n + (168 - 10 * mostN kind)) (by omega) (by omega)
      have e1 := l1_skip ha kind h1 (by omega) (mostN kind) 0 (n + 170 * m + 1 + (168 - 10 * mostN kind)) (by omega)
      rw [show n + 170 * (m + 1) + 1 = (n + 170 * m + 1 + (168 - 10 * mostN kind) + 10 * mostN kind + 1) + 1 from by omega]
      simp only [futtockref20_What.l0]
      rw [if_pos (by omega)]
      refine e1.trans ?_
      rw [show n + 170 * m + 1 + (168 - 10 * mostN kind) = n + (168 - 10 * mostN kind) + 170 * m + 1 from by omega]
      exact e
  unfold futtockref20_What.f
  obtain ⟨n, rfl⟩ : ∃ n, k = n + 170 * 7 + 1 := ⟨k - 1191, by omega⟩
  exact go 7 1 n (by omega) (by omega)
end
theorem rwhat_eq (a : Int) (k : Nat) (hk : 4000 ≤ k) : futtockref20_What.f k a = some (whatN a) := by
  by_cases h : 0 ≤ a ∧ a < 128
  · obtain ⟨n, rfl⟩ := Int.eq_ofNat_of_zero_le h.1
    exact at_rounds (g := fun k => futtockref20_What.f k (n : Int)) (futtockref20_What.mono _) hk (what_in n (by omega))
  · rw [what_out (by omega) k hk]
    unfold whatN
    rw [if_neg (by omega), if_neg (by omega), if_neg (by omega), if_neg (by omega), if_neg (by omega), if_neg (by omega), if_neg (by omega)]
end Go.Proofs.Ytfbfpiibmgofeaa.Q
