/- The document's list of all cells is the list of the walk; so the law of LayoutAll answers true at every input. No condition of its own. -/
import Derived.Test.YtfbfpiibmgofeaaQ9
import Derived.Test.YtfbfpiibmgofeaaRefWhat
namespace Go.Proofs.Ytfbfpiibmgofeaa.Q
open Go.RowKit Go.Proofs.YtfbfpiibmgofeaaW.PrintWords Go.Proofs.YtfbfpiibmgofeaaW.PrintLast Go.Proofs.YtfbfpiibmgofeaaW.PrintMore
set_option maxRecDepth 100000 in
theorem what_cases_nat : ∀ n : Nat, n < 128 → (
    (whatN (n : Int)).1 = 0 ∧ (whatN (n : Int)).2.1 = 0 ∨ (whatN (n : Int)).1 = 1 ∧ 0 ≤ (whatN (n : Int)).2.1 ∧ (whatN (n : Int)).2.1 < 8 ∨ (whatN (n : Int)).1 = 2 ∧ 0 ≤ (whatN (n : Int)).2.1 ∧ (whatN (n : Int)).2.1 < 4 ∨
    (whatN (n : Int)).1 = 3 ∧ 0 ≤ (whatN (n : Int)).2.1 ∧ (whatN (n : Int)).2.1 < 16 ∨ (whatN (n : Int)).1 = 4 ∧ 0 ≤ (whatN (n : Int)).2.1 ∧ (whatN (n : Int)).2.1 < 16 ∨ (whatN (n : Int)).1 = 5 ∧ 0 ≤ (whatN (n : Int)).2.1 ∧ (whatN (n : Int)).2.1 < 8 ∨
    (whatN (n : Int)).1 = 6 ∧ 0 ≤ (whatN (n : Int)).2.1 ∧ (whatN (n : Int)).2.1 < 8 ∨ (whatN (n : Int)).1 = 7 ∧ 0 ≤ (whatN (n : Int)).2.1 ∧ (whatN (n : Int)).2.1 < 8 ∧ 0 ≤ (whatN (n : Int)).2.2 ∧ (whatN (n : Int)).2.2 < 8) := by decide +kernel
theorem what_cases (a : Int) (h0 : 0 ≤ a) (h1 : a < 128) :
    (whatN a).1 = 0 ∧ (whatN a).2.1 = 0 ∨ (whatN a).1 = 1 ∧ 0 ≤ (whatN a).2.1 ∧ (whatN a).2.1 < 8 ∨ (whatN a).1 = 2 ∧ 0 ≤ (whatN a).2.1 ∧ (whatN a).2.1 < 4 ∨
    (whatN a).1 = 3 ∧ 0 ≤ (whatN a).2.1 ∧ (whatN a).2.1 < 16 ∨ (whatN a).1 = 4 ∧ 0 ≤ (whatN a).2.1 ∧ (whatN a).2.1 < 16 ∨ (whatN a).1 = 5 ∧ 0 ≤ (whatN a).2.1 ∧ (whatN a).2.1 < 8 ∨
    (whatN a).1 = 6 ∧ 0 ≤ (whatN a).2.1 ∧ (whatN a).2.1 < 8 ∨ (whatN a).1 = 7 ∧ 0 ≤ (whatN a).2.1 ∧ (whatN a).2.1 < 8 ∧ 0 ≤ (whatN a).2.2 ∧ (whatN a).2.2 < 8 := by
  obtain ⟨n, rfl⟩ := Int.eq_ofNat_of_zero_le h0
  exact what_cases_nat n (by omega)
theorem cut_eq (a b : Int) : futtockref20_cut.f a b = some (mn (mx a 0) b) := rfl
theorem cut_lt (x b i : Int) (h0 : 0 ≤ i) (h1 : i < b) : (i < mn (mx x 0) b) ↔ (i < x) := by
  unfold mn mx; repeat' split
  all_goals omega
theorem rd_row (y0 y1 y2 y3 p : Int) (h : 0 ≤ p ∧ p < 8) : rd [0, y1, y2, y3, y3, y0, y0, y0] p = manyN y0 y1 y2 y3 p := by
  have h8 : p = 0 ∨ p = 1 ∨ p = 2 ∨ p = 3 ∨ p = 4 ∨ p = 5 ∨ p = 6 ∨ p = 7 := by omega
  rcases h8 with rfl | rfl | rfl | rfl | rfl | rfl | rfl | rfl <;> rfl
theorem many_cut (t o c s : Int) (a : Int) (h0 : 0 ≤ a) (h1 : a < 128) (h : 0 < (whatN a).1) :
    (whatN a).2.1 < manyN (mn (mx t 0) 8) (mn (mx o 0) 8) (mn (mx c 0) 4) (mn (mx s 0) 16) (whatN a).1 ↔ (whatN a).2.1 < manyN t o c s (whatN a).1 := by
  have hc := what_cases a h0 h1
  generalize whatN a = W at hc h ⊢
  obtain ⟨p, i, j⟩ := W
  simp only at hc h ⊢
  rcases hc with ⟨rfl, rfl⟩ | ⟨rfl, h1, h2⟩ | ⟨rfl, h1, h2⟩ | ⟨rfl, h1, h2⟩ | ⟨rfl, h1, h2⟩ | ⟨rfl, h1, h2⟩ | ⟨rfl, h1, h2⟩ | ⟨rfl, h1, h2, h3, h4⟩
  · exact absurd h (by decide)
  · exact cut_lt o 8 i h1 h2
  · exact cut_lt c 4 i h1 h2
  · exact cut_lt s 16 i h1 h2
  · exact cut_lt s 16 i h1 h2
  · exact cut_lt t 8 i h1 h2
  · exact cut_lt t 8 i h1 h2
  · exact cut_lt t 8 i h1 h2
theorem what_p (a : Int) (h0 : 0 ≤ a) (h1 : a < 128) : 0 ≤ (whatN a).1 ∧ (whatN a).1 < 8 ∧ ((whatN a).1 = 0 → (whatN a).2.1 = 0) ∧ ((whatN a).1 = 7 → 0 ≤ (whatN a).2.2 ∧ (whatN a).2.2 < 8) := by
  have hc := what_cases a h0 h1
  generalize whatN a = W at hc ⊢
  obtain ⟨p, i, j⟩ := W
  simp only at hc ⊢
  omega
theorem selN_iff (t o c s : Int) (n : Nat) : selN t o c s n = true ↔ (0 < (whatN n).1 ∧ (whatN n).2.1 < manyN t o c s (whatN n).1 ∧ ((whatN n).1 ≠ 7 ∨ (whatN n).2.2 < o)) := by unfold selN; exact decide_eq_true_iff
theorem ref_step (k : Nat) (y0 y1 y2 y3 : Int) (x9 : List Int) (a : Int) (W : Int × Int × Int) (h1 : a < 128) (hW : futtockref20_What.f k a = some W) (hp : 0 ≤ W.1 ∧ W.1 < 8) (hl : x9.length < 17592186044416) :
    futtockref20_All.l0 (k + 1) y0 y1 y2 y3 x9 a = if (W.2.1 < manyN y0 y1 y2 y3 W.1 ∧ (W.1 < 7 ∨ W.2.2 < y1)) then futtockref20_All.l0 k y0 y1 y2 y3 (x9 ++ [a]) (wrap64 (a + 1)) else futtockref20_All.l0 k y0 y1 y2 y3 x9 (wrap64 (a + 1)) := by
  conv => lhs; unfold futtockref20_All.l0
  rw [if_pos h1, hW]
  simp only [Option.bind_some]
  rw [if_pos hp.1, if_pos (show W.1 < (([0, y1, y2, y3, y3, y0, y0, y0] : List Int).length : Int) from hp.2), rd_row _ _ _ _ _ hp]
  simp only [if_pos hl]
  by_cases g : W.2.1 < manyN y0 y1 y2 y3 W.1
  · rw [if_pos g]
    by_cases g7 : W.1 < 7
    · rw [if_pos g7, if_pos ⟨g, Or.inl g7⟩]
    · rw [if_neg g7]
      by_cases gk : W.2.2 < y1
      · rw [if_pos gk, if_pos ⟨g, Or.inr gk⟩]
      · rw [if_neg gk, if_neg (fun h => h.2.elim g7 gk)]
  · rw [if_neg g, if_neg (fun h => g h.1)]
theorem ref_all (t o c s : Int) : ∀ (m n k : Nat), 4000 ≤ k → n + m = 128 →
    futtockref20_All.l0 (k + m + 1) (mn (mx t 0) 8) (mn (mx o 0) 8) (mn (mx c 0) 4) (mn (mx s 0) 16) (allN t o c s n) (n : Int) = some (allN t o c s 128) := by
  intro m
  induction m with
  | zero =>
    intro n k hk hn
    obtain rfl : n = 128 := by omega
    simp only [futtockref20_All.l0]
    rw [if_neg (by omega)]
  | succ m ih =>
    intro n k hk hn
    have e := ih (n + 1) k hk (by omega)
    have hl := allN_length t o c s n
    have hw : wrap64 ((n : Int) + 1) = ((n + 1 : Nat) : Int) := by rw [wrap_id _ (by omega) (by omega)]; omega
    have hp := what_p (n : Int) (by omega) (by omega)
    have hs := selN_iff t o c s n
    have hm := many_cut t o c s (n : Int) (by omega) (by omega)
    rw [show k + (m + 1) + 1 = (k + m + 1) + 1 from by omega, ref_step (k + m + 1) _ _ _ _ _ _ (whatN n) (by omega) (rwhat_eq _ _ (by omega)) ⟨hp.1, hp.2.1⟩ (by omega), hw]
    have hiff : ((whatN n).2.1 < manyN (mn (mx t 0) 8) (mn (mx o 0) 8) (mn (mx c 0) 4) (mn (mx s 0) 16) (whatN n).1 ∧ ((whatN n).1 < 7 ∨ (whatN n).2.2 < mn (mx o 0) 8)) ↔ selN t o c s n = true := by
      rw [hs]
      by_cases h0 : 0 < (whatN n).1
      · rw [hm h0]
        by_cases h7 : (whatN n).1 = 7
        · have hj := cut_lt o 8 _ (hp.2.2.2 h7).1 (hp.2.2.2 h7).2
          rw [hj]
          constructor
          · rintro ⟨g, g2⟩; exact ⟨h0, g, g2.elim (fun h => absurd h (by omega)) Or.inr⟩
          · rintro ⟨_, g, g2⟩; exact ⟨g, g2.elim (fun h => absurd h7 h) Or.inr⟩
        · constructor
          · rintro ⟨g, _⟩; exact ⟨h0, g, Or.inl h7⟩
          · rintro ⟨_, g, _⟩; exact ⟨g, Or.inl (by omega)⟩
      · have h00 : (whatN n).1 = 0 := by omega
        constructor
        · rintro ⟨g, _⟩
          rw [hp.2.2.1 h00, h00] at g
          exact absurd (show (0 : Int) < 0 from g) (by decide)
        · rintro ⟨h, _⟩; exact absurd h h0
    rw [show allN t o c s (n + 1) = if selN t o c s n = true then allN t o c s n ++ [(n : Int)] else allN t o c s n from rfl] at e
    by_cases g : selN t o c s n = true
    · rw [if_pos g] at e
      rw [if_pos (hiff.mpr g)]
      exact e
    · rw [if_neg g] at e
      rw [if_neg (fun h => g (hiff.mp h))]
      exact e
theorem rall_eq (t o c s : Int) (k : Nat) (hk : 4200 ≤ k) : futtockref20_All.f k t o c s = some (allN t o c s 128) := by
  unfold futtockref20_All.f
  simp only [cut_eq, Option.bind_some]
  obtain ⟨n, rfl⟩ : ∃ n, k = n + 128 + 1 := ⟨k - 129, by omega⟩
  exact ref_all t o c s 128 0 n (by omega) rfl
theorem law_loop (l : List Int) (hl : l.length ≤ 128) : ∀ (m n k : Nat), n + m = l.length → futtocklaw20_LayoutAll.l0 (k + m + 1) l l (l.length : Int) (n : Int) = some true := by
  intro m
  induction m with
  | zero =>
    intro n k hn
    unfold futtocklaw20_LayoutAll.l0
    rw [if_neg (by omega)]
    rfl
  | succ m ih =>
    intro n k hn
    have hw : wrap64 ((n : Int) + 1) = ((n + 1 : Nat) : Int) := by rw [wrap_id _ (by omega) (by omega)]; omega
    rw [show k + (m + 1) + 1 = (k + m + 1) + 1 from by omega]
    unfold futtocklaw20_LayoutAll.l0
    rw [if_pos (by omega), if_pos (by omega), if_pos (by omega), if_pos (by omega), if_pos rfl, hw]
    exact ih (n + 1) k (by omega)
theorem layoutAll_true (t o c s : Int) : futtocklaw20_LayoutAll.f 4200 t o c s = some true := by
  unfold futtocklaw20_LayoutAll.f layout_All.f
  rw [rall_eq t o c s _ (Nat.le_refl _)]
  simp only [Option.bind_some]
  rw [if_pos trivial]
  have hl := allN_length t o c s 128
  obtain ⟨j, hj⟩ : ∃ j, 4200 = j + (allN t o c s 128).length + 1 := ⟨4200 - (allN t o c s 128).length - 1, by omega⟩
  rw [hj]
  exact law_loop _ hl _ 0 j (by omega)
theorem all_law (W : World) (t o c s : Int) (_ : (Lit.int .i64 t).wf = true) (_ : (Lit.int .i64 o).wf = true) (_ : (Lit.int .i64 c).wf = true) (_ : (Lit.int .i64 s).wf = true) :
    Calls Try.prog 5 #[.agg #[.int .i64 t, .int .i64 o, .int .i64 c, .int .i64 s]] W fun e w' => e = .returned (.bool true) ∧ Below W.heap.size W w' :=
  futtocklaw20_LayoutAll.calls 4200 t o c s true W (layoutAll_true t o c s) rfl
end Go.Proofs.Ytfbfpiibmgofeaa.Q
