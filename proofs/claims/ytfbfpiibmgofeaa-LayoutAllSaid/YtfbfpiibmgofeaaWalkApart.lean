/- LayoutApart, at every input: it returns true, and nothing that was there is turned. -/
import Derived.Test.YtfbfpiibmgofeaaWalkCells
namespace Go.Proofs.Ytfbfpiibmgofeaa.Q
open Go.RowKit Go.Proofs.YtfbfpiibmgofeaaW.PrintWords Go.Proofs.YtfbfpiibmgofeaaW.PrintLast Go.Proofs.YtfbfpiibmgofeaaW.PrintMore
theorem bd_u8 {a : Int} (h : (Lit.int .u8 a).wf = true) : 0 ≤ a ∧ a < 256 := by
  simp [Lit.wf, IntKind.min, IntKind.max, IntKind.signed, IntKind.bits] at h; omega
/-- A cell of something leads back to it. -/
theorem what_at (kind i k : Int) (h : 0 ≤ atN kind i k) : atN kind i k < 128 ∧ ∃ r, whatN (atN kind i k) = (kind, i, r) ∧ (kind = 7 → r = k) := by
  have hc : kind = 1 ∨ kind = 2 ∨ kind = 3 ∨ kind = 4 ∨ kind = 5 ∨ kind = 6 ∨ kind = 7 := by
    by_cases hc : kind = 1 ∨ kind = 2 ∨ kind = 3 ∨ kind = 4 ∨ kind = 5 ∨ kind = 6 ∨ kind = 7
    · exact hc
    · unfold atN at h
      rw [if_neg (by omega), if_neg (by omega), if_neg (by omega), if_neg (by omega), if_neg (by omega), if_neg (by omega), if_neg (by omega)] at h
      omega
  rcases hc with rfl | rfl | rfl | rfl | rfl | rfl | rfl
  · rw [atN1] at h ⊢
    by_cases hc : 0 ≤ i ∧ i < 8
    · rw [if_pos hc] at h ⊢
      refine ⟨by omega, 0, ?_, fun h => absurd h (by decide)⟩
      unfold whatN;  rw [if_pos (by omega)]
      first | (simp; done) | (simp; omega)
    · rw [if_neg hc] at h; omega
  · rw [atN2] at h ⊢
    by_cases hc : 0 ≤ i ∧ i < 4
    · rw [if_pos hc] at h ⊢
      refine ⟨by omega, 0, ?_, fun h => absurd h (by decide)⟩
      unfold whatN; rw [if_neg (by omega)]; rw [if_pos (by omega)]
      first | (simp; done) | (simp; omega)
    · rw [if_neg hc] at h; omega
  · rw [atN3] at h ⊢
    by_cases hc : 0 ≤ i ∧ i < 16
    · rw [if_pos hc] at h ⊢
      refine ⟨by omega, 0, ?_, fun h => absurd h (by decide)⟩
      unfold whatN; rw [if_neg (by omega)]; rw [if_neg (by omega)]; rw [if_pos (by omega)]
      first | (simp; done) | (simp; omega)
    · rw [if_neg hc] at h; omega
  · rw [atN4] at h ⊢
    by_cases hc : 0 ≤ i ∧ i < 16
    · rw [if_pos hc] at h ⊢
      refine ⟨by omega, 0, ?_, fun h => absurd h (by decide)⟩
      unfold whatN; rw [if_neg (by omega)]; rw [if_neg (by omega)]; rw [if_neg (by omega)]; rw [if_pos (by omega)]
      first | (simp; done) | (simp; omega)
    · rw [if_neg hc] at h; omega
  · rw [atN5] at h ⊢
    by_cases hc : 0 ≤ i ∧ i < 8
    · rw [if_pos hc] at h ⊢
      refine ⟨by omega, 0, ?_, fun h => absurd h (by decide)⟩
      unfold whatN; rw [if_neg (by omega)]; rw [if_neg (by omega)]; rw [if_neg (by omega)]; rw [if_neg (by omega)]; rw [if_pos (by omega)]
      first | (simp; done) | (simp; omega)
    · rw [if_neg hc] at h; omega
  · rw [atN6] at h ⊢
    by_cases hc : 0 ≤ i ∧ i < 8
    · rw [if_pos hc] at h ⊢
      refine ⟨by omega, 0, ?_, fun h => absurd h (by decide)⟩
      unfold whatN; rw [if_neg (by omega)]; rw [if_neg (by omega)]; rw [if_neg (by omega)]; rw [if_neg (by omega)]; rw [if_neg (by omega)]; rw [if_pos (by omega)]
      first | (simp; done) | (simp; omega)
    · rw [if_neg hc] at h; omega
  · rw [atN7] at h ⊢
    by_cases hc : 0 ≤ i ∧ i < 8 ∧ 0 ≤ k ∧ k < 8
    · rw [if_pos hc] at h ⊢
      refine ⟨by omega, k, ?_, fun _ => rfl⟩
      unfold whatN; rw [if_neg (by omega)]; rw [if_neg (by omega)]; rw [if_neg (by omega)]; rw [if_neg (by omega)]; rw [if_neg (by omega)]; rw [if_neg (by omega)]; rw [if_pos (by omega)]
      first | (simp; done) | (simp; omega)
    · rw [if_neg hc] at h; omega
/-- What a cell is of is at that cell. -/
theorem at_what (a : Int) : ∃ p q r, whatN a = (p, q, r) ∧ 0 ≤ p ∧ p ≤ 7 ∧ 0 ≤ q ∧ q ≤ 16 ∧ 0 ≤ r ∧ r ≤ 8 ∧ (p ≠ 0 → atN p q r = a) := by
  unfold whatN
  by_cases h1 : 0 ≤ a ∧ a < 8
  · rw [if_pos h1]; exact ⟨_, _, _, rfl, by omega, by omega, by omega, by omega, by omega, by omega, fun _ => by rw [atN1, if_pos (by omega)]; omega⟩
  rw [if_neg h1]
  by_cases h2 : 8 ≤ a ∧ a < 12
  · rw [if_pos h2]; exact ⟨_, _, _, rfl, by omega, by omega, by omega, by omega, by omega, by omega, fun _ => by rw [atN2, if_pos (by omega)]; omega⟩
  rw [if_neg h2]
  by_cases h3 : 16 ≤ a ∧ a < 32
  · rw [if_pos h3]; exact ⟨_, _, _, rfl, by omega, by omega, by omega, by omega, by omega, by omega, fun _ => by rw [atN3, if_pos (by omega)]; omega⟩
  rw [if_neg h3]
  by_cases h4 : 32 ≤ a ∧ a < 48
  · rw [if_pos h4]; exact ⟨_, _, _, rfl, by omega, by omega, by omega, by omega, by omega, by omega, fun _ => by rw [atN4, if_pos (by omega)]; omega⟩
  rw [if_neg h4]
  by_cases h5 : 48 ≤ a ∧ a < 56
  · rw [if_pos h5]; exact ⟨_, _, _, rfl, by omega, by omega, by omega, by omega, by omega, by omega, fun _ => by rw [atN5, if_pos (by omega)]; omega⟩
  rw [if_neg h5]
  by_cases h6 : 56 ≤ a ∧ a < 64
  · rw [if_pos h6]; exact ⟨_, _, _, rfl, by omega, by omega, by omega, by omega, by omega, by omega, fun _ => by rw [atN6, if_pos (by omega)]; omega⟩
  rw [if_neg h6]
  by_cases h7 : 64 ≤ a ∧ a < 128
  · rw [if_pos h7]; exact ⟨_, _, _, rfl, by omega, by omega, by omega, by omega, by omega, by omega, fun _ => by rw [atN7, if_pos (by omega)]; omega⟩
  rw [if_neg h7]
  exact ⟨_, _, _, rfl, by omega, by omega, by omega, by omega, by omega, by omega, fun h => absurd rfl h⟩
theorem atN_bd (kind i k : Int) : -1 ≤ atN kind i k := by
  unfold atN
  repeat (first | omega | split)

/-- The second half: what any cell is of is at that cell. -/
theorem half (a : Int) (ha : (Lit.int .i64 a).wf = true) : ∃ p q r : Int, (∀ w, Calls Try.prog 7 #[.int .i64 a] w fun e w' => e = .returned (.tuple #[.int .i64 p, .int .i64 q, .int .i64 r]) ∧ Below w.heap.size w w') ∧
    (p = 0 ∨ ((p == 0) = false ∧ ∀ w, Calls Try.prog 9 #[.int .i64 p, .int .i64 q, .int .i64 r] w fun e w' => e = .returned (.int .i64 a) ∧ Below w.heap.size w w')) := by
  obtain ⟨p, q, r, hw, h1, h2, h3, h4, h5, h6, hat⟩ := at_what a
  have c := fun w => what_walk a ha w
  rw [hw] at c
  refine ⟨p, q, r, c, ?_⟩
  by_cases hp : p = 0
  · exact .inl hp
  · refine .inr ⟨beq_false_of_ne hp, fun w => ?_⟩
    have := at_walk p q r (wf_small _ (by omega) (by omega)) (wf_small _ (by omega) (by omega)) w
    rw [hat hp] at this
    exact this

set_option maxHeartbeats 1000000 in
theorem apart_walk (W : World) (a : Int) (ha : (Lit.int .i64 a).wf = true) (n0 n1 n2 : Int) (h0 : (Lit.int .u8 n0).wf = true) (h1 : (Lit.int .u8 n1).wf = true) (h2 : (Lit.int .u8 n2).wf = true) :
    Calls Try.prog 4 #[.int .i64 a, .agg #[.int .u8 n0, .int .u8 n1, .int .u8 n2]] W fun e w' => e = .returned (.bool true) ∧ Below W.heap.size W w' := by
  have b0 := bd_u8 h0
  have b1 := bd_u8 h1
  have b2 := bd_u8 h2
  clear h0 h1 h2
  obtain ⟨p, q, r, d1, d2⟩ := half a ha
  replace d1 := Aside0.mk d1
  have c1 := fun w => at_walk n0 n1 n2 (wf_small _ (by omega) (by omega)) (wf_small _ (by omega) (by omega)) w
  have hb := atN_bd n0 n1 n2
  have c2 : 0 ≤ atN n0 n1 n2 → atN n0 n1 n2 < 128 ∧ ∃ r', (n0 = 7 → r' = n2) ∧ ∀ w, Calls Try.prog 7 #[.int .i64 (atN n0 n1 n2)] w fun e w' => e = .returned (.tuple #[.int .i64 n0, .int .i64 n1, .int .i64 r']) ∧ Below w.heap.size w w' := by
    intro h
    obtain ⟨hl, r', hw, hr⟩ := what_at n0 n1 n2 h
    refine ⟨hl, r', hr, fun w => ?_⟩
    have := what_walk (atN n0 n1 n2) (wf_small _ (by omega) (by omega)) w
    rw [hw] at this
    exact this
  generalize atN n0 n1 n2 = x at c1 c2 hb
  replace c1 := Aside0.mk c1
  have fin : ∀ (Wx : World), Below W.heap.size W Wx → True := fun _ _ => trivial
  clear ha fin
  have i0 : 0 ≤ n0 := b0.1
  have i1 : 0 ≤ n1 := b1.1
  have i2 : 0 ≤ n2 := b2.1
  have j0 : n0 < 256 := b0.2
  have j1 : n1 < 256 := b1.2
  have j2 : n2 < 256 := b2.2
  clear b0 b1 b2
  rcases d2 with rfl | ⟨hp, d2⟩
  · skip
    by_cases hx : 0 ≤ x
    · obtain ⟨hx2, r', hr, c3⟩ := c2 hx
      replace c3 := Aside0.mk c3
      clear c2 hb
      by_cases h7 : n0 = 7
      · obtain rfl := hr h7
        subst h7
        clear hr
        go_enter Try.func4, Try.ntmps4
        go_wp2_with fail
        go_quiet (fail)
        go_wp2_with fail
        refine (c1.out _).mono ?_
        rintro e w1 ⟨rfl, e1⟩
        go_wp2_with fail
        refine (c3.out _).mono ?_
        rintro e w2 ⟨rfl, e2⟩
        go_wp2_with fail
        refine (d1.out _).mono ?_
        rintro e w3 ⟨rfl, e3⟩
        go_wp2_with fail
        refine (alive_walk _).mono ?_
        rintro e w4 ⟨rfl, e4⟩
        go_wp2_with fail
        go_ret
        exact ⟨rfl, (below_step (below_step (below_step (below_step (pw_below_drewN (below_alloc (Below.refl _ _) _) _) e1) e2) e3) e4)⟩
      · clear hr
        have h7' : (n0 == 7) = false := beq_false_of_ne h7
        clear h7
        go_enter Try.func4, Try.ntmps4
        go_wp2_with fail
        go_quiet (fail)
        go_wp2_with fail
        refine (c1.out _).mono ?_
        rintro e w1 ⟨rfl, e1⟩
        go_wp2_with fail
        refine (c3.out _).mono ?_
        rintro e w2 ⟨rfl, e2⟩
        go_wp2_with fail
        refine (d1.out _).mono ?_
        rintro e w3 ⟨rfl, e3⟩
        go_wp2_with fail
        refine (alive_walk _).mono ?_
        rintro e w4 ⟨rfl, e4⟩
        go_wp2_with fail
        go_ret
        exact ⟨rfl, (below_step (below_step (below_step (below_step (pw_below_drewN (below_alloc (Below.refl _ _) _) _) e1) e2) e3) e4)⟩
    · have hx' : x < 0 := by omega
      clear c2 hb hx
      go_enter Try.func4, Try.ntmps4
      go_wp2_with fail
      go_quiet (fail)
      go_wp2_with fail
      refine (c1.out _).mono ?_
      rintro e w1 ⟨rfl, e1⟩
      go_wp2_with fail
      refine (d1.out _).mono ?_
      rintro e w2 ⟨rfl, e2⟩
      go_wp2_with fail
      refine (alive_walk _).mono ?_
      rintro e w3 ⟨rfl, e3⟩
      go_wp2_with fail
      go_ret
      exact ⟨rfl, (below_step (below_step (below_step (pw_below_drewN (below_alloc (Below.refl _ _) _) _) e1) e2) e3)⟩
  · replace d2 := Aside0.mk d2
    by_cases hx : 0 ≤ x
    · obtain ⟨hx2, r', hr, c3⟩ := c2 hx
      replace c3 := Aside0.mk c3
      clear c2 hb
      by_cases h7 : n0 = 7
      · obtain rfl := hr h7
        subst h7
        clear hr
        go_enter Try.func4, Try.ntmps4
        go_wp2_with fail
        go_quiet (fail)
        go_wp2_with fail
        refine (c1.out _).mono ?_
        rintro e w1 ⟨rfl, e1⟩
        go_wp2_with fail
        refine (c3.out _).mono ?_
        rintro e w2 ⟨rfl, e2⟩
        go_wp2_with fail
        refine (d1.out _).mono ?_
        rintro e w3 ⟨rfl, e3⟩
        go_wp2_with fail
        refine (d2.out _).mono ?_
        rintro e w4 ⟨rfl, e4⟩
        go_wp2_with fail
        refine (alive_walk _).mono ?_
        rintro e w5 ⟨rfl, e5⟩
        go_wp2_with fail
        go_ret
        exact ⟨rfl, (below_step (below_step (below_step (below_step (below_step (pw_below_drewN (below_alloc (Below.refl _ _) _) _) e1) e2) e3) e4) e5)⟩
      · clear hr
        have h7' : (n0 == 7) = false := beq_false_of_ne h7
        clear h7
        go_enter Try.func4, Try.ntmps4
        go_wp2_with fail
        go_quiet (fail)
        go_wp2_with fail
        refine (c1.out _).mono ?_
        rintro e w1 ⟨rfl, e1⟩
        go_wp2_with fail
        refine (c3.out _).mono ?_
        rintro e w2 ⟨rfl, e2⟩
        go_wp2_with fail
        refine (d1.out _).mono ?_
        rintro e w3 ⟨rfl, e3⟩
        go_wp2_with fail
        refine (d2.out _).mono ?_
        rintro e w4 ⟨rfl, e4⟩
        go_wp2_with fail
        refine (alive_walk _).mono ?_
        rintro e w5 ⟨rfl, e5⟩
        go_wp2_with fail
        go_ret
        exact ⟨rfl, (below_step (below_step (below_step (below_step (below_step (pw_below_drewN (below_alloc (Below.refl _ _) _) _) e1) e2) e3) e4) e5)⟩
    · have hx' : x < 0 := by omega
      clear c2 hb hx
      go_enter Try.func4, Try.ntmps4
      go_wp2_with fail
      go_quiet (fail)
      go_wp2_with fail
      refine (c1.out _).mono ?_
      rintro e w1 ⟨rfl, e1⟩
      go_wp2_with fail
      refine (d1.out _).mono ?_
      rintro e w2 ⟨rfl, e2⟩
      go_wp2_with fail
      refine (d2.out _).mono ?_
      rintro e w3 ⟨rfl, e3⟩
      go_wp2_with fail
      refine (alive_walk _).mono ?_
      rintro e w4 ⟨rfl, e4⟩
      go_wp2_with fail
      go_ret
      exact ⟨rfl, (below_step (below_step (below_step (below_step (pw_below_drewN (below_alloc (Below.refl _ _) _) _) e1) e2) e3) e4)⟩
end Go.Proofs.Ytfbfpiibmgofeaa.Q
