/- FieldBack, at every input: it returns true, and nothing that was there is turned. -/
import Derived.Test.YtnjoadchhkhleaaPureJoin
import Derived.Test.YtnjoadchhkhleaaQ11
namespace Go.Proofs.Ytnjoadchhkhleaa.Q
open Go.RowKit Go.Proofs.YtnjoadchhkhleaaW.PrintWords Fut
theorem back_l0 (X V : List Int) (hn : X.length ≤ 100) (hl : X.length = V.length) (he : ∀ i : Nat, i < X.length → rd X (i : Int) = rd V (i : Int)) (m : Nat) : ∀ (k i : Nat), i + m = X.length → m < k → futtocklaw01_FieldBack.l0 k V X (X.length : Int) (i : Int) = some true := by
  induction m with
  | zero =>
    intro k i hi hk
    obtain ⟨k, rfl⟩ : ∃ m, k = m + 1 := ⟨k - 1, by omega⟩
    simp only [futtocklaw01_FieldBack.l0]
    rw [if_neg (by omega), alive_eq]; rfl
  | succ m ih =>
    intro k i hi hk
    obtain ⟨k, rfl⟩ : ∃ m, k = m + 1 := ⟨k - 1, by omega⟩
    have hei := he i (by omega)
    simp only [futtocklaw01_FieldBack.l0]
    rw [if_pos (by omega), if_pos (by omega), if_pos (by omega), if_pos (by omega), if_pos hei, wrap_succ i (by omega)]
    exact ih k (i + 1) (by omega) (by omega)
theorem back_pure (R : List S23) (V : List Int) (hR : ∀ x ∈ R, (Lit.int .u8 x.f0).wf = true ∧ (Lit.int .u8 x.f1).wf = true) (hV : ∀ x ∈ V, (Lit.int .u64 x).wf = true) :
    futtocklaw01_FieldBack.f 20000 R V = some true := by
  unfold futtocklaw01_FieldBack.f futtocklaw01_far.f
  simp only [Option.bind_some]
  by_cases h : (R.length : Int) > 40
  · rw [if_pos (by simpa using h)]
    simp only [futtocklaw01_FieldBack.j0]
    rw [if_pos trivial, alive_eq]; rfl
  · rw [if_neg (by simpa using h)]
    simp only [futtocklaw01_FieldBack.j0]
    by_cases h2 : (V.length : Int) > 40
    · rw [if_pos (by simpa using h2), alive_eq]; rfl
    · rw [if_neg (by simpa using h2)]
      have I := is23_of hR
      have IV := isV_of hV
      have I2 := is25_conv I
      have hl : (R.map conv).length = R.length := List.length_map ..
      generalize (fun i : Nat => (rd_T23 R (i : Int)).f0.toNat) = a at I I2
      generalize (fun i : Nat => (rd_T23 R (i : Int)).f1.toNat) = d at I I2
      generalize (fun i : Nat => (rd V (i : Int)).toNat) = v at IV
      have t1 := theirs_eq R (by omega) 19999 (by omega)
      have t2 := join_eq I2 IV (by omega) 19999 (by omega)
      rw [hl] at t2
      rw [t1]; simp only [Option.bind_some]
      rw [t2]; simp only [Option.bind_some]
      by_cases hj : (joinA a d v R.length V.length).2 = true
      · rw [if_pos hj]
        have hA : R.length = V.length ∧ apartF a d R.length = true := by
          unfold joinA at hj
          by_cases hx : R.length = V.length ∧ apartF a d R.length = true
          · exact hx
          · rw [if_neg hx] at hj; cases hj
        have eA : joinA a d v R.length V.length = joinF a d v R.length 0 0 := by unfold joinA; rw [if_pos hA]
        rw [eA] at hj ⊢
        have hlt := joinF_lt (a := a) (d := d) (v := v) R.length 0 0 (by decide)
        obtain ⟨w, hw⟩ : ∃ w, (joinF a d v R.length 0 0).1 = w := ⟨_, rfl⟩
        rw [hw] at hlt ⊢
        have hb := join_back R.length 0 0 w (by rw [Nat.zero_add]; exact hA.2) (by decide) (fun k hk => absurd hk (by omega)) (Prod.ext hw hj)
        have t4 := split_eq I2 (by omega) w hlt 19999 (by omega)
        rw [hl] at t4
        rw [t4]; simp only [Option.bind_some]
        rw [if_pos (by rw [splitF_length]; omega)]
        refine back_l0 _ V (by rw [splitF_length]; omega) (by rw [splitF_length]; omega) (fun i hi => ?_) R.length 19999 0 (by rw [splitF_length]; omega) (by omega)
        rw [splitF_length] at hi
        rw [(IV i (by omega)).1, ← hb i (by omega)]
        have := apartF_may hA.2 i hi
        simp [rd, splitF, List.getD, hi, if_pos this]
      · rw [if_neg hj]
        have h0 : (joinA a d v R.length V.length).1 = 0 := by
          unfold joinA at hj ⊢
          by_cases hx : R.length = V.length ∧ apartF a d R.length = true
          · rw [if_pos hx] at hj ⊢
            exact joinF_no _ _ _ hj
          · rw [if_neg hx]
        rw [h0, if_pos (by rfl), alive_eq]; rfl
theorem back_walk (W : World) (A0 : Option Addr) (c0 : Nat) (R : List S23) (hr0 : Kd.C k23 W A0 R.length R) (hc0 : R.length ≤ c0) (hR : ∀ x ∈ R, (Lit.int .u8 x.f0).wf = true ∧ (Lit.int .u8 x.f1).wf = true)
    (A1 : Option Addr) (c1 : Nat) (V : List Int) (hr1 : Kd.C (Kd.int .u64) W A1 V.length V) (hc1 : V.length ≤ c1) (hV : ∀ x ∈ V, (Lit.int .u64 x).wf = true) :
    Calls Try.prog 7 #[.slice A0 R.length c0, .slice A1 V.length c1] W fun e W' => e = .returned (.bool true) ∧ Below W.heap.size W W' :=
  futtocklaw01_FieldBack.calls 20000 A0 c0 R A1 c1 V true W hr0 hc0 hr1 hc1 (back_pure R V hR hV)
end Go.Proofs.Ytnjoadchhkhleaa.Q
