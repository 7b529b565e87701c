/- FieldJoins, at every input: it returns true, and nothing that was there is turned. -/
import Derived.Test.YtnjoadchhkhleaaPureJoin
import Derived.Test.YtnjoadchhkhleaaQ10
namespace Go.Proofs.Ytnjoadchhkhleaa.Q
open Go.RowKit Go.Proofs.YtnjoadchhkhleaaW.PrintWords Fut
section
variable {L : List S25} {R : List S23} {a d : Nat → Nat}
theorem rsplit_l0 (hR : Is23 R a d) (hn : R.length ≤ 100) (w : Nat) (hw : w < 18446744073709551616) (m : Nat) : ∀ (k i : Nat), i + m = R.length → m + 300 < k → futtockref01_Split.l0 k R (w : Int) (splitF a d w i) (i : Int) = some (splitF a d w R.length) := by
  induction m with
  | zero =>
    intro k i hi hk
    obtain ⟨k, rfl⟩ : ∃ m, k = m + 1 := ⟨k - 1, by omega⟩
    simp only [futtockref01_Split.l0]
    rw [if_neg (by omega), show R.length = i from by omega]
  | succ m ih =>
    intro k i hi hk
    obtain ⟨k, rfl⟩ : ∃ m, k = m + 1 := ⟨k - 1, by omega⟩
    obtain ⟨hr, ha2, hd2⟩ := hR i (by omega)
    simp only [futtockref01_Split.l0]
    rw [if_pos (by omega), if_pos (by omega), hr]
    simp only []
    rw [rget_eq (a i) (d i) w k ha2 hd2 hw (by omega)]
    simp only [Option.bind_some]
    rw [if_pos (by rw [splitF_length]; omega), ← splitF_succ, wrap_succ i (by omega)]
    exact ih k (i + 1) (by omega) (by omega)
theorem rsplit_eq (hR : Is23 R a d) (hn : R.length ≤ 100) (w : Nat) (hw : w < 18446744073709551616) (k : Nat) (hk : 500 ≤ k) : futtockref01_Split.f k R (w : Int) = some (splitF a d w R.length) := by
  unfold futtockref01_Split.f
  exact rsplit_l0 hR hn w hw R.length k 0 (by omega) (by omega)
end
theorem same_l0 (X : List Int) (hn : X.length ≤ 100) (m : Nat) : ∀ (k i : Nat), i + m = X.length → m < k → futtocklaw01_FieldJoins.l0 k X X (X.length : Int) (i : Int) = some true := by
  induction m with
  | zero =>
    intro k i hi hk
    obtain ⟨k, rfl⟩ : ∃ m, k = m + 1 := ⟨k - 1, by omega⟩
    simp only [futtocklaw01_FieldJoins.l0]
    rw [if_neg (by omega), alive_eq]; rfl
  | succ m ih =>
    intro k i hi hk
    obtain ⟨k, rfl⟩ : ∃ m, k = m + 1 := ⟨k - 1, by omega⟩
    simp only [futtocklaw01_FieldJoins.l0]
    rw [if_pos (by omega), if_pos (by omega), if_pos (by omega), if_pos (by omega), if_pos trivial, wrap_succ i (by omega)]
    exact ih k (i + 1) (by omega) (by omega)
theorem joins_pure (R : List S23) (V : List Int) (w : Nat) (hR : ∀ x ∈ R, (Lit.int .u8 x.f0).wf = true ∧ (Lit.int .u8 x.f1).wf = true) (hV : ∀ x ∈ V, (Lit.int .u64 x).wf = true) (hw : w < 18446744073709551616) :
    futtocklaw01_FieldJoins.f 20000 R V (w : Int) = some true := by
  unfold futtocklaw01_FieldJoins.f futtocklaw01_far.f
  simp only [Option.bind_some]
  by_cases h : (R.length : Int) > 40
  · rw [if_pos (by simpa using h)]
    simp only [futtocklaw01_FieldJoins.j0]
    rw [if_pos trivial, alive_eq]; rfl
  · rw [if_neg (by simpa using h)]
    simp only [futtocklaw01_FieldJoins.j0]
    by_cases h2 : (V.length : Int) > 40
    · rw [if_pos (by simpa using h2), alive_eq]; rfl
    · rw [if_neg (by simpa using h2)]
      have I := is23_of hR
      have IV := isV_of hV
      have I2 := is25_conv I
      have hl : (R.map conv).length = R.length := List.length_map ..
      generalize (fun i : Nat => (rd_T23 R (i : Int)).f0.toNat) = a at I I2
      generalize (fun i : Nat => (rd_T23 R (i : Int)).f1.toNat) = d at I I2
      generalize (fun i : Nat => (rd V (i : Int)).toNat) = v at IV
      have t1 := theirs_eq R (by omega) 19999 (by omega)
      have t2 := join_eq I2 IV (by omega) 19999 (by omega)
      have t3 := rjoin_eq I IV (by omega) 19999 (by omega)
      have t4 := split_eq I2 (by omega) w hw 19999 (by omega)
      have t5 := rsplit_eq I (by omega) w hw 19999 (by omega)
      have t6 := apart_eq I2 (by omega) 19999 (by omega)
      have t7 := rapart_eq I (by omega) 19999 (by omega)
      rw [hl] at t2 t4 t6
      rw [t1]; simp only [Option.bind_some]
      rw [t2]; simp only [Option.bind_some]
      rw [t3]; simp only [Option.bind_some]
      rw [t4]; simp only [Option.bind_some]
      rw [t5]; simp only [Option.bind_some]
      rw [t6]; simp only [Option.bind_some]
      rw [t7]; simp only [Option.bind_some]
      rw [if_neg (by simp), if_pos trivial, if_neg (by simp)]
      rw [show (19999 : Nat) = 19998 + 1 from rfl]
      simp only [futtocklaw01_FieldJoins.j1]
      rw [if_neg (by simp)]
      exact same_l0 _ (by rw [splitF_length]; omega) R.length 19998 0 (by rw [splitF_length]; omega) (by omega)
theorem joins_walk (W : World) (A0 : Option Addr) (c0 : Nat) (R : List S23) (hr0 : Kd.C k23 W A0 R.length R) (hc0 : R.length ≤ c0) (hR : ∀ x ∈ R, (Lit.int .u8 x.f0).wf = true ∧ (Lit.int .u8 x.f1).wf = true)
    (A1 : Option Addr) (c1 : Nat) (V : List Int) (hr1 : Kd.C (Kd.int .u64) W A1 V.length V) (hc1 : V.length ≤ c1) (hV : ∀ x ∈ V, (Lit.int .u64 x).wf = true) (w : Int) (ww : (Lit.int .u64 w).wf = true) :
    Calls Try.prog 6 #[.slice A0 R.length c0, .slice A1 V.length c1, .int .u64 w] W fun e W' => e = .returned (.bool true) ∧ Below W.heap.size W W' := by
  obtain ⟨w, rfl, hw⟩ := nat_u64 ww
  exact futtocklaw01_FieldJoins.calls 20000 A0 c0 R A1 c1 V _ true W hr0 hc0 hr1 hc1 (joins_pure R V w hR hV hw)
end Go.Proofs.Ytnjoadchhkhleaa.Q
