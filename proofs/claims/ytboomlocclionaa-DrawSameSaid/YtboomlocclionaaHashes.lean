/- The walk of DrawHashes, at every input: it returns true, and nothing that was there is turned. -/
import Derived.Test.YtboomlocclionaaDraw
import Derived.Test.YtboomlocclionaaQ2
import Derived.StillTailTactics
namespace Go.Proofs.Ytboomlocclionaa.Q
open Go.RowKit Go.Proofs.YtboomlocclionaaW.PrintWords Go.Proofs.YtboomlocclionaaW.PrintLast Go.Proofs.YtboomlocclionaaW.PrintMore Fut

set_option maxHeartbeats 400000 in
theorem state_q (g : Nat) (x : Int) (w : World) (h : w.cell? ⟨g, 0, none⟩ = some (.int .u64 x)) :
    Calls Try.prog 13 #[.pointer (some ⟨g, 0, none⟩)] w fun e w' => e = .returned (.int .u64 x) ∧ w' = w := by
  have hu := Try.underlying38
  go_enter Try.func13, Try.ntmps13
  go_wp2
  go_ret
  exact ⟨rfl, rfl⟩
set_option maxHeartbeats 400000 in
theorem count_q (g : Nat) (x : Int) (w : World) (h : w.cell? ⟨g, 1, none⟩ = some (.int .i64 x)) :
    Calls Try.prog 14 #[.pointer (some ⟨g, 0, none⟩)] w fun e w' => e = .returned (.int .i64 x) ∧ w' = w := by
  have hu := Try.underlying38
  go_enter Try.func14, Try.ntmps14
  go_wp2
  go_ret
  exact ⟨rfl, rfl⟩

theorem rnew_eq (s : Nat) (h : s < 2 ^ 64) : futtockref05_New.f (s : Int) = some (((firstN s : Nat) : Int), 0) := by
  unfold futtockref05_New.f firstN
  by_cases e : s = 88172645463325252
  · rw [if_pos (by omega), if_pos e]; rfl
  · rw [if_neg (by omega), if_neg e, show (88172645463325252 : Int) = ((88172645463325252 : Nat) : Int) from rfl, xor_nat h (by decide)]

theorem p33 (k : Nat) (hk : 33 < k) : futtockref05_power.f k 33 = some ((2 ^ 33 : Nat) : Int) := power_eq 33 k (by decide) hk
theorem rhash_bits {t : Nat} (h : t < 2 ^ 64) : (IntKind.u64.wrap (Int.tdiv (t : Int) ((2 ^ 33 : Nat) : Int))) % 4294967296 = ((t / 2 ^ 33 : Nat) : Int) := by
  rw [div_nat 33 h]
  have h2 : t / 2 ^ 33 < 2 ^ 31 := by
    have : (2 : Nat) ^ 64 = 2 ^ 31 * 2 ^ 33 := by decide
    exact Nat.div_lt_of_lt_mul (by rw [Nat.mul_comm, ← this]; exact h)
  omega
theorem rhash_eq (x c k : Nat) (h : x < 2 ^ 64) (h0 : x ≠ 0) (hk : 60 ≤ k) : futtockref05_Source_Hash.f k (x : Int) (c : Int) = some (((nextN x / 2 ^ 33 : Nat) : Int), ((nextN x : Nat) : Int), mn (wrap64 ((c : Int) + 1)) 2147483647) := by
  have h1 := stir_lt h
  have h2 := stir_lt h1
  have h3 := stir_lt h2
  have hn := nextN_hash h h0
  have w1 : wrap64 ((0 : Int) + 1) = 1 := wrap_id 1 (by decide) (by decide)
  have w2 : wrap64 ((1 : Int) + 1) = 2 := wrap_id 2 (by decide) (by decide)
  unfold futtockref05_Source_Hash.f
  obtain ⟨k, rfl⟩ : ∃ m, k = m + 1 := ⟨k - 1, by clear w1 w2; omega⟩
  simp only [futtockref05_Source_Hash.l0]
  rw [if_pos (by decide), rstir_eq x k h (by clear w1 w2; omega)]
  simp only [Option.bind_some]
  rw [p33 k (by clear w1 w2; omega)]
  simp only [Option.bind_some]
  rw [if_neg (pow_ne 33), rhash_bits h1, w1]
  unfold nextN at hn ⊢
  by_cases e1 : stirN x / 2 ^ 33 ≠ 0
  · rw [if_neg (by clear w1 w2; omega), if_pos e1]
  · rw [if_pos (by clear w1 w2; omega), if_neg e1]
    rw [if_neg e1] at hn
    obtain ⟨k, rfl⟩ : ∃ m, k = m + 1 := ⟨k - 1, by clear w1 w2; omega⟩
    simp only [futtockref05_Source_Hash.l0]
    rw [if_pos (by decide), rstir_eq _ k h1 (by clear w1 w2; omega)]
    simp only [Option.bind_some]
    rw [p33 k (by clear w1 w2; omega)]
    simp only [Option.bind_some]
    rw [if_neg (pow_ne 33), rhash_bits h2, w2]
    by_cases e2 : stirN (stirN x) / 2 ^ 33 ≠ 0
    · rw [if_neg (by clear w1 w2; omega), if_pos e2]
    · rw [if_pos (by clear w1 w2; omega), if_neg e2]
      rw [if_neg e2] at hn
      obtain ⟨k, rfl⟩ : ∃ m, k = m + 1 := ⟨k - 1, by clear w1 w2; omega⟩
      simp only [futtockref05_Source_Hash.l0]
      rw [if_pos (by decide), rstir_eq _ k h2 (by clear w1 w2; omega)]
      simp only [Option.bind_some]
      rw [p33 k (by clear w1 w2; omega)]
      simp only [Option.bind_some]
      rw [if_neg (pow_ne 33), rhash_bits h3, if_neg (by clear w1 w2; omega)]
theorem hash_lt {x : Nat} (h : x < 2 ^ 64) : nextN x / 2 ^ 33 < 2147483648 := by
  have h1 := nextN_lt h
  have : (2 : Nat) ^ 64 = 2147483648 * 2 ^ 33 := by decide
  exact Nat.div_lt_of_lt_mul (by rw [Nat.mul_comm, ← this]; exact h1)
theorem mn_count (c : Nat) (h : c ≤ 2147483647) : ∃ c' : Nat, mn (wrap64 ((c : Int) + 1)) 2147483647 = (c' : Int) ∧ c' ≤ 2147483647 := by
  rw [wrap_id _ (by omega) (by omega)]
  unfold mn
  by_cases h1 : (c : Int) + 1 < 2147483647
  · first
    | (rw [if_pos h1]; exact ⟨c + 1, by omega, by omega⟩)
    | (rw [if_neg (by omega)]; exact ⟨c + 1, by omega, by omega⟩)
  · first
    | (rw [if_neg h1]; exact ⟨2147483647, by omega, by omega⟩)
    | (split <;> first | exact ⟨2147483647, by omega, by omega⟩ | exact ⟨c + 1, by omega, by omega⟩)

set_option maxHeartbeats 1000000 in
set_option maxRecDepth 100000 in
theorem hashes_walk (W : World) (seed many : Nat) (hs : seed < 2 ^ 64) (hm : many < 256) :
    Calls Try.prog 5 #[.int .u64 seed, .int .u8 many] W fun e w' => e = .returned (.bool true) ∧ Below W.heap.size W w' := by
  go_enter Try.func5, Try.ntmps5
  go_wp2_with (first | (go_at_call 11; refine (draw_New.calls _ _ _ W _ (Below.refl _ _) (new_eq seed hs)).mono ?_; rintro e w1 ⟨g, rfl, hI, hB0, hB⟩; have HI := Aside0.mk hI; have HB := Aside0.mk hB; clear hI hB hB0) | (go_at_call 12; refine (futtockref05_New.calls _ _ _ _ (rnew_eq seed hs)).mono ?_; rintro e w2 ⟨rfl, hB2⟩; have HB2 := Aside0.mk hB2; clear hB2))
  obtain ⟨g2, hg2⟩ : ∃ g2, g2 = w2.heap.size := ⟨_, rfl⟩
  rw [← hg2]
  have J1 : IsS38 W (w2.alloc (.cells #[.int .u64 ((firstN seed : Nat) : Int), .int .i64 ((0 : Nat) : Int)] 30)) g ((firstN seed : Nat) : Int) ((0 : Nat) : Int) := ⟨blk_alloc (blk_below HI.out.1 HB2.out) _, HI.out.2⟩
  have J2 : IsS30 W (w2.alloc (.cells #[.int .u64 ((firstN seed : Nat) : Int), .int .i64 ((0 : Nat) : Int)] 30)) g2 ((firstN seed : Nat) : Int) ((0 : Nat) : Int) := ⟨by rw [hg2]; exact blk_new _ _, by rw [hg2]; exact Nat.le_trans HB.out.size HB2.out.size⟩
  have J3 : Below W.heap.size W (w2.alloc (.cells #[.int .u64 ((firstN seed : Nat) : Int), .int .i64 ((0 : Nat) : Int)] 30)) := below_alloc (below_step HB.out HB2.out) _
  have J4 : g ≠ g2 := by rw [hg2]; have := blk_lt HI.out.1; have := HB2.out.size; omega
  have K1 := Aside0.mk J1
  have K2 := Aside0.mk J2
  have K3 := Aside0.mk J3
  have K4 := Aside0.mk J4
  clear J1 J2 J3 J4 HI HB HB2 hg2
  go_loopw [7, 14] (fun _ v14 wr => ∃ i c x : Nat, i ≤ many ∧ v14 = .int .i64 i ∧ Aside0 (x < 2 ^ 64 ∧ x ≠ 0 ∧ c ≤ 2147483647) ∧ Aside0 (IsS38 W wr g x c) ∧ Aside0 (IsS30 W wr g2 x c) ∧ Aside0 (Below W.heap.size W wr)) (fun _ v14 _ => many - (intOf v14).toNat)
  case atStart => exact ⟨0, 0, firstN seed, Nat.zero_le _, rfl, ⟨firstN_lt hs, firstN_ne _, by omega⟩, K1, K2, K3⟩
  case round =>
    clear K1 K2 K3
    obtain ⟨i, c, x, hi, rfl, hx, K1, K2, K3⟩ := hrel
    have hc0 := blk_cell K1.out.1 0
    have hc1 := blk_cell K1.out.1 1
    have hd0 := blk_cell K2.out.1 0
    have hd1 := blk_cell K2.out.1 1
    simp at hc0 hc1 hd0 hd1
    by_cases hlt : i < many
    · go_wp2
      go_quiet (first | (go_at_call 13; exact Calls.quiet_of_same (state_q g _ _ hc0)) | (go_at_call 14; exact Calls.quiet_of_same (count_q g _ _ hc1)))
      have hhs := hash_eq x c 100 hx.out.1 hx.out.2.1 (by decide)
      have hrs := rhash_eq x c 100 hx.out.1 hx.out.2.1 (by decide)
      have hlt1 := hash_lt hx.out.1
      have hnz := nextN_hash hx.out.1 hx.out.2.1
      obtain ⟨c', hc', hc2⟩ := mn_count c hx.out.2.2
      rw [hc'] at hhs hrs
      have N1 := Aside0.mk (show nextN x < 2 ^ 64 ∧ nextN x ≠ 0 ∧ c' ≤ 2147483647 from ⟨nextN_lt hx.out.1, nextN_ne hx.out.1 hx.out.2.1, hc2⟩)
      clear hc' hc2 hx hc0 hc1 hd0 hd1
      generalize nextN x = y at hhs hrs hlt1 hnz N1
      generalize y / 2 ^ 33 = z at hhs hrs hlt1 hnz
      have z2 : (z : Int) ≠ 0 ∧ (z : Int) < 2147483648 := by omega
      generalize (z : Int) = zi at hhs hrs z2
      have A1 := Aside0.mk hhs
      have A2 := Aside0.mk hrs
      have z0 : (zi == 0) = false := beq_false_of_ne z2.1
      have z1 : zi < 2147483648 := z2.2
      clear hhs hrs hnz hlt1 z2
      go_wp2_with fail
      refine (draw_Source_Hash.calls 100 g x c _ _ _ W _ ⟨blk_drewN K1.out.1 _, K1.out.2⟩ (pw_below_drewN K3.out _) A1.out).mono ?_
      rintro e w3 ⟨rfl, I3, B3, KB3⟩
      have L1 := Aside0.mk I3
      have L2 := Aside0.mk (show IsS30 W w3 g2 x c from ⟨KB3.blk (blk_drewN K2.out.1 _) (Ne.symm K4.out) (by simp), K2.out.2⟩)
      have L3 := Aside0.mk B3
      clear I3 B3 KB3 K1 K2 K3
      go_wp2_with fail
      refine (futtockref05_Source_Hash.calls 100 g2 x c _ _ _ W _ L2.out L3.out A2.out).mono ?_
      rintro e w4 ⟨rfl, I4, B4, KB4⟩
      have M2 := Aside0.mk I4
      have M1 := Aside0.mk (show IsS38 W w4 g y c' from ⟨KB4.blk L1.out.1 K4.out (by simp), L1.out.2⟩)
      have M3 := Aside0.mk B4
      clear I4 B4 KB4 L1 L2 L3
      go_wp2_with fail
      go_roundw
      case rel => exact ⟨i + 1, c', y, by omega, by go_num, N1, M1, M2, M3⟩
      case measure => simp [intOf]; omega
    · go_wp2
      refine wp_region_still_tail 13 (by kernel_rfl) (by kernel_rfl) ?_
      simp only [List.take_succ_cons, List.take_zero, List.drop_succ_cons, List.drop_zero]
      change wpStill Try.prog _ wr.drew _ _ _
      repeat (first | still_step | (still_call (state_q g x wr.drew hc0)) | (still_call (count_q g c wr.drew hc1)))
      refine wpStill_nil ?_
      change wpList _ _ _ _ _ wr.drew
      go_wp2_with (first | (go_at_call 9; refine (futtocklaw05_alive.calls 100 true _ (alive_eq 100 (by decide))).mono ?_; rintro e w5 ⟨rfl, hb5⟩))
      go_ret
      exact ⟨rfl, below_step (below_drew K3.out) hb5⟩

theorem bd_u8 {a : Int} (h : (Lit.int .u8 a).wf = true) : 0 ≤ a ∧ a < 256 := by
  simp [Lit.wf, IntKind.min, IntKind.max, IntKind.signed, IntKind.bits] at h; omega
theorem nat_u8 {a : Int} (h : (Lit.int .u8 a).wf = true) : ∃ n : Nat, a = n ∧ n < 256 := by
  obtain ⟨n, rfl⟩ := Int.eq_ofNat_of_zero_le (bd_u8 h).1
  exact ⟨n, rfl, by have := (bd_u8 h).2; omega⟩
theorem hashes_row (W : World) (a : Int) (wa : (Lit.int .u64 a).wf = true) (m : Int) (wm : (Lit.int .u8 m).wf = true) :
    Calls Try.prog 5 #[.int .u64 a, .int .u8 m] W fun e w' => e = .returned (.bool true) ∧ Below W.heap.size W w' := by
  obtain ⟨a, rfl, ha⟩ := nat_u64 wa
  obtain ⟨m, rfl, hm⟩ := nat_u8 wm
  exact hashes_walk W a m ha hm
end Go.Proofs.Ytboomlocclionaa.Q
