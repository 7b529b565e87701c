/- The walk of DrawSame, at every input: it returns true, and nothing that was there is turned. -/
import Derived.Test.YtboomlocclionaaHashes
namespace Go.Proofs.Ytboomlocclionaa.Q
open Go.RowKit Go.Proofs.YtboomlocclionaaW.PrintWords Go.Proofs.YtboomlocclionaaW.PrintLast Go.Proofs.YtboomlocclionaaW.PrintMore Fut

set_option maxHeartbeats 400000 in
theorem state_nil (w : World) : Calls Try.prog 13 #[.pointer none] w fun e w' => e = .returned (.int .u64 0) ∧ w' = w := by
  go_enter Try.func13, Try.ntmps13
  go_wp2
  go_ret
  exact ⟨rfl, rfl⟩
set_option maxHeartbeats 400000 in
theorem count_nil (w : World) : Calls Try.prog 14 #[.pointer none] w fun e w' => e = .returned (.int .i64 0) ∧ w' = w := by
  go_enter Try.func14, Try.ntmps14
  go_wp2
  go_ret
  exact ⟨rfl, rfl⟩
set_option maxHeartbeats 400000 in
theorem hash_nil (w : World) : Calls Try.prog 15 #[.pointer none] w fun e w' => e = .returned (.int .u32 0) ∧ w' = w := by
  go_enter Try.func15, Try.ntmps15
  go_wp2
  go_ret
  exact ⟨rfl, rfl⟩
set_option maxHeartbeats 400000 in
theorem hash_none (g : Nat) (w : World) (h : w.cell? ⟨g, 0, none⟩ = some (.int .u64 0)) : Calls Try.prog 15 #[.pointer (some ⟨g, 0, none⟩)] w fun e w' => e = .returned (.int .u32 0) ∧ w' = w := by
  have hu := Try.underlying38
  go_enter Try.func15, Try.ntmps15
  go_wp2
  go_ret
  exact ⟨rfl, rfl⟩

set_option maxRecDepth 100000 in
set_option maxHeartbeats 1000000 in
theorem same_walk (W : World) (seed many : Nat) (hs : seed < 2 ^ 64) (hm : many < 256) :
    Calls Try.prog 6 #[.int .u64 seed, .int .u8 many] W fun e w' => e = .returned (.bool true) ∧ Below W.heap.size W w' := by
  go_enter Try.func6, Try.ntmps6
  go_wp2
  have hB : Below W.heap.size W ((W.alloc (.cells #[.int .u64 0, .int .i64 0] 38)).alloc (.cells #[.pointer none, .pointer (some ⟨W.heap.size, 0, none⟩)] 27)) := below_alloc (below_alloc (Below.refl _ _) _) _
  have hz : ((W.alloc (.cells #[.int .u64 0, .int .i64 0] 38)).alloc (.cells #[.pointer none, .pointer (some ⟨W.heap.size, 0, none⟩)] 27)).heap[W.heap.size]? = some (.cells #[.int .u64 0, .int .i64 0] 38 (0, 0)) := blk_alloc (blk_new _ _) _
  have he : ((W.alloc (.cells #[.int .u64 0, .int .i64 0] 38)).alloc (.cells #[.pointer none, .pointer (some ⟨W.heap.size, 0, none⟩)] 27)).heap[W.heap.size + 1]? = some (.cells #[.pointer none, .pointer (some ⟨W.heap.size, 0, none⟩)] 27 (0, 0)) := by
    have := blk_new (W.alloc (.cells #[.int .u64 0, .int .i64 0] 38)) (.cells #[.pointer none, .pointer (some ⟨W.heap.size, 0, none⟩)] 27)
    simpa using this
  generalize (W.alloc (.cells #[.int .u64 0, .int .i64 0] 38)).alloc (.cells #[.pointer none, .pointer (some ⟨W.heap.size, 0, none⟩)] 27) = w1 at hB hz he ⊢
  have HB := Aside0.mk hB
  clear hB
  generalize hb0 : W.heap.size = b0 at hz he
  have hz0 := blk_cell hz 0
  have hz1 := blk_cell hz 1
  have he0 := blk_cell he 0
  have he1 := blk_cell he 1
  simp at hz0 hz1 he0 he1
  clear hz he

  replace hb0 := Aside0.mk hb0
  go_loop [14] (fun v14 => ∃ i : Nat, i ≤ 2 ∧ v14 = .int .i64 i) (fun v14 => 2 - (intOf v14).toNat)
  case atStart => exact ⟨0, by omega, rfl⟩
  case round =>
    obtain ⟨i, hi, rfl⟩ := hrel
    by_cases h0 : i = 0
    · subst h0
      go_wp2_with (first | (go_at_call 15; refine (hash_nil _).mono ?_; rintro e w ⟨rfl, rfl⟩) | (go_at_call 13; refine (state_nil _).mono ?_; rintro e w ⟨rfl, rfl⟩) | (go_at_call 14; refine (count_nil _).mono ?_; rintro e w ⟨rfl, rfl⟩))
      go_round
      case rel => exact ⟨1, by omega, rfl⟩
      case measure => simp [intOf]
    · by_cases h1 : i = 1
      · subst h1
        go_wp2_with (first | (go_at_call 15; refine (hash_none b0 _ hz0).mono ?_; rintro e w ⟨rfl, rfl⟩) | (go_at_call 13; refine (state_q b0 _ _ hz0).mono ?_; rintro e w ⟨rfl, rfl⟩) | (go_at_call 14; refine (count_q b0 _ _ hz1).mono ?_; rintro e w ⟨rfl, rfl⟩))
        go_round
        case rel => exact ⟨2, by omega, rfl⟩
        case measure => simp [intOf]
      · obtain rfl : i = 2 := by omega
        clear hz0 hz1 he0 he1 h0 h1 hi
        go_wp2_with fail
        refine (draw_New.calls _ _ _ w1 w1 (Below.refl _ _) (new_eq seed hs)).mono ?_
        rintro e wa ⟨ga, rfl, hIa, hBa, -⟩
        have HA := Aside0.mk hIa
        have HBa := Aside0.mk hBa
        clear hIa hBa
        go_wp2_with fail
        refine (draw_New.calls _ _ _ wa wa (Below.refl _ _) (new_eq seed hs)).mono ?_
        rintro e wb ⟨gb, rfl, hIb, hBb, -⟩
        have J1 := Aside0.mk (show IsS38 W wb ga ((firstN seed : Nat) : Int) ((0 : Nat) : Int) from ⟨blk_below HA.out.1 hBb, Nat.le_trans HB.out.size HA.out.2⟩)
        have J2 := Aside0.mk (show IsS38 W wb gb ((firstN seed : Nat) : Int) ((0 : Nat) : Int) from ⟨hIb.1, Nat.le_trans HB.out.size (Nat.le_trans HBa.out.size hIb.2)⟩)
        have J3 := Aside0.mk (show Below W.heap.size W wb from below_step (below_step HB.out HBa.out) hBb)
        have J4 := Aside0.mk (show ga ≠ gb by have := blk_lt HA.out.1; have := hIb.2; omega)
        clear HA HBa hIb hBb HB
        go_wp2_with fail
        go_loopw [9, 38] (fun _ v38 wr => ∃ i x : Nat, i ≤ many ∧ v38 = .int .i64 i ∧ Aside0 (x < 2 ^ 64 ∧ x ≠ 0) ∧ Aside0 (IsS38 W wr ga x i) ∧ Aside0 (IsS38 W wr gb x i) ∧ Aside0 (Below W.heap.size W wr)) (fun _ v38 _ => many - (intOf v38).toNat)
        case atStart => exact ⟨0, firstN seed, Nat.zero_le _, rfl, ⟨firstN_lt hs, firstN_ne _⟩, J1, J2, J3⟩
        case round =>
          clear J1 J2 J3
          obtain ⟨i, x, hi, rfl, hx, K1, K2, K3⟩ := hrel
          by_cases hlt : i < many
          · have hd0 := blk_cell K2.out.1 0
            simp at hd0
            have hz : (IntKind.u64.wrap ((seed : Int) + (i : Int))) = (((seed + i) % 2 ^ 64 : Nat) : Int) := by rw [IntKind.wrap_u64]; omega
            have hsi : (seed + i) % 2 ^ 64 < 2 ^ 64 := Nat.mod_lt _ (by decide)
            generalize (seed + i) % 2 ^ 64 = s2 at hz hsi
            have hnew := Aside0.mk (new_eq s2 hsi)
            have hh2 := Aside0.mk (hash_eq (firstN s2) 0 100 (firstN_lt hsi) (firstN_ne _) (by decide))
            have hsi2 := Aside0.mk hsi
            clear hsi
            have hhs := hash_eq x i 100 hx.out.1 hx.out.2 (by decide)
            have hc' : mn (wrap64 ((i : Int) + 1)) 2147483647 = ((i + 1 : Nat) : Int) := by
              rw [wrap_succ i (by omega)]
              unfold mn
              split <;> omega
            have hwi := wrap_succ i (by omega)
            rw [hc'] at hhs
            have N1 := Aside0.mk (show nextN x < 2 ^ 64 ∧ nextN x ≠ 0 from ⟨nextN_lt hx.out.1, nextN_ne hx.out.1 hx.out.2⟩)
            clear hc' hx
            generalize nextN x = y at hhs N1
            generalize y / 2 ^ 33 = z at hhs
            generalize (z : Int) = zi at hhs
            have A1 := Aside0.mk hhs
            clear hhs
            have hz := Aside0.mk hz
            go_wp2_with fail
            refine (state_q gb _ _ hd0).mono ?_
            rintro e w ⟨rfl, rfl⟩
            go_wp2_with fail
            refine (draw_New.calls _ _ _ w w (Below.refl _ _) hnew.out).mono ?_
            rintro e w2 ⟨gn, rfl, hIn, hBn, -⟩
            have L1 := Aside0.mk (show IsS38 W w2 ga x i from ⟨blk_below K1.out.1 hBn, K1.out.2⟩)
            have L2 := Aside0.mk (show IsS38 W w2 gb x i from ⟨blk_below K2.out.1 hBn, K2.out.2⟩)
            have L3 := Aside0.mk (show Below W.heap.size W w2 from below_step K3.out hBn)
            have Ln := Aside0.mk (show IsS38 W w2 gn ((firstN s2 : Nat) : Int) ((0 : Nat) : Int) from ⟨hIn.1, Nat.le_trans K3.out.size hIn.2⟩)
            have Na := Aside0.mk (show ga ≠ gn by have := blk_lt K1.out.1; have := hIn.2; omega)
            have Nb := Aside0.mk (show gb ≠ gn by have := blk_lt K2.out.1; have := hIn.2; omega)
            clear hIn hBn K1 K2 K3 hd0
            go_wp2_with fail
            refine (draw_Source_Hash.calls 100 gn _ _ _ _ _ W _ Ln.out L3.out hh2.out).mono ?_
            rintro e w3 ⟨rfl, -, hB3, hK3⟩
            have K1 := Aside0.mk (show IsS38 W w3 ga x i from ⟨hK3.blk L1.out.1 Na.out (by simp), L1.out.2⟩)
            have K2 := Aside0.mk (show IsS38 W w3 gb x i from ⟨hK3.blk L2.out.1 Nb.out (by simp), L2.out.2⟩)
            have K3 := Aside0.mk hB3
            clear hB3 hK3 L1 L2 L3 Ln Na Nb hh2 hnew
            go_wp2_with fail
            refine (draw_Source_Hash.calls 100 ga x i _ _ _ W _ K1.out K3.out A1.out).mono ?_
            rintro e w4 ⟨rfl, hI4, hB4, hK4⟩
            have L1 := Aside0.mk hI4
            have L2 := Aside0.mk (show IsS38 W w4 gb x i from ⟨hK4.blk K2.out.1 (Ne.symm J4.out) (by simp), K2.out.2⟩)
            have L3 := Aside0.mk hB4
            clear hI4 hB4 hK4 K1 K2 K3
            go_wp2_with fail
            refine (draw_Source_Hash.calls 100 gb x i _ _ _ W _ L2.out L3.out A1.out).mono ?_
            rintro e w5 ⟨rfl, hI5, hB5, hK5⟩
            have K2 := Aside0.mk hI5
            have K1 := Aside0.mk (show IsS38 W w5 ga y (i + 1 : Nat) from ⟨hK5.blk L1.out.1 J4.out (by simp), L1.out.2⟩)
            have K3 := Aside0.mk hB5
            clear hI5 hB5 hK5 L1 L2 L3
            have hc1 := blk_cell K1.out.1 1
            simp at hc1
            go_wp2_with fail
            refine (count_q ga _ _ hc1).mono ?_
            rintro e w6 ⟨rfl, rfl⟩
            clear hc1
            go_wp2_with fail
            go_roundw
            case rel => exact ⟨i + 1, y, by omega, by go_num, N1, K1, K2, K3⟩
            case measure => simp [intOf]; omega
          · clear K1 K2 hx
            go_wp2_with (first | (go_at_call 9; refine (futtocklaw05_alive.calls 100 true _ (alive_eq 100 (by decide))).mono ?_; rintro e w5 ⟨rfl, hb5⟩))
            go_ret
            exact ⟨rfl, below_step K3.out hb5⟩
theorem same_row (W : World) (a : Int) (wa : (Lit.int .u64 a).wf = true) (m : Int) (wm : (Lit.int .u8 m).wf = true) :
    Calls Try.prog 6 #[.int .u64 a, .int .u8 m] W fun e w' => e = .returned (.bool true) ∧ Below W.heap.size W w' := by
  obtain ⟨a, rfl, ha⟩ := nat_u64 wa
  obtain ⟨m, rfl, hm⟩ := nat_u8 wm
  exact same_walk W a m ha hm
end Go.Proofs.Ytboomlocclionaa.Q
