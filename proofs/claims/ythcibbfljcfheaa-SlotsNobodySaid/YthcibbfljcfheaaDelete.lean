/- slices.Delete of one whole number. No condition of its own. (tpl) -/
import Derived.Test.YthcibbfljcfheaaSl
namespace Go.Proofs.Ythcibbfljcfheaa.Abs
set_option linter.unusedSimpArgs false
set_option linter.unusedVariables false
set_option maxRecDepth 100000
set_option maxHeartbeats 8000000
theorem delete_spec {H : AH} {v : AV} {l : List Int} {n i : Nat} (h : Wr H v 1 n (l.map I1)) (hi : i < n) (hl : n ≤ 1000000) : ∃ v' H', callR tbl 38 [v, .i .i64 i, .i .i64 ((i : Int) + 1)] H = some (v', H') ∧ Wr H' v' 1 (n - 1) ((l.eraseIdx i).map I1) ∧ H'.n = H.n ∧ (∀ b, blk v ≠ some b → H'.o b = H.o b) ∧ blk v' = blk v := by
  have hn : l.length = n := by have := h.1; simpa using this
  obtain ⟨b, o, lo, ex, hv0, ecut, hcut⟩ := h.to (k := .i64) (Nat.le_of_lt hi) (by omega)
  obtain ⟨x, efr, hfr, hblk⟩ := h.from (k := .i64) (l := i + 1) (by omega)
  rcases h.2 with ⟨_, h0⟩ | ⟨b1, o1, lo1, ex1, full, hv, hb, hr, hlo, hf, hc⟩
  · omega
  · subst hv
    cases hv0
    obtain ⟨H1, full1, e1, r1, fl1, hc1, n1, o1⟩ := app_room (z := [.i .i64 0]) (y := 8) (sz := 1) rfl (ex := ex) hb hr hf (n := i) (m := n - (i + 1)) (by omega) (cs := (l.map I1).take (i * 1)) (by rw [← hc, List.take_take, Nat.min_eq_left (by omega)]) hcut.1 hfr.rs (by omega)
    have hin : i + (n - (i + 1)) = n - 1 := by omega
    rw [hin] at e1 hc1
    have hcast : ((i + 1 : Nat) : Int) = (i : Int) + 1 := by omega
    rw [hcast] at efr
    have hlt : (i : Int) ≤ n := by omega
    have c1 : ((i : Int) == (i : Int) + 1) = false := by rw [beq_eq_false_iff_ne]; omega
    have c2 : (0 : Int) ≤ n ∧ (n : Int) ≤ lo := by omega
    have c3 : (0 : Int) ≤ (i : Int) + 1 ∧ (i : Int) + 1 ≤ n := by omega
    have c4 : (0 : Int) ≤ i ∧ (i : Int) ≤ ((i : Int) + 1).toNat := by omega
    have c5 : (0 : Int) ≤ (n - 1 : Nat) ∧ ((n - 1 : Nat) : Int) ≤ n := by omega
    have c6 : n - 1 < lo := by omega
    have ht : ((i : Int) + 1).toNat = i + 1 := by omega
    have hd : n - (n - 1) = 1 := by omega
    have hle : o + (n - 1) * 1 + 1 ≤ full1.length := by omega
    have ecl : aslice 1 (.sl (some (b, o)) (n - 1) lo ex 1) (some (.i .i64 (n - 1 : Nat))) (some (.i .i64 n)) none = some (.sl (some (b, o + (n - 1) * 1)) 1 (lo - (n - 1)) ex 1) := by
      unfold aslice
      simp only [true_or, if_true, abound, c2, c5, and_self, Int.toNat_natCast, acut, c6, hd]
    have emx : ∃ u, aslice 1 (.sl (some (b, o)) n lo ex 1) (some (.i .i64 i)) (some (.i .i64 ((i : Int) + 1))) (some (.i .i64 n)) = some u := by
      unfold aslice
      simp only [true_or, if_true, abound, c2, c3, c4, and_self, Int.toNat_natCast]
      exact ⟨_, rfl⟩
    obtain ⟨u, emx⟩ := emx
    have hz : zerosA [AV.i .i64 0] 1 = [.i .i64 0] := rfl
    obtain ⟨hbl, hbt⟩ := setR_beyond (full := full1) (vs := [AV.i .i64 0]) (o := o) (k := (n - 1) * 1) (p := o + (n - 1) * 1) (Nat.le_refl _) (by simpa using hle)
    have hle' : o + (n - 1 + 1) ≤ full1.length := by omega
    simp only [c38, b38, s38, r38_0, r38_1, r38_2, r38_3, r38_4, r38_5, r38_6, r38_7, adrn_nil, adrn_cons, adrn_g, gN_b, gN_u, nStep_0, nStep_1, nStep_2, nStep_3, nSkip_0, nSkip_1, nSkip_2, nSkip_3, thenN_some, thenNL_some, thenNC_some, adrw_nil, adrw_cons, adrw_g, AOp.kind, dStep_0, dStep_1, dStep_2, dStep_3, dSkip_0, dSkip_1, dSkip_2, dSkip_3, gD_b, gD_u, thenD_some, thenL_some, thenC_some, asame_one, asame_more, fst1_some, both_same, astill_nil, astill_0, astill_1, astill_2, astill_3, astill_4, astill_5, astill_6, astill_7, astill_8, astill_9, runR_seq, runR_skip, runR_cond', runR_block, runR_inBlock, runR_exit', exitR_some, aexit_inBlock, aexit_inLoop, aexit_code, runR_ret, runR_nil, regR_some, condR_b, aops_nil, aops_cons, aops_g, thenOps_some, gOps_b, gOps_u, put_some, put_none, upd_get, ev_t, ev_c, asX_nil, asX_cons, withH_some', withU_some', aop, ainit_get, afinish_def, aresults, aresult, aback, aload, astore, apart, aUn_not, aUn_neg, aUn_xor, aBin, aInt_add, aInt_sub, aInt_mul, aInt_quo, aInt_rem, aInt_and, aInt_or, aInt_xor, aInt_andn, aInt_eql, aInt_neq, aInt_lss, aInt_leq, aInt_gtr, aInt_geq, aInt_shl, aInt_shr, aEqN, optX, AV.cells, BinOp.isShift, Bool.bne_true, beq_self_eq_true, bne_self_eq_false, Bool.bne_false, Bool.true_bne, Bool.false_bne, beq_true, beq_false, Bool.true_beq, Bool.false_beq, Bool.not_true, Bool.not_false, Bool.false_eq_true, Bool.true_eq_false, reduceCtorEq, ↓reduceIte, List.getD_cons_zero, List.getD_cons_succ, List.getD_nil, List.length_cons, List.length_nil, List.getElem?_cons_zero, List.getElem?_cons_succ, List.getElem?_nil, List.take_succ_cons, List.take_zero, List.drop_succ_cons, List.drop_zero, List.cons_append, List.nil_append, Nat.reduceAdd, Nat.reduceMul, Nat.reduceSub, Nat.reduceLT, Nat.reduceLeDiff, Nat.reduceEqDiff, Nat.add_zero, Nat.zero_add, Nat.mul_one, ne_eq, not_true_eq_false, not_false_eq_true, true_and, and_true, false_and, and_false, true_or, or_true, false_or, or_false, if_true, if_false, Option.isNone_none, Option.isNone_some, decide_true, decide_false, Bool.not_eq_true, Option.some.injEq, Prod.mk.injEq, Nat.add_assoc, amakeSlice, afill, zerosA, aminmax, aEqC, afirst, acopy, aclear, Nat.add_eq_left, Nat.left_eq_add, Nat.add_left_cancel_iff, Nat.add_right_cancel_iff, Nat.succ_ne_self, eq_self, Nat.reduceSucc, Option.map_some, Option.map_none, List.set_cons_zero, List.append_nil, Int.reduceLE, Int.reduceLT, Int.reduceAdd, Int.reduceSub, Int.reduceMul, Int.reduceNeg, Int.reduceEq, Int.reduceToNat, Int.reduceBEq, Int.reduceBNe, Int.reducePow, GT.gt, GE.ge, wrap_i64, wrap_u8, wrap_u16, wrap_u32, wrap_u64, Int.reduceTMod, Int.toNat_zero, Int.toNat_one, cast_of, cast_0, cast_1, and_self, Bool.and_true, Bool.true_and, Bool.and_false, Bool.false_and, Bool.or_true, Bool.or_false, Bool.true_or, Bool.false_or, hn_o, hn_n, hs_o, hs_n, nm1, nm2, nm3, nm4, ltn1, ltn2, ltn3, setR_s, setR_z, setR_e, AV.cells, ecut, efr, emx, c1, e1, ecl, r1, hle, hle', hz, Nat.one_ne_zero]
    have her : (l.map I1).take (i * 1) ++ (l.map I1).drop ((i + 1) * 1) = (l.eraseIdx i).map I1 := by
      rw [List.eraseIdx_eq_take_drop_succ, List.map_append, List.map_take, List.map_drop, Nat.mul_one, Nat.mul_one]
    refine ⟨_, _, ⟨rfl, rfl⟩, ⟨by rw [List.length_map, List.length_eraseIdx, if_pos (by omega)]; omega, Or.inr ⟨b, o, lo, ex, _, rfl, by rw [AH_set_n, n1]; exact hb, by rw [AH_set_o, if_pos rfl], by omega, ?_, ?_⟩⟩, n1, fun b' hb' => ?_, rfl⟩
    · simp only [Nat.mul_one] at hbl ⊢; rw [hbl, fl1]; omega
    · simp only [Nat.mul_one] at hbt hc1 her ⊢; rw [hbt, hc1, her]
    · have hne : b' ≠ b := fun e => hb' (by rw [e]; rfl)
      rw [AH_set_o, if_neg hne, o1 b' hne]
end Go.Proofs.Ythcibbfljcfheaa.Abs
