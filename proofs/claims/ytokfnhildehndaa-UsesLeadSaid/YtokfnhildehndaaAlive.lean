/- A book tried. No condition of its own. -/
import Derived.Test.YtokfnhildehndaaAdd
namespace Go.Proofs.Ytokfnhildehndaa.Abs
set_option linter.unusedSimpArgs false
set_option linter.unusedVariables false
set_option maxRecDepth 100000
set_option maxHeartbeats 8000000
theorem alive_spec {q : Prm} {H : AH} : ∃ H', callR (tblP q) 14 [] H = some (.b true, H') := by
  obtain ⟨H1, e1, b1, k1⟩ := new_spec (q := q) (H := H)
  obtain ⟨H2, e2, b2, _⟩ := add_spec (q := q) b1 (1, 7, 0)
  have a2 : addE [] (1, 7, 0) = 0 := by decide
  have t2 : addT [] (1, 7, 0) = [(1, 7, 0)] := by decide
  rw [a2] at e2; rw [t2] at b2
  have e3 := slot_spec (q := q) b2 7
  have s3 : at2 [(1, 7, 0)] 7 = some (1, 7, 0) := by decide
  rw [s3] at e3
  obtain ⟨H4, e4, b4, _⟩ := add_spec (q := q) b2 (2, 7, 0)
  have a4 : addE [(1, 7, 0)] (2, 7, 0) = 7 := by decide
  have t4 : addT [(1, 7, 0)] (2, 7, 0) = [(1, 7, 0)] := by decide
  rw [a4] at e4; rw [t4] at b4
  have e5 := len_spec (q := q) b4 (by decide)
  simp only [cells3] at e2 e4
  have e3' : callR (tblP q) 11 [.p (some (H.n + 2, 0)), .i .i64 7] H2 = some (.tup [.i .i64 1, .b true], H2) := e3
  have e5' : callR (tblP q) 16 [.p (some (H.n + 2, 0))] H4 = some (.i .i64 1, H4) := e5
  refine ⟨H4, ?_⟩
  simp only [c14, b14, s14, r14_0, r14_1, r14_2, r14_3, r14_4, r14_5, adrn_nil, adrn_cons, adrn_g, gN_b, gN_u, nStep_0, nStep_1, nStep_2, nStep_3, nSkip_0, nSkip_1, nSkip_2, nSkip_3, thenN_some, thenNL_some, thenNC_some, adrw_nil, adrw_cons, adrw_g, AOp.kind, dStep_0, dStep_1, dStep_2, dStep_3, dSkip_0, dSkip_1, dSkip_2, dSkip_3, gD_b, gD_u, thenD_some, thenL_some, thenC_some, asame_one, asame_more, fst1_some, both_same, astill_nil, astill_0, astill_1, astill_2, astill_3, astill_4, astill_5, astill_6, astill_7, astill_8, astill_9, runR_seq, runR_skip, runR_cond', runR_block, runR_inBlock, runR_exit', exitR_some, aexit_inBlock, aexit_inLoop, aexit_code, runR_ret, runR_nil, regR_some, condR_b, aops_nil, aops_cons, aops_g, thenOps_some, gOps_b, gOps_u, put_some, put_none, upd_get, ev_t, ev_c, asX_nil, asX_cons, withH_some', withU_some', aop, ainit_get, afinish_def, aresults, aresult, aback, aload, astore, apart, aUn_not, aUn_neg, aUn_xor, aBin, aInt_add, aInt_sub, aInt_mul, aInt_quo, aInt_rem, aInt_and, aInt_or, aInt_xor, aInt_andn, aInt_eql, aInt_neq, aInt_lss, aInt_leq, aInt_gtr, aInt_geq, aInt_shl, aInt_shr, aEqN, optX, aslice, abound, acut, AV.cells, BinOp.isShift, Bool.bne_true, beq_self_eq_true, bne_self_eq_false, Bool.bne_false, Bool.true_bne, Bool.false_bne, beq_true, beq_false, Bool.true_beq, Bool.false_beq, Bool.not_true, Bool.not_false, Bool.false_eq_true, Bool.true_eq_false, reduceCtorEq, ↓reduceIte, List.getD_cons_zero, List.getD_cons_succ, List.getD_nil, List.length_cons, List.length_nil, List.getElem?_cons_zero, List.getElem?_cons_succ, List.getElem?_nil, List.take_succ_cons, List.take_zero, List.drop_succ_cons, List.drop_zero, List.cons_append, List.nil_append, Nat.reduceAdd, Nat.reduceMul, Nat.reduceSub, Nat.reduceLT, Nat.reduceLeDiff, Nat.reduceEqDiff, Nat.add_zero, Nat.zero_add, Nat.mul_one, ne_eq, not_true_eq_false, not_false_eq_true, true_and, and_true, false_and, and_false, true_or, or_true, false_or, or_false, if_true, if_false, Option.isNone_none, Option.isNone_some, decide_true, decide_false, Bool.not_eq_true, Option.some.injEq, Prod.mk.injEq, Nat.add_assoc, amakeSlice, afill, zerosA, aminmax, aEqC, afirst, acopy, aclear, Nat.add_eq_left, Nat.left_eq_add, Nat.add_left_cancel_iff, Nat.add_right_cancel_iff, Nat.succ_ne_self, eq_self, Nat.reduceSucc, Option.map_some, Option.map_none, List.set_cons_zero, List.append_nil, Int.reduceLE, Int.reduceLT, Int.reduceAdd, Int.reduceSub, Int.reduceMul, Int.reduceNeg, Int.reduceEq, Int.reduceToNat, Int.reduceBEq, Int.reduceBNe, Int.reducePow, GT.gt, GE.ge, wrap_i64, wrap_u8, wrap_u16, wrap_u32, wrap_u64, Int.reduceTMod, Int.toNat_zero, Int.toNat_one, cast_of, cast_0, cast_1, and_self, Bool.and_true, Bool.true_and, Bool.and_false, Bool.false_and, Bool.or_true, Bool.or_false, Bool.true_or, Bool.false_or, hn_o, hn_n, hs_o, hs_n, nm1, nm2, nm3, nm4, ltn1, ltn2, ltn3, setR_s, setR_z, setR_e, AV.cells, lk_mp, lk_pp, lk_nil, lk_pnil, lkO_1, lkO_2, lkP_1, lkP_2, mup_b, mup_sl, muO_P, dl_pp, dlO_P, len_mP, mu_b, mu_i, mu_a, mu_sl, muO_E, dl_mp, dl_nil, dlO_E, en_mp, en_nil, enO_E, len_mE, mapo_nil, e1, e2, e3', e4, e5']
end Go.Proofs.Ytokfnhildehndaa.Abs
