/- No thread is in a ring twice; each has the count that it came with: the steps one by one. No condition of its own. -/
import Derived.Test.YtehkhecmkncfoaaOnce
namespace Go.Proofs.Ytehkhecmkncfoaa.Abs
set_option linter.unusedSimpArgs false
set_option linter.unusedVariables false
set_option maxRecDepth 100000
set_option maxHeartbeats 8000000
structure InvO (a : Option (Nat × Nat)) (k : Nat) (l : List Step) (i : Nat) (t : Nat → AV) (H : AH) : Prop where
  all : ∃ r m v ws ml lw ex sz, t 3 = .p (some (r, 0)) ∧ t 4 = .mp (some m) ∧ t 15 = .sl a k lw ex sz ∧ t 16 = .i .i64 k ∧ t 17 = .i .i64 i ∧ H.o r = some (.row false [v]) ∧ r < H.n ∧ IsMp H m ml ∧ IsR H v ws ∧ J ws ml ∧ ws.length ≤ i ∧ Steps H a k l ∧ (∀ b, a = some (b, 0) → b ≠ r)
theorem Sli.nemap {H : AH} {v : AV} {sz n m b : Nat} {cs : List AV} {es : List (AV × AV)} (h : Sli H v sz n cs) (hm : H.o m = some (.mapo es)) (hb : blk v = some b) : b ≠ m := by
  rcases h.2 with ⟨e, _⟩ | ⟨b', ex, e, h', hr⟩
  · rw [e] at hb; cases hb
  · rw [e] at hb; cases hb
    rintro rfl
    rw [hm] at hr
    cases hr
theorem IsR.nebox {H : AH} {v u : AV} {ws : List Wt} {c b : Nat} (h : IsR H v ws) (hc : H.o c = some (.row false [u])) (hb : blk v = some b) : b ≠ c := by
  rintro rfl
  rcases h.2 with ⟨e, _⟩ | ⟨b', ex, e, _, hr⟩
  · rw [e] at hb; cases hb
  · rw [e] at hb
    cases hb
    rw [hc] at hr
    injection hr with hr
    injection hr with _ hr
    have := h.1
    rw [← hr] at this
    simp at this
    omega
/-- From the end of a step's first half: the waiters looked at one by one. -/
theorem met_loop {K : List AItem} {t : Nat → AV} {H : AH} {m q : Nat} {v : AV} {ws : List Wt} {ml : ML} {Q : AV → AH → Prop} (hl : ws.length ≤ 1000)
    (t4 : t 4 = .mp (some m)) (t10 : t 10 = .mp (some q)) (t82 : t 82 = v) (t83 : t 83 = .i .i64 ws.length) (t84 : t 84 = .i .i64 0)
    (hm : IsMp H m ml) (hq : IsMp H q []) (hmq : m ≠ q) (hv : IsR H v ws) (hJ : J ws ml)
    (hg : ∀ t' H', (∀ j, j < 84 → j ≠ 12 → t' j = t j) → H.n ≤ H'.n → (∀ b, b < H.n → b ≠ q → H'.o b = H.o b) → Sp (runR tbl a6 K t' H') Q) :
    Sp (runR tbl a6 (.inLoop l6_24 :: .inBlock 3 :: K) t H) Q := by
  refine loop_law ws.length (fun i t' H' => (∀ j, j < 84 → j ≠ 12 → t' j = t j) ∧ t' 84 = .i .i64 i ∧ H.n ≤ H'.n ∧ (∀ b, b < H.n → b ≠ q → H'.o b = H.o b) ∧ ∃ ql, IsMp H' q ql ∧ ∀ u, (mget ql u).getD (.b false) = .b (decide (u ∈ (ws.take i).map (·.1)))) (fun r => Sp r Q) ?_ ?_ 0 t H (Nat.zero_le _) ⟨fun _ _ _ => rfl, t84, Nat.le_refl _, fun _ _ _ => rfl, [], hq, fun u => by simp [mget]⟩
  · rintro i t' H' hi ⟨ht, q84, hn, ho, ql, hq', hqm⟩ ih
    have q4 := (ht 4 (by decide) (by decide)).trans t4
    have q10 := (ht 10 (by decide) (by decide)).trans t10
    have q82 := (ht 82 (by decide) (by decide)).trans t82
    have q83 := (ht 83 (by decide) (by decide)).trans t83
    have c1 : decide ((i : Int) < ws.length) = true := by simp; omega
    have c2 : 0 ≤ (i : Int) ∧ (i : Int) < ws.length := by omega
    have hwi : IntKind.i64.wrap ((i : Int) + 1) = (i + 1 : Nat) := by rw [wrap_i64 (by omega)]; simp
    have hlt := hm.lt
    have hqlt := hq.lt
    have hmo := (ho m hm.lt hmq).trans hm.o
    have hqo := hq'.o
    have hml : m < H'.n := by omega
    have hql : q < H'.n := by omega
    have hv' : IsR H' v ws := hv.keep hn (fun b hb hlt => ho b hlt (hv.nemap hq.o hb))
    obtain ⟨⟨wa, wb⟩, hw⟩ : ∃ y, ws[i]? = some y := ⟨_, List.getElem?_eq_getElem hi⟩
    obtain ⟨f1, f2⟩ := flat_at (f := wF) (sz := 2) (fun _ => rfl) ws i _ hw
    obtain ⟨b, ex, rfl, hr⟩ := hv'.row hw
    have hwm := List.mem_of_getElem? hw
    have hcn : (mget ml wa).getD (.i .i64 0) = .i .i64 wb := by rw [hJ.c wa]; exact congrArg (AV.i .i64) (cnt_in hwm hJ.nd)
    have hno : wa ∉ (ws.take i).map (·.1) := by
      intro h
      have hnd := hJ.nd
      rw [← List.take_append_drop i ws, List.map_append, List.nodup_append] at hnd
      refine hnd.2.2 wa h wa ?_ rfl
      rw [List.drop_eq_getElem_cons hi, List.map_cons]
      have : ws[i] = (wa, wb) := (List.getElem?_eq_some_iff.1 hw).2
      rw [this]
      exact List.mem_cons_self ..
    have hqa := hqm wa
    rw [decide_eq_false hno] at hqa
    have f1' : List.take 2 (List.drop (i * 2) (ws.flatMap wF)) = [.i .i64 wa, .i .i64 wb] := f1
    simp only [l6_24, c6, b6, s6, r6_18, r6_19, r6_20, r6_21, r6_22, r6_23, adrn_nil, adrn_cons, adrn_g, gN_b, gN_u, nStep_0, nStep_1, nStep_2, nStep_3, nSkip_0, nSkip_1, nSkip_2, nSkip_3, thenN_some, thenNL_some, thenNC_some, adrw_nil, adrw_cons, adrw_g, AOp.kind, dStep_0, dStep_1, dStep_2, dStep_3, dSkip_0, dSkip_1, dSkip_2, dSkip_3, gD_b, gD_u, thenD_some, thenL_some, thenC_some, asame_one, asame_more, fst1_some, both_same, astill_nil, astill_0, astill_1, astill_2, astill_3, astill_4, astill_5, astill_6, astill_7, astill_8, astill_9, runR_seq, runR_skip, runR_cond', runR_block, runR_inBlock, runR_exit', exitR_some, aexit_inBlock, aexit_inLoop, aexit_code, runR_ret, runR_nil, regR_some, condR_b, aops_nil, aops_cons, aops_g, thenOps_some, gOps_b, gOps_u, put_some, put_none, upd_get, ev_t, ev_c, asX_nil, asX_cons, withH_some', withU_some', aop, ainit_get, afinish_def, aresults, aresult, aback, aload, astore, apart, aUn_not, aUn_neg, aUn_xor, aBin, aInt_add, aInt_sub, aInt_mul, aInt_quo, aInt_rem, aInt_and, aInt_or, aInt_xor, aInt_andn, aInt_eql, aInt_neq, aInt_lss, aInt_leq, aInt_gtr, aInt_geq, aInt_shl, aInt_shr, aEqN, optX, aslice, abound, acut, AV.cells, BinOp.isShift, Bool.bne_true, beq_self_eq_true, bne_self_eq_false, Bool.bne_false, Bool.true_bne, Bool.false_bne, beq_true, beq_false, Bool.true_beq, Bool.false_beq, Bool.not_true, Bool.not_false, Bool.false_eq_true, Bool.true_eq_false, reduceCtorEq, ↓reduceIte, List.getD_cons_zero, List.getD_cons_succ, List.getD_nil, List.length_cons, List.length_nil, List.getElem?_cons_zero, List.getElem?_cons_succ, List.getElem?_nil, List.take_succ_cons, List.take_zero, List.drop_succ_cons, List.drop_zero, List.cons_append, List.nil_append, Nat.reduceAdd, Nat.reduceMul, Nat.reduceSub, Nat.reduceLT, Nat.reduceLeDiff, Nat.reduceEqDiff, Nat.add_zero, Nat.zero_add, Nat.mul_one, ne_eq, not_true_eq_false, not_false_eq_true, true_and, and_true, false_and, and_false, true_or, or_true, false_or, or_false, if_true, if_false, Option.isNone_none, Option.isNone_some, decide_true, decide_false, Bool.not_eq_true, Option.some.injEq, Prod.mk.injEq, Nat.add_assoc, amakeSlice, afill, zerosA, aminmax, aEqC, afirst, acopy, aclear, Nat.add_eq_left, Nat.left_eq_add, Nat.add_left_cancel_iff, Nat.add_right_cancel_iff, Nat.succ_ne_self, eq_self, Nat.reduceSucc, Option.map_some, Option.map_none, List.set_cons_zero, List.append_nil, Int.reduceLE, Int.reduceLT, Int.reduceAdd, Int.reduceSub, Int.reduceMul, Int.reduceNeg, Int.reduceEq, Int.reduceToNat, Int.reduceBEq, Int.reduceBNe, Int.reducePow, GT.gt, GE.ge, wrap_i64, wrap_u8, wrap_u16, wrap_u32, wrap_u64, Int.reduceTMod, Int.toNat_zero, Int.toNat_one, cast_of, cast_0, cast_1, and_self, Bool.and_true, Bool.true_and, Bool.and_false, Bool.false_and, Bool.or_true, Bool.or_false, Bool.true_or, Bool.false_or, hn_o, hn_n, hs_o, hs_n, nm1, nm2, nm3, nm4, ltn1, ltn2, ltn3, setR_s, setR_z, setR_e, AV.cells, lk_mp, lk_nil, lkO_1, lkO_2, mu_b, mu_i, mu_a, mu_sl, muO_E, dl_mp, dl_nil, dlO_E, en_mp, en_nil, enO_E, len_mE, mapo_nil, q4, q10, q82, q83, q84, c1, c2, Int.toNat_natCast, hr, f1', f2, hmo, hqo, hml, hql, hcn, hqa, hwi]
    refine ih _ _ ⟨fun j h h' => ?_, ?_, ?_, fun b' h1 h2 => ?_, _, IsMp.put (hq'.new.off ?_) wa (.b true), fun u => ?_⟩
    · have e := ht j h h'
      simp only [upd_get]
      repeat rw [if_neg (by omega)]
      exact e
    · simp only [adrn_nil, adrn_cons, adrn_g, gN_b, gN_u, nStep_0, nStep_1, nStep_2, nStep_3, nSkip_0, nSkip_1, nSkip_2, nSkip_3, thenN_some, thenNL_some, thenNC_some, adrw_nil, adrw_cons, adrw_g, AOp.kind, dStep_0, dStep_1, dStep_2, dStep_3, dSkip_0, dSkip_1, dSkip_2, dSkip_3, gD_b, gD_u, thenD_some, thenL_some, thenC_some, asame_one, asame_more, fst1_some, both_same, astill_nil, astill_0, astill_1, astill_2, astill_3, astill_4, astill_5, astill_6, astill_7, astill_8, astill_9, runR_seq, runR_skip, runR_cond', runR_block, runR_inBlock, runR_exit', exitR_some, aexit_inBlock, aexit_inLoop, aexit_code, runR_ret, runR_nil, regR_some, condR_b, aops_nil, aops_cons, aops_g, thenOps_some, gOps_b, gOps_u, put_some, put_none, upd_get, ev_t, ev_c, asX_nil, asX_cons, withH_some', withU_some', aop, ainit_get, afinish_def, aresults, aresult, aback, aload, astore, apart, aUn_not, aUn_neg, aUn_xor, aBin, aInt_add, aInt_sub, aInt_mul, aInt_quo, aInt_rem, aInt_and, aInt_or, aInt_xor, aInt_andn, aInt_eql, aInt_neq, aInt_lss, aInt_leq, aInt_gtr, aInt_geq, aInt_shl, aInt_shr, aEqN, optX, aslice, abound, acut, AV.cells, BinOp.isShift, Bool.bne_true, beq_self_eq_true, bne_self_eq_false, Bool.bne_false, Bool.true_bne, Bool.false_bne, beq_true, beq_false, Bool.true_beq, Bool.false_beq, Bool.not_true, Bool.not_false, Bool.false_eq_true, Bool.true_eq_false, reduceCtorEq, ↓reduceIte, List.getD_cons_zero, List.getD_cons_succ, List.getD_nil, List.length_cons, List.length_nil, List.getElem?_cons_zero, List.getElem?_cons_succ, List.getElem?_nil, List.take_succ_cons, List.take_zero, List.drop_succ_cons, List.drop_zero, List.cons_append, List.nil_append, Nat.reduceAdd, Nat.reduceMul, Nat.reduceSub, Nat.reduceLT, Nat.reduceLeDiff, Nat.reduceEqDiff, Nat.add_zero, Nat.zero_add, Nat.mul_one, ne_eq, not_true_eq_false, not_false_eq_true, true_and, and_true, false_and, and_false, true_or, or_true, false_or, or_false, if_true, if_false, Option.isNone_none, Option.isNone_some, decide_true, decide_false, Bool.not_eq_true, Option.some.injEq, Prod.mk.injEq, Nat.add_assoc, AH_new_o, AH_new_n, AH_set_o, AH_set_n, amakeSlice, afill, zerosA, aminmax, aEqC, afirst, acopy, aclear, Nat.add_eq_left, Nat.left_eq_add, Nat.add_left_cancel_iff, Nat.add_right_cancel_iff, Nat.succ_ne_self, eq_self, Nat.reduceSucc, Option.map_some, Option.map_none, List.set_cons_zero, List.append_nil, Int.reduceLE, Int.reduceLT, Int.reduceAdd, Int.reduceSub, Int.reduceMul, Int.reduceNeg, Int.reduceEq, Int.reduceToNat, Int.reduceBEq, Int.reduceBNe, Int.reducePow, GT.gt, GE.ge, wrap_i64, wrap_u8, wrap_u16, wrap_u32, wrap_u64, Int.reduceTMod, Int.toNat_zero, Int.toNat_one, cast_of, cast_0, cast_1, and_self, Bool.and_true, Bool.true_and, Bool.and_false, Bool.false_and, Bool.or_true, Bool.or_false, Bool.true_or, Bool.false_or]
    · simp only [AH_set_n, AH_new_n]; omega
    · have h3 : b' < H'.n := by omega
      simp only [adrn_nil, adrn_cons, adrn_g, gN_b, gN_u, nStep_0, nStep_1, nStep_2, nStep_3, nSkip_0, nSkip_1, nSkip_2, nSkip_3, thenN_some, thenNL_some, thenNC_some, adrw_nil, adrw_cons, adrw_g, AOp.kind, dStep_0, dStep_1, dStep_2, dStep_3, dSkip_0, dSkip_1, dSkip_2, dSkip_3, gD_b, gD_u, thenD_some, thenL_some, thenC_some, asame_one, asame_more, fst1_some, both_same, astill_nil, astill_0, astill_1, astill_2, astill_3, astill_4, astill_5, astill_6, astill_7, astill_8, astill_9, runR_seq, runR_skip, runR_cond', runR_block, runR_inBlock, runR_exit', exitR_some, aexit_inBlock, aexit_inLoop, aexit_code, runR_ret, runR_nil, regR_some, condR_b, aops_nil, aops_cons, aops_g, thenOps_some, gOps_b, gOps_u, put_some, put_none, upd_get, ev_t, ev_c, asX_nil, asX_cons, withH_some', withU_some', aop, ainit_get, afinish_def, aresults, aresult, aback, aload, astore, apart, aUn_not, aUn_neg, aUn_xor, aBin, aInt_add, aInt_sub, aInt_mul, aInt_quo, aInt_rem, aInt_and, aInt_or, aInt_xor, aInt_andn, aInt_eql, aInt_neq, aInt_lss, aInt_leq, aInt_gtr, aInt_geq, aInt_shl, aInt_shr, aEqN, optX, aslice, abound, acut, AV.cells, BinOp.isShift, Bool.bne_true, beq_self_eq_true, bne_self_eq_false, Bool.bne_false, Bool.true_bne, Bool.false_bne, beq_true, beq_false, Bool.true_beq, Bool.false_beq, Bool.not_true, Bool.not_false, Bool.false_eq_true, Bool.true_eq_false, reduceCtorEq, ↓reduceIte, List.getD_cons_zero, List.getD_cons_succ, List.getD_nil, List.length_cons, List.length_nil, List.getElem?_cons_zero, List.getElem?_cons_succ, List.getElem?_nil, List.take_succ_cons, List.take_zero, List.drop_succ_cons, List.drop_zero, List.cons_append, List.nil_append, Nat.reduceAdd, Nat.reduceMul, Nat.reduceSub, Nat.reduceLT, Nat.reduceLeDiff, Nat.reduceEqDiff, Nat.add_zero, Nat.zero_add, Nat.mul_one, ne_eq, not_true_eq_false, not_false_eq_true, true_and, and_true, false_and, and_false, true_or, or_true, false_or, or_false, if_true, if_false, Option.isNone_none, Option.isNone_some, decide_true, decide_false, Bool.not_eq_true, Option.some.injEq, Prod.mk.injEq, Nat.add_assoc, amakeSlice, afill, zerosA, aminmax, aEqC, afirst, acopy, aclear, Nat.add_eq_left, Nat.left_eq_add, Nat.add_left_cancel_iff, Nat.add_right_cancel_iff, Nat.succ_ne_self, eq_self, Nat.reduceSucc, Option.map_some, Option.map_none, List.set_cons_zero, List.append_nil, Int.reduceLE, Int.reduceLT, Int.reduceAdd, Int.reduceSub, Int.reduceMul, Int.reduceNeg, Int.reduceEq, Int.reduceToNat, Int.reduceBEq, Int.reduceBNe, Int.reducePow, GT.gt, GE.ge, wrap_i64, wrap_u8, wrap_u16, wrap_u32, wrap_u64, Int.reduceTMod, Int.toNat_zero, Int.toNat_one, cast_of, cast_0, cast_1, and_self, Bool.and_true, Bool.true_and, Bool.and_false, Bool.false_and, Bool.or_true, Bool.or_false, Bool.true_or, Bool.false_or, hn_o, hn_n, hs_o, hs_n, nm1, nm2, nm3, nm4, ltn1, ltn2, ltn3, setR_s, setR_z, setR_e, AV.cells, lk_mp, lk_nil, lkO_1, lkO_2, mu_b, mu_i, mu_a, mu_sl, muO_E, dl_mp, dl_nil, dlO_E, en_mp, en_nil, enO_E, len_mE, mapo_nil, h2, h3]
      exact ho b' h1 h2
    · omega
    · rw [mget_put, List.take_add_one, hw]
      simp only [Option.toList_some, List.map_append, List.map_cons, List.map_nil, List.mem_append, List.mem_singleton]
      split
      · rename_i e
        rw [decide_eq_true (Or.inr e)]; rfl
      · rename_i e
        rw [hqm u]
        simp [e]
  · rintro t' H' ⟨ht, q84, hn, ho, ql, hq', hqm⟩
    have q83 := (ht 83 (by decide) (by decide)).trans t83
    have c1 : decide ((ws.length : Int) < ws.length) = false := by simp
    simp only [l6_24, c6, b6, s6, r6_18, r6_19, r6_20, r6_21, r6_22, r6_23, adrn_nil, adrn_cons, adrn_g, gN_b, gN_u, nStep_0, nStep_1, nStep_2, nStep_3, nSkip_0, nSkip_1, nSkip_2, nSkip_3, thenN_some, thenNL_some, thenNC_some, adrw_nil, adrw_cons, adrw_g, AOp.kind, dStep_0, dStep_1, dStep_2, dStep_3, dSkip_0, dSkip_1, dSkip_2, dSkip_3, gD_b, gD_u, thenD_some, thenL_some, thenC_some, asame_one, asame_more, fst1_some, both_same, astill_nil, astill_0, astill_1, astill_2, astill_3, astill_4, astill_5, astill_6, astill_7, astill_8, astill_9, runR_seq, runR_skip, runR_cond', runR_block, runR_inBlock, runR_exit', exitR_some, aexit_inBlock, aexit_inLoop, aexit_code, runR_ret, runR_nil, regR_some, condR_b, aops_nil, aops_cons, aops_g, thenOps_some, gOps_b, gOps_u, put_some, put_none, upd_get, ev_t, ev_c, asX_nil, asX_cons, withH_some', withU_some', aop, ainit_get, afinish_def, aresults, aresult, aback, aload, astore, apart, aUn_not, aUn_neg, aUn_xor, aBin, aInt_add, aInt_sub, aInt_mul, aInt_quo, aInt_rem, aInt_and, aInt_or, aInt_xor, aInt_andn, aInt_eql, aInt_neq, aInt_lss, aInt_leq, aInt_gtr, aInt_geq, aInt_shl, aInt_shr, aEqN, optX, aslice, abound, acut, AV.cells, BinOp.isShift, Bool.bne_true, beq_self_eq_true, bne_self_eq_false, Bool.bne_false, Bool.true_bne, Bool.false_bne, beq_true, beq_false, Bool.true_beq, Bool.false_beq, Bool.not_true, Bool.not_false, Bool.false_eq_true, Bool.true_eq_false, reduceCtorEq, ↓reduceIte, List.getD_cons_zero, List.getD_cons_succ, List.getD_nil, List.length_cons, List.length_nil, List.getElem?_cons_zero, List.getElem?_cons_succ, List.getElem?_nil, List.take_succ_cons, List.take_zero, List.drop_succ_cons, List.drop_zero, List.cons_append, List.nil_append, Nat.reduceAdd, Nat.reduceMul, Nat.reduceSub, Nat.reduceLT, Nat.reduceLeDiff, Nat.reduceEqDiff, Nat.add_zero, Nat.zero_add, Nat.mul_one, ne_eq, not_true_eq_false, not_false_eq_true, true_and, and_true, false_and, and_false, true_or, or_true, false_or, or_false, if_true, if_false, Option.isNone_none, Option.isNone_some, decide_true, decide_false, Bool.not_eq_true, Option.some.injEq, Prod.mk.injEq, Nat.add_assoc, amakeSlice, afill, zerosA, aminmax, aEqC, afirst, acopy, aclear, Nat.add_eq_left, Nat.left_eq_add, Nat.add_left_cancel_iff, Nat.add_right_cancel_iff, Nat.succ_ne_self, eq_self, Nat.reduceSucc, Option.map_some, Option.map_none, List.set_cons_zero, List.append_nil, Int.reduceLE, Int.reduceLT, Int.reduceAdd, Int.reduceSub, Int.reduceMul, Int.reduceNeg, Int.reduceEq, Int.reduceToNat, Int.reduceBEq, Int.reduceBNe, Int.reducePow, GT.gt, GE.ge, wrap_i64, wrap_u8, wrap_u16, wrap_u32, wrap_u64, Int.reduceTMod, Int.toNat_zero, Int.toNat_one, cast_of, cast_0, cast_1, and_self, Bool.and_true, Bool.true_and, Bool.and_false, Bool.false_and, Bool.or_true, Bool.or_false, Bool.true_or, Bool.false_or, hn_o, hn_n, hs_o, hs_n, nm1, nm2, nm3, nm4, ltn1, ltn2, ltn3, setR_s, setR_z, setR_e, AV.cells, lk_mp, lk_nil, lkO_1, lkO_2, mu_b, mu_i, mu_a, mu_sl, muO_E, dl_mp, dl_nil, dlO_E, en_mp, en_nil, enO_E, len_mE, mapo_nil, q83, q84, c1]
    refine hg _ _ (fun j h h' => ?_) hn ho
    rw [← ht j h h']
    simp only [upd_get]
    rw [if_neg (by omega)]
end Go.Proofs.Ytehkhecmkncfoaa.Abs
