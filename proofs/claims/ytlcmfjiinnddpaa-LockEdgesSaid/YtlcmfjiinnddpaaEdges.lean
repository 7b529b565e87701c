/- Who owns a lock's word is turned by taking, handing and releasing alone, its head by pushing and draining alone. No condition of their own. -/
import Derived.Test.YtlcmfjiinnddpaaLaws
namespace Go.Proofs.Ytlcmfjiinnddpaa.Abs
set_option linter.unusedSimpArgs false
set_option linter.unusedVariables false
set_option maxRecDepth 100000
set_option maxHeartbeats 4000000
theorem mk_true {o h : Int} (e : (mk o h).2 = true) : par (mk o h).1 1 = o ∧ par (mk o h).1 65536 = h := by
  unfold mk at e ⊢
  split at e
  · rename_i hg
    rw [if_pos hg]
    have h1 := hg.1
    have h2 := hg.2
    unfold good at h1 h2
    unfold par
    simp only
    have hl : (o + 1).toNat + (h + 1).toNat * 65536 < 4294967296 := by omega
    rw [if_pos hl, if_pos hl]
    refine ⟨?_, ?_⟩ <;> omega
  · cases e
theorem turned_true {c : Bool} {o h : Int} (e : (turned c o h).2 = true) : c = true ∧ par (turned c o h).1 1 = o ∧ par (turned c o h).1 65536 = h := by
  unfold turned at e ⊢
  cases c
  · cases e
  · exact ⟨rfl, mk_true e⟩
theorem own_all {n : Nat} (h : n < 18446744073709551616) (H : AH) : callR tbl 10 [.i .u64 n] H = some (.i .i64 (par n 1), hC 10 [.i .u64 n] H) := hC_of (Keeps.all (owner_spec h))
theorem head_all {n : Nat} (h : n < 18446744073709551616) (H : AH) : callR tbl 11 [.i .u64 n] H = some (.i .i64 (par n 65536), hC 11 [.i .u64 n] H) := hC_of (Keeps.all (head_spec h))
def frW (n : Nat) : Bool := decide (n < 4294967296) && par n 1 == -1
theorem free_all {n : Nat} (h : n < 18446744073709551616) (H : AH) : callR tbl 12 [.i .u64 n] H = some (.b (frW n), hC 12 [.i .u64 n] H) := hC_of (Keeps.all (free_spec h))
theorem re_zero (n : Nat) (t : Int) : (re n t).1 = 0 := by
  unfold re turned
  split
  · decide
  · rfl
theorem edges_law (w : Int) (ww : (Lit.int .u64 w).wf = true) (t : Int) (wt : (Lit.int .i64 t).wf = true) (u : Int) (wu : (Lit.int .i64 u).wf = true) (H : AH) :
    ∃ H', callR tbl 6 [.i .u64 w, .i .i64 t, .i .i64 u] H = some (.b true, H') := by
  obtain ⟨n, rfl, hn⟩ := wf64 ww
  have tt : (tk n t).2 = false ∨ ((tk n t).2 = true ∧ par (tk n t).1 1 = t ∧ par (tk n t).1 65536 = par n 65536 ∧ frW n = true) := by
    cases e : (tk n t).2
    · exact Or.inl rfl
    · have ⟨c, p1, p2⟩ := turned_true (c := wd n && isT t && (ow n == -1)) e
      simp only [Bool.and_eq_true] at c
      exact Or.inr ⟨rfl, p1, p2, by unfold frW; rw [Bool.and_eq_true]; exact ⟨c.1.1, c.2⟩⟩
  have pp : (pu n t).2 = false ∨ ((pu n t).2 = true ∧ par (pu n t).1 1 = par n 1 ∧ par (pu n t).1 65536 = t ∧ frW n = false) := by
    cases e : (pu n t).2
    · exact Or.inl rfl
    · have ⟨c, p1, p2⟩ := turned_true (c := wd n && isT t && (ow n != -1 && ow n != t && hd n != t)) e
      simp only [Bool.and_eq_true] at c
      refine Or.inr ⟨rfl, p1, p2, ?_⟩
      unfold frW
      rw [Bool.and_eq_false_iff]
      right
      simpa using c.2.1.1
  have dd : (dr n t).2 = false ∨ ((dr n t).2 = true ∧ par (dr n t).1 1 = t ∧ par n 1 = t ∧ par (dr n t).1 65536 = -1) := by
    cases e : (dr n t).2
    · exact Or.inl rfl
    · have ⟨c, p1, p2⟩ := turned_true (c := wd n && isT t && (ow n == t && hd n != -1)) e
      simp only [Bool.and_eq_true] at c
      have q : par n 1 = t := by simpa using c.2.1
      exact Or.inr ⟨rfl, p1.trans q, q, p2⟩
  have hh : (ha n t u).2 = false ∨ ((ha n t u).2 = true ∧ par (ha n t u).1 1 = u ∧ par n 1 = t ∧ par (ha n t u).1 65536 = par n 65536) := by
    cases e : (ha n t u).2
    · exact Or.inl rfl
    · have ⟨c, p1, p2⟩ := turned_true (c := wd n && isT t && (ow n == t && u != t && isT u)) e
      simp only [Bool.and_eq_true] at c
      have q : par n 1 = t := by simpa using c.2.1.1
      exact Or.inr ⟨rfl, p1, q, p2⟩
  have rr : (re n t).2 = false ∨ ((re n t).2 = true ∧ par n 1 = t ∧ par n 65536 = -1) := by
    cases e : (re n t).2
    · exact Or.inl rfl
    · have ⟨c, p1, p2⟩ := turned_true (c := wd n && isT t && (ow n == t && hd n == -1)) e
      simp only [Bool.and_eq_true] at c
      exact Or.inr ⟨rfl, by simpa using c.2.1, by simpa using c.2.2⟩
  have lt : (tk n t).1 < 18446744073709551616 := turned_lt _ _ _
  have lp : (pu n t).1 < 18446744073709551616 := turned_lt _ _ _
  have ld : (dr n t).1 < 18446744073709551616 := turned_lt _ _ _
  have lh : (ha n t u).1 < 18446744073709551616 := turned_lt _ _ _
  have z := re_zero n t
  rcases tt with a0 | ⟨a0, a1, a2, a3⟩ <;> rcases pp with b0 | ⟨b0, b1, b2, b3⟩ <;> rcases dd with c0 | ⟨c0, c1, c2, c3⟩ <;> rcases hh with d0 | ⟨d0, d1, d2, d3⟩ <;> rcases rr with f0 | ⟨f0, f1, f2⟩ <;>
    first | (exact absurd (a3.symm.trans b3) (by decide)) | (simp only [c6, b6, s6, r6_0, r6_1, r6_2, r6_3, r6_4, r6_5, r6_6, r6_7, r6_8, r6_9, r6_10, r6_11, r6_12, r6_13, r6_14, runR_drw', adrw_nil, adrw_cons, adrw_g, AOp.kind, dStep_0, dStep_1, dStep_2, dStep_3, dSkip_0, dSkip_1, dSkip_2, dSkip_3, gD_b, gD_u, thenD_some, thenL_some, thenC_some, asame_one, asame_more, fst1_some, both_same, astill_nil, astill_0, astill_1, astill_2, astill_3, astill_4, astill_5, astill_6, astill_7, astill_8, astill_9, runR_seq, runR_skip, runR_reg', runR_cond', runR_block, runR_inBlock, runR_exit', exitR_some, aexit_inBlock, aexit_inLoop, aexit_code, runR_ret, runR_nil, regR_some, condR_b, aops_nil, aops_cons, aops_g, thenOps_some, gOps_b, gOps_u, put_some, put_none, upd_get, ev_t, ev_c, asX_nil, asX_cons, withH_some', withU_some', aop, ainit_get, afinish_def, aresults, aresult, aback, aload, astore, apart, aUn_not, aUn_neg, aUn_xor, aBin, aInt_add, aInt_sub, aInt_mul, aInt_quo, aInt_rem, aInt_and, aInt_or, aInt_xor, aInt_andn, aInt_eql, aInt_neq, aInt_lss, aInt_leq, aInt_gtr, aInt_geq, aInt_shl, aInt_shr, aEqN, optX, aslice, abound, acut, AV.cells, BinOp.isShift, Bool.bne_true, beq_self_eq_true, bne_self_eq_false, Bool.bne_false, Bool.true_bne, Bool.false_bne, beq_true, beq_false, Bool.true_beq, Bool.false_beq, Bool.not_true, Bool.not_false, Bool.false_eq_true, Bool.true_eq_false, reduceCtorEq, ↓reduceIte, List.getD_cons_zero, List.getD_cons_succ, List.getD_nil, List.length_cons, List.length_nil, List.getElem?_cons_zero, List.getElem?_cons_succ, List.getElem?_nil, List.take_succ_cons, List.take_zero, List.drop_succ_cons, List.drop_zero, List.cons_append, List.nil_append, Nat.reduceAdd, Nat.reduceMul, Nat.reduceSub, Nat.reduceLT, Nat.reduceLeDiff, Nat.reduceEqDiff, Nat.add_zero, Nat.zero_add, Nat.mul_one, ne_eq, not_true_eq_false, not_false_eq_true, true_and, and_true, false_and, and_false, true_or, or_true, false_or, or_false, if_true, if_false, Option.isNone_none, Option.isNone_some, decide_true, decide_false, Bool.not_eq_true, Option.some.injEq, Prod.mk.injEq, Nat.add_assoc, AH_new_o, AH_new_n, AH_set_o, AH_set_n, amakeSlice, afill, zerosA, setR, aminmax, aEqC, afirst, aappend, acopy, aclear, Nat.add_eq_left, Nat.left_eq_add, Nat.add_left_cancel_iff, Nat.add_right_cancel_iff, Nat.succ_ne_self, eq_self, Nat.reduceSucc, Option.map_some, Option.map_none, List.set_cons_zero, List.append_nil, Int.reduceLE, Int.reduceLT, Int.reduceAdd, Int.reduceSub, Int.reduceMul, Int.reduceNeg, Int.reduceEq, Int.reduceToNat, Int.reduceBEq, Int.reduceBNe, Int.reducePow, GT.gt, GE.ge, wrap_i64, wrap_u8, wrap_u16, wrap_u32, wrap_u64, Int.reduceTMod, Int.toNat_zero, Int.toNat_one, cast_of, cast_0, cast_1, and_self, Bool.and_true, Bool.true_and, Bool.and_false, Bool.false_and, Bool.or_true, Bool.or_false, Bool.true_or, Bool.false_or, hC_of (tk_spec hn), hC_of (pu_spec hn), hC_of (dr_spec hn), hC_of (ha_spec hn), hC_of (re_spec hn), own_all hn, head_all hn, free_all hn, own_all lt, head_all lt, own_all lp, head_all lp, own_all ld, head_all ld, own_all lh, head_all lh, hC_of alive_law, z, *]; (first | exact ⟨_, rfl⟩ | exact ⟨_, rfl, rfl⟩ | exact ⟨_, ⟨rfl, rfl⟩, rfl⟩))
end Go.Proofs.Ytlcmfjiinnddpaa.Abs
