/- A clock that nobody made answers an error, and has nothing. No condition of its own. -/
import Derived.Test.YtaolkpkaiidmeaaSteps
namespace Go.Proofs.Ytaolkpkaiidmeaa.Abs
set_option linter.unusedSimpArgs false
set_option linter.unusedVariables false
set_option maxRecDepth 100000
set_option maxHeartbeats 8000000
/-- None, or one that nobody made. -/
def Nn (H : AH) (p : AV) : Prop := p = .p none ∨ ∃ z, p = .p (some (z, 0)) ∧ H.o z = some (.row false [.i .i64 0, .mp none])
section
variable {q : Prm} {H : AH} {p : AV}
theorem nok (h : Nn H p) : callR (tblP q) 23 [p] H = some (.b false, H) := by
  rcases h with rfl | ⟨z, rfl, hz⟩
  · simp only [c23, b23, runR_seq, r23_0, aops_cons, aop, ev_c, thenOps_some, put_some, aops_nil, regR_some, r23_1, ev_t, upd_get, reduceCtorEq, ↓reduceIte, ainit_get, List.getD_cons_zero, aEqN, Option.isNone_none, bne_self_eq_false, aops_g, gOps_b, Bool.false_eq_true, Nat.reduceEqDiff, runR_ret, afinish_def, s23, aresults, aresult, aback]
  · simp only [c23, b23, runR_seq, r23_0, aops_cons, aop, ev_c, thenOps_some, put_some, aops_nil, regR_some, r23_1, ev_t, upd_get, reduceCtorEq, ↓reduceIte, ainit_get, List.getD_cons_zero, aEqN, Bool.bne_true, Bool.not_false, aops_g, gOps_b, Nat.reduceEqDiff, Nat.zero_add, aload, hz, apart, List.getElem?_cons_succ, List.getElem?_cons_zero, withH_some', Option.isNone_none, bne_self_eq_false, runR_ret, afinish_def, s23, aresults, aresult, aback]
theorem nat' (h : Nn H p) (x : Int) : callR (tblP q) 19 [p, .i .i64 x] H = some (.tup [.i .i64 0, .b false], H) := by
  have h0 := nok (q := q) h
  simp only [c19, b19, runR_seq, r19_0, aops_cons, aop, ev_c, thenOps_some, put_some, aops_nil, regR_some, r19_1, ev_t, upd_get, reduceCtorEq, ↓reduceIte, ainit_get, List.getD_cons_zero, asX_cons, asX_nil, h0, aUn_not, Bool.not_false, withH_some', runR_cond', condR_b, r19_2, runR_ret, afinish_def, s19, aresults, aresult, Nat.reduceEqDiff, aback]
theorem nlen (h : Nn H p) : callR (tblP q) 21 [p] H = some (.i .i64 0, H) := by
  have h0 := nok (q := q) h
  simp only [c21, b21, runR_seq, r21_0, aops_cons, aop, ev_c, thenOps_some, put_some, aops_nil, regR_some, r21_1, ev_t, upd_get, reduceCtorEq, ↓reduceIte, ainit_get, List.getD_cons_zero, asX_cons, asX_nil, h0, aUn_not, Bool.not_false, withH_some', runR_cond', condR_b, r21_2, runR_ret, afinish_def, s21, aresults, aresult, aback]
theorem nnow (h : Nn H p) : callR (tblP q) 12 [p] H = some (.i .i64 0, H) := by
  have h0 := nok (q := q) h
  simp only [c12, b12, runR_seq, r12_0, aops_cons, aop, ev_c, thenOps_some, put_some, aops_nil, regR_some, r12_1, ev_t, upd_get, reduceCtorEq, ↓reduceIte, ainit_get, List.getD_cons_zero, asX_cons, asX_nil, h0, aUn_not, Bool.not_false, withH_some', runR_cond', condR_b, r12_2, runR_ret, afinish_def, s12, aresults, aresult, aback]
theorem nset (h : Nn H p) (x n : Int) : callR (tblP q) 10 [p, .i .i64 x, .i .i64 n] H = some (.i .i64 2, H) := by
  have h0 := nok (q := q) h
  simp only [c10, b10, runR_seq, r10_0, aops_cons, aop, ev_c, thenOps_some, put_some, aops_nil, regR_some, runR_block, r10_1, ev_t, upd_get, reduceCtorEq, ↓reduceIte, ainit_get, List.getD_cons_zero, asX_cons, asX_nil, h0, aUn_not, Bool.not_false, withH_some', runR_cond', condR_b, r10_2, runR_ret, afinish_def, s10, aresults, aresult, aback]
theorem nclear (h : Nn H p) (x : Int) : callR (tblP q) 14 [p, .i .i64 x] H = some (.b false, H) := by
  have h0 := nat' (q := q) h x
  simp only [c14, b14, runR_seq, r14_0, aops_cons, aop, ev_c, thenOps_some, put_some, aops_nil, regR_some, r14_1, ev_t, upd_get, reduceCtorEq, ↓reduceIte, ainit_get, List.getD_cons_zero, Nat.reduceEqDiff, List.getD_cons_succ, asX_cons, asX_nil, h0, List.getElem?_cons_zero, withH_some', List.getElem?_cons_succ, r14_2, runR_cond', condR_b, Bool.false_eq_true, runR_skip, r14_4, runR_ret, afinish_def, s14, aresults, aresult, aback]
theorem ntick (h : Nn H p) (n : Int) : callR (tblP q) 9 [p, .i .i64 n] H = some (.sl none 0 0 true 0, H) := by
  have h0 := nok (q := q) h
  simp only [c9, b9, runR_seq, r9_0, aops_cons, aop, ev_c, thenOps_some, put_some, aops_nil, regR_some, r9_1, ev_t, upd_get, reduceCtorEq, ↓reduceIte, ainit_get, List.getD_cons_zero, asX_cons, asX_nil, h0, aUn_not, Bool.not_false, withH_some', runR_cond', condR_b, r9_2, runR_ret, afinish_def, s9, aresults, aresult, aback]
theorem nnext (h : Nn H p) : callR tbl 11 [p] H = some (.tup [.i .i64 0, .b false], H) := next_spec0 (nlen h)
end
theorem nob_law (s : St3) (w : (Lit.int .u8 s.1).wf = true ∧ (Lit.int .i64 s.2.1).wf = true ∧ (Lit.int .i64 s.2.2).wf = true) (H : AH) : ∃ H', callR tbl 6 [.agg (stepF s)] H = some (.b true, H') := by
  obtain ⟨H1, hH1⟩ : ∃ H1, H1 = ((H.new (.row false [.i .u8 s.1, .i .i64 s.2.1, .i .i64 s.2.2])).new (.row false [.i .i64 0, .mp none])).new (.row false [.p none, .p (some (H.n + 1, 0))]) := ⟨_, rfl⟩
  have o0 : H1.o H.n = some (.row false [.i .u8 s.1, .i .i64 s.2.1, .i .i64 s.2.2]) := by rw [hH1]; simp only [hn_o, hn_n, Nat.add_assoc, Nat.reduceAdd, Nat.left_eq_add, reduceCtorEq, ↓reduceIte, Nat.succ_ne_self]
  have o1 : H1.o (H.n + 1) = some (.row false [.i .i64 0, .mp none]) := by rw [hH1]; simp only [hn_o, hn_n, Nat.add_assoc, Nat.reduceAdd, Nat.add_left_cancel_iff, Nat.reduceEqDiff, ↓reduceIte]
  have o2 : H1.o (H.n + 2) = some (.row false [.p none, .p (some (H.n + 1, 0))]) := by rw [hH1]; simp only [hn_o, hn_n, Nat.add_assoc, Nat.reduceAdd, ↓reduceIte]
  have n1 : Nn H1 (.p none) := Or.inl rfl
  have n2 : Nn H1 (.p (some (H.n + 1, 0))) := Or.inr ⟨_, rfl, o1⟩
  have w1 : IntKind.i64.wrap ((0 : Int) + 1) = 1 := by decide
  have w2 : IntKind.i64.wrap ((1 : Int) + 1) = 2 := by decide
  have c0 : decide ((0 : Int) < ((2 : Nat) : Int)) = true := by decide
  have c1 : decide ((1 : Int) < ((2 : Nat) : Int)) = true := by decide
  have c2 : decide ((2 : Int) < ((2 : Nat) : Int)) = false := by decide
  have d0 : (0 : Int) ≤ 0 ∧ (0 : Int) < ((2 : Nat) : Int) := by decide
  have d1 : (0 : Int) ≤ 1 ∧ (1 : Int) < ((2 : Nat) : Int) := by decide
  have t1 : Int.toNat 1 = 1 := rfl
  refine Sp.tt fun Q hQ => ?_
  have round : ∀ (p : AV) (i : Int) (t : Nat → AV) (K : List AItem), Nn H1 p → t 1 = .p (some (H.n, 0)) → t 4 = p →
      (∀ t', t' 11 = t 11 → t' 12 = t 12 → t' 13 = t 13 → t' 1 = t 1 → Sp (runR tbl a6 K t' H1) Q) →
      Sp (runR tbl a6 (.code (.reg d6_4) :: .code (.seq (.reg d6_5) (.seq (.reg d6_6) (.cond (.t 73) (.seq (.reg d6_7) .ret) .skip))) :: K) t H1) Q := by
    intro p i t K hp q1 q4 hq
    have e1 := nat' (q := qS SSo) hp s.2.1
    have e2 := nnext hp
    have e3 := nset (q := qS SSo) hp s.2.1 s.2.2
    have e4 := nclear (q := qS SSo) hp s.2.1
    have e5 := ntick (q := qS SSo) hp s.2.2
    have e6 := nnow (q := qS SSo) hp
    have e7 := nlen (q := qS SSo) hp
    simp only [r6_4, aops_cons, aop, ev_t, q4, thenOps_some, put_some, upd_get, Nat.reduceEqDiff, ↓reduceIte, q1, Nat.zero_add, aload, o0, apart, List.getElem?_cons_succ, List.getElem?_cons_zero, withH_some', asX_cons, asX_nil, e1, aops_nil, regR_some, runR_seq, r6_5, e2, r6_6, e3, aBin, ev_c, BinOp.isShift, Bool.false_eq_true, or_true, aInt_neq, bne_self_eq_false, aops_g, gOps_b, e4, e5, cast_of, e6, e7, runR_cond', condR_b, runR_skip]
    refine hq _ ?_ ?_ ?_ ?_
    all_goals simp only [upd_get, Nat.reduceEqDiff, ↓reduceIte]
  have hsf : stepF s = [.i .u8 s.1, .i .i64 s.2.1, .i .i64 s.2.2] := rfl
  rw [hsf]
  simp only [c6, b6, runR_seq, r6_0, aops_cons, aop, ev_t, ainit_get, List.getD_cons_zero, AV.cells, thenOps_some, put_some, ev_c, aops_nil, regR_some, r6_1, afill, upd_get, ↓reduceIte, hn_n, List.length_cons, List.length_nil, Nat.zero_add, zerosA, List.append_nil, List.cons_append, List.nil_append, Nat.reduceAdd, Nat.reduceLeDiff, and_self, setR_z, setR_e, setR_s, Nat.add_assoc, ← hH1, cast_of, runR_block, runR_loop']
  rw [runR_inLoop]
  simp only [l6_9, runR_seq, r6_2, aops_cons, aop, aBin, ev_t, upd_get, ↓reduceIte, Nat.reduceEqDiff, BinOp.isShift, Bool.false_eq_true, or_true, aInt_lss, Int.reduceLT, decide_true, withH_some', thenOps_some, put_some, aops_nil, regR_some, runR_cond', condR_b, runR_skip, runR_block, r6_3, d0, cast_of, and_self, Int.toNat_zero, Nat.mul_one, Nat.add_zero, aload, o2, apart, List.getElem?_cons_zero]
  refine round (.p none) 0 _ _ n1 ?_ ?_ ?_
  case refine_3 =>
    intro t' z11 z12 z13 z1
    simp only [upd_get, Nat.reduceEqDiff, ↓reduceIte] at z11 z12 z13 z1
    simp only [runR_inBlock, r6_8, aops_cons, aop, aBin, ev_t, z13, ev_c, BinOp.isShift, Bool.false_eq_true, or_true, ↓reduceIte, aInt_add, Int.reduceAdd, Int.reduceNeg, Int.reduceLE, and_self, wrap_i64, withH_some', thenOps_some, put_some, upd_get, aops_nil, regR_some]
    rw [runR_inLoop]
    simp only [runR_seq, r6_2, aops_cons, aop, aBin, ev_t, upd_get, ↓reduceIte, Nat.reduceEqDiff, z12, BinOp.isShift, Bool.false_eq_true, or_true, aInt_lss, Int.reduceLT, decide_true, withH_some', thenOps_some, put_some, aops_nil, regR_some, runR_cond', condR_b, runR_skip, runR_block, r6_3, z11, d1, cast_of, and_self, t1, Nat.mul_one, Nat.zero_add, aload, o2, apart, List.getElem?_cons_succ, List.getElem?_cons_zero]
    refine round (.p (some (H.n + 1, 0))) 1 _ _ n2 ?_ ?_ ?_
    case refine_3 =>
      intro t2 y11 y12 y13 y1
      simp only [upd_get, Nat.reduceEqDiff, ↓reduceIte] at y11 y12 y13 y1
      obtain ⟨HE, eE⟩ := alive_spec (H := H1)
      simp only [runR_inBlock, r6_8, aops_cons, aop, aBin, ev_t, y13, ev_c, BinOp.isShift, Bool.false_eq_true, or_true, ↓reduceIte, aInt_add, Int.reduceAdd, Int.reduceNeg, Int.reduceLE, and_self, wrap_i64, withH_some', thenOps_some, put_some, upd_get, aops_nil, regR_some]
      rw [runR_inLoop]
      simp only [runR_seq, r6_2, aops_cons, aop, aBin, ev_t, upd_get, ↓reduceIte, Nat.reduceEqDiff, y12, z12, BinOp.isShift, Bool.false_eq_true, or_true, aInt_lss, Int.reduceLT, decide_false, withH_some', thenOps_some, put_some, aops_nil, regR_some, runR_cond', condR_b, runR_exit', aexit_code, aexit_inLoop, aexit_inBlock, exitR_some, r6_10, asX_nil, eE, runR_ret, afinish_def, s6, aresults, aresult, aback]
      exact Sp.ret (hQ _)
    all_goals simp only [upd_get, Nat.reduceEqDiff, ↓reduceIte, z1]
  all_goals simp only [upd_get, Nat.reduceEqDiff, ↓reduceIte]
end Go.Proofs.Ytaolkpkaiidmeaa.Abs
