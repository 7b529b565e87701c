/- Up to ahead of the next alarm nothing is due; at its time it is. No condition of its own. -/
import Derived.Test.YtaolkpkaiidmeaaSteps
namespace Go.Proofs.Ytaolkpkaiidmeaa.Abs
set_option linter.unusedSimpArgs false
set_option linter.unusedVariables false
set_option maxRecDepth 100000
set_option maxHeartbeats 8000000
theorem min_at {H : AH} {e m : Nat} {now : Int} {T : List P2} (hk : Ck H e m now T) (hT : T ≠ []) : ∃ p ∈ T, minT T 1099511627776 = p.2 ∧ ∀ p ∈ T, minT T 1099511627776 ≤ p.2 := by
  obtain ⟨h1, h2, h3⟩ := minT_le T 1099511627776
  rcases h3 with h3 | ⟨p, hp, h3⟩
  · cases T with
    | nil => exact absurd rfl hT
    | cons y T =>
      have a := h2 y (List.mem_cons_self ..)
      have b := hk.rg y (List.mem_cons_self ..)
      unfold okP at b
      exact ⟨y, List.mem_cons_self .., by omega, h2⟩
  · exact ⟨p, hp, h3, h2⟩
theorem at0_mem {T : List P2} (hnd : (T.map (·.1)).Nodup) {p : P2} (hp : p ∈ T) : at0 T p.1 = p.2 := by
  unfold at0
  rw [lk_mem hp hnd]
  rfl
theorem next_law (l : List St3) (ok : ∀ x ∈ l, (Lit.int .u8 x.1).wf = true ∧ (Lit.int .i64 x.2.1).wf = true ∧ (Lit.int .i64 x.2.2).wf = true) (H : AH) (x : AV) (hx : IsIn H x 3 l.length (l.flatMap stepF)) : ∃ H', callR tbl 3 [x] H = some (.b true, H') := by
  have hro0 := isIn_ro hx (stepF_len l)
  obtain ⟨HN, eN, kN, keN⟩ := new_spec (q := qS SSo) (H := H)
  obtain ⟨v, eS, hv⟩ := short_spec (q := qS SSo) hro0
  obtain ⟨L, hL⟩ : ∃ L, L = l.take 200 := ⟨_, rfl⟩
  rw [← hL] at hv
  have hl : L.length ≤ 200 := by rw [hL, List.length_take]; omega
  obtain ⟨a, lo, ex, sz, hve⟩ := hv.len
  subst hve
  obtain ⟨e, he⟩ : ∃ e, e = H.n + 1 := ⟨_, rfl⟩
  obtain ⟨m, hm⟩ : ∃ m, m = H.n := ⟨_, rfl⟩
  rw [← he, ← hm] at kN
  rw [← he] at eN
  have he' : H.n ≤ e := by omega
  have hm' : H.n ≤ m := by omega
  clear he hm
  refine Sp.tt fun Q hQ => ?_
  simp only [c3, b3, runR_seq, r3_0, aops_cons, aop, ev_c, thenOps_some, put_some, aops_nil, regR_some, r3_1, asX_nil, eN, ev_t, upd_get, ↓reduceIte, r3_2, aEqN, bne_self_eq_false, runR_cond', condR_b, Bool.false_eq_true, runR_skip, r3_4, reduceCtorEq, ainit_get, List.getD_cons_zero, asX_cons, eS, runR_block, runR_loop']
  refine loop_law L.length (fun i t' H' => t' 3 = .p (some (e, 0)) ∧ t' 13 = .sl a L.length lo ex sz ∧ t' 14 = .i .i64 L.length ∧ t' 15 = .i .i64 i ∧ (∃ now T, Ck H' e m now T) ∧ Keeps H H') (fun r => Sp r Q) ?_ ?_ 0 _ _ (Nat.zero_le _) ⟨?_, ?_, ?_, ?_, ⟨0, [], kN⟩, keN⟩
  · rintro i t' H' hi ⟨q3, q13, q14, q15, ⟨now, T, ck⟩, k⟩ ih
    have c1 : decide ((i : Int) < (L.length : Int)) = true := by simp; omega
    have c2 : 0 ≤ (i : Int) ∧ (i : Int) < (L.length : Int) := by omega
    have hwi := wr1 (i := i) (by omega)
    obtain ⟨s, hs⟩ : ∃ y, L[i]? = some y := ⟨_, List.getElem?_eq_getElem hi⟩
    obtain ⟨b, o, lo', ex', sz', ro, full, e', hbn, hr, hfl, _, hel⟩ := hv.rs.el hi
    cases e'
    rw [(flat_at (f := stepF) (sz := 3) (fun _ => rfl) L i s hs).1] at hel
    have hel' : (full.drop (o + i * 3)).take 3 = [.i .u8 s.1, .i .i64 s.2.1, .i .i64 s.2.2] := hel
    rw [Nat.add_assoc] at hfl
    have hr1 := (k.o hbn).trans hr
    have hk1 := k.1
    have hne : b ≠ H'.n := by omega
    obtain ⟨HS, hHS⟩ : ∃ HS, HS = (H'.new (.row false [.i .u8 0, .i .i64 0, .i .i64 0])).set H'.n (.row false [.i .u8 s.1, .i .i64 s.2.1, .i .i64 s.2.2]) := ⟨_, rfl⟩
    have kS : Keeps H' HS := by rw [hHS]; exact (Keeps.refl _).new.set (Nat.le_refl _)
    have oS : HS.o H'.n = some (.row false [.i .u8 s.1, .i .i64 s.2.1, .i .i64 s.2.2]) := by rw [hHS, AH_set_o, if_pos rfl]
    have hk2 := kS.1
    by_cases r1 : s.1.tmod 4 = 2
    · have x1 : (s.1.tmod 4 == 2) = true := by simpa using r1
      obtain ⟨w, H2, e2, k2, _, f2, _⟩ := tick_spec (ck.keeps kS) (bAnd .i64 s.2.2 15)
      have f2n := f2.1
      simp only [l3_11, runR_seq, r3_5, aops_cons, aop, aBin, ev_t, q15, q14, BinOp.isShift, Bool.false_eq_true, or_true, ↓reduceIte, aInt_lss, c2, decide_true, withH_some', thenOps_some, put_some, aops_nil, regR_some, runR_cond', upd_get, condR_b, runR_skip, runR_block, r3_6, Nat.reduceEqDiff, q13, and_self, Int.toNat_natCast, aload, hr1, apart, Nat.add_assoc, hfl, hel', astore, hn_o, AV.cells, List.length_cons, List.length_nil, Nat.zero_add, Nat.reduceAdd, Nat.reduceLeDiff, setR_z, setR_e, ← hHS, withU_some', put_none, r3_7, Nat.add_zero, oS, List.getElem?_cons_zero, ev_c, aInt_rem, Int.reduceEq, aInt_eql, x1, r3_8, q3, List.getElem?_cons_succ, aInt_and, asX_cons, asX_nil, e2, runR_exit', aexit_code, aexit_inBlock, exitR_some, r3_10, aInt_add, hwi]
      refine ih _ _ ⟨?_, ?_, ?_, ?_, ⟨_, _, k2⟩, ⟨by omega, fun c hc => ?_⟩⟩
      case refine_5 => rw [f2.2 c (by omega) (by omega) (by omega), kS.o (by omega), k.o hc]
      all_goals simp only [upd_get, ↓reduceIte, Nat.reduceEqDiff, q14, q3, q13]
    · have x1 : (s.1.tmod 4 == 2) = false := by simpa using r1
      obtain ⟨H2, e2, k2, f2⟩ := set_spec (q := qS SSo) (ck.keeps kS) s.2.1 s.2.2
      have f2n := f2.1
      simp only [l3_11, runR_seq, r3_5, aops_cons, aop, aBin, ev_t, q15, q14, BinOp.isShift, Bool.false_eq_true, or_true, ↓reduceIte, aInt_lss, c2, decide_true, withH_some', thenOps_some, put_some, aops_nil, regR_some, runR_cond', upd_get, condR_b, runR_skip, runR_block, r3_6, Nat.reduceEqDiff, q13, and_self, Int.toNat_natCast, aload, hr1, apart, Nat.add_assoc, hfl, hel', astore, hn_o, AV.cells, List.length_cons, List.length_nil, Nat.zero_add, Nat.reduceAdd, Nat.reduceLeDiff, setR_z, setR_e, ← hHS, withU_some', put_none, r3_7, Nat.add_zero, oS, List.getElem?_cons_zero, ev_c, aInt_rem, Int.reduceEq, aInt_eql, x1, r3_9, q3, List.getElem?_cons_succ, asX_cons, asX_nil, e2, runR_inBlock, r3_10, aInt_add, hwi]
      refine ih _ _ ⟨?_, ?_, ?_, ?_, ⟨_, _, k2⟩, ⟨by omega, fun c hc => ?_⟩⟩
      case refine_5 => rw [f2.2 c (by omega) (by omega), kS.o (by omega), k.o hc]
      all_goals simp only [upd_get, ↓reduceIte, Nat.reduceEqDiff, q14, q3, q13]
  · rintro t' H' ⟨q3, q13, q14, q15, ⟨now, T, ck⟩, k⟩
    have c1 : decide ((L.length : Int) < (L.length : Int)) = false := by simp
    have e1 := next_spec' ck
    have e2 := now_spec (q := qS SSo) ck
    obtain ⟨HE, eE⟩ := alive_spec (H := H')
    have htm := ck.tm
    unfold nextV at e1
    by_cases hT : T = []
    · rw [if_pos hT] at e1
      have x0 : ((0 : Int) == 0) = true := by decide
      simp only [l3_11, runR_seq, r3_5, aops_cons, aop, aBin, ev_t, q15, q14, BinOp.isShift, Bool.false_eq_true, or_true, ↓reduceIte, aInt_lss, c1, withH_some', thenOps_some, put_some, aops_nil, regR_some, runR_cond', upd_get, condR_b, runR_exit', aexit_code, aexit_inLoop, aexit_inBlock, exitR_some, r3_12, Nat.reduceEqDiff, q3, asX_cons, asX_nil, e1, List.getElem?_cons_zero, List.getElem?_cons_succ, r3_13, aUn_not, Bool.not_false, aops_g, gOps_b, Bool.true_eq_false, ev_c, r3_14, aInt_eql, beq_self_eq_true, eE, runR_ret, afinish_def, s3, aresults, aresult, aback]
      exact Sp.ret (hQ _)
    · rw [if_neg hT] at e1
      obtain ⟨p, hp, hmin, hall⟩ := min_at ck hT
      have hrp := ck.rg p hp
      unfold okP at hrp
      obtain ⟨M, hM⟩ : ∃ M, M = minT T 1099511627776 := ⟨_, rfl⟩
      rw [← hM] at e1 hmin hall
      by_cases hnow : M ≤ now
      · have x1 : decide (M ≤ now) = true := by simpa using hnow
        have x0 : (M == 0) = false := by simp; omega
        simp only [l3_11, runR_seq, r3_5, aops_cons, aop, aBin, ev_t, q15, q14, BinOp.isShift, Bool.false_eq_true, or_true, ↓reduceIte, aInt_lss, c1, withH_some', thenOps_some, put_some, aops_nil, regR_some, runR_cond', upd_get, condR_b, runR_exit', aexit_code, aexit_inLoop, aexit_inBlock, exitR_some, r3_12, Nat.reduceEqDiff, q3, asX_cons, asX_nil, e1, List.getElem?_cons_zero, List.getElem?_cons_succ, r3_13, aUn_not, Bool.not_true, aops_g, gOps_b, e2, aInt_geq, GE.ge, x1, r3_14, ev_c, aInt_eql, x0, eE, runR_ret, afinish_def, s3, aresults, aresult, aback]
        exact Sp.ret (hQ _)
      · have x1 : decide (M ≤ now) = false := by simpa using hnow
        have w1 : IntKind.i64.wrap (M - 1) = M - 1 := wrap_i64 (by omega)
        have w2 : IntKind.i64.wrap (M - 1 - now) = M - 1 - now := wrap_i64 (by omega)
        obtain ⟨v1, H2, g1, k2, v2, f2, _⟩ := tick_spec ck (M - 1 - now)
        have t1 : tickN now (M - 1 - now) = M - 1 := by unfold tickN; repeat' split; all_goals omega
        have d1 : dueT T (M - 1) = [] := by
          rw [dueT_filter, List.filter_eq_nil_iff]
          intro y hy
          have hy' := (srtT_perm T).mem_iff.1 hy
          obtain ⟨z, hz, rfl⟩ := List.mem_map.1 hy'
          have := hall z hz
          rw [at0_mem ck.nd hz]
          simp
          omega
        rw [t1, d1] at k2 v2
        have k2' : Ck H2 e m (M - 1) T := k2
        obtain ⟨va, vlo, vex, vsz, hv1⟩ := v2.len
        subst hv1
        have y1 : ((([] : List Int).length : Int) != 0) = false := by decide
        obtain ⟨v3, H3, g3, k3, v4, f3, _⟩ := tick_spec k2' 1
        have t3 : tickN (M - 1) 1 = M := by unfold tickN; repeat' split; all_goals omega
        rw [t3] at k3 v4
        have hpos : 0 < (dueT T M).length := by
          apply List.length_pos_of_mem (a := p.1)
          rw [due_mem ck.nd, lk_mem hp ck.nd, at0_mem ck.nd hp]
          exact ⟨rfl, by omega⟩
        obtain ⟨vb, wlo, wex, wsz, hv3⟩ := v4.len
        subst hv3
        have y2 : decide ((0 : Int) < ((dueT T M).length : Int)) = true := by simp; omega
        have y3 : (M == M) = true := by simp
        have e5 := now_spec (q := qS SSo) k3
        obtain ⟨HE2, eE2⟩ := alive_spec (H := H3)
        simp only [List.length_nil, Int.natCast_zero] at g1 y1
        simp only [l3_11, runR_seq, r3_5, aops_cons, aop, aBin, ev_t, q15, q14, BinOp.isShift, Bool.false_eq_true, or_true, ↓reduceIte, aInt_lss, c1, withH_some', thenOps_some, put_some, aops_nil, regR_some, runR_cond', upd_get, condR_b, runR_exit', aexit_code, aexit_inLoop, aexit_inBlock, exitR_some, r3_12, Nat.reduceEqDiff, q3, asX_cons, asX_nil, e1, List.getElem?_cons_zero, List.getElem?_cons_succ, r3_13, aUn_not, Bool.not_true, aops_g, gOps_b, e2, aInt_geq, GE.ge, x1, runR_skip, r3_15, ev_c, aInt_sub, w1, w2, g1, cast_of, aInt_neq, bne_self_eq_false, r3_17, g3, r3_18, aInt_gtr, GT.gt, y2, e5, aInt_eql, beq_self_eq_true, eE2, runR_ret, afinish_def, s3, aresults, aresult, aback]
        exact Sp.ret (hQ _)
  all_goals simp only [upd_get, Nat.reduceEqDiff, ↓reduceIte, cast_of]
end Go.Proofs.Ytaolkpkaiidmeaa.Abs
