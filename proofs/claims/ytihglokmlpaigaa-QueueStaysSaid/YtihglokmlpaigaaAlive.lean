/- Drain called; a chain of three drained. No condition of their own. -/
import Derived.Test.YtihglokmlpaigaaOpen
import Derived.Test.YtihglokmlpaigaaTb
namespace Go.Proofs.Ytihglokmlpaigaa.Abs
set_option linter.unusedSimpArgs false
set_option linter.unusedVariables false
set_option maxRecDepth 100000
set_option maxHeartbeats 8000000
theorem rs_det {H : AH} {v : AV} {l l' : List Int} (h : Rs H v 1 l.length (l.map I1)) (h' : Rs H v 1 l'.length (l'.map I1)) : l = l' := by
  obtain ⟨_, a, lo, ex, sz', hv, _, h2⟩ := h
  obtain ⟨_, a', lo', ex', sz'', hv', _, h2'⟩ := h'
  rw [hv] at hv'
  injection hv' with e1 e2 e3 e4 e5
  subst e1
  have hinj : ∀ {l l' : List Int}, l.map I1 = l'.map I1 → l = l' := fun h => (List.map_inj_right (fun a b h => by injection h)).1 h
  rcases h2 with ⟨h2, h3⟩ | ⟨b, o, ro, full, h2, h3, h4, h5, h6⟩
  · have a1 : l = [] := List.length_eq_zero_iff.1 h3
    have a2 : l' = [] := List.length_eq_zero_iff.1 (by omega)
    rw [a1, a2]
  · rcases h2' with ⟨k2, _⟩ | ⟨b', o', ro', full', k2, k3, k4, k5, k6⟩
    · rw [h2] at k2; cases k2
    · rw [h2] at k2
      cases k2
      rw [h4] at k4
      cases k4
      rw [← e2, h6] at k6
      exact hinj k6
theorem isq_det {H : AH} {v : AV} {l l' : List Int} (h : IsQ H v l) (h' : IsQ H v l') : l = l' := by
  obtain ⟨s, rfl, h⟩ := h
  obtain ⟨s', e, h'⟩ := h'
  cases e
  exact rs_det h.rs h'.rs
theorem ch_det {H : AH} {c : AV} {l l' : List Int} (h : Ch H c l) (h' : Ch H c l') : l = l' := by
  rcases h with h | ⟨rfl, rfl⟩ <;> rcases h' with h' | ⟨h', rfl⟩
  · exact rs_det h h'
  · obtain ⟨_, _, _, _, _, e, _⟩ := h; rw [h'] at e; cases e
  · obtain ⟨_, _, _, _, _, e, _⟩ := h'; cases e
  · rfl
theorem drain_pv {H : AH} {q c : AV} {l ch : List Int} (hq : IsQ H q l) (hc : Ch H c ch) (hl : l.length + ch.length ≤ 10000) :
    ∃ v' H', callR tbl 14 [q, c] H = some (.tup [v', .i .i64 ((dr l ch).2 : Nat)], H') ∧ IsQ H' v' (dr l ch).1 ∧ Keeps H H' ∧ Pv H q v' := by
  obtain ⟨v', H', h1, h2, h3⟩ := drain_goes hq hc hl
  obtain ⟨v, H2, e, _, hs⟩ := qS_call (S := SDr) (f := 14) (args := [q, c]) (H := H) rfl ⟨_, H', ⟨rfl, fun q' c' l' ch' ea hq' hc' => by
    injection ea with e1 ea
    injection ea with e2 _
    subst e1; subst e2
    rw [← isq_det hq hq', ← ch_det hc hc']
    exact ⟨v', rfl, h2, h3⟩⟩, h1⟩
  obtain ⟨v2, rfl, k1, k2⟩ := hs q c l ch rfl hq hc
  exact ⟨v2, H2, e, k1, k2⟩
theorem drain_spec' {H : AH} {q c : AV} {l ch : List Int} (hq : IsQ H q l) (hc : Ch H c ch) (hl : l.length + ch.length ≤ 10000) :
    ∃ v' H', callR tbl 14 [q, c] H = some (.tup [v', .i .i64 ((dr l ch).2 : Nat)], H') ∧ IsQ H' v' (dr l ch).1 ∧ Keeps H H' := by
  obtain ⟨v', H', e, h1, h2, _⟩ := drain_pv hq hc hl
  exact ⟨v', H', e, h1, h2⟩
theorem drain_spec {H : AH} {q c : AV} {l ch : List Int} (hq : IsQ H q l) (hc : Rs H c 1 ch.length (ch.map I1)) (hl : l.length + ch.length ≤ 10000) :
    ∃ v' H', callR tbl 14 [q, c] H = some (.tup [v', .i .i64 ((dr l ch).2 : Nat)], H') ∧ IsQ H' v' (dr l ch).1 ∧ Keeps H H' := drain_spec' hq (Or.inl hc) hl
theorem alive_law {H : AH} : ∃ H', callR tbl 7 [] H = some (.b true, H') := by
  have hr : Rs (H.new (.row false [I1 3, I1 2, I1 1])) (.sl (some (H.n, 0)) 3 3 true 1) 1 3 [I1 3, I1 2, I1 1] := rs_new rfl
  obtain ⟨v1, H1, e1, q1, k1⟩ := drain_spec (l := []) (ch := [3, 2, 1]) (H := H.new (.row false [I1 3, I1 2, I1 1])) IsQ.nil hr (by decide)
  have hd : dr [] [3, 2, 1] = ([1, 2, 3], 3) := by decide
  rw [hd] at e1 q1
  obtain ⟨a1, lo1, ex1, sz1, hv1⟩ := isq_one q1
  subst hv1
  have kA : Keeps H1 ((H1.new (.row false [.sl none 0 0 true 0])).set H1.n (.row false [.sl a1 3 lo1 ex1 sz1])) := (Keeps.refl _).new.set (Nat.le_refl _)
  obtain ⟨v2, H2, e2, q2, k2⟩ := pop_cons (q := qS SDr) (q1.keeps kA) (by decide)
  obtain ⟨a2, lo2, ex2, sz2, hv2⟩ := isq_one q2
  subst hv2
  have o2 : H2.o H1.n = some (.row false [.sl a1 3 lo1 ex1 sz1]) := by rw [k2.o (by simp only [AH_set_n, AH_new_n]; omega), AH_set_o, if_pos rfl]
  have kB : Keeps H2 ((H2.new (.row false [.sl none 0 0 true 0])).set H2.n (.row false [.sl a2 2 lo2 ex2 sz2])) := (Keeps.refl _).new.set (Nat.le_refl _)
  obtain ⟨H3, e3, k3⟩ := len_spec (q := qS SDr) (q2.keeps kB)
  have hn2 : H1.n < H2.n := by have := k2.1; simp only [AH_set_n, AH_new_n] at this; omega
  have o3 : H3.o H1.n = some (.row false [.sl a1 3 lo1 ex1 sz1]) := by rw [k3.o (by simp only [AH_set_n, AH_new_n]; omega), AH_set_o, if_neg (by omega), AH_new_o, if_neg (by omega)]; exact o2
  obtain ⟨H4, e4, k4⟩ := len_spec (q := qS SDr) ((q1.keeps kA).keeps (k2.trans (kB.trans k3)))
  have e1' : callR tbl 14 [.agg [.sl none 0 0 true 0], .sl (some (H.n, 0)) 3 3 true 1] (H.new (.row false [.i .i64 3, .i .i64 2, .i .i64 1])) = some (.tup [.agg [.sl a1 3 lo1 ex1 sz1], .i .i64 3], H1) := e1
  have e2' : callR tbl 9 [.agg [.sl a1 3 lo1 ex1 sz1]] ((H1.new (.row false [.sl none 0 0 true 0])).set H1.n (.row false [.sl a1 3 lo1 ex1 sz1])) = some (.tup [.i .i64 1, .agg [.sl a2 2 lo2 ex2 sz2], .b true], H2) := e2
  have e3' : callR tbl 10 [.agg [.sl a2 2 lo2 ex2 sz2]] ((H2.new (.row false [.sl none 0 0 true 0])).set H2.n (.row false [.sl a2 2 lo2 ex2 sz2])) = some (.i .i64 2, H3) := e3
  have e4' : callR tbl 10 [.agg [.sl a1 3 lo1 ex1 sz1]] H3 = some (.i .i64 3, H4) := e4
  refine ⟨H4, ?_⟩
  have n1 : H1.n ≠ H2.n := by omega
  simp only [c7, b7, s7, r7_0, r7_1, r7_2, r7_3, adrn_nil, adrn_cons, adrn_g, gN_b, gN_u, nStep_0, nStep_1, nStep_2, nStep_3, nSkip_0, nSkip_1, nSkip_2, nSkip_3, thenN_some, thenNL_some, thenNC_some, adrw_nil, adrw_cons, adrw_g, AOp.kind, dStep_0, dStep_1, dStep_2, dStep_3, dSkip_0, dSkip_1, dSkip_2, dSkip_3, gD_b, gD_u, thenD_some, thenL_some, thenC_some, asame_one, asame_more, fst1_some, both_same, astill_nil, astill_0, astill_1, astill_2, astill_3, astill_4, astill_5, astill_6, astill_7, astill_8, astill_9, runR_seq, runR_skip, runR_cond', runR_block, runR_inBlock, runR_exit', exitR_some, aexit_inBlock, aexit_inLoop, aexit_code, runR_ret, runR_nil, regR_some, condR_b, aops_nil, aops_cons, aops_g, thenOps_some, gOps_b, gOps_u, put_some, put_none, upd_get, ev_t, ev_c, asX_nil, asX_cons, withH_some', withU_some', aop, ainit_get, afinish_def, aresults, aresult, aback, aload, astore, apart, aUn_not, aUn_neg, aUn_xor, aBin, aInt_add, aInt_sub, aInt_mul, aInt_quo, aInt_rem, aInt_and, aInt_or, aInt_xor, aInt_andn, aInt_eql, aInt_neq, aInt_lss, aInt_leq, aInt_gtr, aInt_geq, aInt_shl, aInt_shr, aEqN, optX, aslice, abound, acut, AV.cells, BinOp.isShift, Bool.bne_true, beq_self_eq_true, bne_self_eq_false, Bool.bne_false, Bool.true_bne, Bool.false_bne, beq_true, beq_false, Bool.true_beq, Bool.false_beq, Bool.not_true, Bool.not_false, Bool.false_eq_true, Bool.true_eq_false, reduceCtorEq, ↓reduceIte, List.getD_cons_zero, List.getD_cons_succ, List.getD_nil, List.length_cons, List.length_nil, List.getElem?_cons_zero, List.getElem?_cons_succ, List.getElem?_nil, List.take_succ_cons, List.take_zero, List.drop_succ_cons, List.drop_zero, List.cons_append, List.nil_append, Nat.reduceAdd, Nat.reduceMul, Nat.reduceSub, Nat.reduceLT, Nat.reduceLeDiff, Nat.reduceEqDiff, Nat.add_zero, Nat.zero_add, Nat.mul_one, ne_eq, not_true_eq_false, not_false_eq_true, true_and, and_true, false_and, and_false, true_or, or_true, false_or, or_false, if_true, if_false, Option.isNone_none, Option.isNone_some, decide_true, decide_false, Bool.not_eq_true, Option.some.injEq, Prod.mk.injEq, Nat.add_assoc, amakeSlice, afill, zerosA, aminmax, aEqC, afirst, acopy, aclear, Nat.add_eq_left, Nat.left_eq_add, Nat.add_left_cancel_iff, Nat.add_right_cancel_iff, Nat.succ_ne_self, eq_self, Nat.reduceSucc, Option.map_some, Option.map_none, List.set_cons_zero, List.append_nil, Int.reduceLE, Int.reduceLT, Int.reduceAdd, Int.reduceSub, Int.reduceMul, Int.reduceNeg, Int.reduceEq, Int.reduceToNat, Int.reduceBEq, Int.reduceBNe, Int.reducePow, GT.gt, GE.ge, wrap_i64, wrap_u8, wrap_u16, wrap_u32, wrap_u64, Int.reduceTMod, Int.toNat_zero, Int.toNat_one, cast_of, cast_0, cast_1, and_self, Bool.and_true, Bool.true_and, Bool.and_false, Bool.false_and, Bool.or_true, Bool.or_false, Bool.true_or, Bool.false_or, hn_o, hn_n, hs_o, hs_n, nm1, nm2, nm3, nm4, ltn1, ltn2, ltn3, setR_s, setR_z, setR_e, AV.cells, e1', e2', o2, n1, e3', o3, e4']
end Go.Proofs.Ytihglokmlpaigaa.Abs
