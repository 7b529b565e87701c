/- Steps that came in, not too many of them; what no map is stays. No condition of its own. -/
import Derived.Test.YtokfnhildehndaaDrop
import Derived.Test.YtokfnhildehndaaOpen
namespace Go.Proofs.Ytokfnhildehndaa.Abs
set_option linter.unusedSimpArgs false
set_option linter.unusedVariables false
set_option maxRecDepth 100000
set_option maxHeartbeats 8000000
theorem alive_spec {q : Prm} {H : AH} : ∃ H', callR (tblP q) 14 [] H = some (.b true, H') := by
  obtain ⟨H1, e1, b1, k1⟩ := new_spec (q := q) (H := H)
  obtain ⟨H2, e2, b2, _⟩ := add_spec (q := q) b1 (1, 7, 0)
  have a2 : addE [] (1, 7, 0) = 0 := by decide
  have t2 : addT [] (1, 7, 0) = [(1, 7, 0)] := by decide
  rw [a2] at e2; rw [t2] at b2
  have e3 := slot_spec (q := q) b2 7
  have s3 : at2 [(1, 7, 0)] 7 = some (1, 7, 0) := by decide
  rw [s3] at e3
  obtain ⟨H4, e4, b4, _⟩ := add_spec (q := q) b2 (2, 7, 0)
  have a4 : addE [(1, 7, 0)] (2, 7, 0) = 7 := by decide
  have t4 : addT [(1, 7, 0)] (2, 7, 0) = [(1, 7, 0)] := by decide
  rw [a4] at e4; rw [t4] at b4
  have e5 := len_spec (q := q) b4 (by decide)
  simp only [cells3] at e2 e4
  have e3' : callR (tblP q) 11 [.p (some (H.n + 2, 0)), .i .i64 7] H2 = some (.tup [.i .i64 1, .b true], H2) := e3
  have e5' : callR (tblP q) 16 [.p (some (H.n + 2, 0))] H4 = some (.i .i64 1, H4) := e5
  refine ⟨H4, ?_⟩
  simp only [c14, b14, s14, r14_0, r14_1, r14_2, r14_3, r14_4, r14_5, adrn_nil, adrn_cons, adrn_g, gN_b, gN_u, nStep_0, nStep_1, nStep_2, nStep_3, nSkip_0, nSkip_1, nSkip_2, nSkip_3, thenN_some, thenNL_some, thenNC_some, adrw_nil, adrw_cons, adrw_g, AOp.kind, dStep_0, dStep_1, dStep_2, dStep_3, dSkip_0, dSkip_1, dSkip_2, dSkip_3, gD_b, gD_u, thenD_some, thenL_some, thenC_some, asame_one, asame_more, fst1_some, both_same, astill_nil, astill_0, astill_1, astill_2, astill_3, astill_4, astill_5, astill_6, astill_7, astill_8, astill_9, runR_seq, runR_skip, runR_cond', runR_block, runR_inBlock, runR_exit', exitR_some, aexit_inBlock, aexit_inLoop, aexit_code, runR_ret, runR_nil, regR_some, condR_b, aops_nil, aops_cons, aops_g, thenOps_some, gOps_b, gOps_u, put_some, put_none, upd_get, ev_t, ev_c, asX_nil, asX_cons, withH_some', withU_some', aop, ainit_get, afinish_def, aresults, aresult, aback, aload, astore, apart, aUn_not, aUn_neg, aUn_xor, aBin, aInt_add, aInt_sub, aInt_mul, aInt_quo, aInt_rem, aInt_and, aInt_or, aInt_xor, aInt_andn, aInt_eql, aInt_neq, aInt_lss, aInt_leq, aInt_gtr, aInt_geq, aInt_shl, aInt_shr, aEqN, optX, aslice, abound, acut, AV.cells, BinOp.isShift, Bool.bne_true, beq_self_eq_true, bne_self_eq_false, Bool.bne_false, Bool.true_bne, Bool.false_bne, beq_true, beq_false, Bool.true_beq, Bool.false_beq, Bool.not_true, Bool.not_false, Bool.false_eq_true, Bool.true_eq_false, reduceCtorEq, ↓reduceIte, List.getD_cons_zero, List.getD_cons_succ, List.getD_nil, List.length_cons, List.length_nil, List.getElem?_cons_zero, List.getElem?_cons_succ, List.getElem?_nil, List.take_succ_cons, List.take_zero, List.drop_succ_cons, List.drop_zero, List.cons_append, List.nil_append, Nat.reduceAdd, Nat.reduceMul, Nat.reduceSub, Nat.reduceLT, Nat.reduceLeDiff, Nat.reduceEqDiff, Nat.add_zero, Nat.zero_add, Nat.mul_one, ne_eq, not_true_eq_false, not_false_eq_true, true_and, and_true, false_and, and_false, true_or, or_true, false_or, or_false, if_true, if_false, Option.isNone_none, Option.isNone_some, decide_true, decide_false, Bool.not_eq_true, Option.some.injEq, Prod.mk.injEq, Nat.add_assoc, amakeSlice, afill, zerosA, aminmax, aEqC, afirst, acopy, aclear, Nat.add_eq_left, Nat.left_eq_add, Nat.add_left_cancel_iff, Nat.add_right_cancel_iff, Nat.succ_ne_self, eq_self, Nat.reduceSucc, Option.map_some, Option.map_none, List.set_cons_zero, List.append_nil, Int.reduceLE, Int.reduceLT, Int.reduceAdd, Int.reduceSub, Int.reduceMul, Int.reduceNeg, Int.reduceEq, Int.reduceToNat, Int.reduceBEq, Int.reduceBNe, Int.reducePow, GT.gt, GE.ge, wrap_i64, wrap_u8, wrap_u16, wrap_u32, wrap_u64, Int.reduceTMod, Int.toNat_zero, Int.toNat_one, cast_of, cast_0, cast_1, and_self, Bool.and_true, Bool.true_and, Bool.and_false, Bool.false_and, Bool.or_true, Bool.or_false, Bool.true_or, Bool.false_or, hn_o, hn_n, hs_o, hs_n, nm1, nm2, nm3, nm4, ltn1, ltn2, ltn3, setR_s, setR_z, setR_e, AV.cells, lk_mp, lk_pp, lk_nil, lk_pnil, lkO_1, lkO_2, lkP_1, lkP_2, mup_b, mup_sl, muO_P, dl_pp, dlO_P, len_mP, mu_b, mu_i, mu_a, mu_sl, muO_E, dl_mp, dl_nil, dlO_E, en_mp, en_nil, enO_E, len_mE, mapo_nil, e1, e2, e3', e4, e5']
abbrev St4 := Int × P3
def stepF (x : St4) : List AV := [.i .u8 x.1] ++ ([.i .i64 x.2.1] ++ [.i .i64 x.2.2.1] ++ [.i .i64 x.2.2.2])
theorem stepF_len (l : List St4) : (l.flatMap stepF).length = l.length * 4 := flat_length (sz := 4) (fun _ => rfl) l
theorem short_spec {q : Prm} {H : AH} {x : AV} {l : List St4} (h : Ro H x 4 l.length (l.flatMap stepF)) : ∃ v', (∀ H' : AH, callR (tblP q) 8 [x] H' = some (v', H')) ∧ Ro H v' 4 (l.take 200).length ((l.take 200).flatMap stepF) := by
  have hcut : ∀ n, n ≤ l.length → (l.flatMap stepF).take (n * 4) = (l.take n).flatMap stepF := by
    intro n hn
    conv => lhs; rw [← List.take_append_drop n l, List.flatMap_append]
    rw [List.take_left' (by rw [stepF_len, List.length_take, Nat.min_eq_left hn])]
  obtain ⟨a, lo, ex, sz, hx⟩ := h.len
  by_cases hb : l.length ≤ 200
  · obtain ⟨v', e, h2, _⟩ := h.to (k := .i64) (h' := l.length) (Nat.le_refl _)
    rw [hcut _ (Nat.le_refl _), List.take_length] at h2
    rw [List.take_of_length_le hb]
    refine ⟨v', fun H' => ?_, h2⟩
    have c1 : ¬ ((200 : Int) < (l.length : Int)) := by omega
    subst hx
    simp only [c8, b8, s8, r8_0, r8_1, adrn_nil, adrn_cons, adrn_g, gN_b, gN_u, nStep_0, nStep_1, nStep_2, nStep_3, nSkip_0, nSkip_1, nSkip_2, nSkip_3, thenN_some, thenNL_some, thenNC_some, adrw_nil, adrw_cons, adrw_g, AOp.kind, dStep_0, dStep_1, dStep_2, dStep_3, dSkip_0, dSkip_1, dSkip_2, dSkip_3, gD_b, gD_u, thenD_some, thenL_some, thenC_some, asame_one, asame_more, fst1_some, both_same, astill_nil, astill_0, astill_1, astill_2, astill_3, astill_4, astill_5, astill_6, astill_7, astill_8, astill_9, runR_seq, runR_skip, runR_cond', runR_block, runR_inBlock, runR_exit', exitR_some, aexit_inBlock, aexit_inLoop, aexit_code, runR_ret, runR_nil, regR_some, condR_b, aops_nil, aops_cons, aops_g, thenOps_some, gOps_b, gOps_u, put_some, put_none, upd_get, ev_t, ev_c, asX_nil, asX_cons, withH_some', withU_some', aop, ainit_get, afinish_def, aresults, aresult, aback, aload, astore, apart, aUn_not, aUn_neg, aUn_xor, aBin, aInt_add, aInt_sub, aInt_mul, aInt_quo, aInt_rem, aInt_and, aInt_or, aInt_xor, aInt_andn, aInt_eql, aInt_neq, aInt_lss, aInt_leq, aInt_gtr, aInt_geq, aInt_shl, aInt_shr, aEqN, optX, AV.cells, BinOp.isShift, Bool.bne_true, beq_self_eq_true, bne_self_eq_false, Bool.bne_false, Bool.true_bne, Bool.false_bne, beq_true, beq_false, Bool.true_beq, Bool.false_beq, Bool.not_true, Bool.not_false, Bool.false_eq_true, Bool.true_eq_false, reduceCtorEq, ↓reduceIte, List.getD_cons_zero, List.getD_cons_succ, List.getD_nil, List.length_cons, List.length_nil, List.getElem?_cons_zero, List.getElem?_cons_succ, List.getElem?_nil, List.take_succ_cons, List.take_zero, List.drop_succ_cons, List.drop_zero, List.cons_append, List.nil_append, Nat.reduceAdd, Nat.reduceMul, Nat.reduceSub, Nat.reduceLT, Nat.reduceLeDiff, Nat.reduceEqDiff, Nat.add_zero, Nat.zero_add, Nat.mul_one, ne_eq, not_true_eq_false, not_false_eq_true, true_and, and_true, false_and, and_false, true_or, or_true, false_or, or_false, if_true, if_false, Option.isNone_none, Option.isNone_some, decide_true, decide_false, Bool.not_eq_true, Option.some.injEq, Prod.mk.injEq, Nat.add_assoc, amakeSlice, afill, zerosA, aminmax, aEqC, afirst, acopy, aclear, Nat.add_eq_left, Nat.left_eq_add, Nat.add_left_cancel_iff, Nat.add_right_cancel_iff, Nat.succ_ne_self, eq_self, Nat.reduceSucc, Option.map_some, Option.map_none, List.set_cons_zero, List.append_nil, Int.reduceLE, Int.reduceLT, Int.reduceAdd, Int.reduceSub, Int.reduceMul, Int.reduceNeg, Int.reduceEq, Int.reduceToNat, Int.reduceBEq, Int.reduceBNe, Int.reducePow, GT.gt, GE.ge, wrap_i64, wrap_u8, wrap_u16, wrap_u32, wrap_u64, Int.reduceTMod, Int.toNat_zero, Int.toNat_one, cast_of, cast_0, cast_1, and_self, Bool.and_true, Bool.true_and, Bool.and_false, Bool.false_and, Bool.or_true, Bool.or_false, Bool.true_or, Bool.false_or, hn_o, hn_n, hs_o, hs_n, nm1, nm2, nm3, nm4, ltn1, ltn2, ltn3, setR_s, setR_z, setR_e, AV.cells, c1, e]
  · obtain ⟨v', e, h2, _⟩ := h.to (k := .i64) (h' := 200) (by omega)
    rw [hcut _ (by omega)] at h2
    rw [List.length_take, Nat.min_eq_left (by omega)]
    refine ⟨v', fun H' => ?_, h2⟩
    have c1 : (200 : Int) < (l.length : Int) := by omega
    subst hx
    have e' : aslice 4 (.sl a l.length lo ex sz) none (some (.i .i64 200)) none = some v' := e
    simp only [c8, b8, s8, r8_0, r8_1, adrn_nil, adrn_cons, adrn_g, gN_b, gN_u, nStep_0, nStep_1, nStep_2, nStep_3, nSkip_0, nSkip_1, nSkip_2, nSkip_3, thenN_some, thenNL_some, thenNC_some, adrw_nil, adrw_cons, adrw_g, AOp.kind, dStep_0, dStep_1, dStep_2, dStep_3, dSkip_0, dSkip_1, dSkip_2, dSkip_3, gD_b, gD_u, thenD_some, thenL_some, thenC_some, asame_one, asame_more, fst1_some, both_same, astill_nil, astill_0, astill_1, astill_2, astill_3, astill_4, astill_5, astill_6, astill_7, astill_8, astill_9, runR_seq, runR_skip, runR_cond', runR_block, runR_inBlock, runR_exit', exitR_some, aexit_inBlock, aexit_inLoop, aexit_code, runR_ret, runR_nil, regR_some, condR_b, aops_nil, aops_cons, aops_g, thenOps_some, gOps_b, gOps_u, put_some, put_none, upd_get, ev_t, ev_c, asX_nil, asX_cons, withH_some', withU_some', aop, ainit_get, afinish_def, aresults, aresult, aback, aload, astore, apart, aUn_not, aUn_neg, aUn_xor, aBin, aInt_add, aInt_sub, aInt_mul, aInt_quo, aInt_rem, aInt_and, aInt_or, aInt_xor, aInt_andn, aInt_eql, aInt_neq, aInt_lss, aInt_leq, aInt_gtr, aInt_geq, aInt_shl, aInt_shr, aEqN, optX, AV.cells, BinOp.isShift, Bool.bne_true, beq_self_eq_true, bne_self_eq_false, Bool.bne_false, Bool.true_bne, Bool.false_bne, beq_true, beq_false, Bool.true_beq, Bool.false_beq, Bool.not_true, Bool.not_false, Bool.false_eq_true, Bool.true_eq_false, reduceCtorEq, ↓reduceIte, List.getD_cons_zero, List.getD_cons_succ, List.getD_nil, List.length_cons, List.length_nil, List.getElem?_cons_zero, List.getElem?_cons_succ, List.getElem?_nil, List.take_succ_cons, List.take_zero, List.drop_succ_cons, List.drop_zero, List.cons_append, List.nil_append, Nat.reduceAdd, Nat.reduceMul, Nat.reduceSub, Nat.reduceLT, Nat.reduceLeDiff, Nat.reduceEqDiff, Nat.add_zero, Nat.zero_add, Nat.mul_one, ne_eq, not_true_eq_false, not_false_eq_true, true_and, and_true, false_and, and_false, true_or, or_true, false_or, or_false, if_true, if_false, Option.isNone_none, Option.isNone_some, decide_true, decide_false, Bool.not_eq_true, Option.some.injEq, Prod.mk.injEq, Nat.add_assoc, amakeSlice, afill, zerosA, aminmax, aEqC, afirst, acopy, aclear, Nat.add_eq_left, Nat.left_eq_add, Nat.add_left_cancel_iff, Nat.add_right_cancel_iff, Nat.succ_ne_self, eq_self, Nat.reduceSucc, Option.map_some, Option.map_none, List.set_cons_zero, List.append_nil, Int.reduceLE, Int.reduceLT, Int.reduceAdd, Int.reduceSub, Int.reduceMul, Int.reduceNeg, Int.reduceEq, Int.reduceToNat, Int.reduceBEq, Int.reduceBNe, Int.reducePow, GT.gt, GE.ge, wrap_i64, wrap_u8, wrap_u16, wrap_u32, wrap_u64, Int.reduceTMod, Int.toNat_zero, Int.toNat_one, cast_of, cast_0, cast_1, and_self, Bool.and_true, Bool.true_and, Bool.and_false, Bool.false_and, Bool.or_true, Bool.or_false, Bool.true_or, Bool.false_or, hn_o, hn_n, hs_o, hs_n, nm1, nm2, nm3, nm4, ltn1, ltn2, ltn3, setR_s, setR_z, setR_e, AV.cells, c1, e']
/-- All but two objects stay. -/
def Fm (m1 m2 : Nat) (H H' : AH) : Prop := H.n ≤ H'.n ∧ ∀ b, b < H.n → b ≠ m1 → b ≠ m2 → H'.o b = H.o b
theorem Fm.refl {m1 m2 : Nat} {H : AH} : Fm m1 m2 H H := ⟨Nat.le_refl _, fun _ _ _ _ => rfl⟩
theorem Fm.trans {m1 m2 : Nat} {H H1 H2 : AH} (h : Fm m1 m2 H H1) (k : Fm m1 m2 H1 H2) : Fm m1 m2 H H2 :=
  ⟨Nat.le_trans h.1 k.1, fun b hb h1 h2 => (k.2 b (Nat.lt_of_lt_of_le hb h.1) h1 h2).trans (h.2 b hb h1 h2)⟩
theorem Keeps.fm {m1 m2 : Nat} {H H' : AH} (k : Keeps H H') : Fm m1 m2 H H' := ⟨k.1, fun b hb _ _ => k.o hb⟩
theorem Ro.fm {e m1 m2 : Nat} {T : List P3} {H H' : AH} {v : AV} {sz n : Nat} {cs : List AV} (h : Ro H v sz n cs) (hB : Bk H e m1 m2 T) (f : Fm m1 m2 H H') : Ro H' v sz n cs := by
  obtain ⟨b1, h1, _⟩ := hB.h1
  obtain ⟨b2, h2⟩ := hB.h2
  refine ⟨h.1, h.2.imp id ?_⟩
  rintro ⟨b, o, lo, ex, ro, full, e, hb, hr, h3⟩
  refine ⟨b, o, lo, ex, ro, full, e, Nat.lt_of_lt_of_le hb f.1, ?_, h3⟩
  rw [f.2 b hb, hr]
  · rintro rfl; rw [hr] at h1; cases h1
  · rintro rfl; rw [hr] at h2; cases h2
theorem canon_ro {H : AH} {T : List P3} : Ro (canonH H T) (canonV H T) 3 T.length ((srt T).flatMap cells3) := by
  have hl : ((srt T).flatMap cells3).length = T.length * 3 := by rw [flat3_len cells3 (fun _ => rfl), srt_len]
  refine ⟨hl, ?_⟩
  unfold canonH canonV
  by_cases h : T = []
  · rw [if_pos h, if_pos h]
    exact Or.inl ⟨by rw [h]; rfl, 0, rfl⟩
  · rw [if_neg h, if_neg h]
    exact Or.inr ⟨H.n, 0, _, _, false, _, rfl, Nat.lt_succ_self _, by rw [AH_new_o, if_pos rfl], Nat.le_refl _, by omega, by rw [List.drop_zero, List.take_of_length_le (by omega)]⟩
theorem canon_k {H : AH} {T : List P3} : Keeps H (canonH H T) := by
  unfold canonH
  split
  · exact Keeps.refl _
  · exact (Keeps.refl _).new
theorem srt_mem {T : List P3} (hnd : (T.map (·.1)).Nodup) {x : P3} (hx : x ∈ srt T) : x ∈ T := by
  unfold srt at hx
  obtain ⟨s, hs, rfl⟩ := List.mem_map.1 hx
  obtain ⟨y, hy, rfl⟩ := List.mem_map.1 ((List.mergeSort_perm _ _).mem_iff.1 hs)
  rw [look_mem hnd hy]
  exact hy
theorem at1_mem {T : List P3} {x : P3} (hx : x ∈ T) (hnd : (T.map (·.1)).Nodup) : at1 T x.1 = some x := by
  induction T with
  | nil => cases hx
  | cons y T ih =>
    rw [List.map_cons, List.nodup_cons] at hnd
    unfold at1
    rw [List.find?_cons]
    by_cases e : x.1 = y.1
    · rw [decide_eq_true e]
      rcases List.mem_cons.1 hx with rfl | h
      · rfl
      · exact absurd (e ▸ List.mem_map_of_mem (f := (·.1)) h) hnd.1
    · rw [decide_eq_false e]
      rcases List.mem_cons.1 hx with rfl | h
      · exact absurd rfl e
      · exact ih h hnd.2
theorem at2_mem {T : List P3} {x : P3} (hx : x ∈ T) (hnd : (T.map (·.2.1)).Nodup) : at2 T x.2.1 = some x := by
  induction T with
  | nil => cases hx
  | cons y T ih =>
    rw [List.map_cons, List.nodup_cons] at hnd
    unfold at2
    rw [List.find?_cons]
    by_cases e : x.2.1 = y.2.1
    · rw [decide_eq_true e]
      rcases List.mem_cons.1 hx with rfl | h
      · rfl
      · exact absurd (e ▸ List.mem_map_of_mem (f := (·.2.1)) h) hnd.1
    · rw [decide_eq_false e]
      rcases List.mem_cons.1 hx with rfl | h
      · exact absurd rfl e
      · exact ih h hnd.2
theorem addT_len (T : List P3) (p : P3) : (addT T p).length ≤ T.length + 1 := by
  unfold addT
  split
  · simp
  · omega
end Go.Proofs.Ytokfnhildehndaa.Abs
