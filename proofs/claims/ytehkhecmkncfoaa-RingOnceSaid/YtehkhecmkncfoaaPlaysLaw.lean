/- A ring answers every call as the document's does. No condition of its own. -/
import Derived.Test.YtehkhecmkncfoaaRefRing2
import Derived.Test.YtehkhecmkncfoaaShort
namespace Go.Proofs.Ytehkhecmkncfoaa.Abs
set_option linter.unusedSimpArgs false
set_option linter.unusedVariables false
set_option maxRecDepth 100000
set_option maxHeartbeats 8000000
theorem doL_len (ws : List Wt) (k t c : Int) : (doL ws k t c).length ≤ ws.length + 1 := by
  unfold doL
  split
  · unfold remL
    split
    · rw [List.length_append, List.length_take, List.length_drop]; omega
    · omega
  · split
    · unfold turnL; rw [List.length_append, List.length_take, List.length_drop]; omega
    · unfold addL
      split
      · simp
      · omega
theorem pl_none {ws : List Wt} {t : Int} {k : Nat} (h : pl ws t k = none) : ∀ w ∈ ws, w.1 ≠ t := by
  induction ws generalizing k with
  | nil => intro w hw; cases hw
  | cons x ws ih =>
    unfold pl at h
    split at h
    · cases h
    · rename_i hx
      intro w hw
      rcases List.mem_cons.1 hw with rfl | hw
      · exact hx
      · exact ih h w hw
theorem do_nodup {ws : List Wt} (h : (ws.map (·.1)).Nodup) (k t c : Int) : ((doL ws k t c).map (·.1)).Nodup := by
  unfold doL
  split
  · rw [← (rem_eq (t := t) h).1]
    unfold outL
    exact (List.Sublist.map _ List.filter_sublist).nodup h
  · split
    · unfold turnL
      rw [List.map_append]
      have : (ws.take 1 ++ ws.drop 1) = ws := List.take_append_drop 1 ws
      rw [← this, List.map_append] at h
      exact (List.perm_append_comm.nodup_iff).1 h
    · unfold addL
      split
      · rename_i hb
        rw [List.map_append]
        unfold addB at hb
        rw [Bool.and_eq_true, decide_eq_true_eq] at hb
        have hp : pl ws t 0 = none := by
          rcases plI_cases ws t with ⟨_, h'⟩ | ⟨i, h', _⟩
          · exact h'
          · rw [h'] at hb; omega
        rw [List.nodup_append]
        refine ⟨h, by simp, ?_⟩
        intro a ha b hb'
        simp at hb'
        rw [hb']
        obtain ⟨w, hw, rfl⟩ := List.mem_map.1 ha
        exact pl_none hp w hw
      · exact h
structure InvP (a : Option (Nat × Nat)) (k : Nat) (l : List Step) (i : Nat) (t : Nat → AV) (H : AH) : Prop where
  all : ∃ r v x ws lw ex sz, t 3 = .p (some (r, 0)) ∧ t 4 = x ∧ t 15 = .sl a k lw ex sz ∧ t 16 = .i .i64 k ∧ t 17 = .i .i64 i ∧ H.o r = some (.row false [v]) ∧ r < H.n ∧ IsR H v ws ∧ IsR H x ws ∧ (ws.map (·.1)).Nodup ∧ ws.length ≤ i ∧ Steps H a k l ∧ (∀ b, a = some (b, 0) → b ≠ r)
theorem rs_one {H : AH} {b : Nat} {ex : Bool} {w : Wt} (hr : H.o b = some (.row false [.i .i64 w.1, .i .i64 w.2])) (hb : b < H.n) : Rs H (.sl (some (b, 0)) 1 1 ex 2) 2 1 ([w].flatMap wF) := ⟨rfl, _, _, _, _, rfl, Nat.le_refl _, Or.inr ⟨_, _, _, _, rfl, hb, hr, Nat.le_refl _, rfl⟩⟩
theorem play_fin {K0 : List AItem} {t : Nat → AV} {H : AH} {r q8 q10 q7 : Nat} {v v5 x : AV} {ws : List Wt} {w : Wt} {ok : Bool} (hl : ws.length ≤ 900)
    (t3 : t 3 = .p (some (r, 0))) (t4 : t 4 = x) (t7 : t 7 = .p (some (q7, 0))) (t8 : t 8 = .p (some (q8, 0))) (t9 : t 9 = .b ok) (t10 : t 10 = .p (some (q10, 0))) (t11 : t 11 = .b ok)
    (hr : H.o r = some (.row false [v])) (h7 : H.o q7 = some (.row false [v5])) (h8 : H.o q8 = some (.row false [.i .i64 w.1, .i .i64 w.2])) (h10 : H.o q10 = some (.row false [.i .i64 w.1, .i .i64 w.2]))
    (l7 : q7 < H.n) (l8 : q8 < H.n) (l10 : q10 < H.n) (lr : r < H.n) (d8 : q8 ≠ r) (d10 : q10 ≠ r) (hv5 : IsR H v5 ws) (hx : IsR H x ws) (Goal : Option (AV × AH) → Prop)
    (hg : ∀ t' H', (∀ j, j < 18 → j ≠ 12 → j ≠ 13 → t' j = t j) → Keeps (H.set r (.row false [v5])) H' → Goal (runR tbl a4 K0 t' H')) :
    Goal (runR tbl a4 (.code (.reg d4_14) :: .code (.seq (.reg d4_15) (.seq (.drw d4_16) (.cond (.t 102) (.seq (.reg d4_17) .ret) .skip))) :: K0) t H) := by
  obtain ⟨w1, w2⟩ := w
  have hz : ∀ u w : AV, setR [u] 0 [w] = [w] := fun _ _ => rfl
  have hz2 : ∀ a b : Int, setR [AV.i .i64 0, .i .i64 0] 0 [.i .i64 a, .i .i64 b] = [.i .i64 a, .i .i64 b] := fun _ _ => rfl
  obtain ⟨HA, hHA⟩ : ∃ HA, HA = H.set r (.row false [v5]) := ⟨_, rfl⟩
  have nA : HA.n = H.n := by rw [hHA]; rfl
  have oAr : HA.o r = some (.row false [v5]) := by rw [hHA, AH_set_o, if_pos rfl]
  have oA8 : HA.o q8 = some (.row false [.i .i64 w1, .i .i64 w2]) := by rw [hHA, AH_set_o, if_neg d8]; exact h8
  have oA10 : HA.o q10 = some (.row false [.i .i64 w1, .i .i64 w2]) := by rw [hHA, AH_set_o, if_neg d10]; exact h10
  have hvA : IsR HA v5 ws := by rw [hHA]; exact hv5.set hr
  have hxA : IsR HA x ws := by rw [hHA]; exact hx.set hr
  obtain ⟨H1, e1, k1⟩ := first_spec hvA
  generalize hf : firstV ws = f at e1
  obtain ⟨f1, f2⟩ := f
  obtain ⟨H2, hH2⟩ : ∃ H2, H2 = (H1.new (.row false [.i .i64 0, .i .i64 0])).set H1.n (.row false [.i .i64 f1, .i .i64 f2]) := ⟨_, rfl⟩
  have k2 : Keeps H1 H2 := by rw [hH2]; exact ((Keeps.refl _).new).set (Nat.le_refl _)
  have n2 : H2.n = H1.n + 1 := by rw [hH2]; rfl
  have o2f : H2.o H1.n = some (.row false [.i .i64 f1, .i .i64 f2]) := by rw [hH2, AH_set_o, if_pos rfl]
  have kA2 := k1.trans k2
  have o28 := (kA2.2 q8 (by omega)).trans oA8
  have o210 := (kA2.2 q10 (by omega)).trans oA10
  have o2r := (kA2.2 r (by omega)).trans oAr
  obtain ⟨H3, hH3⟩ : ∃ H3, H3 = (H2.new (.row false [.i .i64 w1, .i .i64 w2])).new (.row false [.i .i64 w1, .i .i64 w2]) := ⟨_, rfl⟩
  have k3 : Keeps H2 H3 := by rw [hH3]; exact ((Keeps.refl _).new).new
  have n3 : H3.n = H2.n + 2 := by rw [hH3]; rfl
  have s1 : H3.o H2.n = some (.row false [.i .i64 w1, .i .i64 w2]) := by rw [hH3]; simp only [adrn_nil, adrn_cons, adrn_g, gN_b, gN_u, nStep_0, nStep_1, nStep_2, nStep_3, nSkip_0, nSkip_1, nSkip_2, nSkip_3, thenN_some, thenNL_some, thenNC_some, adrw_nil, adrw_cons, adrw_g, AOp.kind, dStep_0, dStep_1, dStep_2, dStep_3, dSkip_0, dSkip_1, dSkip_2, dSkip_3, gD_b, gD_u, thenD_some, thenL_some, thenC_some, asame_one, asame_more, fst1_some, both_same, astill_nil, astill_0, astill_1, astill_2, astill_3, astill_4, astill_5, astill_6, astill_7, astill_8, astill_9, runR_seq, runR_skip, runR_cond', runR_block, runR_inBlock, runR_exit', exitR_some, aexit_inBlock, aexit_inLoop, aexit_code, runR_ret, runR_nil, regR_some, condR_b, aops_nil, aops_cons, aops_g, thenOps_some, gOps_b, gOps_u, put_some, put_none, upd_get, ev_t, ev_c, asX_nil, asX_cons, withH_some', withU_some', aop, ainit_get, afinish_def, aresults, aresult, aback, aload, astore, apart, aUn_not, aUn_neg, aUn_xor, aBin, aInt_add, aInt_sub, aInt_mul, aInt_quo, aInt_rem, aInt_and, aInt_or, aInt_xor, aInt_andn, aInt_eql, aInt_neq, aInt_lss, aInt_leq, aInt_gtr, aInt_geq, aInt_shl, aInt_shr, aEqN, optX, aslice, abound, acut, AV.cells, BinOp.isShift, Bool.bne_true, beq_self_eq_true, bne_self_eq_false, Bool.bne_false, Bool.true_bne, Bool.false_bne, beq_true, beq_false, Bool.true_beq, Bool.false_beq, Bool.not_true, Bool.not_false, Bool.false_eq_true, Bool.true_eq_false, reduceCtorEq, ↓reduceIte, List.getD_cons_zero, List.getD_cons_succ, List.getD_nil, List.length_cons, List.length_nil, List.getElem?_cons_zero, List.getElem?_cons_succ, List.getElem?_nil, List.take_succ_cons, List.take_zero, List.drop_succ_cons, List.drop_zero, List.cons_append, List.nil_append, Nat.reduceAdd, Nat.reduceMul, Nat.reduceSub, Nat.reduceLT, Nat.reduceLeDiff, Nat.reduceEqDiff, Nat.add_zero, Nat.zero_add, Nat.mul_one, ne_eq, not_true_eq_false, not_false_eq_true, true_and, and_true, false_and, and_false, true_or, or_true, false_or, or_false, if_true, if_false, Option.isNone_none, Option.isNone_some, decide_true, decide_false, Bool.not_eq_true, Option.some.injEq, Prod.mk.injEq, Nat.add_assoc, AH_new_o, AH_new_n, AH_set_o, AH_set_n, amakeSlice, afill, zerosA, aminmax, aEqC, afirst, acopy, aclear, Nat.add_eq_left, Nat.left_eq_add, Nat.add_left_cancel_iff, Nat.add_right_cancel_iff, Nat.succ_ne_self, eq_self, Nat.reduceSucc, Option.map_some, Option.map_none, List.set_cons_zero, List.append_nil, Int.reduceLE, Int.reduceLT, Int.reduceAdd, Int.reduceSub, Int.reduceMul, Int.reduceNeg, Int.reduceEq, Int.reduceToNat, Int.reduceBEq, Int.reduceBNe, Int.reducePow, GT.gt, GE.ge, wrap_i64, wrap_u8, wrap_u16, wrap_u32, wrap_u64, Int.reduceTMod, Int.toNat_zero, Int.toNat_one, cast_of, cast_0, cast_1, and_self, Bool.and_true, Bool.true_and, Bool.and_false, Bool.false_and, Bool.or_true, Bool.or_false, Bool.true_or, Bool.false_or]
  have s2 : H3.o (H2.n + 1) = some (.row false [.i .i64 w1, .i .i64 w2]) := by rw [hH3]; simp only [adrn_nil, adrn_cons, adrn_g, gN_b, gN_u, nStep_0, nStep_1, nStep_2, nStep_3, nSkip_0, nSkip_1, nSkip_2, nSkip_3, thenN_some, thenNL_some, thenNC_some, adrw_nil, adrw_cons, adrw_g, AOp.kind, dStep_0, dStep_1, dStep_2, dStep_3, dSkip_0, dSkip_1, dSkip_2, dSkip_3, gD_b, gD_u, thenD_some, thenL_some, thenC_some, asame_one, asame_more, fst1_some, both_same, astill_nil, astill_0, astill_1, astill_2, astill_3, astill_4, astill_5, astill_6, astill_7, astill_8, astill_9, runR_seq, runR_skip, runR_cond', runR_block, runR_inBlock, runR_exit', exitR_some, aexit_inBlock, aexit_inLoop, aexit_code, runR_ret, runR_nil, regR_some, condR_b, aops_nil, aops_cons, aops_g, thenOps_some, gOps_b, gOps_u, put_some, put_none, upd_get, ev_t, ev_c, asX_nil, asX_cons, withH_some', withU_some', aop, ainit_get, afinish_def, aresults, aresult, aback, aload, astore, apart, aUn_not, aUn_neg, aUn_xor, aBin, aInt_add, aInt_sub, aInt_mul, aInt_quo, aInt_rem, aInt_and, aInt_or, aInt_xor, aInt_andn, aInt_eql, aInt_neq, aInt_lss, aInt_leq, aInt_gtr, aInt_geq, aInt_shl, aInt_shr, aEqN, optX, aslice, abound, acut, AV.cells, BinOp.isShift, Bool.bne_true, beq_self_eq_true, bne_self_eq_false, Bool.bne_false, Bool.true_bne, Bool.false_bne, beq_true, beq_false, Bool.true_beq, Bool.false_beq, Bool.not_true, Bool.not_false, Bool.false_eq_true, Bool.true_eq_false, reduceCtorEq, ↓reduceIte, List.getD_cons_zero, List.getD_cons_succ, List.getD_nil, List.length_cons, List.length_nil, List.getElem?_cons_zero, List.getElem?_cons_succ, List.getElem?_nil, List.take_succ_cons, List.take_zero, List.drop_succ_cons, List.drop_zero, List.cons_append, List.nil_append, Nat.reduceAdd, Nat.reduceMul, Nat.reduceSub, Nat.reduceLT, Nat.reduceLeDiff, Nat.reduceEqDiff, Nat.add_zero, Nat.zero_add, Nat.mul_one, ne_eq, not_true_eq_false, not_false_eq_true, true_and, and_true, false_and, and_false, true_or, or_true, false_or, or_false, if_true, if_false, Option.isNone_none, Option.isNone_some, decide_true, decide_false, Bool.not_eq_true, Option.some.injEq, Prod.mk.injEq, Nat.add_assoc, AH_new_o, AH_new_n, AH_set_o, AH_set_n, amakeSlice, afill, zerosA, aminmax, aEqC, afirst, acopy, aclear, Nat.add_eq_left, Nat.left_eq_add, Nat.add_left_cancel_iff, Nat.add_right_cancel_iff, Nat.succ_ne_self, eq_self, Nat.reduceSucc, Option.map_some, Option.map_none, List.set_cons_zero, List.append_nil, Int.reduceLE, Int.reduceLT, Int.reduceAdd, Int.reduceSub, Int.reduceMul, Int.reduceNeg, Int.reduceEq, Int.reduceToNat, Int.reduceBEq, Int.reduceBNe, Int.reducePow, GT.gt, GE.ge, wrap_i64, wrap_u8, wrap_u16, wrap_u32, wrap_u64, Int.reduceTMod, Int.toNat_zero, Int.toNat_one, cast_of, cast_0, cast_1, and_self, Bool.and_true, Bool.true_and, Bool.and_false, Bool.false_and, Bool.or_true, Bool.or_false, Bool.true_or, Bool.false_or]
  obtain ⟨H4, e4, k4⟩ := same_spec (ws := [(w1, w2)]) rfl (rs_one (ex := true) (w := (w1, w2)) s1 (by omega)) (rs_one (ex := true) (w := (w1, w2)) s2 (by omega)) (by simp)
  have kA4 := (kA2.trans k3).trans k4
  have o4r := (kA4.2 r (by omega)).trans oAr
  obtain ⟨v6, H5, e5, h5, k5⟩ := all_spec (hvA.keeps kA4) (by omega)
  have kA5 := kA4.trans k5
  obtain ⟨H6, e6, k6⟩ := same_spec rfl h5.rs (hxA.keeps kA5).rs (by omega)
  have kA6 := kA5.trans k6
  have o6r := (kA6.2 r (by omega)).trans oAr
  obtain ⟨H7, e7, k7⟩ := len_spec (hvA.keeps kA6)
  have kA7 := kA6.trans k7
  have o7f := (((((k3.trans k4).trans k5).trans k6).trans k7).2 H1.n (by omega)).trans o2f
  have b0 : ((ws.length : Int) != ws.length) = false := by simp
  have hokk : (ok == ok) = true := by cases ok <;> rfl
  by_cases h0 : ws.length = 0
  · have hd : decide (0 < ws.length) = false := decide_eq_false (by omega)
    have hd' : decide ((0 : Int) < ws.length) = false := decide_eq_false (by omega)
    rw [hd] at e1
    obtain ⟨y5, lo5, ex5, sz5, rfl⟩ := hv5.len
    obtain ⟨yx, lox, exx, szx, rfl⟩ := hx.len
    obtain ⟨y6, lo6, ex6, sz6, rfl⟩ := h5.len
    simp only [c4, b4, s4, r4_14, r4_15, r4_16, r4_17, r4_18, adrn_nil, adrn_cons, adrn_g, gN_b, gN_u, nStep_0, nStep_1, nStep_2, nStep_3, nSkip_0, nSkip_1, nSkip_2, nSkip_3, thenN_some, thenNL_some, thenNC_some, adrw_nil, adrw_cons, adrw_g, AOp.kind, dStep_0, dStep_1, dStep_2, dStep_3, dSkip_0, dSkip_1, dSkip_2, dSkip_3, gD_b, gD_u, thenD_some, thenL_some, thenC_some, asame_one, asame_more, fst1_some, both_same, astill_nil, astill_0, astill_1, astill_2, astill_3, astill_4, astill_5, astill_6, astill_7, astill_8, astill_9, runR_seq, runR_skip, runR_cond', runR_block, runR_inBlock, runR_exit', exitR_some, aexit_inBlock, aexit_inLoop, aexit_code, runR_ret, runR_nil, regR_some, condR_b, aops_nil, aops_cons, aops_g, thenOps_some, gOps_b, gOps_u, put_some, put_none, upd_get, ev_t, ev_c, asX_nil, asX_cons, withH_some', withU_some', aop, ainit_get, afinish_def, aresults, aresult, aback, aload, astore, apart, aUn_not, aUn_neg, aUn_xor, aBin, aInt_add, aInt_sub, aInt_mul, aInt_quo, aInt_rem, aInt_and, aInt_or, aInt_xor, aInt_andn, aInt_eql, aInt_neq, aInt_lss, aInt_leq, aInt_gtr, aInt_geq, aInt_shl, aInt_shr, aEqN, optX, AV.cells, BinOp.isShift, Bool.bne_true, beq_self_eq_true, bne_self_eq_false, Bool.bne_false, Bool.true_bne, Bool.false_bne, beq_true, beq_false, Bool.true_beq, Bool.false_beq, Bool.not_true, Bool.not_false, Bool.false_eq_true, Bool.true_eq_false, reduceCtorEq, ↓reduceIte, List.getD_cons_zero, List.getD_cons_succ, List.getD_nil, List.length_cons, List.length_nil, List.getElem?_cons_zero, List.getElem?_cons_succ, List.getElem?_nil, List.take_succ_cons, List.take_zero, List.drop_succ_cons, List.drop_zero, List.cons_append, List.nil_append, Nat.reduceAdd, Nat.reduceMul, Nat.reduceSub, Nat.reduceLT, Nat.reduceLeDiff, Nat.reduceEqDiff, Nat.add_zero, Nat.zero_add, Nat.mul_one, ne_eq, not_true_eq_false, not_false_eq_true, true_and, and_true, false_and, and_false, true_or, or_true, false_or, or_false, if_true, if_false, Option.isNone_none, Option.isNone_some, decide_true, decide_false, Bool.not_eq_true, Option.some.injEq, Prod.mk.injEq, Nat.add_assoc, AH_new_o, AH_new_n, AH_set_o, AH_set_n, amakeSlice, afill, zerosA, aminmax, aEqC, afirst, acopy, aclear, Nat.add_eq_left, Nat.left_eq_add, Nat.add_left_cancel_iff, Nat.add_right_cancel_iff, Nat.succ_ne_self, eq_self, Nat.reduceSucc, Option.map_some, Option.map_none, List.set_cons_zero, List.append_nil, Int.reduceLE, Int.reduceLT, Int.reduceAdd, Int.reduceSub, Int.reduceMul, Int.reduceNeg, Int.reduceEq, Int.reduceToNat, Int.reduceBEq, Int.reduceBNe, Int.reducePow, GT.gt, GE.ge, wrap_i64, wrap_u8, wrap_u16, wrap_u32, wrap_u64, Int.reduceTMod, Int.toNat_zero, Int.toNat_one, cast_of, cast_0, cast_1, and_self, Bool.and_true, Bool.true_and, Bool.and_false, Bool.false_and, Bool.or_true, Bool.or_false, Bool.true_or, Bool.false_or, AV.cells, t3, t4, t7, t8, t9, t10, t11, h7, hr, hz, hz2, ← hHA, oAr, e1, ← hH2, hokk, o28, o210, o2r, ← hH3, e4, o4r, e5, e6, o6r, e7, b0, hd', fst1_some, both_same, asame_one, asame_more]
    refine hg _ _ (fun j h1 h2 h3 => ?_) (by rw [← hHA]; exact kA7)
    simp only [upd_get]
    repeat rw [if_neg (by omega)]
  · have hd : decide (0 < ws.length) = true := decide_eq_true (by omega)
    have hd' : decide ((0 : Int) < ws.length) = true := decide_eq_true (by omega)
    rw [hd] at e1
    obtain ⟨a8, lo8, ex8, sz8, e8, r8⟩ := slice_to (k := .i64) (h' := 1) (hxA.keeps kA7) (by omega)
    rw [flat_take] at r8
    rw [show (some (AV.i .i64 ((1 : Nat) : Int))) = some (AV.i .i64 1) from rfl] at e8
    have htk : ws.take 1 = [(f1, f2)] := by
      unfold firstV at hf
      cases ws with
      | nil => simp at h0
      | cons w ws => simp at hf; simp [hf]
    rw [htk] at r8
    obtain ⟨H8, hH8⟩ : ∃ H8, H8 = H7.new (.row false [.i .i64 f1, .i .i64 f2]) := ⟨_, rfl⟩
    have k8 : Keeps H7 H8 := by rw [hH8]; exact (Keeps.refl _).new
    have n8 : H8.n = H7.n + 1 := by rw [hH8]; rfl
    have s8 : H8.o H7.n = some (.row false [.i .i64 f1, .i .i64 f2]) := by rw [hH8, AH_new_o, if_pos rfl]
    obtain ⟨H9, e9, k9⟩ := same_spec (ws := [(f1, f2)]) rfl (rs_one (ex := true) (w := (f1, f2)) s8 (by omega)) (r8.keeps k8) (by simp)
    obtain ⟨y5, lo5, ex5, sz5, rfl⟩ := hv5.len
    obtain ⟨yx, lox, exx, szx, rfl⟩ := hx.len
    obtain ⟨y6, lo6, ex6, sz6, rfl⟩ := h5.len
    simp only [c4, b4, s4, r4_14, r4_15, r4_16, r4_17, r4_18, adrn_nil, adrn_cons, adrn_g, gN_b, gN_u, nStep_0, nStep_1, nStep_2, nStep_3, nSkip_0, nSkip_1, nSkip_2, nSkip_3, thenN_some, thenNL_some, thenNC_some, adrw_nil, adrw_cons, adrw_g, AOp.kind, dStep_0, dStep_1, dStep_2, dStep_3, dSkip_0, dSkip_1, dSkip_2, dSkip_3, gD_b, gD_u, thenD_some, thenL_some, thenC_some, asame_one, asame_more, fst1_some, both_same, astill_nil, astill_0, astill_1, astill_2, astill_3, astill_4, astill_5, astill_6, astill_7, astill_8, astill_9, runR_seq, runR_skip, runR_cond', runR_block, runR_inBlock, runR_exit', exitR_some, aexit_inBlock, aexit_inLoop, aexit_code, runR_ret, runR_nil, regR_some, condR_b, aops_nil, aops_cons, aops_g, thenOps_some, gOps_b, gOps_u, put_some, put_none, upd_get, ev_t, ev_c, asX_nil, asX_cons, withH_some', withU_some', aop, ainit_get, afinish_def, aresults, aresult, aback, aload, astore, apart, aUn_not, aUn_neg, aUn_xor, aBin, aInt_add, aInt_sub, aInt_mul, aInt_quo, aInt_rem, aInt_and, aInt_or, aInt_xor, aInt_andn, aInt_eql, aInt_neq, aInt_lss, aInt_leq, aInt_gtr, aInt_geq, aInt_shl, aInt_shr, aEqN, optX, AV.cells, BinOp.isShift, Bool.bne_true, beq_self_eq_true, bne_self_eq_false, Bool.bne_false, Bool.true_bne, Bool.false_bne, beq_true, beq_false, Bool.true_beq, Bool.false_beq, Bool.not_true, Bool.not_false, Bool.false_eq_true, Bool.true_eq_false, reduceCtorEq, ↓reduceIte, List.getD_cons_zero, List.getD_cons_succ, List.getD_nil, List.length_cons, List.length_nil, List.getElem?_cons_zero, List.getElem?_cons_succ, List.getElem?_nil, List.take_succ_cons, List.take_zero, List.drop_succ_cons, List.drop_zero, List.cons_append, List.nil_append, Nat.reduceAdd, Nat.reduceMul, Nat.reduceSub, Nat.reduceLT, Nat.reduceLeDiff, Nat.reduceEqDiff, Nat.add_zero, Nat.zero_add, Nat.mul_one, ne_eq, not_true_eq_false, not_false_eq_true, true_and, and_true, false_and, and_false, true_or, or_true, false_or, or_false, if_true, if_false, Option.isNone_none, Option.isNone_some, decide_true, decide_false, Bool.not_eq_true, Option.some.injEq, Prod.mk.injEq, Nat.add_assoc, AH_new_o, AH_new_n, AH_set_o, AH_set_n, amakeSlice, afill, zerosA, aminmax, aEqC, afirst, acopy, aclear, Nat.add_eq_left, Nat.left_eq_add, Nat.add_left_cancel_iff, Nat.add_right_cancel_iff, Nat.succ_ne_self, eq_self, Nat.reduceSucc, Option.map_some, Option.map_none, List.set_cons_zero, List.append_nil, Int.reduceLE, Int.reduceLT, Int.reduceAdd, Int.reduceSub, Int.reduceMul, Int.reduceNeg, Int.reduceEq, Int.reduceToNat, Int.reduceBEq, Int.reduceBNe, Int.reducePow, GT.gt, GE.ge, wrap_i64, wrap_u8, wrap_u16, wrap_u32, wrap_u64, Int.reduceTMod, Int.toNat_zero, Int.toNat_one, cast_of, cast_0, cast_1, and_self, Bool.and_true, Bool.true_and, Bool.and_false, Bool.false_and, Bool.or_true, Bool.or_false, Bool.true_or, Bool.false_or, AV.cells, t3, t4, t7, t8, t9, t10, t11, h7, hr, hz, hz2, ← hHA, oAr, e1, ← hH2, hokk, o28, o210, o2r, ← hH3, e4, o4r, e5, e6, o6r, e7, b0, hd', o7f, ← hH8, e8, e9, fst1_some, both_same, asame_one, asame_more]
    refine hg _ _ (fun j h1 h2 h3 => ?_) (by rw [← hHA]; exact (kA7.trans k8).trans k9)
    simp only [upd_get]
    repeat rw [if_neg (by omega)]
end Go.Proofs.Ytehkhecmkncfoaa.Abs
