/- Each slot is in use, or on just one list. No condition of its own. -/
import Derived.Test.YthcibbfljcfheaaApart
namespace Go.Proofs.Ythcibbfljcfheaa.Abs
set_option linter.unusedSimpArgs false
set_option linter.unusedVariables false
set_option maxRecDepth 100000
set_option maxHeartbeats 8000000
theorem u8_in {a : Int} (h : (Lit.int .u8 a).wf = true) : ∃ k : Nat, a = (k : Int) ∧ k ≤ 255 := by
  have hw : 0 ≤ a ∧ a ≤ 255 := by simpa [Lit.wf, IntKind.min, IntKind.max, IntKind.signed, IntKind.bits] using h
  obtain ⟨k, rfl⟩ := Int.eq_ofNat_of_zero_le hw.1
  exact ⟨k, rfl, by omega⟩
theorem tmod_nat (k d : Nat) : Int.tmod (k : Int) (d : Int) = ((k % d : Nat) : Int) := by
  rw [Int.tmod_eq_emod_of_nonneg (by omega)]
  exact (Int.natCast_emod k d).symm
theorem apart_law (a : Int) (wa : (Lit.int .u8 a).wf = true) (b : Int) (wb : (Lit.int .u8 b).wf = true) (l : List St3) (ok : ∀ x ∈ l, (Lit.int .u8 x.1).wf = true ∧ (Lit.int .i64 x.2.1).wf = true ∧ (Lit.int .i64 x.2.2).wf = true) (H : AH) (x : AV) (hx : IsIn H x 3 l.length (l.flatMap stepF)) : ∃ H', callR tbl 3 [.i .u8 a, .i .u8 b, x] H = some (.b true, H') := by
  obtain ⟨ka, rfl, hka⟩ := u8_in wa
  obtain ⟨kb, rfl, hkb⟩ := u8_in wb
  have hro0 := isIn_ro hx (stepF_len l)
  obtain ⟨v, eS, hv⟩ := short_spec hro0
  obtain ⟨L, hL⟩ : ∃ L, L = l.take 120 := ⟨_, rfl⟩
  rw [← hL] at hv
  have hl : L.length ≤ 120 := by rw [hL, List.length_take]; omega
  obtain ⟨va, lo, ex, sz', hve⟩ := hv.len
  subst hve
  obtain ⟨n, hn⟩ : ∃ n, n = ka % 12 + 1 := ⟨_, rfl⟩
  obtain ⟨bl, hbl⟩ : ∃ bl, bl = kb % 5 + 1 := ⟨_, rfl⟩
  have m1 : Int.tmod (ka : Int) 12 = ((ka % 12 : Nat) : Int) := tmod_nat ka 12
  have m2 : Int.tmod (kb : Int) 5 = ((kb % 5 : Nat) : Int) := tmod_nat kb 5
  have w1 : IntKind.i64.wrap (ka : Int) = (ka : Int) := wrap_i64 (by omega)
  have w2 : IntKind.i64.wrap (kb : Int) = (kb : Int) := wrap_i64 (by omega)
  have w3 : IntKind.i64.wrap (((ka % 12 : Nat) : Int) + 1) = (n : Int) := by rw [wrap_i64 (by omega)]; omega
  have w4 : IntKind.i64.wrap (((kb % 5 : Nat) : Int) + 1) = (bl : Int) := by rw [wrap_i64 (by omega)]; omega
  have hpar : 1 ≤ n ∧ n ≤ 4096 ∧ 1 ≤ bl ∧ bl ≤ 64 := by omega
  refine Sp.tt fun Q hQ => ?_
  simp only [c3, b3, runR_seq, r3_0, aops_cons, aop, ev_c, thenOps_some, put_some, aops_nil, regR_some, r3_1, ev_t, upd_get, reduceCtorEq, ↓reduceIte, ainit_get, List.getD_cons_zero, w1, aBin, BinOp.isShift, Bool.false_eq_true, or_true, aInt_rem, Int.reduceEq, m1, withH_some', aInt_add, w3, r3_2, Nat.reduceEqDiff, List.getD_cons_succ, w2, m2, w4, asX_cons, asX_nil]
  refine Sp.c2 (f := fun _ => .tup [.p (some (H.n, 0)), .i .i64 0]) (new_spec (H := H) hpar) ?_
  rintro R0 H0 ⟨t0, k0, f0⟩
  obtain ⟨m, hm⟩ : ∃ m, m = H.n := ⟨_, rfl⟩
  rw [← hm] at t0 f0
  simp only [← hm, put_some, aops_cons, aop, ev_t, upd_get, ↓reduceIte, thenOps_some, List.getElem?_cons_zero, withH_some', Nat.reduceEqDiff, List.getElem?_cons_succ, aops_nil, regR_some, runR_seq, r3_3, aEqN, ev_c, bne_self_eq_false, aops_g, gOps_b, aBin, BinOp.isShift, Bool.false_eq_true, or_true, aInt_neq, runR_cond', condR_b, runR_skip, r3_5, ainit_get, List.getD_cons_succ, List.getD_cons_zero, asX_cons, asX_nil, eS, runR_block]
  rw [runR_loop, ← runR_inLoop]
  refine loop_law L.length (fun i t' H' => t' 7 = .i .i64 n ∧ t' 8 = .p (some (m, 0)) ∧ t' 37 = .sl va L.length lo ex sz' ∧ t' 38 = .i .i64 L.length ∧ t' 39 = .i .i64 i ∧ Keeps H H' ∧ ∃ S R, IsT H' m n bl S R ∧ Gd n bl S ∧ ∀ c, FT m R c → H.n ≤ c) (fun r => Sp r Q) ?_ ?_ 0 _ H0 (Nat.zero_le _) ⟨?_, ?_, ?_, ?_, ?_, k0, SL.new, R0, t0, gd_new hpar, fun c hc => by rw [← hm]; exact f0 c hc⟩
  · rintro i t' H' hi ⟨q7, q8, q37, q38, q39, k, S, R, hT, hG, hF⟩ ih
    have c1 : decide ((i : Int) < (L.length : Int)) = true := by simp; omega
    have c2 : 0 ≤ (i : Int) ∧ (i : Int) < (L.length : Int) := by omega
    have hwi := wr1 (i := i) (by omega)
    obtain ⟨s, hs⟩ : ∃ y, L[i]? = some y := ⟨_, List.getElem?_eq_getElem hi⟩
    obtain ⟨b, o, lo', ex', sz2, ro, full, e', hbn, hr, hfl, _, hel⟩ := hv.rs.el hi
    cases e'
    rw [(flat_at (f := stepF) (sz := 3) (fun _ => rfl) L i s hs).1] at hel
    have hel' : (full.drop (o + i * 3)).take 3 = [.i .u8 s.1, .i .i64 s.2.1, .i .i64 s.2.2] := hel
    rw [Nat.add_assoc] at hfl
    have hr1 := (k.2 b hbn).trans hr
    have hk1 := k.1
    have hne : b ≠ H'.n := by omega
    obtain ⟨HS, hHS⟩ : ∃ HS, HS = (H'.new (.row false [.i .u8 0, .i .i64 0, .i .i64 0])).set H'.n (.row false [.i .u8 s.1, .i .i64 s.2.1, .i .i64 s.2.2]) := ⟨_, rfl⟩
    have kS : Keeps H' HS := by rw [hHS]; exact (Keeps.refl _).new.set (Nat.le_refl _)
    have oS : HS.o H'.n = some (.row false [.i .u8 s.1, .i .i64 s.2.1, .i .i64 s.2.2]) := by rw [hHS, AH_set_o, if_pos rfl]
    obtain ⟨th, hth, hth3⟩ := and3 s.2.1
    obtain ⟨kk, hkk, hkk15⟩ := and15 s.2.2
    have hTS := hT.keeps kS
    have kHS := k.trans kS
    have fin : ∀ (t2 : Nat → AV) (H2 : AH) (S2 : SL) (R2 : List AV), t2 7 = .i .i64 n → t2 8 = .p (some (m, 0)) → t2 37 = .sl (some (b, o)) L.length lo ex sz' → t2 38 = .i .i64 L.length → t2 39 = .i .i64 i → t2 12 = .mp (some H2.n) → t2 13 = .i .i64 (-1) → IsT H2 m n bl S2 R2 → Gd n bl S2 → Trn HS H2 (FT m R) (FT m R2) →
        Sp (runR tbl a3 (.inLoop l3_29 :: .inBlock 3 :: .inBlock 1 :: .code (.reg d3_30) :: .inLoop l3_31 :: .inBlock 0 :: .code (.seq (.reg d3_32) .ret) :: []) t2 (H2.new (.mapo [] ([], 0)))) Q := by
      intro t2 H2 S2 R2 z7 z8 z37 z38 z39 z12 z13 hT2 hG2 tr
      obtain ⟨k2, f2⟩ := tr.kp kHS hF
      refine ap_all (hT2.keeps (Keeps.refl _).new) hG2 IsMp.mk0 (fun hf => by have := hT2.old hf; omega) z7 z8 z12 z13 ?_
      intro t3 H3 y7 y8 y37 y38 y39 hT3 n3 o3
      rw [z37] at y37
      rw [z38] at y38
      rw [z39] at y39
      simp only [runR_inBlock, r3_30, aops_cons, aop, aBin, ev_t, y39, ev_c, BinOp.isShift, Bool.false_eq_true, or_true, ↓reduceIte, aInt_add, hwi, withH_some', thenOps_some, put_some, upd_get, aops_nil, regR_some]
      have n3' : H2.n + 1 ≤ H3.n := by rw [AH_new_n] at n3; omega
      refine ih _ _ ⟨?_, ?_, ?_, ?_, ?_, ⟨by have := k2.1; omega, fun c hc => ?_⟩, S2, R2, hT3, hG2, f2⟩
      case refine_6 =>
        have := k2.1
        rw [o3 c (by rw [AH_new_n]; omega) (by omega), AH_new_o, if_neg (by omega), k2.2 c hc]
      all_goals simp only [upd_get, Nat.reduceEqDiff, ↓reduceIte, y37, y8, y7, y38]
    by_cases r1 : s.1.tmod 4 = 1
    · have x1 : (s.1.tmod 4 == 1) = true := by simpa using r1
      simp only [l3_31, runR_seq, r3_6, aops_cons, aop, aBin, ev_t, q39, q38, BinOp.isShift, Bool.false_eq_true, or_true, ↓reduceIte, aInt_lss, c2, decide_true, withH_some', thenOps_some, put_some, aops_nil, regR_some, runR_cond', upd_get, condR_b, runR_skip, runR_block, r3_7, Nat.reduceEqDiff, q37, and_self, Int.toNat_natCast, aload, hr1, apart, Nat.add_assoc, hfl, hel', astore, hn_o, AV.cells, List.length_cons, List.length_nil, Nat.zero_add, Nat.reduceAdd, Nat.reduceLeDiff, setR_z, setR_e, ← hHS, withU_some', put_none, r3_8, Nat.add_zero, oS, List.getElem?_cons_zero, ev_c, aInt_rem, Int.reduceEq, r3_9, aInt_eql, x1, r3_10, q8, List.getElem?_cons_succ, aInt_and, hth, hkk, asX_cons, asX_nil]
      refine Sp.c2 (f := fun _ => .i .i64 (if S.usd kk then 0 else 1)) (free_any hTS hG (by omega) (kk : Int)) ?_
      rintro R2 H2 ⟨hT2, hG2, tr⟩
      simp only [put_some, aops_nil, regR_some, runR_inBlock, runR_seq, r3_14, aops_cons, aop, mapo_nil, thenOps_some, ev_t, upd_get, ↓reduceIte, r3_15, Int.reduceNeg, ev_c, runR_block]
      rw [runR_loop, ← runR_inLoop]
      refine fin _ H2 _ R2 ?_ ?_ ?_ ?_ ?_ ?_ ?_ hT2 hG2 tr
      all_goals simp only [Int.reduceNeg, upd_get, Nat.reduceEqDiff, ↓reduceIte, q7, q37, q39, q8, q38]
    · have x1 : (s.1.tmod 4 == 1) = false := by simpa using r1
      by_cases r2 : s.1.tmod 4 = 2
      · have x2 : (s.1.tmod 4 == 2) = true := by simpa using r2
        simp only [l3_31, runR_seq, r3_6, aops_cons, aop, aBin, ev_t, q39, q38, BinOp.isShift, Bool.false_eq_true, or_true, ↓reduceIte, aInt_lss, c2, decide_true, withH_some', thenOps_some, put_some, aops_nil, regR_some, runR_cond', upd_get, condR_b, runR_skip, runR_block, r3_7, Nat.reduceEqDiff, q37, and_self, Int.toNat_natCast, aload, hr1, apart, Nat.add_assoc, hfl, hel', astore, hn_o, AV.cells, List.length_cons, List.length_nil, Nat.zero_add, Nat.reduceAdd, Nat.reduceLeDiff, setR_z, setR_e, ← hHS, withU_some', put_none, r3_8, Nat.add_zero, oS, List.getElem?_cons_zero, ev_c, aInt_rem, Int.reduceEq, r3_9, aInt_eql, x1, r3_11, x2, r3_12, q8, List.getElem?_cons_succ, aInt_and, hth, asX_cons, asX_nil]
        refine Sp.c2 (f := fun _ => .i .i64 (S.own (th : Int)).length) (flush_any hTS hG (th : Int)) ?_
        rintro R2 H2 ⟨hT2, hG2, tr⟩
        simp only [put_some, aops_nil, regR_some, runR_inBlock, runR_seq, r3_14, aops_cons, aop, mapo_nil, thenOps_some, ev_t, upd_get, ↓reduceIte, r3_15, Int.reduceNeg, ev_c, runR_block]
        rw [runR_loop, ← runR_inLoop]
        refine fin _ H2 _ R2 ?_ ?_ ?_ ?_ ?_ ?_ ?_ hT2 hG2 tr
        all_goals simp only [Int.reduceNeg, upd_get, Nat.reduceEqDiff, ↓reduceIte, q7, q37, q39, q8, q38]
      · have x2 : (s.1.tmod 4 == 2) = false := by simpa using r2
        simp only [l3_31, runR_seq, r3_6, aops_cons, aop, aBin, ev_t, q39, q38, BinOp.isShift, Bool.false_eq_true, or_true, ↓reduceIte, aInt_lss, c2, decide_true, withH_some', thenOps_some, put_some, aops_nil, regR_some, runR_cond', upd_get, condR_b, runR_skip, runR_block, r3_7, Nat.reduceEqDiff, q37, and_self, Int.toNat_natCast, aload, hr1, apart, Nat.add_assoc, hfl, hel', astore, hn_o, AV.cells, List.length_cons, List.length_nil, Nat.zero_add, Nat.reduceAdd, Nat.reduceLeDiff, setR_z, setR_e, ← hHS, withU_some', put_none, r3_8, Nat.add_zero, oS, List.getElem?_cons_zero, ev_c, aInt_rem, Int.reduceEq, r3_9, aInt_eql, x1, r3_11, x2, r3_13, q8, List.getElem?_cons_succ, aInt_and, hth, asX_cons, asX_nil]
        refine Sp.c2 (f := fun _ => .tup [.i .i64 (S.take n bl th).1.1, .i .u32 (S.take n bl th).1.2.1, .i .i64 (S.take n bl th).1.2.2]) (take_any hTS hG (by omega)) ?_
        rintro R2 H2 ⟨hT2, hG2, tr⟩
        simp only [put_some, aops_nil, regR_some, runR_inBlock, runR_seq, r3_14, aops_cons, aop, mapo_nil, thenOps_some, ev_t, upd_get, ↓reduceIte, r3_15, Int.reduceNeg, ev_c, runR_block]
        rw [runR_loop, ← runR_inLoop]
        refine fin _ H2 _ R2 ?_ ?_ ?_ ?_ ?_ ?_ ?_ hT2 hG2 tr
        all_goals simp only [Int.reduceNeg, upd_get, Nat.reduceEqDiff, ↓reduceIte, q7, q37, q39, q8, q38]
  · rintro t' H' ⟨q7, q8, q37, q38, q39, k, S, R, hT, hG, hF⟩
    have c1 : decide ((L.length : Int) < (L.length : Int)) = false := by simp
    obtain ⟨HE, eE⟩ := alive_spec (H := H')
    simp only [l3_31, runR_seq, r3_6, aops_cons, aop, aBin, ev_t, q39, q38, BinOp.isShift, Bool.false_eq_true, or_true, ↓reduceIte, aInt_lss, c1, withH_some', thenOps_some, put_some, aops_nil, regR_some, runR_cond', upd_get, condR_b, runR_exit', aexit_code, aexit_inLoop, aexit_inBlock, exitR_some, r3_32, asX_nil, eE, runR_ret, afinish_def, s3, aresults, aresult, aback]
    exact Sp.ret (hQ _)
  all_goals simp only [upd_get, Nat.reduceEqDiff, ↓reduceIte, cast_of]
end Go.Proofs.Ythcibbfljcfheaa.Abs
