/- No slot and generation are told twice. No condition of its own. -/
import Derived.Test.YthcibbfljcfheaaOncePure
namespace Go.Proofs.Ythcibbfljcfheaa.Abs
set_option linter.unusedSimpArgs false
set_option linter.unusedVariables false
set_option maxRecDepth 100000
set_option maxHeartbeats 8000000
theorem u8_in' {a : Int} (h : (Lit.int .u8 a).wf = true) : ∃ k : Nat, a = (k : Int) ∧ k ≤ 255 := by
  have hw : 0 ≤ a ∧ a ≤ 255 := by simpa [Lit.wf, IntKind.min, IntKind.max, IntKind.signed, IntKind.bits] using h
  obtain ⟨k, rfl⟩ := Int.eq_ofNat_of_zero_le hw.1
  exact ⟨k, rfl, by omega⟩
theorem tmod_nat' (k d : Nat) : Int.tmod (k : Int) (d : Int) = ((k % d : Nat) : Int) := by
  rw [Int.tmod_eq_emod_of_nonneg (by omega)]
  exact (Int.natCast_emod k d).symm
theorem usd_usG (S : SL) (n : Int) : S.usd n = usG S.gs n := rfl
/-- What holds in the loop. -/
structure OV (H0 H : AH) (m n bl w1 w2 : Nat) (i : Nat) (S : SL) (R : List AV) (lm : MP) (ml : ML) : Prop where
  t : IsT H m n bl S R
  g : Gd n bl S
  b : Bal S
  k : Keeps H0 H
  f : ∀ c, FT m R c → H0.n ≤ c
  p1 : IsPp .i64 .u32 H w1 lm
  p2 : IsMp H w2 ml
  f1 : ¬ FT m R w1
  f2 : ¬ FT m R w2
  n12 : w1 ≠ w2
  o1 : H0.n ≤ w1
  o2 : H0.n ≤ w2
  mt : Mt lm S.gs
  us : ∀ u, (mget ml u).getD (.b false) = .b (usG S.gs u)
  gb : Gb i S.gs
theorem OV.keeps {H0 H H' : AH} {m n bl w1 w2 i : Nat} {S : SL} {R : List AV} {lm : MP} {ml : ML} (h : OV H0 H m n bl w1 w2 i S R lm ml) (k : Keeps H H') : OV H0 H' m n bl w1 w2 i S R lm ml :=
  { h with t := h.t.keeps k, k := h.k.trans k, p1 := h.p1.keeps k, p2 := h.p2.keeps k }
/-- The table turned. -/
theorem OV.turn {H0 H H' : AH} {m n bl w1 w2 i i' : Nat} {S S' : SL} {R R' : List AV} {lm : MP} {ml : ML} (h : OV H0 H m n bl w1 w2 i S R lm ml) (t' : IsT H' m n bl S' R') (g' : Gd n bl S') (b' : Bal S') (tr : Trn H H' (FT m R) (FT m R')) (mt' : Mt lm S'.gs) (us' : ∀ u, (mget ml u).getD (.b false) = .b (usG S'.gs u)) (gb' : Gb i' S'.gs) : OV H0 H' m n bl w1 w2 i' S' R' lm ml := by
  obtain ⟨k2, f2⟩ := tr.kp h.k h.f
  exact { h with
    t := t', g := g', b := b', k := k2, f := f2
    p1 := h.p1.keep tr.n (tr.o w1 h.p1.lt h.f1)
    p2 := h.p2.keep tr.n (tr.o w2 h.p2.lt h.f2)
    f1 := fun hf => (tr.f w1 hf).elim h.f1 (fun e => by have := h.p1.lt; omega)
    f2 := fun hf => (tr.f w2 hf).elim h.f2 (fun e => by have := h.p2.lt; omega)
    mt := mt', us := us', gb := gb' }
/-- The one map set. -/
theorem OV.set2 {H0 H : AH} {m n bl w1 w2 i : Nat} {S : SL} {R : List AV} {lm : MP} {ml : ML} (t : IsT H m n bl S R) (g : Gd n bl S) (b : Bal S) (k : Keeps H0 H) (f : ∀ c, FT m R c → H0.n ≤ c) (p1 : IsPp .i64 .u32 H w1 lm) (p2 : IsMp H w2 ml) (f1 : ¬ FT m R w1) (f2 : ¬ FT m R w2) (n12 : w1 ≠ w2) (o1 : H0.n ≤ w1) (o2 : H0.n ≤ w2) (mt : Mt lm S.gs) (gb : Gb i S.gs) (a : Int) (x : Bool) (bc : List Nat × Nat) (us : ∀ u, (if u = a then some (AV.b x) else mget ml u).getD (.b false) = .b (usG S.gs u)) :
    OV H0 (H.set w2 (.mapo (mE (mput ml a (.b x))) bc)) m n bl w1 w2 i S R lm (mput ml a (.b x)) :=
  ⟨t.keep (Nat.le_refl _) (fun c hc => hs_off (fun e => f2 (by rw [← e]; exact hc))), g, b, ⟨k.1, fun c hc => by rw [hs_off (by omega)]; exact k.2 c hc⟩, f, p1.off n12, p2.put a _ bc, f1, f2, n12, o1, o2, mt, fun u => by rw [mget_put]; exact us u, gb⟩
theorem once_law (a : Int) (wa : (Lit.int .u8 a).wf = true) (b : Int) (wb : (Lit.int .u8 b).wf = true) (l : List St3) (ok : ∀ x ∈ l, (Lit.int .u8 x.1).wf = true ∧ (Lit.int .i64 x.2.1).wf = true ∧ (Lit.int .i64 x.2.2).wf = true) (H : AH) (x : AV) (hx : IsIn H x 3 l.length (l.flatMap stepF)) : ∃ H', callR tbl 4 [.i .u8 a, .i .u8 b, x] H = some (.b true, H') := by
  obtain ⟨ka, rfl, hka⟩ := u8_in' wa
  obtain ⟨kb, rfl, hkb⟩ := u8_in' wb
  have hro0 := isIn_ro hx (stepF_len l)
  obtain ⟨v, eS, hv⟩ := short_spec hro0
  obtain ⟨L, hL⟩ : ∃ L, L = l.take 120 := ⟨_, rfl⟩
  rw [← hL] at hv
  have hl : L.length ≤ 120 := by rw [hL, List.length_take]; omega
  obtain ⟨va, lo, ex, sz', hve⟩ := hv.len
  subst hve
  obtain ⟨n, hn⟩ : ∃ n, n = ka % 12 + 1 := ⟨_, rfl⟩
  obtain ⟨bl, hbl⟩ : ∃ bl, bl = kb % 5 + 1 := ⟨_, rfl⟩
  have m1 : Int.tmod (ka : Int) 12 = ((ka % 12 : Nat) : Int) := tmod_nat' ka 12
  have m2 : Int.tmod (kb : Int) 5 = ((kb % 5 : Nat) : Int) := tmod_nat' kb 5
  have w1 : IntKind.i64.wrap (ka : Int) = (ka : Int) := wrap_i64 (by omega)
  have w2 : IntKind.i64.wrap (kb : Int) = (kb : Int) := wrap_i64 (by omega)
  have w3 : IntKind.i64.wrap (((ka % 12 : Nat) : Int) + 1) = (n : Int) := by rw [wrap_i64 (by omega)]; omega
  have w4 : IntKind.i64.wrap (((kb % 5 : Nat) : Int) + 1) = (bl : Int) := by rw [wrap_i64 (by omega)]; omega
  have hpar : 1 ≤ n ∧ n ≤ 4096 ∧ 1 ≤ bl ∧ bl ≤ 64 := by omega
  refine Sp.tt fun Q hQ => ?_
  simp only [c4, b4, runR_seq, r4_0, aops_cons, aop, ev_c, thenOps_some, put_some, aops_nil, regR_some, r4_1, ev_t, upd_get, reduceCtorEq, ↓reduceIte, ainit_get, List.getD_cons_zero, w1, aBin, BinOp.isShift, Bool.false_eq_true, or_true, aInt_rem, Int.reduceEq, m1, withH_some', aInt_add, w3, r4_2, Nat.reduceEqDiff, List.getD_cons_succ, w2, m2, w4, asX_cons, asX_nil]
  refine Sp.c2 (f := fun _ => .tup [.p (some (H.n, 0)), .i .i64 0]) (new_spec (H := H) hpar) ?_
  rintro R0 H0 ⟨t0, k0, f0⟩
  obtain ⟨m, hm⟩ : ∃ m, m = H.n := ⟨_, rfl⟩
  rw [← hm] at t0
  obtain ⟨HA, hHA⟩ : ∃ HA, HA = (H0.new (.mapo (mE []) ([], 0))).new (.mapo (mE []) ([], 0)) := ⟨_, rfl⟩
  have kA : Keeps H0 HA := by rw [hHA]; exact (Keeps.refl _).new.new
  have hn0 := k0.1
  have OA : OV H HA m n bl H0.n (H0.n + 1) 0 SL.new R0 [] [] := by
    refine ⟨t0.keeps kA, gd_new hpar, bal_new, k0.trans kA, fun c hc => by rw [hm] at hc; exact f0 c hc, ?_, ?_, fun hf => by have := t0.old hf; omega, fun hf => by have := t0.old hf; omega, by omega, hn0, by omega, fun k g h => (by cases h), fun u => ?_, fun p hp => (by cases hp)⟩
    · exact ⟨⟨([], 0), by rw [hHA, AH_new_o, if_neg (by simp only [AH_new_n]; omega), AH_new_o, if_pos rfl]; rfl, BOk.nil⟩, by rw [hHA]; simp only [AH_new_n]; omega, List.nodup_nil⟩
    · rw [hHA]; exact IsMp.mk0
    · unfold usG; simp [mget, SL.new]
  simp only [← hm, put_some, aops_cons, aop, ev_t, upd_get, ↓reduceIte, thenOps_some, List.getElem?_cons_zero, withH_some', Nat.reduceEqDiff, List.getElem?_cons_succ, aops_nil, regR_some, runR_seq, r4_3, aEqN, ev_c, bne_self_eq_false, aops_g, gOps_b, aBin, BinOp.isShift, Bool.false_eq_true, or_true, aInt_neq, runR_cond', condR_b, runR_skip, r4_5, mapo_nil, r4_6, hn_n, r4_7, r4_8, ainit_get, List.getD_cons_succ, List.getD_cons_zero, asX_cons, asX_nil, eS, runR_block]
  rw [runR_loop, ← runR_inLoop]
  obtain ⟨u1, hu1⟩ : ∃ u1, u1 = H0.n := ⟨_, rfl⟩
  obtain ⟨u2, hu2⟩ : ∃ u2, u2 = H0.n + 1 := ⟨_, rfl⟩
  simp only [← hHA, ← hu2]
  rw [← hu2] at OA
  simp only [← hu1]
  rw [← hu1] at OA
  refine loop_law L.length (fun i t' H' => t' 7 = .i .i64 n ∧ t' 8 = .p (some (m, 0)) ∧ t' 10 = .mp (some u1) ∧ t' 11 = .mp (some u2) ∧ t' 42 = .sl va L.length lo ex sz' ∧ t' 43 = .i .i64 L.length ∧ t' 44 = .i .i64 i ∧ ∃ S R lm ml, t' 12 = .i .i64 (ucn S.gs) ∧ OV H H' m n bl u1 u2 i S R lm ml) (fun r => Sp r Q) ?_ ?_ 0 _ HA (Nat.zero_le _) ⟨?_, ?_, ?_, ?_, ?_, ?_, ?_, SL.new, R0, [], [], ?_, OA⟩
  · rintro i t' H' hi ⟨q7, q8, q10, q11, q42, q43, q44, S, R, lm, ml, q12, hO⟩ ih
    have c1 : decide ((i : Int) < (L.length : Int)) = true := by simp; omega
    have c2 : 0 ≤ (i : Int) ∧ (i : Int) < (L.length : Int) := by omega
    have hwi := wr1 (i := i) (by omega)
    obtain ⟨s, hs⟩ : ∃ y, L[i]? = some y := ⟨_, List.getElem?_eq_getElem hi⟩
    obtain ⟨b, o, lo', ex', sz2, ro, full, e', hbn, hr, hfl, _, hel⟩ := hv.rs.el hi
    cases e'
    rw [(flat_at (f := stepF) (sz := 3) (fun _ => rfl) L i s hs).1] at hel
    have hel' : (full.drop (o + i * 3)).take 3 = [.i .u8 s.1, .i .i64 s.2.1, .i .i64 s.2.2] := hel
    rw [Nat.add_assoc] at hfl
    have hr1 := (hO.k.2 b hbn).trans hr
    have hk1 := hO.k.1
    have hne : b ≠ H'.n := by omega
    obtain ⟨HS, hHS⟩ : ∃ HS, HS = (H'.new (.row false [.i .u8 0, .i .i64 0, .i .i64 0])).set H'.n (.row false [.i .u8 s.1, .i .i64 s.2.1, .i .i64 s.2.2]) := ⟨_, rfl⟩
    have kS : Keeps H' HS := by rw [hHS]; exact (Keeps.refl _).new.set (Nat.le_refl _)
    have oS : HS.o H'.n = some (.row false [.i .u8 s.1, .i .i64 s.2.1, .i .i64 s.2.2]) := by rw [hHS, AH_set_o, if_pos rfl]
    obtain ⟨th, hth, hth3⟩ := and3 s.2.1
    obtain ⟨kk, hkk, hkk15⟩ := and15 s.2.2
    have hOS := hO.keeps kS
    have fin : ∀ (t2 : Nat → AV) (H2 : AH) (S2 : SL) (R2 : List AV) (lm2 : MP) (ml2 : ML), t2 7 = .i .i64 n → t2 8 = .p (some (m, 0)) → t2 10 = .mp (some u1) → t2 11 = .mp (some u2) → t2 42 = .sl (some (b, o)) L.length lo ex sz' → t2 43 = .i .i64 L.length → t2 44 = .i .i64 i → t2 12 = .i .i64 (ucn S2.gs) → OV H H2 m n bl u1 u2 (i + 1) S2 R2 lm2 ml2 →
        Sp (runR tbl a4 (.code (.reg d4_30) :: .code (.cond (.t 135) (.seq (.reg d4_31) .ret) .skip) :: .inBlock 1 :: .code (.reg d4_32) :: .inLoop l4_33 :: .inBlock 0 :: .code (.seq (.reg d4_34) .ret) :: []) t2 H2) Q := by
      intro t2 H2 S2 R2 lm2 ml2 z7 z8 z10 z11 z42 z43 z44 z12 hO2
      have hgl := hO2.g.gl
      have hcl : ucn S2.gs ≤ S2.gs.length := List.countP_le_length ..
      simp only [r4_30, aops_cons, aop, ev_t, z8, thenOps_some, put_some, asX_cons, upd_get, ↓reduceIte, asX_nil]
      refine Sp.c2 (f := fun v => v) (inuse_spec hO2.t hO2.g.p1 (by omega)) ?_
      rintro v3 H3 ⟨hv3, k3, b3⟩
      rw [inu_cnt] at hv3
      obtain ⟨a3, lo3, ex3, sz3, hve3⟩ := hv3.len
      subst hve3
      have hO3 := hO2.keeps k3
      have el := left_spec hO3.t hO3.g.p1 hO3.g.gl hO3.g.p2 hO3.g.hco hO3.g.how
      rw [left_bal hO3.b] at el
      have y1 : ((ucn S2.gs : Int) != (ucn S2.gs : Int)) = false := by simp
      have y2 : decide ((ucn S2.gs : Int) > (n : Int)) = false := by simp; omega
      have y3 : IntKind.i64.wrap ((n : Int) - (ucn S2.gs : Int)) = (n : Int) - (ucn S2.gs : Int) := wrap_i64 (by omega)
      have y4 : (((n : Int) - (ucn S2.gs : Int)) != ((n : Int) - (ucn S2.gs : Int))) = false := by simp
      simp only [put_some, aops_cons, aop, ev_t, upd_get, ↓reduceIte, thenOps_some, Nat.reduceEqDiff, z12, aBin, BinOp.isShift, Bool.false_eq_true, or_true, aInt_neq, bne_self_eq_false, withH_some', aops_g, gOps_b, z7, aInt_gtr, GT.gt, y2, z8, asX_cons, asX_nil, el, aInt_sub, y3, aops_nil, regR_some, runR_cond', condR_b, runR_skip, runR_inBlock, r4_32, z44, ev_c, aInt_add, hwi]
      refine ih _ _ ⟨?_, ?_, ?_, ?_, ?_, ?_, ?_, S2, R2, lm2, ml2, ?_, hO3⟩
      all_goals simp only [upd_get, Nat.reduceEqDiff, ↓reduceIte, z8, z12, z42, z43, z10, z11, z7]
    by_cases r1 : s.1.tmod 4 = 1
    · have x1 : (s.1.tmod 4 == 1) = true := by simpa using r1
      simp only [l4_33, runR_seq, r4_9, aops_cons, aop, aBin, ev_t, q44, q43, BinOp.isShift, Bool.false_eq_true, or_true, ↓reduceIte, aInt_lss, c2, decide_true, withH_some', thenOps_some, put_some, aops_nil, regR_some, runR_cond', upd_get, condR_b, runR_skip, runR_block, r4_10, Nat.reduceEqDiff, q42, and_self, Int.toNat_natCast, aload, hr1, apart, Nat.add_assoc, hfl, hel', astore, hn_o, AV.cells, List.length_cons, List.length_nil, Nat.zero_add, Nat.reduceAdd, Nat.reduceLeDiff, setR_z, setR_e, ← hHS, withU_some', put_none, r4_11, oS, List.getElem?_cons_succ, List.getElem?_cons_zero, ev_c, aInt_and, hth, r4_12, Nat.add_zero, aInt_rem, Int.reduceEq, r4_13, aInt_eql, x1, r4_14, hkk, r4_15, adrn_cons, AOp.kind, nStep_0, q8, thenN_some, nStep_3, asX_cons, asX_nil]
      refine Sp.n2 (f := fun _ => .i .i64 (if S.usd kk then 0 else 1)) (free_any (th := th) hOS.t hOS.g (by omega) (kk : Int)) ?_
      rintro R2 H2 ⟨hT2, hG2, tr⟩
      have hqa := hOS.us (kk : Int)
      obtain ⟨bc, hbc⟩ := hOS.p2.o
      have hb2 := (tr.o u2 hOS.p2.lt hOS.f2).trans hbc
      have hl2 := Nat.lt_of_lt_of_le hOS.p2.lt tr.n
      cases hu : S.usd (kk : Int)
      · have hu' : usG S.gs (kk : Int) = false := hu
        rw [hu'] at hqa
        have hfr : S.freeI bl th (kk : Int) = S := by unfold SL.freeI; rw [hu]; rfl
        rw [hfr] at hT2 hG2
        have O2 := hOS.turn (i' := i + 1) hT2 hG2 hOS.b tr hOS.mt hOS.us (hOS.gb.mono (by omega))
        have y1 : (((if false = true then 0 else 1 : Int)) == 0) = false := rfl
        have y2 : ((false == false) != true) = false := rfl
        have y3 : (false == false) = true := rfl
        simp only [Bool.false_eq_true, ↓reduceIte, put_some, adrn_cons, AOp.kind, nStep_0, aop, aBin, ev_t, upd_get, ev_c, BinOp.isShift, or_true, aInt_eql, Int.reduceBEq, withH_some', thenN_some, Nat.reduceEqDiff, q11, nStep_1, List.take_succ_cons, List.take_zero, asame_more, lk_mp, hb2, lkO_1, hqa, asame_one, hbc, fst1_some, both_same, thenNL_some, beq_self_eq_true, bne_self_eq_false, adrn_nil, regR_some, runR_cond', condR_b, runR_skip, runR_seq, r4_17, aops_cons, thenOps_some, aops_nil, r4_19, mu_b, muO_E, withU_some', put_none, runR_inBlock]
        refine fin _ _ S R2 lm _ ?_ ?_ ?_ ?_ ?_ ?_ ?_ ?_ (OV.set2 O2.t O2.g O2.b O2.k O2.f O2.p1 O2.p2 O2.f1 O2.f2 O2.n12 O2.o1 O2.o2 O2.mt O2.gb (kk : Int) false _ (fun u => ?_))
        case refine_9 =>
          by_cases e : u = kk
          · subst e; rw [if_pos rfl, hu']; rfl
          · rw [if_neg e]; exact hOS.us u
        all_goals simp only [upd_get, Nat.reduceEqDiff, ↓reduceIte, q43, q42, q8, q12, q44, q11, q7, q10]
      · have hu' : usG S.gs (kk : Int) = true := hu
        rw [hu'] at hqa
        obtain ⟨j, gq, ej, hj⟩ := usd_at hu
        have ejk : kk = j := by omega
        subst ejk
        have hfr : S.freeI bl th (kk : Int) = S.free bl th kk := by unfold SL.freeI; rw [hu, Int.toNat_natCast]; rfl
        rw [hfr] at hT2 hG2
        have hgq := hOS.gb _ (List.mem_of_getElem? hj)
        simp only at hgq
        obtain ⟨e1, e2⟩ := free_once hOS.b (sz := bl) (th := th) (by omega) hj (by omega)
        have hcn := cP_set (false, gq + 1) hj
        simp only [if_true, Bool.false_eq_true, if_false] at hcn
        have hcl : ucn S.gs ≤ S.gs.length := List.countP_le_length ..
        have hgl := hOS.g.gl
        have hus : ∀ u, usG (S.free bl th kk).gs u = if u = kk then false else usG S.gs u := fun u => by rw [e1, usG_set hj]
        have y1 : (((if true = true then 0 else 1 : Int)) == 0) = true := rfl
        have y2 : ((true == true) != true) = false := rfl
        have y3 : (true == true) = true := rfl
        have y4 : IntKind.i64.wrap ((ucn S.gs : Int) - 1) = (ucn (S.free bl th kk).gs : Int) := by rw [e1, wrap_i64 (by omega)]; omega
        simp only [↓reduceIte, put_some, adrn_cons, AOp.kind, nStep_0, aop, aBin, ev_t, upd_get, ev_c, BinOp.isShift, Bool.false_eq_true, or_true, aInt_eql, beq_self_eq_true, withH_some', thenN_some, Nat.reduceEqDiff, q11, nStep_1, List.take_succ_cons, List.take_zero, asame_more, lk_mp, hb2, lkO_1, hqa, asame_one, hbc, fst1_some, both_same, thenNL_some, bne_self_eq_false, adrn_nil, regR_some, runR_cond', condR_b, runR_skip, runR_seq, r4_17, aops_cons, thenOps_some, aops_nil, r4_18, q12, aInt_sub, y4, r4_19, mu_b, muO_E, withU_some', put_none, runR_inBlock]
        obtain ⟨k2, f2⟩ := tr.kp hOS.k hOS.f
        refine fin _ _ (S.free bl th kk) R2 lm _ ?_ ?_ ?_ ?_ ?_ ?_ ?_ ?_ (OV.set2 hT2 hG2 e2 k2 f2 (hOS.p1.keep tr.n (tr.o u1 hOS.p1.lt hOS.f1)) (hOS.p2.keep tr.n (tr.o u2 hOS.p2.lt hOS.f2)) (fun hf => (tr.f u1 hf).elim hOS.f1 (fun e => by have := hOS.p1.lt; omega)) (fun hf => (tr.f u2 hf).elim hOS.f2 (fun e => by have := hOS.p2.lt; omega)) hOS.n12 hOS.o1 hOS.o2 (by rw [e1]; exact hOS.mt.free hj) (by rw [e1]; exact (hOS.gb.mono (by omega)).set (by simp only; omega)) (kk : Int) false _ (fun u => ?_))
        case refine_9 =>
          rw [hus u]
          by_cases e : u = kk
          · subst e; rw [if_pos rfl, if_pos rfl]; rfl
          · rw [if_neg e, if_neg e]; exact hOS.us u
        all_goals simp only [upd_get, Nat.reduceEqDiff, ↓reduceIte, q43, q42, q8, q44, q11, q7, q10]
    · have x1 : (s.1.tmod 4 == 1) = false := by simpa using r1
      by_cases r2 : s.1.tmod 4 = 2
      · have x2 : (s.1.tmod 4 == 2) = true := by simpa using r2
        simp only [l4_33, runR_seq, r4_9, aops_cons, aop, aBin, ev_t, q44, q43, BinOp.isShift, Bool.false_eq_true, or_true, ↓reduceIte, aInt_lss, c2, decide_true, withH_some', thenOps_some, put_some, aops_nil, regR_some, runR_cond', upd_get, condR_b, runR_skip, runR_block, r4_10, Nat.reduceEqDiff, q42, and_self, Int.toNat_natCast, aload, hr1, apart, Nat.add_assoc, hfl, hel', astore, hn_o, AV.cells, List.length_cons, List.length_nil, Nat.zero_add, Nat.reduceAdd, Nat.reduceLeDiff, setR_z, setR_e, ← hHS, withU_some', put_none, r4_11, oS, List.getElem?_cons_succ, List.getElem?_cons_zero, ev_c, aInt_and, hth, r4_12, Nat.add_zero, aInt_rem, Int.reduceEq, r4_13, aInt_eql, x1, r4_20, x2, r4_21, q8, asX_cons, asX_nil]
        refine Sp.c2 (f := fun _ => .i .i64 (S.own (th : Int)).length) (flush_any hOS.t hOS.g (th : Int)) ?_
        rintro R2 H2 ⟨hT2, hG2, tr⟩
        obtain ⟨e1, e2⟩ := flush_once hOS.g hOS.b (th : Int)
        simp only [put_some, aops_nil, regR_some, runR_inBlock, runR_seq]
        refine fin _ H2 _ R2 lm ml ?_ ?_ ?_ ?_ ?_ ?_ ?_ ?_ (hOS.turn hT2 hG2 e2 tr (by rw [e1]; exact hOS.mt) (by rw [e1]; exact hOS.us) (by rw [e1]; exact hOS.gb.mono (by omega)))
        case refine_8 => rw [e1]; simp only [upd_get, Nat.reduceEqDiff, ↓reduceIte, q12]
        all_goals simp only [upd_get, Nat.reduceEqDiff, ↓reduceIte, q43, q42, q8, q44, q11, q7, q10]
      · have x2 : (s.1.tmod 4 == 2) = false := by simpa using r2
        simp only [l4_33, runR_seq, r4_9, aops_cons, aop, aBin, ev_t, q44, q43, BinOp.isShift, Bool.false_eq_true, or_true, ↓reduceIte, aInt_lss, c2, decide_true, withH_some', thenOps_some, put_some, aops_nil, regR_some, runR_cond', upd_get, condR_b, runR_skip, runR_block, r4_10, Nat.reduceEqDiff, q42, and_self, Int.toNat_natCast, aload, hr1, apart, Nat.add_assoc, hfl, hel', astore, hn_o, AV.cells, List.length_cons, List.length_nil, Nat.zero_add, Nat.reduceAdd, Nat.reduceLeDiff, setR_z, setR_e, ← hHS, withU_some', put_none, r4_11, oS, List.getElem?_cons_succ, List.getElem?_cons_zero, ev_c, aInt_and, hth, r4_12, Nat.add_zero, aInt_rem, Int.reduceEq, r4_13, aInt_eql, x1, r4_20, x2, r4_22, q8, asX_cons, asX_nil]
        refine Sp.c2 (f := fun _ => .tup [.i .i64 (S.take n bl th).1.1, .i .u32 (S.take n bl th).1.2.1, .i .i64 (S.take n bl th).1.2.2]) (take_any hOS.t hOS.g (by omega)) ?_
        rintro R2 H2 ⟨hT2, hG2, tr⟩
        obtain ⟨k, hor⟩ := take_once hOS.g hOS.b (th := th) (by omega)
        rcases hor with ⟨e1, e2, e3⟩ | ⟨j, qg, e0, e1, e2, e3⟩
        · simp only [e1]
          have z1 : ((11 : Int) != 0) = true := rfl
          have z2 : ((11 : Int) != 11) = false := rfl
          simp only [put_some, aops_cons, aop, ev_t, upd_get, ↓reduceIte, thenOps_some, List.getElem?_cons_zero, withH_some', Nat.reduceEqDiff, List.getElem?_cons_succ, aops_nil, regR_some, runR_seq, r4_23, aBin, ev_c, BinOp.isShift, Bool.false_eq_true, or_true, aInt_neq, z1, runR_cond', condR_b, r4_24, bne_self_eq_false, runR_skip, runR_exit', aexit_code, aexit_inBlock, Nat.succ_ne_self, exitR_some, r4_32, q44, aInt_add, hwi]
          refine ih _ _ ⟨?_, ?_, ?_, ?_, ?_, ?_, ?_, _, R2, lm, ml, ?_, hOS.turn hT2 hG2 e3 tr (by rw [e2]; exact hOS.mt.app k) (fun u => by rw [e2, usG_app]; exact hOS.us u) (by rw [e2]; exact (hOS.gb.mono (by omega)).app (by omega) k)⟩
          case refine_8 => rw [e2, ucn_app]; simp only [upd_get, Nat.reduceEqDiff, ↓reduceIte, q12]
          all_goals simp only [upd_get, Nat.reduceEqDiff, ↓reduceIte, q43, q42, q8, q11, q7, q10]
        · simp only [e1]
          obtain ⟨mt1, mt2⟩ := (hOS.mt.app k).take e0
          have hjl := (List.getElem?_eq_some_iff.1 e0).1
          have hus0 : usG S.gs (j : Int) = false := by
            rw [← usG_app S.gs k]
            unfold usG
            rw [Int.toNat_natCast, e0]
            simp
          have hus : ∀ u, usG (S.take n bl th).2.gs u = if u = j then true else usG S.gs u := fun u => by rw [e2, usG_set e0, usG_app]
          have hgl := hG2.gl
          have hglen : (S.take n bl th).2.gs.length = (S.gs ++ List.replicate k (false, 0)).length := by rw [e2, List.length_set]
          have hcn := cP_set (true, qg) e0
          simp only [if_true, Bool.false_eq_true, if_false] at hcn
          rw [ucn_app] at hcn
          have hcn2 : ucn (S.take n bl th).2.gs = ucn S.gs + 1 := by rw [e2]; omega
          have hcl : ucn (S.take n bl th).2.gs ≤ (S.take n bl th).2.gs.length := List.countP_le_length ..
          have hnp := hOS.g.p2
          have hqg : qg ≤ i := ((hOS.gb).app (by omega) k) _ (List.mem_of_getElem? e0)
          obtain ⟨bc1, hbc1, hbo1⟩ := hOS.p1.o
          obtain ⟨bc2, hbc2⟩ := hOS.p2.o
          have ho1 := (tr.o u1 hOS.p1.lt hOS.f1).trans hbc1
          have ho2 := (tr.o u2 hOS.p2.lt hOS.f2).trans hbc2
          have hqa := hOS.us (j : Int)
          rw [hus0] at hqa
          have y1 : ((0 : Int) != 0) = false := rfl
          have y2 : decide ((j : Int) < 0) = false := by simp
          have y3 : decide ((j : Int) ≥ (n : Int)) = false := by simp; omega
          have y4 : IntKind.i64.wrap ((ucn S.gs : Int) + 1) = (ucn (S.take n bl th).2.gs : Int) := by rw [wrap_i64 (by omega)]; omega
          have hne12 : (u2 = u1) = False := eq_false (Ne.symm hOS.n12)
          have hne21 : (u1 = u2) = False := eq_false hOS.n12
          obtain ⟨k2, f2⟩ := tr.kp hOS.k hOS.f
          have nf1 : ¬ FT m R2 u1 := fun hf => (tr.f u1 hf).elim hOS.f1 (fun e => by have := hOS.p1.lt; omega)
          have nf2 : ¬ FT m R2 u2 := fun hf => (tr.f u2 hf).elim hOS.f2 (fun e => by have := hOS.p2.lt; omega)
          have l1 := Nat.lt_of_lt_of_le hOS.p1.lt tr.n
          have l2 := Nat.lt_of_lt_of_le hOS.p2.lt tr.n
          obtain ⟨H3, hH3⟩ : ∃ H3, H3 = H2.set u1 (.mapo (mP .i64 .u32 (mput lm ((j : Int), qg) (.b true))) (bput lm ((j : Int), qg) bc1)) := ⟨_, rfl⟩
          have p1' : IsPp .i64 .u32 H3 u1 (mput lm ((j : Int), qg) (.b true)) := by
            rw [hH3]
            exact ⟨⟨_, by rw [AH_set_o, if_pos rfl], hbo1.put⟩, l1, nodup_put hOS.p1.nd⟩
          have p2' : IsMp H3 u2 ml := by
            rw [hH3]
            exact (hOS.p2.keep tr.n (tr.o u2 hOS.p2.lt hOS.f2)).off (Ne.symm hOS.n12)
          have t3 : IsT H3 m n bl (S.take n bl th).2 R2 := by
            rw [hH3]
            exact hT2.keep (Nat.le_refl _) (fun c hc => hs_off (fun e => nf1 (by rw [← e]; exact hc)))
          have k3 : Keeps H H3 := by
            rw [hH3]
            exact ⟨k2.1, fun c hc => by rw [hs_off (by have := hOS.o1; omega)]; exact k2.2 c hc⟩
          have ho3 : H3.o u2 = some (.mapo (mE ml) bc2) := by rw [hH3, hs_off (Ne.symm hOS.n12)]; exact ho2
          simp only [put_some, aops_cons, aop, ev_t, upd_get, ↓reduceIte, thenOps_some, List.getElem?_cons_zero, withH_some', Nat.reduceEqDiff, List.getElem?_cons_succ, aops_nil, regR_some, runR_seq, r4_23, aBin, ev_c, BinOp.isShift, Bool.false_eq_true, or_true, aInt_neq, bne_self_eq_false, runR_cond', condR_b, runR_skip, r4_26, q10, afill, AV.cells, List.length_cons, List.length_nil, Nat.zero_add, Nat.reduceAdd, Nat.reduceLeDiff, and_self, setR_z, setR_e, setR_s, lk_pp, ho1, lkP_1, mt1, Option.getD_none, aops_g, gOps_b, q11, lk_mp, ho2, lkO_1, hqa, aInt_lss, y2, q7, aInt_geq, GE.ge, y3, r4_28, mup_b, muO_P, ← hH3, withU_some', put_none, mu_b, ho3, muO_E, r4_29, q12, aInt_add, y4, runR_inBlock]
          refine fin _ _ (S.take n bl th).2 R2 _ _ ?_ ?_ ?_ ?_ ?_ ?_ ?_ ?_ (OV.set2 t3 hG2 e3 k3 f2 p1' p2' nf1 nf2 hOS.n12 hOS.o1 hOS.o2 (by rw [e2]; exact mt2) (by rw [e2]; exact ((hOS.gb.mono (by omega)).app (by omega) k).set (by simp only; omega)) (j : Int) true _ (fun u => ?_))
          case refine_9 =>
            rw [hus u]
            by_cases e : u = j
            · subst e; rw [if_pos rfl, if_pos rfl]; rfl
            · rw [if_neg e, if_neg e]; exact hOS.us u
          all_goals simp only [upd_get, Nat.reduceEqDiff, ↓reduceIte, q43, q42, q8, q44, q11, q7, q10]
  · rintro t' H' ⟨q7, q8, q10, q11, q42, q43, q44, S, R, lm, ml, q12, hO⟩
    have c1 : decide ((L.length : Int) < (L.length : Int)) = false := by simp
    obtain ⟨HE, eE⟩ := alive_spec (H := H')
    simp only [l4_33, runR_seq, r4_9, aops_cons, aop, aBin, ev_t, q44, q43, BinOp.isShift, Bool.false_eq_true, or_true, ↓reduceIte, aInt_lss, c1, withH_some', thenOps_some, put_some, aops_nil, regR_some, runR_cond', upd_get, condR_b, runR_exit', aexit_code, aexit_inLoop, aexit_inBlock, exitR_some, r4_34, asX_nil, eE, runR_ret, afinish_def, s4, aresults, aresult, aback]
    exact Sp.ret (hQ _)
  all_goals simp only [upd_get, ↓reduceIte, cast_of, Nat.reduceEqDiff]
  rfl
end Go.Proofs.Ythcibbfljcfheaa.Abs
