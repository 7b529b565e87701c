/- Each alarm is told once, in time, or cleared, or set anew; what is told rises by times. No condition of its own. -/
import Derived.Test.YtaolkpkaiidmeaaArr2
namespace Go.Proofs.Ytaolkpkaiidmeaa.Abs
set_option linter.unusedSimpArgs false
set_option linter.unusedVariables false
set_option maxRecDepth 100000
set_option maxHeartbeats 8000000
/-- What is due gone through. -/
theorem once_due {H0 H : AH} {e m r : Nat} {N : Int} {T T2 : List P2} {v : AV} {Q : AV → AH → Prop} {t : Nat → AV} {K : List AItem} (hk0 : ∃ H1 now, Ck H1 e m now T) (hk : Ck H e m N T2) (hr : H.o r = some (.row false (arr T))) (hrl : r < H.n) (hre : e ≠ r ∧ m ≠ r) (hv : Ro H v 1 (dueT T N).length ((dueT T N).map (AV.i .i64))) (hvr : ∀ b, blk v = some b → b ≠ r) (hf : ∀ b, b < H0.n → H.o b = H0.o b) (hn : H0.n ≤ H.n) (hr0 : H0.n ≤ r) (q3 : t 3 = .p (some (e, 0))) (q4 : t 4 = .p (some (r, 0))) (q8 : t 8 = .i .i64 0) (q71 : t 71 = v) (q72 : t 72 = .i .i64 (dueT T N).length) (q73 : t 73 = .i .i64 0)
    (h : ∀ (t' : Nat → AV) (H' : AH), t' 3 = .p (some (e, 0)) → t' 4 = .p (some (r, 0)) → t' 17 = t 17 → t' 18 = t 18 → t' 19 = t 19 → Ck H' e m N T2 → H'.o r = some (.row false (arr ((dueT T N).foldl delT T))) → H.n ≤ H'.n → (∀ b, b < H0.n → H'.o b = H0.o b) → Sp (runR tbl a5 K t' H') Q) : Sp (runR tbl a5 (.inLoop l5_24 :: .inBlock 3 :: K) t H) Q := by
  obtain ⟨H1, now, hk1⟩ := hk0
  have hnd := due_nd hk1.nd N
  have hle : (dueT T N).length ≤ 256 := by
    have : (dueT T N).length ≤ (srtT T).length := by rw [dueT_filter]; exact List.length_filter_le _ _
    rw [srtT_len] at this
    have := hk1.len
    omega
  have hso := due_sorted T N
  obtain ⟨D, hD⟩ : ∃ D, D = dueT T N := ⟨_, rfl⟩
  have hmem : ∀ x ∈ D, 1 ≤ at0 T x ∧ at0 T x ≤ N ∧ 0 ≤ x ∧ x < 256 := by
    intro x hx
    rw [hD, due_mem hk1.nd] at hx
    have := at_pos hk1 x
    have h1 := this.1
    rw [hx.1] at h1
    have h2 := this.2.2.2 hx.1
    simp at h1
    omega
  rw [← hD] at hv q72 h hnd hle hso
  obtain ⟨a, lo, ex, sz, hve⟩ := hv.len
  subst hve
  have key : ∀ (k i : Nat) (last : Int) (H2 : AH) (t2 : Nat → AV), i + k = D.length → Ck H2 e m N T2 → H2.o r = some (.row false (arr ((D.take i).foldl delT T))) → H.n ≤ H2.n → Fb r H H2 → (∀ x, D[i]? = some x → last ≤ at0 T x) → t2 3 = .p (some (e, 0)) → t2 4 = .p (some (r, 0)) → t2 8 = .i .i64 last → t2 71 = .sl a D.length lo ex sz → t2 72 = .i .i64 D.length → t2 73 = .i .i64 i → t2 17 = t 17 → t2 18 = t 18 → t2 19 = t 19 →
      Sp (runR tbl a5 (.inLoop l5_24 :: .inBlock 3 :: K) t2 H2) Q := by
    intro k
    induction k with
    | zero =>
      intro i last H2 t2 hi k2 r2 n2 f2 hl z3 z4 z8 z71 z72 z73 z17 z18 z19
      have c1 : decide ((i : Int) < (D.length : Int)) = false := by simp; omega
      rw [List.take_of_length_le (by omega)] at r2
      rw [runR_inLoop]
      simp only [l5_24, runR_seq, r5_17, aops_cons, aop, aBin, ev_t, z73, z72, BinOp.isShift, Bool.false_eq_true, or_true, ↓reduceIte, aInt_lss, c1, withH_some', thenOps_some, put_some, aops_nil, regR_some, runR_cond', upd_get, condR_b, runR_exit', aexit_code, aexit_inLoop, aexit_inBlock, exitR_some]
      refine h _ H2 ?_ ?_ ?_ ?_ ?_ k2 r2 n2 (fun b hb => by rw [f2.2 b (by omega) (by omega)]; exact hf b hb)
      all_goals simp only [upd_get, Nat.reduceEqDiff, ↓reduceIte, z3, z4, z19, z17, z18]
    | succ k ih =>
      intro i last H2 t2 hi k2 r2 n2 f2 hl z3 z4 z8 z71 z72 z73 z17 z18 z19
      have c1 : decide ((i : Int) < (D.length : Int)) = true := by simp; omega
      have c2 : 0 ≤ (i : Int) ∧ (i : Int) < (D.length : Int) := by omega
      have hwi := wr1 (i := i) (by omega)
      obtain ⟨x, hx⟩ : ∃ y, D[i]? = some y := ⟨_, List.getElem?_eq_getElem (by omega)⟩
      obtain ⟨m1, m2, m3, m4⟩ := hmem x (List.mem_of_getElem? hx)
      obtain ⟨b, o, lo', ex', sz', ro, full, e', hbn, hbr, hel⟩ := hv.rs.el1 hx
      cases e'
      have hbr2 : H2.o b = some (.row ro full) := by rw [f2.2 b hbn (hvr b rfl)]; exact hbr
      have hxn : x ∉ D.take i := by
        have hsp : D = D.take i ++ x :: D.drop (i + 1) := by
          conv => lhs; rw [← List.take_append_drop i D, List.drop_eq_getElem_cons (by omega), (List.getElem?_eq_some_iff.1 hx).2]
        rw [hsp, List.nodup_append] at hnd
        intro hm
        exact hnd.2.2 x hm x (List.mem_cons_self ..) rfl
      have hat : at0 ((D.take i).foldl delT T) x = at0 T x := by rw [at0_dels, if_neg hxn]
      have hg := arrT_get (T := (D.take i).foldl delT T) (x := x) ⟨m3, m4⟩
      rw [hat] at hg
      have hla := hl x hx
      have en := now_spec (q := qS SSo) k2
      have x1 : decide (x < 0) = false := by simp; omega
      have x2 : decide (255 < x) = false := by simp; omega
      have x3 : (at0 T x == 0) = false := by simp; omega
      have x4 : decide (N < at0 T x) = false := by simp; omega
      have x5 : decide (at0 T x < last) = false := by simp; omega
      have b1 : 0 ≤ x ∧ x < 256 := ⟨m3, m4⟩
      have hlen : x.toNat + 1 ≤ (arr ((D.take i).foldl delT T)).length := by rw [arr_len]; omega
      obtain ⟨H3, hH3⟩ : ∃ H3, H3 = H2.set r (.row false (setR (arr ((D.take i).foldl delT T)) x.toNat [.i .i64 0])) := ⟨_, rfl⟩
      have r3 : H3.o r = some (.row false (arr ((D.take (i + 1)).foldl delT T))) := by rw [hH3, AH_set_o, if_pos rfl, arr_del b1, foldl_snoc hx]
      have k3 : Ck H3 e m N T2 := k2.eqs (by rw [hH3]; exact Nat.le_refl _) (by rw [hH3, AH_set_o, if_neg hre.1]) (by rw [hH3, AH_set_o, if_neg hre.2])
      have f3 : Fb r H H3 := by rw [hH3]; exact f2.set
      rw [runR_inLoop]
      simp only [l5_24, runR_seq, r5_17, aops_cons, aop, aBin, ev_t, z73, z72, BinOp.isShift, Bool.false_eq_true, or_true, ↓reduceIte, aInt_lss, c2, decide_true, withH_some', thenOps_some, put_some, aops_nil, regR_some, runR_cond', upd_get, condR_b, runR_skip, runR_block, r5_18, Nat.reduceEqDiff, z71, and_self, Int.toNat_natCast, Nat.mul_one, aload, hbr2, apart, hel, r5_19, adrw_cons, AOp.kind, dStep_0, thenD_some, ev_c, x1, adrw_g, gD_b, aInt_gtr, GT.gt, x2, z4, b1, cast_of, Nat.zero_add, dStep_1, List.take_succ_cons, List.take_zero, asame_one, r2, hg, fst1_some, thenL_some, aInt_eql, x3, z3, dStep_3, asX_cons, asX_nil, en, thenC_some, astill_0, astill_nil, x4, z8, x5, adrw_nil, r5_21, r5_22, astore, AV.cells, List.length_cons, List.length_nil, hlen, ← hH3, withU_some', put_none, runR_inBlock, r5_23, aInt_add, hwi]
      refine ih (i + 1) (at0 T x) H3 _ (by omega) k3 r3 (by rw [hH3]; exact n2) f3 (fun y hy => ?_) ?_ ?_ ?_ ?_ ?_ ?_ ?_ ?_ ?_
      · rw [List.pairwise_iff_getElem] at hso
        obtain ⟨h1, h2⟩ := List.getElem?_eq_some_iff.1 hx
        obtain ⟨h3, h4⟩ := List.getElem?_eq_some_iff.1 hy
        have := hso i (i + 1) h1 h3 (Nat.lt_succ_self _)
        rw [h2, h4] at this
        exact this
      all_goals simp only [upd_get, Nat.reduceEqDiff, ↓reduceIte, z3, z4, z19, z17, z18, z72, z71]
  refine key D.length 0 0 H t (by omega) hk (by rw [List.take_zero]; exact hr) (Nat.le_refl _) Fb.refl (fun x hx => ?_) q3 q4 q8 q71 q72 (by rw [q73]; rfl) rfl rfl rfl
  have := hmem x (List.mem_of_getElem? hx)
  omega
/-- What is left is not due. -/
theorem once_left {H : AH} {e m : Nat} {N : Int} {T : List P2} {Q : AV → AH → Prop} {K : List AItem} {v17 v18 v19 v4 : AV} (hk : Ck H e m N T) (hno : ∀ x : Int, 1 ≤ at0 T x → N < at0 T x)
    (h : ∀ t' : Nat → AV, t' 3 = .p (some (e, 0)) → t' 4 = v4 → t' 17 = v17 → t' 18 = v18 → t' 19 = v19 → Sp (runR tbl a5 K t' H) Q) (t : Nat → AV) (q3 : t 3 = .p (some (e, 0))) (q4 : t 4 = v4) (q17 : t 17 = v17) (q18 : t 18 = v18) (q19 : t 19 = v19) (q110 : t 110 = .agg (arr T)) (q111 : t 111 = .i .i64 0) :
    Sp (runR tbl a5 (.inLoop l5_31 :: .inBlock 5 :: K) t H) Q := by
  have en := now_spec (q := qS SSo) hk
  refine loop_law 256 (fun i t' H' => H' = H ∧ t' 3 = .p (some (e, 0)) ∧ t' 4 = v4 ∧ t' 17 = v17 ∧ t' 18 = v18 ∧ t' 19 = v19 ∧ t' 110 = .agg (arr T) ∧ t' 111 = .i .i64 i) (fun r => Sp r Q) ?_ ?_ 0 t H (Nat.zero_le _) ⟨rfl, q3, q4, q17, q18, q19, q110, by rw [q111]; rfl⟩
  · rintro i t' H' hi ⟨rfl, q3, q4, q17, q18, q19, q110, q111⟩ ih
    have c1 : decide ((i : Int) < 256) = true := by simp; omega
    have c2 : 0 ≤ (i : Int) ∧ (i : Int) < 256 := by omega
    have hwi := wr1 (i := i) (by omega)
    have hg := arrT_get (T := T) (x := (i : Int)) (by omega)
    rw [Int.toNat_natCast] at hg
    cases hp : decide (0 < at0 T i)
    · simp only [l5_31, runR_seq, r5_26, aops_cons, aop, aBin, ev_t, q111, ev_c, BinOp.isShift, Bool.false_eq_true, or_true, ↓reduceIte, aInt_lss, c2, decide_true, withH_some', thenOps_some, put_some, aops_nil, regR_some, runR_cond', upd_get, condR_b, runR_skip, runR_block, r5_27, Nat.reduceEqDiff, q110, cast_of, and_self, apart, Int.toNat_natCast, Nat.mul_one, hg, r5_28, aInt_gtr, GT.gt, hp, aops_g, gOps_b, runR_inBlock, r5_30, aInt_add, hwi]
      refine ih _ _ ⟨rfl, ?_, ?_, ?_, ?_, ?_, ?_, ?_⟩
      all_goals simp only [upd_get, Nat.reduceEqDiff, ↓reduceIte, q110, q17, q3, q19, q18, q4]
    · have hlt := hno i (by simp at hp; omega)
      have x1 : decide (at0 T i ≤ N) = false := by simp; omega
      simp only [l5_31, runR_seq, r5_26, aops_cons, aop, aBin, ev_t, q111, ev_c, BinOp.isShift, Bool.false_eq_true, or_true, ↓reduceIte, aInt_lss, c2, decide_true, withH_some', thenOps_some, put_some, aops_nil, regR_some, runR_cond', upd_get, condR_b, runR_skip, runR_block, r5_27, Nat.reduceEqDiff, q110, cast_of, and_self, apart, Int.toNat_natCast, Nat.mul_one, hg, r5_28, aInt_gtr, GT.gt, hp, aops_g, gOps_b, q3, asX_cons, asX_nil, en, aInt_leq, x1, runR_inBlock, r5_30, aInt_add, hwi]
      refine ih _ _ ⟨rfl, ?_, ?_, ?_, ?_, ?_, ?_, ?_⟩
      all_goals simp only [upd_get, Nat.reduceEqDiff, ↓reduceIte, q110, q17, q3, q19, q18, q4]
  · rintro t' H' ⟨rfl, q3, q4, q17, q18, q19, q110, q111⟩
    have c1 : decide ((256 : Int) < 256) = false := by decide
    simp only [l5_31, runR_seq, r5_26, aops_cons, aop, aBin, ev_t, q111, show ((256 : Nat) : Int) = 256 from rfl, ev_c, BinOp.isShift, Bool.false_eq_true, or_true, ↓reduceIte, aInt_lss, Int.reduceLT, decide_false, withH_some', thenOps_some, put_some, aops_nil, regR_some, runR_cond', upd_get, condR_b, runR_exit', aexit_code, aexit_inLoop, aexit_inBlock, exitR_some]
    refine h _ ?_ ?_ ?_ ?_ ?_
    all_goals simp only [upd_get, Nat.reduceEqDiff, ↓reduceIte, q17, q3, q19, q18, q4]
theorem zeros_arr : (AObj.row false (arr [])) = AObj.row false (List.replicate 256 (AV.i .i64 0)) := by
  congr 1
theorem alloc5 {T : Tbl} {fn : AFun} {K : List AItem} {t : Nat → AV} {H : AH} : runR T fn (.code (.reg d5_4) :: K) t H = runR T fn K (upd t 4 (.p (some (H.n, 0)))) (H.new (.row false (arr []))) := by
  rw [r5_4]
  simp only [aops_cons, aop, aops_nil, thenOps_some, withH_some', put_some, regR_some]
  rfl
theorem once_law (l : List St3) (ok : ∀ x ∈ l, (Lit.int .u8 x.1).wf = true ∧ (Lit.int .i64 x.2.1).wf = true ∧ (Lit.int .i64 x.2.2).wf = true) (H : AH) (x : AV) (hx : IsIn H x 3 l.length (l.flatMap stepF)) : ∃ H', callR tbl 5 [x] H = some (.b true, H') := by
  have hro0 := isIn_ro hx (stepF_len l)
  obtain ⟨HN, eN, kN, keN⟩ := new_spec (q := qS SSo) (H := H)
  obtain ⟨v, eS, hv⟩ := short_spec (q := qS SSo) hro0
  obtain ⟨L, hL⟩ : ∃ L, L = l.take 200 := ⟨_, rfl⟩
  rw [← hL] at hv
  have hl : L.length ≤ 200 := by rw [hL, List.length_take]; omega
  obtain ⟨a, lo, ex, sz, hve⟩ := hv.len
  subst hve
  obtain ⟨e, he⟩ : ∃ e, e = H.n + 1 := ⟨_, rfl⟩
  obtain ⟨m, hm⟩ : ∃ m, m = H.n := ⟨_, rfl⟩
  rw [← he, ← hm] at kN
  rw [← he] at eN
  have he' : H.n ≤ e := by omega
  have hm' : H.n ≤ m := by omega
  clear he hm
  obtain ⟨r, hr⟩ : ∃ r, r = HN.n := ⟨_, rfl⟩
  obtain ⟨HR, hHR⟩ : ∃ HR, HR = HN.new (.row false (arr [])) := ⟨_, rfl⟩
  have kR : Keeps HN HR := by rw [hHR]; exact (Keeps.refl _).new
  have oR : HR.o r = some (.row false (arr [])) := by rw [hHR, hr, AH_new_o, if_pos rfl]
  have hrn : H.n ≤ r := by have := keN.1; omega
  have hrl : r < HR.n := by rw [hHR, hr]; exact Nat.lt_succ_self _
  have hltN := kN.lt
  have hre : e ≠ r ∧ m ≠ r := by omega
  refine Sp.tt fun Q hQ => ?_
  simp only [c5, b5, runR_seq, r5_0, aops_cons, aop, ev_c, thenOps_some, put_some, aops_nil, regR_some, r5_1, asX_nil, eN, ev_t, upd_get, ↓reduceIte, r5_2, aEqN, bne_self_eq_false, runR_cond', condR_b, Bool.false_eq_true, runR_skip, alloc5, ← hr, ← hHR, r5_5, reduceCtorEq, ainit_get, List.getD_cons_zero, asX_cons, eS, runR_block, runR_loop']
  clear hr
  refine loop_law L.length (fun i t' H' => t' 3 = .p (some (e, 0)) ∧ t' 4 = .p (some (r, 0)) ∧ t' 17 = .sl a L.length lo ex sz ∧ t' 18 = .i .i64 L.length ∧ t' 19 = .i .i64 i ∧ (∃ now T, Ck H' e m now T ∧ H'.o r = some (.row false (arr T))) ∧ r < H'.n ∧ Keeps H H') (fun r => Sp r Q) ?_ ?_ 0 _ HR (Nat.zero_le _) ⟨?_, ?_, ?_, ?_, ?_, ⟨0, [], kN.keeps kR, oR⟩, hrl, keN.trans kR⟩
  · rintro i t' H' hi ⟨q3, q4, q17, q18, q19, ⟨now, T, ck, orr⟩, hrl', k⟩ ih
    have c1 : decide ((i : Int) < (L.length : Int)) = true := by simp; omega
    have c2 : 0 ≤ (i : Int) ∧ (i : Int) < (L.length : Int) := by omega
    have hwi := wr1 (i := i) (by omega)
    obtain ⟨s, hs⟩ : ∃ y, L[i]? = some y := ⟨_, List.getElem?_eq_getElem hi⟩
    obtain ⟨b, o, lo', ex', sz', ro, full, e', hbn, hbr, hfl, _, hel⟩ := hv.rs.el hi
    cases e'
    rw [(flat_at (f := stepF) (sz := 3) (fun _ => rfl) L i s hs).1] at hel
    have hel' : (full.drop (o + i * 3)).take 3 = [.i .u8 s.1, .i .i64 s.2.1, .i .i64 s.2.2] := hel
    rw [Nat.add_assoc] at hfl
    have hr1 := (k.o hbn).trans hbr
    have hk1 := k.1
    have hne : b ≠ H'.n := by omega
    obtain ⟨HS, hHS⟩ : ∃ HS, HS = (H'.new (.row false [.i .u8 0, .i .i64 0, .i .i64 0])).set H'.n (.row false [.i .u8 s.1, .i .i64 s.2.1, .i .i64 s.2.2]) := ⟨_, rfl⟩
    have kS : Keeps H' HS := by rw [hHS]; exact (Keeps.refl _).new.set (Nat.le_refl _)
    have nS : HS.n = H'.n + 1 := by rw [hHS]; rfl
    have oS : HS.o H'.n = some (.row false [.i .u8 s.1, .i .i64 s.2.1, .i .i64 s.2.2]) := by rw [hHS, AH_set_o, if_pos rfl]
    have ckS := ck.keeps kS
    have orS := (kS.o hrl').trans orr
    obtain ⟨th, hth⟩ : ∃ th, th = bAnd .i64 s.2.1 255 := ⟨_, rfl⟩
    have hb := and255 s.2.1
    rw [← hth] at hb
    have hlt := ckS.lt
    have hlen : th.toNat + 1 ≤ (arr T).length := by rw [arr_len]; omega
    have hg := arrT_get (T := T) hb
    have hps := at_pos ckS th
    -- the end of a step
    have fin : ∀ (t2 : Nat → AV) (H2 : AH) (now2 : Int) (T2 : List P2), Ck H2 e m now2 T2 → H2.o r = some (.row false (arr T2)) → HS.n ≤ H2.n → (∀ c, c < H.n → H2.o c = HS.o c) → t2 3 = .p (some (e, 0)) → t2 4 = .p (some (r, 0)) → t2 17 = .sl (some (b, o)) L.length lo ex sz → t2 18 = .i .i64 L.length → t2 19 = .i .i64 i →
        Sp (runR tbl a5 [.code (.reg d5_36), .inLoop l5_37, .inBlock 0, .code (.seq (.reg d5_38) .ret)] t2 H2) Q := by
      intro t2 H2 now2 T2 ck2 or2 hn2 ho2 z3 z4 z17 z18 z19
      simp only [r5_36, aops_cons, aop, aBin, ev_t, z19, ev_c, BinOp.isShift, Bool.false_eq_true, or_true, ↓reduceIte, aInt_add, hwi, withH_some', thenOps_some, put_some, upd_get, aops_nil, regR_some]
      refine ih _ _ ⟨?_, ?_, ?_, ?_, ?_, ⟨now2, T2, ck2, or2⟩, by omega, ⟨by omega, fun c hc => by rw [ho2 c hc, kS.o (by omega), k.o hc]⟩⟩
      all_goals simp only [upd_get, Nat.reduceEqDiff, ↓reduceIte, z3, z4, z17, z18]
    by_cases r1 : s.1.tmod 4 = 1
    · have x1 : (s.1.tmod 4 == 1) = true := by simpa using r1
      obtain ⟨H2, e2, k2, f2⟩ := clear_spec (q := qS SSo) ckS th
      rw [hps.1] at e2
      have or2 := (f2.2 r (by omega) (Ne.symm hre.2)).trans orS
      obtain ⟨H3, hH3⟩ : ∃ H3, H3 = H2.set r (.row false (setR (arr T) th.toNat [.i .i64 0])) := ⟨_, rfl⟩
      have k3 : Ck H3 e m now (delT T th) := k2.eqs (by rw [hH3]; exact Nat.le_refl _) (by rw [hH3, AH_set_o, if_neg hre.1]) (by rw [hH3, AH_set_o, if_neg hre.2])
      have or3 : H3.o r = some (.row false (arr (delT T th))) := by rw [hH3, AH_set_o, if_pos rfl, arr_del hb]
      have hpe : decide (0 < at0 T th) = decide (1 ≤ at0 T th) := by rw [decide_eq_decide]; omega
      have xe : (decide (1 ≤ at0 T th) != decide (1 ≤ at0 T th)) = false := by simp
      have f2n := f2.1
      simp only [l5_37, runR_seq, r5_6, aops_cons, aop, aBin, ev_t, q19, q18, BinOp.isShift, Bool.false_eq_true, or_true, ↓reduceIte, aInt_lss, c2, decide_true, withH_some', thenOps_some, put_some, aops_nil, regR_some, runR_cond', upd_get, condR_b, runR_skip, runR_block, r5_7, Nat.reduceEqDiff, q17, and_self, Int.toNat_natCast, aload, hr1, apart, Nat.add_assoc, hfl, hel', astore, hn_o, AV.cells, List.length_cons, List.length_nil, Nat.zero_add, Nat.reduceAdd, Nat.reduceLeDiff, setR_z, setR_e, ← hHS, withU_some', put_none, r5_8, oS, List.getElem?_cons_succ, List.getElem?_cons_zero, ev_c, aInt_and, ← hth, r5_9, Nat.add_zero, aInt_rem, Int.reduceEq, r5_10, aInt_eql, x1, r5_11, adrn_cons, AOp.kind, nStep_0, q3, thenN_some, nStep_3, asX_cons, asX_nil, e2, thenNC_some, q4, hb, cast_of, Nat.mul_one, nStep_1, List.take_succ_cons, List.take_zero, asame_more, or2, hg, asame_one, orS, fst1_some, both_same, thenNL_some, aInt_gtr, GT.gt, hpe, beq_self_eq_true, bne_self_eq_false, adrn_nil, r5_13, hlen, ← hH3, runR_inBlock]
      refine fin _ H3 now (delT T th) k3 or3 (by rw [hH3]; exact f2n) (fun c hc => ?_) ?_ ?_ ?_ ?_ ?_
      · rw [hH3, AH_set_o, if_neg (by omega), f2.2 c (by omega) (by omega)]
      all_goals simp only [upd_get, Nat.reduceEqDiff, ↓reduceIte, q17, q3, q19, q18, q4]
    · have x1 : (s.1.tmod 4 == 1) = false := by simpa using r1
      by_cases r2 : s.1.tmod 4 = 2
      · have x2 : (s.1.tmod 4 == 2) = true := by simpa using r2
        obtain ⟨w, H2, e2, k2, v2, f2, hw⟩ := tick_spec ckS s.2.2
        have f2n := f2.1
        have or2 := (f2.2 r (by omega) (Ne.symm hre.1) (Ne.symm hre.2)).trans orS
        obtain ⟨wa, wlo, wex, wsz, hwe⟩ := v2.len
        subst hwe
        simp only [l5_37, runR_seq, r5_6, aops_cons, aop, aBin, ev_t, q19, q18, BinOp.isShift, Bool.false_eq_true, or_true, ↓reduceIte, aInt_lss, c2, decide_true, withH_some', thenOps_some, put_some, aops_nil, regR_some, runR_cond', upd_get, condR_b, runR_skip, runR_block, r5_7, Nat.reduceEqDiff, q17, and_self, Int.toNat_natCast, aload, hr1, apart, Nat.add_assoc, hfl, hel', astore, hn_o, AV.cells, List.length_cons, List.length_nil, Nat.zero_add, Nat.reduceAdd, Nat.reduceLeDiff, setR_z, setR_e, ← hHS, withU_some', put_none, r5_8, oS, List.getElem?_cons_succ, List.getElem?_cons_zero, ev_c, aInt_and, r5_9, Nat.add_zero, aInt_rem, Int.reduceEq, r5_10, aInt_eql, x1, r5_14, x2, r5_15, r5_16, q3, asX_cons, asX_nil, e2, runR_loop']
        refine once_due (H0 := H) ⟨HS, now, ckS⟩ k2 or2 (by omega) hre v2 (fun b' hb' => by have := hw b' hb'; omega) (fun c hc => ?_) (by omega) hrn ?_ ?_ ?_ ?_ ?_ ?_ (fun t3 H3 y3 y4 y17 y18 y19 k3 or3 n3 ho3 => ?_)
        · rw [f2.2 c (by omega) (by omega) (by omega), kS.o (by omega), k.o hc]
        case refine_8 =>
          simp only [upd_get, Nat.reduceEqDiff, ↓reduceIte, q17, q18, q19] at y17 y18 y19
          have hnl : ¬ (256 : Nat) < 256 := by omega
          have hle : 256 ≤ (arr ((dueT T (tickN now s.2.2)).foldl delT T)).length := by rw [arr_len]; exact Nat.le_refl _
          have htk : (arr ((dueT T (tickN now s.2.2)).foldl delT T)).take 256 = arr ((dueT T (tickN now s.2.2)).foldl delT T) := List.take_of_length_le (by rw [arr_len]; exact Nat.le_refl _)
          simp only [runR_seq, r5_25, aops_cons, aop, aload, ev_t, y4, or3, apart, Nat.zero_add, hle, ↓reduceIte, List.drop_zero, htk, withH_some', thenOps_some, put_some, ev_c, aops_nil, regR_some, runR_block, runR_loop']
          refine once_left (v4 := .p (some (r, 0))) (v17 := .sl (some (b, o)) L.length lo ex sz) (v18 := .i .i64 L.length) (v19 := .i .i64 i) k3 (fun x hx => ?_) (fun t4 u3 u4 u17 u18 u19 => ?_) _ ?_ ?_ ?_ ?_ ?_ ?_ ?_
          · rw [at0_dels] at hx ⊢
            by_cases hxd : x ∈ dueT T (tickN now s.2.2)
            · rw [if_pos hxd] at hx; omega
            · rw [if_neg hxd] at hx ⊢
              rw [due_mem ck.nd] at hxd
              have := (at_pos ckS x).1
              rw [decide_eq_true hx] at this
              by_cases h : tickN now s.2.2 < at0 T x
              · exact h
              · exact absurd ⟨this, by omega⟩ hxd
          · simp only [runR_inBlock]
            refine fin _ H3 _ _ k3 or3 (by omega) (fun c hc => ?_) u3 u4 u17 u18 u19
            rw [ho3 c hc, kS.o (by omega), k.o hc]
          all_goals simp only [upd_get, Nat.reduceEqDiff, ↓reduceIte, y19, y4, y17, y3, y18]
        all_goals simp only [upd_get, Nat.reduceEqDiff, ↓reduceIte, q3, q4]
      · have x2 : (s.1.tmod 4 == 2) = false := by simpa using r2
        obtain ⟨H2, e2, k2, f2⟩ := set_spec (q := qS SSo) ckS th s.2.2
        have f2n := f2.1
        have or2 := (f2.2 r (by omega) (Ne.symm hre.2)).trans orS
        by_cases h1 : 1 ≤ s.2.2
        · have a1 : setE th s.2.2 = 0 := by unfold setE; rw [if_pos (by omega)]
          have a2 : setC T now th s.2.2 = setT T th (dueAt now s.2.2) := by unfold setC; rw [if_pos (by omega)]
          rw [a1] at e2; rw [a2] at k2
          have x0 : ((0 : Int) == 0) = true := by decide
          have ea := at_spec (q := qS SSo) k2 th
          have hat : at0 (setT T th (dueAt now s.2.2)) th = dueAt now s.2.2 := by rw [at0_set, if_pos rfl]
          rw [hat] at ea
          obtain ⟨H3, hH3⟩ : ∃ H3, H3 = H2.set r (.row false (setR (arr T) th.toNat [.i .i64 (dueAt now s.2.2)])) := ⟨_, rfl⟩
          have k3 : Ck H3 e m now (setT T th (dueAt now s.2.2)) := k2.eqs (by rw [hH3]; exact Nat.le_refl _) (by rw [hH3, AH_set_o, if_neg hre.1]) (by rw [hH3, AH_set_o, if_neg hre.2])
          have or3 : H3.o r = some (.row false (arr (setT T th (dueAt now s.2.2)))) := by rw [hH3, AH_set_o, if_pos rfl, arr_set hb]
          have hg3 := arrT_get (T := setT T th (dueAt now s.2.2)) hb
          rw [hat] at hg3
          have en := now_spec (q := qS SSo) k3
          have htm := ck.tm
          cases y1 : decide (dueAt now s.2.2 ≤ now)
          · simp only [l5_37, runR_seq, r5_6, aops_cons, aop, aBin, ev_t, q19, q18, BinOp.isShift, Bool.false_eq_true, or_true, ↓reduceIte, aInt_lss, c2, decide_true, withH_some', thenOps_some, put_some, aops_nil, regR_some, runR_cond', upd_get, condR_b, runR_skip, runR_block, r5_7, Nat.reduceEqDiff, q17, and_self, Int.toNat_natCast, aload, hr1, apart, Nat.add_assoc, hfl, hel', astore, hn_o, AV.cells, List.length_cons, List.length_nil, Nat.zero_add, Nat.reduceAdd, Nat.reduceLeDiff, setR_z, setR_e, ← hHS, withU_some', put_none, r5_8, oS, List.getElem?_cons_succ, List.getElem?_cons_zero, ev_c, aInt_and, ← hth, r5_9, Nat.add_zero, aInt_rem, Int.reduceEq, r5_10, aInt_eql, x1, r5_14, x2, r5_32, q3, asX_cons, asX_nil, e2, beq_self_eq_true, r5_33, ea, q4, Nat.succ_ne_self, hb, cast_of, Nat.mul_one, or2, hlen, ← hH3, r5_34, adrw_cons, AOp.kind, dStep_0, thenD_some, dStep_1, List.take_succ_cons, List.take_zero, asame_one, or3, hg3, fst1_some, thenL_some, dStep_3, en, thenC_some, astill_0, astill_nil, aInt_leq, y1, adrw_g, gD_b, dSkip_0, dSkip_3, adrw_nil, runR_inBlock]
            refine fin _ H3 now _ k3 or3 (by rw [hH3]; exact f2n) (fun c hc => ?_) ?_ ?_ ?_ ?_ ?_
            · rw [hH3, AH_set_o, if_neg (by omega), f2.2 c (by omega) (by omega)]
            all_goals simp only [upd_get, Nat.reduceEqDiff, ↓reduceIte, q17, q3, q19, q18, q4]
          · have y2 : decide (now < 1099511627776) = false := by
              simp at y1
              unfold dueAt at y1
              simp
              split at y1 <;> omega
            simp only [l5_37, runR_seq, r5_6, aops_cons, aop, aBin, ev_t, q19, q18, BinOp.isShift, Bool.false_eq_true, or_true, ↓reduceIte, aInt_lss, c2, decide_true, withH_some', thenOps_some, put_some, aops_nil, regR_some, runR_cond', upd_get, condR_b, runR_skip, runR_block, r5_7, Nat.reduceEqDiff, q17, and_self, Int.toNat_natCast, aload, hr1, apart, Nat.add_assoc, hfl, hel', astore, hn_o, AV.cells, List.length_cons, List.length_nil, Nat.zero_add, Nat.reduceAdd, Nat.reduceLeDiff, setR_z, setR_e, ← hHS, withU_some', put_none, r5_8, oS, List.getElem?_cons_succ, List.getElem?_cons_zero, ev_c, aInt_and, ← hth, r5_9, Nat.add_zero, aInt_rem, Int.reduceEq, r5_10, aInt_eql, x1, r5_14, x2, r5_32, q3, asX_cons, asX_nil, e2, beq_self_eq_true, r5_33, ea, q4, Nat.succ_ne_self, hb, cast_of, Nat.mul_one, or2, hlen, ← hH3, r5_34, adrw_cons, AOp.kind, dStep_0, thenD_some, dStep_1, List.take_succ_cons, List.take_zero, asame_one, or3, hg3, fst1_some, thenL_some, dStep_3, en, thenC_some, astill_0, astill_nil, aInt_leq, y1, adrw_g, gD_b, y2, adrw_nil, runR_inBlock]
            refine fin _ H3 now _ k3 or3 (by rw [hH3]; exact f2n) (fun c hc => ?_) ?_ ?_ ?_ ?_ ?_
            · rw [hH3, AH_set_o, if_neg (by omega), f2.2 c (by omega) (by omega)]
            all_goals simp only [upd_get, Nat.reduceEqDiff, ↓reduceIte, q17, q3, q19, q18, q4]
        · have a1 : setE th s.2.2 = 1 := by unfold setE; rw [if_neg (by omega)]
          have a2 : setC T now th s.2.2 = T := by unfold setC; rw [if_neg (by omega)]
          rw [a1] at e2; rw [a2] at k2
          have x0 : ((1 : Int) == 0) = false := by decide
          simp only [l5_37, runR_seq, r5_6, aops_cons, aop, aBin, ev_t, q19, q18, BinOp.isShift, Bool.false_eq_true, or_true, ↓reduceIte, aInt_lss, c2, decide_true, withH_some', thenOps_some, put_some, aops_nil, regR_some, runR_cond', upd_get, condR_b, runR_skip, runR_block, r5_7, Nat.reduceEqDiff, q17, and_self, Int.toNat_natCast, aload, hr1, apart, Nat.add_assoc, hfl, hel', astore, hn_o, AV.cells, List.length_cons, List.length_nil, Nat.zero_add, Nat.reduceAdd, Nat.reduceLeDiff, setR_z, setR_e, ← hHS, withU_some', put_none, r5_8, oS, List.getElem?_cons_succ, List.getElem?_cons_zero, ev_c, aInt_and, ← hth, r5_9, Nat.add_zero, aInt_rem, Int.reduceEq, r5_10, aInt_eql, x1, r5_14, x2, r5_32, q3, asX_cons, asX_nil, e2, x0, runR_inBlock]
          refine fin _ H2 now _ k2 or2 f2n (fun c hc => ?_) ?_ ?_ ?_ ?_ ?_
          · rw [f2.2 c (by omega) (by omega)]
          all_goals simp only [upd_get, Nat.reduceEqDiff, ↓reduceIte, q17, q3, q19, q18, q4]
  · rintro t' H' ⟨q3, q4, q17, q18, q19, _, _, k⟩
    have c1 : decide ((L.length : Int) < (L.length : Int)) = false := by simp
    obtain ⟨HE, eE⟩ := alive_spec (H := H')
    simp only [l5_37, runR_seq, r5_6, aops_cons, aop, aBin, ev_t, q19, q18, BinOp.isShift, Bool.false_eq_true, or_true, ↓reduceIte, aInt_lss, c1, withH_some', thenOps_some, put_some, aops_nil, regR_some, runR_cond', upd_get, condR_b, runR_exit', aexit_code, aexit_inLoop, aexit_inBlock, exitR_some, r5_38, asX_nil, eE, runR_ret, afinish_def, s5, aresults, aresult, aback]
    exact Sp.ret (hQ _)
  all_goals simp only [upd_get, ↓reduceIte, cast_of, Nat.reduceEqDiff]
end Go.Proofs.Ytaolkpkaiidmeaa.Abs
