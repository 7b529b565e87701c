/- What a table tells; all of a thread's own let to all. No condition of its own. -/
import Derived.Test.YthcibbfljcfheaaOpsA
namespace Go.Proofs.Ythcibbfljcfheaa.Abs
set_option linter.unusedSimpArgs false
set_option linter.unusedVariables false
set_option maxRecDepth 100000
set_option maxHeartbeats 8000000
def SL.own (S : SL) (th : Int) : List Int := if 0 ≤ th ∧ th < 256 then S.ow th.toNat else []
def SL.flush (S : SL) (th : Int) : SL := if S.own th = [] then S else ((S.own th).foldl SL.share S).setOw th.toNat []
def SL.owN (S : SL) : Nat → Nat
  | 0 => 0
  | i + 1 => S.owN i + (S.ow i).length
def SL.inu (S : SL) : Nat → List Int
  | 0 => []
  | i + 1 => S.inu i ++ (if S.usd i then [(i : Int)] else [])
theorem drop_take2 {α : Type} {l : List α} {k : Nat} {a b : α} (h1 : l[k]? = some a) (h2 : l[k + 1]? = some b) : (l.drop k).take 2 = [a, b] := by
  apply List.ext_getElem?
  intro i
  rw [List.getElem?_take]
  match i with
  | 0 => simpa using h1
  | 1 => simpa using h2
  | i + 2 => simp; omega
section
variable {H : AH} {m pl sz : Nat} {S : SL} {R : List AV}
theorem own_spec (h : IsT H m pl sz S R) (hp1 : 1 ≤ pl) (how : ∀ th, (S.ow th).length ≤ 64) (th : Int) : ∃ v H', callR tbl 13 [.p (some (m, 0)), .i .i64 th] H = some (v, H') ∧ Wr H' v 1 (S.own th).length ((S.own th).map I1) ∧ Keeps H H' ∧ ∀ b, blk v = some b → H.n ≤ b := by
  refine Sp.two (f := fun v => v) fun Q hQ => ?_
  unfold SL.own at hQ
  cases c1 : decide (0 ≤ th ∧ th < 256)
  · rw [if_neg (by simpa using c1)] at hQ
    simp only [c13, b13, runR_seq, r13_0, aops_cons, aop, ev_c, thenOps_some, put_some, aops_nil, regR_some, r13_1, ev_t, upd_get, reduceCtorEq, ↓reduceIte, ainit_get, List.getD_cons_zero, asX_cons, asX_nil, ok_spec h hp1, aUn_not, Bool.not_true, withH_some', aops_g, gOps_b, Nat.reduceEqDiff, List.getD_cons_succ, thr_spec, c1, Bool.not_false, Bool.false_eq_true, runR_cond', condR_b, r13_2, runR_ret, afinish_def, s13, aresults, aresult, aback]
    exact Sp.ret (hQ _ _ ⟨Wr.nil, Keeps.refl _, fun b hb => by cases hb⟩)
  · have c2 : 0 ≤ th ∧ th < 256 := by simpa using c1
    rw [if_pos c2] at hQ
    obtain ⟨y, hy, wy⟩ := h.ato (th := th.toNat) (by omega)
    simp only [c13, b13, runR_seq, r13_0, aops_cons, aop, ev_c, thenOps_some, put_some, aops_nil, regR_some, r13_1, ev_t, upd_get, reduceCtorEq, ↓reduceIte, ainit_get, List.getD_cons_zero, asX_cons, asX_nil, ok_spec h hp1, aUn_not, Bool.not_true, withH_some', aops_g, gOps_b, Nat.reduceEqDiff, List.getD_cons_succ, thr_spec, c2, and_self, decide_true, Bool.false_eq_true, runR_cond', condR_b, runR_skip, r13_3, Nat.zero_add, cast_of, Nat.mul_one, aload, h.o, apart, hy]
    refine Sp.c2 (f := fun v => v) (clone_spec wy (by have := how th.toNat; omega)) ?_
    rintro v H1 ⟨g1, g2, g3⟩
    simp only [put_some, aops_cons, aop, ev_t, upd_get, ↓reduceIte, thenOps_some, aops_nil, regR_some, runR_ret, afinish_def, s13, aresults, aresult, aback]
    exact Sp.ret (hQ _ _ ⟨g1, g2, g3⟩)
theorem setOw_same (S : SL) (th : Nat) : S.setOw th (S.ow th) = S := by
  unfold SL.setOw
  cases S
  simp only
  congr 1
  funext k
  split
  · rename_i e; rw [e]
  · rfl
theorem flush_spec (h : IsT H m pl sz S R) (hp1 : 1 ≤ pl) (how : ∀ th, (S.ow th).length ≤ 64) {th : Int} (hsh : ∀ j, j ≤ (S.own th).length → (((S.own th).take j).foldl SL.share S).co.length ≤ 4096 ∧ (((S.own th).take j).foldl SL.share S).co.Pairwise (· < ·)) :
    ∃ R' H', callR tbl 10 [.p (some (m, 0)), .i .i64 th] H = some (.i .i64 (S.own th).length, H') ∧ IsT H' m pl sz (S.flush th) R' ∧ Trn H H' (FT m R) (FT m R') := by
  obtain ⟨v, H1, e1, w1, k1, b1⟩ := own_spec h hp1 how th
  have T1 := h.keeps k1
  obtain ⟨D, hD⟩ : ∃ D, D = S.own th := ⟨_, rfl⟩
  have hDl : D.length ≤ 64 := by
    rw [hD]; unfold SL.own; split
    · exact how _
    · simp
  obtain ⟨a, lo, ex, sz', hve⟩ := w1.len
  subst hve
  rw [← hD] at e1 w1 hsh b1
  have hvF : ∀ b, blk (.sl a D.length lo ex sz') = some b → ¬ FT m R b := fun b hb hf => by have := h.old hf; have := b1 b hb; omega
  refine Sp.two (f := fun _ => .i .i64 (S.own th).length) fun Q hQ => ?_
  unfold SL.flush at hQ
  rw [← hD] at hQ
  simp only [c10, b10, runR_seq, r10_0, aops_cons, aop, ev_c, thenOps_some, put_some, aops_nil, regR_some, r10_1, ev_t, upd_get, reduceCtorEq, ↓reduceIte, ainit_get, List.getD_cons_zero, Nat.reduceEqDiff, List.getD_cons_succ, asX_cons, asX_nil, e1, r10_2, runR_block, runR_loop']
  refine loop_law D.length (fun i t' H' => t' 0 = .p (some (m, 0)) ∧ t' 1 = .i .i64 th ∧ t' 5 = .sl a D.length lo ex sz' ∧ t' 11 = .sl a D.length lo ex sz' ∧ t' 12 = .i .i64 D.length ∧ t' 13 = .i .i64 i ∧ ∃ R', IsT H' m pl sz ((D.take i).foldl SL.share S) R' ∧ Trn H1 H' (FT m R) (FT m R')) (fun r => Sp r Q) ?_ ?_ 0 _ H1 (Nat.zero_le _) ?_
  · rintro i t' H' hi ⟨q0, q1, q5, q11, q12, q13, R1, hT, hF⟩ ih
    have c1 : decide ((i : Int) < (D.length : Int)) = true := by simp; omega
    have c2 : 0 ≤ (i : Int) ∧ (i : Int) < (D.length : Int) := by omega
    have hwi := wr1 (i := i) (by omega)
    obtain ⟨x, hx⟩ : ∃ x, D[i]? = some x := ⟨_, List.getElem?_eq_getElem hi⟩
    obtain ⟨b, o, lo', ex', sz2, ro, full, e, hb, hr, hel⟩ := w1.rs.el1 hx
    cases e
    have hr' : H'.o b = _ := (hF.o b hb (hvF b rfl)).trans hr
    obtain ⟨g1, g2⟩ := hsh i (by omega)
    simp only [l10_7, runR_seq, r10_3, aops_cons, aop, aBin, ev_t, q13, q12, BinOp.isShift, Bool.false_eq_true, or_true, ↓reduceIte, aInt_lss, c2, decide_true, withH_some', thenOps_some, put_some, aops_nil, regR_some, runR_cond', upd_get, condR_b, runR_skip, runR_block, r10_4, Nat.reduceEqDiff, q11, and_self, Int.toNat_natCast, Nat.mul_one, aload, hr', apart, hel, r10_5, reduceCtorEq, q0, asX_cons, asX_nil]
    refine Sp.c2 (f := fun _ => .tup []) (share_spec hT g1 g2 (x := x)) ?_
    rintro R2 H2 ⟨T2, F2, _⟩
    simp only [put_some, aops_nil, regR_some, runR_inBlock, r10_6, aops_cons, aop, aBin, ev_t, upd_get, Nat.reduceEqDiff, ↓reduceIte, q13, ev_c, BinOp.isShift, Bool.false_eq_true, or_true, aInt_add, hwi, withH_some', thenOps_some]
    refine ih _ _ ⟨?_, ?_, ?_, ?_, ?_, ?_, R2, ?_, hF.trans F2⟩
    case refine_7 =>
      have : D.take (i + 1) = D.take i ++ [x] := by rw [List.take_add_one, hx]; rfl
      rw [this, List.foldl_append]
      exact T2
    all_goals simp only [upd_get, Nat.reduceEqDiff, ↓reduceIte, q5, q1, q11, q12, reduceCtorEq, q0]
  · rintro t' H' ⟨q0, q1, q5, q11, q12, q13, R1, hT, hF⟩
    rw [List.take_length] at hT
    have c1 : decide ((D.length : Int) < (D.length : Int)) = false := by simp
    cases c2 : decide ((D.length : Int) > 0)
    · have hD0 : D = [] := by simpa using c2
      rw [if_pos hD0] at hQ
      rw [hD0] at hT
      simp only [l10_7, runR_seq, r10_3, aops_cons, aop, aBin, ev_t, q13, q12, BinOp.isShift, Bool.false_eq_true, or_true, ↓reduceIte, aInt_lss, c1, withH_some', thenOps_some, put_some, aops_nil, regR_some, runR_cond', upd_get, condR_b, runR_exit', aexit_code, aexit_inLoop, aexit_inBlock, exitR_some, r10_8, Nat.reduceEqDiff, q5, ev_c, aInt_gtr, GT.gt, c2, runR_skip, r10_10, runR_ret, afinish_def, s10, aresults, aresult, aback]
      exact Sp.ret (hQ _ _ ⟨hT, (Trn.of_keeps k1).trans hF⟩)
    · have hD0 : ¬ D = [] := by intro e; rw [e] at c2; simp at c2
      rw [if_neg hD0] at hQ
      have ht : 0 ≤ th ∧ th < 256 := by
        rw [hD] at hD0
        unfold SL.own at hD0
        split at hD0
        · assumption
        · exact absurd rfl hD0
      obtain ⟨y, hy, wy⟩ := hT.ato (th := th.toNat) (by omega)
      obtain ⟨T2, F2⟩ := hT.upd (S' := (D.foldl SL.share S).setOw th.toNat []) (H1 := H') (j := th.toNat + 2) (v := y) (v' := .sl none 0 0 true 0) (by rw [show th.toNat + 2 + 2 = 4 + th.toNat by omega]; exact hy) (Nat.le_refl _) (fun _ _ _ => rfl) (by
        have : ((D.foldl SL.share S).setOw th.toNat []).ct (th.toNat + 2) = (1, 0, []) := by unfold SL.setOw SL.ct; simp
        rw [this]
        exact Wr.nil) (fun b hb => by cases hb) ct_ow
      rw [show th.toNat + 2 + 2 = 4 + th.toNat by omega] at T2 F2
      have hll := hT.ll
      have r1 : setR R1 (4 + th.toNat) [.sl none 0 0 true 0] = R1.set (4 + th.toNat) (.sl none 0 0 true 0) := setR_set1 (by omega)
      have g1 : 4 + th.toNat + 1 ≤ R1.length := by omega
      have g2 : 4 + (th.toNat + 1) ≤ R1.length := by omega
      simp only [l10_7, runR_seq, r10_3, aops_cons, aop, aBin, ev_t, q13, q12, BinOp.isShift, Bool.false_eq_true, or_true, ↓reduceIte, aInt_lss, c1, withH_some', thenOps_some, put_some, aops_nil, regR_some, runR_cond', upd_get, condR_b, runR_exit', aexit_code, aexit_inLoop, aexit_inBlock, exitR_some, r10_8, Nat.reduceEqDiff, q5, ev_c, aInt_gtr, GT.gt, c2, r10_9, reduceCtorEq, q0, q1, Nat.zero_add, ht, cast_of, and_self, Nat.mul_one, astore, hT.o, AV.cells, List.length_cons, List.length_nil, Nat.add_assoc, g2, r1, withU_some', put_none, r10_10, runR_ret, afinish_def, s10, aresults, aresult, aback]
      exact Sp.ret (hQ _ _ ⟨T2, ((Trn.of_keeps k1).trans hF).trans F2⟩)
  · refine ⟨?_, ?_, ?_, ?_, ?_, ?_, R, T1, Trn.refl⟩
    all_goals simp only [upd_get, ↓reduceIte, cast_of, Nat.reduceEqDiff, reduceCtorEq, ainit_get, List.getD_cons_zero, List.getD_cons_succ]
theorem inuse_spec (h : IsT H m pl sz S R) (hp1 : 1 ≤ pl) (hg : S.gs.length ≤ 4096) : ∃ v H', callR tbl 12 [.p (some (m, 0))] H = some (v, H') ∧ Wr H' v 1 (S.inu S.gs.length).length ((S.inu S.gs.length).map I1) ∧ Keeps H H' ∧ ∀ b, blk v = some b → H.n ≤ b := by
  obtain ⟨s, hs, ws⟩ := h.at0
  obtain ⟨sa, slo, sex, ssz, rfl⟩ := ws.len
  obtain ⟨n, hn⟩ : ∃ n, n = S.gs.length := ⟨_, rfl⟩
  rw [← hn] at hs ws hg
  have hinl : ∀ i, (S.inu i).length ≤ i := by
    intro i
    induction i with
    | zero => exact Nat.le_refl _
    | succ i ih => unfold SL.inu; rw [List.length_append]; split <;> simp <;> omega
  refine Sp.two (f := fun v => v) fun Q hQ => ?_
  rw [← hn] at hQ
  simp only [c12, b12, runR_seq, r12_0, aops_cons, aop, ev_c, thenOps_some, put_some, aops_nil, regR_some, r12_1, ev_t, upd_get, reduceCtorEq, ↓reduceIte, ainit_get, List.getD_cons_zero, asX_cons, asX_nil, ok_spec h hp1, aUn_not, Bool.not_true, withH_some', runR_cond', condR_b, Bool.false_eq_true, runR_skip, r12_3, r12_4, Nat.zero_add, aload, h.o, apart, hs, runR_block, runR_loop']
  refine loop_law n (fun i t' H' => t' 12 = .sl sa n slo sex ssz ∧ t' 13 = .i .i64 n ∧ t' 14 = .i .i64 i ∧ Keeps H H' ∧ ∃ v, t' 3 = v ∧ Wr H' v 1 (S.inu i).length ((S.inu i).map I1) ∧ ∀ b, blk v = some b → H.n ≤ b) (fun r => Sp r Q) ?_ ?_ 0 _ H (Nat.zero_le _) ?_
  · rintro i t' H' hi ⟨q12, q13, q14, hk, v, q3, hw, hb⟩ ih
    have c1 : decide ((i : Int) < (n : Int)) = true := by simp; omega
    have c2 : 0 ≤ (i : Int) ∧ (i : Int) < (n : Int) := by omega
    have hwi := wr1 (i := i) (by omega)
    obtain ⟨p, hp⟩ : ∃ p, S.gs[i]? = some p := ⟨_, List.getElem?_eq_getElem (by omega)⟩
    obtain ⟨b, o, lo, ex, full, e, hbn, hr, hin, hle, e1, e2, _⟩ := ws.slot hp
    cases e
    have hr' : H'.o b = _ := (hk.2 b hbn).trans hr
    have hdt := drop_take2 e1 e2
    have hle2 : o + (i * 2 + 2) ≤ full.length := by omega
    have hdt' := hdt
    have hnb : b ≠ H'.n := by have := hk.1; omega
    have hbne : (b = H'.n) = False := eq_false hnb
    have hu : S.usd i = p.1 := by unfold SL.usd; rw [Int.toNat_natCast, hp]; simp
    have hil := hinl i
    obtain ⟨H2, hH2⟩ : ∃ X, X = (H'.new (.row false [.b false, .i .u32 0])).set H'.n (.row false [.b p.1, .i .u32 p.2]) := ⟨_, rfl⟩
    have k2 : Keeps H' H2 := by rw [hH2]; exact (Keeps.refl _).new.set (Nat.le_refl _)
    have hw2 := hw.keeps k2
    have o2 : H2.o H'.n = some (.row false [.b p.1, .i .u32 p.2]) := by rw [hH2, AH_set_o, if_pos rfl]
    cases hpu : p.1
    · rw [hpu] at hH2 o2 hdt hu
      simp only [l12_10, runR_seq, r12_5, aops_cons, aop, aBin, ev_t, q14, q13, BinOp.isShift, Bool.false_eq_true, or_true, ↓reduceIte, aInt_lss, c2, decide_true, withH_some', thenOps_some, put_some, aops_nil, regR_some, runR_cond', upd_get, condR_b, runR_skip, runR_block, r12_6, Nat.reduceEqDiff, q12, and_self, Int.toNat_natCast, aload, hr', apart, Nat.add_assoc, hle2, hdt, astore, Nat.succ_ne_self, hn_o, AV.cells, List.length_cons, List.length_nil, Nat.zero_add, Nat.reduceAdd, Nat.reduceLeDiff, setR_z, setR_e, ← hH2, withU_some', put_none, r12_7, Nat.add_zero, o2, List.getElem?_cons_zero, runR_inBlock, r12_9, ev_c, aInt_add, hwi]
      refine ih _ _ ⟨?_, ?_, ?_, hk.trans k2, v, ?_, ?_, hb⟩
      case refine_5 =>
        have : S.inu (i + 1) = S.inu i := by show S.inu i ++ (if S.usd i then [(i : Int)] else []) = _; rw [hu]; simp
        rw [this]; exact hw2
      all_goals simp only [upd_get, Nat.reduceEqDiff, ↓reduceIte, q12, q13, q3]
    · rw [hpu] at hH2 o2 hdt hu
      obtain ⟨v', H3, ea, w3, n3, o3, b3⟩ := Wr.one (z := [.i .i64 0]) (y := 8) (sz := 1) (ex := true) rfl hw2 (xs := [.i .i64 (i : Int)]) rfl (by omega)
      obtain ⟨a, lo2, ex2, sz2, hve⟩ := hw2.len
      have k3 : Keeps H H3 := ⟨Nat.le_trans (hk.trans k2).1 n3, fun c hc => (o3 c (Nat.lt_of_lt_of_le hc (hk.trans k2).1) (fun e => by have := hb c e; omega)).trans ((hk.trans k2).2 c hc)⟩
      subst hve
      simp only [l12_10, runR_seq, r12_5, aops_cons, aop, aBin, ev_t, q14, q13, BinOp.isShift, Bool.false_eq_true, or_true, ↓reduceIte, aInt_lss, c2, decide_true, withH_some', thenOps_some, put_some, aops_nil, regR_some, runR_cond', upd_get, condR_b, runR_skip, runR_block, r12_6, Nat.reduceEqDiff, q12, and_self, Int.toNat_natCast, aload, hr', apart, Nat.add_assoc, hle2, hdt, astore, Nat.succ_ne_self, hn_o, AV.cells, List.length_cons, List.length_nil, Nat.zero_add, Nat.reduceAdd, Nat.reduceLeDiff, setR_z, setR_e, ← hH2, withU_some', put_none, r12_7, Nat.add_zero, o2, List.getElem?_cons_zero, r12_8, q3, afill, zerosA, List.append_nil, ea, runR_inBlock, r12_9, ev_c, aInt_add, hwi]
      have hi1 : S.inu (i + 1) = S.inu i ++ [(i : Int)] := by show S.inu i ++ (if S.usd i then [(i : Int)] else []) = _; rw [hu]; rfl
      refine ih _ _ ⟨?_, ?_, ?_, k3, v', ?_, ?_, fun c hc => (b3 c hc).elim (hb c) (fun e => Nat.le_trans (hk.trans k2).1 e)⟩
      case refine_5 =>
        rw [hi1, List.length_append, List.map_append]; exact w3
      all_goals simp only [upd_get, Nat.reduceEqDiff, ↓reduceIte, q12, q13]
  · rintro t' H' ⟨q12, q13, q14, hk, v, q3, hw, hb⟩
    have c1 : decide ((n : Int) < (n : Int)) = false := by simp
    simp only [l12_10, runR_seq, r12_5, aops_cons, aop, aBin, ev_t, q14, q13, BinOp.isShift, Bool.false_eq_true, or_true, ↓reduceIte, aInt_lss, c1, withH_some', thenOps_some, put_some, aops_nil, regR_some, runR_cond', upd_get, condR_b, runR_exit', aexit_code, aexit_inLoop, aexit_inBlock, exitR_some, r12_11, Nat.reduceEqDiff, q3, runR_ret, afinish_def, s12, aresults, aresult, aback]
    exact Sp.ret (hQ _ _ ⟨hw, hk, hb⟩)
  · refine ⟨?_, ?_, ?_, Keeps.refl _, .sl none 0 0 true 0, ?_, Wr.nil, fun b hb => by cases hb⟩
    all_goals simp only [upd_get, Nat.reduceEqDiff, ↓reduceIte, cast_of]
end
section
variable {H : AH} {m pl sz : Nat} {S : SL} {R : List AV}
def SL.left (pl : Nat) (S : SL) : Int := (pl : Int) - S.gs.length + S.co.length + S.owN 256
theorem owN_le (how : ∀ th, (S.ow th).length ≤ 64) (i : Nat) : S.owN i ≤ 64 * i := by
  induction i with
  | zero => exact Nat.le_refl _
  | succ i ih => unfold SL.owN; have := how i; omega
theorem left_spec (h : IsT H m pl sz S R) (hp1 : 1 ≤ pl) (hg : S.gs.length ≤ pl) (hp : pl ≤ 4096) (hco : S.co.length ≤ 4096) (how : ∀ th, (S.ow th).length ≤ 64) : callR tbl 16 [.p (some (m, 0))] H = some (.i .i64 (S.left pl), H) := by
  obtain ⟨s, hs, ws⟩ := h.at0
  obtain ⟨sa, slo, sex, ssz, rfl⟩ := ws.len
  obtain ⟨c, hc, wc⟩ := h.at1
  obtain ⟨ca, clo, cex, csz, rfl⟩ := wc.len
  have hll := h.ll
  obtain ⟨A, hA⟩ : ∃ A, A = (R.drop 4).take 256 := ⟨_, rfl⟩
  have hAg : ∀ i, i < 256 → A[i]? = R[4 + i]? := fun i hi => by rw [hA, List.getElem?_take, if_pos hi, List.getElem?_drop]
  have w1 : IntKind.i64.wrap ((pl : Int) - (S.gs.length : Int)) = (pl : Int) - (S.gs.length : Int) := wrap_i64 (by omega)
  have w2 : IntKind.i64.wrap ((pl : Int) - (S.gs.length : Int) + (S.co.length : Int)) = (pl : Int) - (S.gs.length : Int) + (S.co.length : Int) := wrap_i64 (by omega)
  have g1 : 4 + 256 ≤ R.length := by omega
  have e0 : ∃ (u : AV) (H' : AH), callR tbl 16 [.p (some (m, 0))] H = some (.i .i64 (S.left pl), H') ∧ H' = H := by
    refine Sp.two (α := AV) (f := fun _ => .i .i64 (S.left pl)) fun Q hQ => ?_
    simp only [c16, b16, runR_seq, r16_0, aops_cons, aop, ev_c, thenOps_some, put_some, aops_nil, regR_some, r16_1, ev_t, upd_get, reduceCtorEq, ↓reduceIte, ainit_get, List.getD_cons_zero, asX_cons, asX_nil, ok_spec h hp1, aUn_not, Bool.not_true, withH_some', runR_cond', condR_b, Bool.false_eq_true, runR_skip, r16_3, Nat.add_zero, aload, h.o, apart, h.p, Nat.zero_add, hs, aBin, Nat.reduceEqDiff, BinOp.isShift, or_true, aInt_sub, w1, hc, aInt_add, w2, r16_4, Nat.reduceAdd, g1, ← hA, runR_block, runR_loop']
    refine loop_law 256 (fun i t' H' => t' 28 = .agg A ∧ t' 29 = .i .i64 i ∧ t' 3 = .i .i64 ((pl : Int) - S.gs.length + S.co.length + S.owN i) ∧ H' = H) (fun r => Sp r Q) ?_ ?_ 0 _ H (Nat.zero_le _) ?_
    · rintro i t' H' hi ⟨q28, q29, q3, rfl⟩ ih
      have c1 : decide ((i : Int) < 256) = true := by simp; omega
      have c2 : 0 ≤ (i : Int) ∧ (i : Int) < 256 := by omega
      have hwi := wr1 (i := i) (by omega)
      obtain ⟨y, hy, wy⟩ := h.ato hi
      obtain ⟨ya, ylo, yex, ysz, rfl⟩ := wy.len
      have hAi := (hAg i hi).trans hy
      have ho := owN_le how i
      have h4 := how i
      have w3 : IntKind.i64.wrap ((pl : Int) - (S.gs.length : Int) + (S.co.length : Int) + (S.owN i : Int) + ((S.ow i).length : Int)) = (pl : Int) - S.gs.length + S.co.length + S.owN (i + 1) := by
        rw [wrap_i64 (by omega)]
        show _ = (pl : Int) - S.gs.length + S.co.length + ((S.owN i + (S.ow i).length : Nat) : Int)
        omega
      simp only [l16_9, runR_seq, r16_5, aops_cons, aop, aBin, ev_t, q29, ev_c, BinOp.isShift, Bool.false_eq_true, or_true, ↓reduceIte, aInt_lss, c2, decide_true, withH_some', thenOps_some, put_some, aops_nil, regR_some, runR_cond', upd_get, condR_b, runR_skip, runR_block, r16_6, Nat.reduceEqDiff, q28, cast_of, and_self, apart, Int.toNat_natCast, Nat.mul_one, hAi, r16_7, q3, aInt_add, w3, runR_inBlock, r16_8, hwi]
      refine ih _ _ ⟨?_, ?_, ?_, rfl⟩
      all_goals simp only [upd_get, ↓reduceIte, Nat.reduceEqDiff, q28]
    · rintro t' H' ⟨q28, q29, q3, rfl⟩
      have c1 : decide ((256 : Int) < 256) = false := rfl
      simp only [l16_9, runR_seq, r16_5, aops_cons, aop, aBin, ev_t, q29, show ((256 : Nat) : Int) = 256 from rfl, ev_c, BinOp.isShift, Bool.false_eq_true, or_true, ↓reduceIte, aInt_lss, Int.reduceLT, decide_false, withH_some', thenOps_some, put_some, aops_nil, regR_some, runR_cond', upd_get, condR_b, runR_exit', aexit_code, aexit_inLoop, aexit_inBlock, exitR_some, r16_10, Nat.reduceEqDiff, q3, runR_ret, afinish_def, s16, aresults, aresult, aback]
      exact Sp.ret (hQ undefA _ rfl)
    · refine ⟨?_, ?_, ?_, rfl⟩
      all_goals simp only [upd_get, Nat.reduceEqDiff, ↓reduceIte, cast_of]
      simp only [SL.owN]
      simp
  obtain ⟨u, H', e, rfl⟩ := e0
  exact e
theorem gen_out (h : IsT H m pl sz S R) (hp1 : 1 ≤ pl) {n : Int} (hn : n < 0 ∨ (pl : Int) ≤ n) : callR tbl 22 [.p (some (m, 0)), .i .i64 n] H = some (.tup [.i .u32 0, .i .i64 1], H) := by
  cases c1 : decide (n < 0)
  · have c2 : decide (n ≥ (pl : Int)) = true := by simp at c1; simp; omega
    simp only [c22, b22, runR_seq, r22_0, aops_cons, aop, ev_c, thenOps_some, put_some, aops_nil, regR_some, runR_block, r22_1, ev_t, upd_get, reduceCtorEq, ↓reduceIte, ainit_get, List.getD_cons_zero, asX_cons, asX_nil, ok_spec h hp1, aUn_not, Bool.not_true, withH_some', runR_cond', condR_b, Bool.false_eq_true, r22_3, Nat.reduceEqDiff, List.getD_cons_succ, aBin, BinOp.isShift, or_true, aInt_lss, c1, aops_g, gOps_b, Nat.add_zero, aload, h.o, apart, h.p, aInt_geq, GE.ge, c2, r22_4, runR_ret, afinish_def, s22, aresults, aresult, aback]
  · simp only [c22, b22, runR_seq, r22_0, aops_cons, aop, ev_c, thenOps_some, put_some, aops_nil, regR_some, runR_block, r22_1, ev_t, upd_get, reduceCtorEq, ↓reduceIte, ainit_get, List.getD_cons_zero, asX_cons, asX_nil, ok_spec h hp1, aUn_not, Bool.not_true, withH_some', runR_cond', condR_b, Bool.false_eq_true, r22_3, Nat.reduceEqDiff, List.getD_cons_succ, aBin, BinOp.isShift, or_true, aInt_lss, c1, aops_g, gOps_b, Bool.true_eq_false, r22_4, runR_ret, afinish_def, s22, aresults, aresult, aback]
theorem gen_new (h : IsT H m pl sz S R) (hp1 : 1 ≤ pl) {n : Int} (h0 : (S.gs.length : Int) ≤ n) (h1 : n < pl) : callR tbl 22 [.p (some (m, 0)), .i .i64 n] H = some (.tup [.i .u32 0, .i .i64 0], H) := by
  obtain ⟨s, hs, ws⟩ := h.at0
  obtain ⟨sa, slo, sex, ssz, rfl⟩ := ws.len
  have c1 : decide (n < 0) = false := by simp; omega
  have c2 : decide (n ≥ (pl : Int)) = false := by simp; omega
  have c3 : decide (n ≥ (S.gs.length : Int)) = true := by simp; omega
  simp only [c22, b22, runR_seq, r22_0, aops_cons, aop, ev_c, thenOps_some, put_some, aops_nil, regR_some, runR_block, r22_1, ev_t, upd_get, reduceCtorEq, ↓reduceIte, ainit_get, List.getD_cons_zero, asX_cons, asX_nil, ok_spec h hp1, aUn_not, Bool.not_true, withH_some', runR_cond', condR_b, Bool.false_eq_true, r22_3, Nat.reduceEqDiff, List.getD_cons_succ, aBin, BinOp.isShift, or_true, aInt_lss, c1, aops_g, gOps_b, Nat.add_zero, aload, h.o, apart, h.p, aInt_geq, GE.ge, c2, r22_5, Nat.zero_add, hs, c3, r22_6, runR_ret, afinish_def, s22, aresults, aresult, aback]
theorem gen_spec (h : IsT H m pl sz S R) (hp1 : 1 ≤ pl) (hg : S.gs.length ≤ pl) {i : Nat} {p : Bool × Int} (hi : S.gs[i]? = some p) : callR tbl 22 [.p (some (m, 0)), .i .i64 i] H = some (.tup [.i .u32 p.2, .i .i64 0], H) := by
  obtain ⟨b, o, lo, ex, full, hsl, hb, hr, hin, hle, e1, e2, nm, _⟩ := slot_put h hi
  have c1 : decide ((i : Int) < 0) = false := by simp
  have c2 : decide ((i : Int) ≥ (pl : Int)) = false := by simp; omega
  have c3 : decide ((i : Int) ≥ (S.gs.length : Int)) = false := by simp; omega
  have c4 : 0 ≤ (i : Int) ∧ (i : Int) < (S.gs.length : Int) := by omega
  have e3 := e2
  rw [Nat.add_assoc] at e3
  simp only [c22, b22, runR_seq, r22_0, aops_cons, aop, ev_c, thenOps_some, put_some, aops_nil, regR_some, runR_block, r22_1, ev_t, upd_get, reduceCtorEq, ↓reduceIte, ainit_get, List.getD_cons_zero, asX_cons, asX_nil, ok_spec h hp1, aUn_not, Bool.not_true, withH_some', runR_cond', condR_b, Bool.false_eq_true, r22_3, Nat.reduceEqDiff, List.getD_cons_succ, aBin, BinOp.isShift, or_true, aInt_lss, c1, aops_g, gOps_b, Nat.add_zero, aload, h.o, apart, h.p, aInt_geq, GE.ge, c2, r22_5, Nat.zero_add, hsl, c3, runR_skip, runR_inBlock, r22_7, c4, and_self, Int.toNat_natCast, Nat.add_assoc, hr, e3, runR_ret, afinish_def, s22, aresults, aresult, aback]
def SL.chk (S : SL) (n g : Int) : Bool := S.usd n && ((S.gs[n.toNat]?).map fun p => p.2 == g).getD false
theorem check_spec (h : IsT H m pl sz S R) (hp1 : 1 ≤ pl) {n g : Int} : callR tbl 23 [.p (some (m, 0)), .i .i64 n, .i .u32 g] H = some (.b (S.chk n g), H) := by
  unfold SL.chk
  cases hu : S.usd n
  · simp only [c23, b23, runR_seq, r23_0, aops_cons, aop, ev_c, thenOps_some, put_some, aops_nil, regR_some, r23_1, ev_t, upd_get, reduceCtorEq, ↓reduceIte, ainit_get, List.getD_cons_zero, Nat.reduceEqDiff, List.getD_cons_succ, asX_cons, asX_nil, used_spec h hp1, hu, aops_g, gOps_b, Bool.false_eq_true, runR_ret, afinish_def, s23, aresults, aresult, aback, Bool.false_and]
  · have hu' := hu
    unfold SL.usd at hu'
    obtain ⟨h0, h1⟩ := Bool.and_eq_true_iff.1 hu'
    have h0 : 0 ≤ n := by simpa using h0
    cases hp : S.gs[n.toNat]? with
    | none => rw [hp] at h1; simp at h1
    | some p =>
      obtain ⟨i, rfl⟩ := Int.eq_ofNat_of_zero_le h0
      rw [Int.toNat_natCast] at hp
      obtain ⟨b, o, lo, ex, full, hsl, hb, hr, hin, hle, e1, e2, nm, _⟩ := slot_put h hp
      have c4 : 0 ≤ (i : Int) ∧ (i : Int) < (S.gs.length : Int) := by omega
      have e3 := e2
      rw [Nat.add_assoc] at e3
      simp only [c23, b23, runR_seq, r23_0, aops_cons, aop, ev_c, thenOps_some, put_some, aops_nil, regR_some, r23_1, ev_t, upd_get, reduceCtorEq, ↓reduceIte, ainit_get, List.getD_cons_zero, Nat.reduceEqDiff, List.getD_cons_succ, asX_cons, asX_nil, used_spec h hp1, hu, aops_g, gOps_b, Nat.zero_add, aload, h.o, apart, hsl, withH_some', c4, and_self, Int.toNat_natCast, Nat.add_assoc, hr, e3, aBin, BinOp.isShift, Bool.false_eq_true, or_true, aInt_eql, runR_ret, afinish_def, s23, aresults, aresult, aback, Option.map_some, Bool.true_and, Option.some.injEq, Prod.mk.injEq, and_true]
      rfl
theorem made_spec (h : IsT H m pl sz S R) (hp1 : 1 ≤ pl) (hg : S.gs.length ≤ 4096) (hz : 1 ≤ sz ∧ sz ≤ 64) : callR tbl 24 [.p (some (m, 0))] H = some (.i .i64 ((S.gs.length + sz - 1) / sz : Nat), H) := by
  obtain ⟨s, hs, ws⟩ := h.at0
  obtain ⟨sa, slo, sex, ssz, rfl⟩ := ws.len
  have w1 : IntKind.i64.wrap ((S.gs.length : Int) + (sz : Int)) = ((S.gs.length + sz : Nat) : Int) := by rw [wrap_i64 (by omega)]; omega
  have w2 : IntKind.i64.wrap (((S.gs.length + sz : Nat) : Int) - 1) = ((S.gs.length + sz - 1 : Nat) : Int) := by rw [wrap_i64 (by omega)]; omega
  have c1 : ¬ ((sz : Int) = 0) := by omega
  have q1 : bQuo .i64 ((S.gs.length + sz - 1 : Nat) : Int) (sz : Int) = ((S.gs.length + sz - 1) / sz : Nat) := by
    unfold bQuo
    have hd : (S.gs.length + sz - 1) / sz ≤ S.gs.length + sz - 1 := Nat.div_le_self _ _
    have : Int.tdiv ((S.gs.length + sz - 1 : Nat) : Int) (sz : Int) = ((S.gs.length + sz - 1) / sz : Nat) := by
      rw [Int.tdiv_eq_ediv_of_nonneg (by omega)]
      exact (Int.natCast_ediv _ _).symm
    rw [this]
    generalize (S.gs.length + sz - 1) / sz = d at hd
    exact wrap_i64 (by omega)
  simp only [c24, b24, runR_seq, r24_0, aops_cons, aop, ev_c, thenOps_some, put_some, aops_nil, regR_some, r24_1, ev_t, upd_get, reduceCtorEq, ↓reduceIte, ainit_get, List.getD_cons_zero, asX_cons, asX_nil, ok_spec h hp1, aUn_not, Bool.not_true, withH_some', runR_cond', condR_b, Bool.false_eq_true, runR_skip, r24_3, Nat.zero_add, aload, h.o, apart, hs, h.z, aBin, Nat.reduceEqDiff, BinOp.isShift, or_true, aInt_add, w1, aInt_sub, w2, aInt_quo, c1, q1, runR_ret, afinish_def, s24, aresults, aresult, aback]
def SL.new : SL := ⟨[], [], fun _ => []⟩
theorem new_bad {H : AH} {pl sz : Int} (h : pl < 1 ∨ 4096 < pl ∨ sz < 1 ∨ 64 < sz) : callR tbl 7 [.i .i64 pl, .i .i64 sz] H = some (.tup [.p none, .i .i64 1], H) := by
  cases c1 : decide (pl < 1)
  · cases c2 : decide (pl > 4096)
    · cases c3 : decide (sz < 1)
      · have c4 : decide (sz > 64) = true := by simp at c1 c2 c3 ⊢; omega
        simp only [c7, b7, runR_seq, r7_0, aops_cons, aop, ev_c, thenOps_some, put_some, aops_nil, regR_some, r7_1, ev_t, upd_get, reduceCtorEq, ↓reduceIte, ainit_get, List.getD_cons_zero, aBin, BinOp.isShift, Bool.false_eq_true, or_true, aInt_lss, c1, withH_some', aops_g, gOps_b, Nat.reduceEqDiff, aInt_gtr, GT.gt, c2, List.getD_cons_succ, c3, c4, runR_cond', condR_b, r7_2, runR_ret, afinish_def, s7, aresults, aresult, aback]
      · simp only [c7, b7, runR_seq, r7_0, aops_cons, aop, ev_c, thenOps_some, put_some, aops_nil, regR_some, r7_1, ev_t, upd_get, reduceCtorEq, ↓reduceIte, ainit_get, List.getD_cons_zero, aBin, BinOp.isShift, Bool.false_eq_true, or_true, aInt_lss, c1, withH_some', aops_g, gOps_b, Nat.reduceEqDiff, aInt_gtr, GT.gt, c2, List.getD_cons_succ, c3, Bool.true_eq_false, runR_cond', condR_b, r7_2, runR_ret, afinish_def, s7, aresults, aresult, aback]
    · simp only [c7, b7, runR_seq, r7_0, aops_cons, aop, ev_c, thenOps_some, put_some, aops_nil, regR_some, r7_1, ev_t, upd_get, reduceCtorEq, ↓reduceIte, ainit_get, List.getD_cons_zero, aBin, BinOp.isShift, Bool.false_eq_true, or_true, aInt_lss, c1, withH_some', aops_g, gOps_b, Nat.reduceEqDiff, aInt_gtr, GT.gt, c2, Bool.true_eq_false, runR_cond', condR_b, r7_2, runR_ret, afinish_def, s7, aresults, aresult, aback]
  · simp only [c7, b7, runR_seq, r7_0, aops_cons, aop, ev_c, thenOps_some, put_some, aops_nil, regR_some, r7_1, ev_t, upd_get, reduceCtorEq, ↓reduceIte, ainit_get, List.getD_cons_zero, aBin, BinOp.isShift, Bool.false_eq_true, or_true, aInt_lss, c1, withH_some', aops_g, gOps_b, Bool.true_eq_false, Nat.reduceEqDiff, runR_cond', condR_b, r7_2, runR_ret, afinish_def, s7, aresults, aresult, aback]
theorem new_spec {H : AH} {pl sz : Nat} (h : 1 ≤ pl ∧ pl ≤ 4096 ∧ 1 ≤ sz ∧ sz ≤ 64) : ∃ R H', callR tbl 7 [.i .i64 pl, .i .i64 sz] H = some (.tup [.p (some (H.n, 0)), .i .i64 0], H') ∧ IsT H' H.n pl sz SL.new R ∧ Keeps H H' ∧ ∀ c, FT H.n R c → H.n ≤ c := by
  have c1 : decide ((pl : Int) < 1) = false := by simp; omega
  have c2 : decide ((pl : Int) > 4096) = false := by simp; omega
  have c3 : decide ((sz : Int) < 1) = false := by simp; omega
  have c4 : decide ((sz : Int) > 64) = false := by simp; omega
  refine Sp.two (f := fun _ => .tup [.p (some (H.n, 0)), .i .i64 0]) fun Q hQ => ?_
  simp only [c7, b7, runR_seq, r7_0, aops_cons, aop, ev_c, thenOps_some, put_some, aops_nil, regR_some, r7_1, ev_t, upd_get, reduceCtorEq, ↓reduceIte, ainit_get, List.getD_cons_zero, aBin, BinOp.isShift, Bool.false_eq_true, or_true, aInt_lss, c1, withH_some', aops_g, gOps_b, Nat.reduceEqDiff, aInt_gtr, GT.gt, c2, List.getD_cons_succ, c3, c4, runR_cond', condR_b, runR_skip, r7_3, afill, AV.cells, List.length_cons, List.length_nil, Nat.zero_add, Nat.reduceAdd, Nat.reduceLeDiff, and_self, setR_z, setR_e, setR_s, runR_ret, afinish_def, s7, aresults, aresult, aback]
  have hR : ∀ j v, (AV.i .i64 pl :: AV.i .i64 sz :: List.replicate 258 (AV.sl none 0 0 true 0))[j + 2]? = some v → v = .sl none 0 0 true 0 := by
    intro j v hj
    rw [List.getElem?_cons_succ, List.getElem?_cons_succ] at hj
    exact List.eq_of_mem_replicate (List.mem_of_getElem? hj)
  refine Sp.ret (hQ (AV.i .i64 pl :: AV.i .i64 sz :: List.replicate 258 (AV.sl none 0 0 true 0)) _ ⟨⟨by rw [AH_new_n]; exact Nat.lt_succ_self _, by simp, by rw [AH_new_o, if_pos rfl]; rfl, rfl, rfl, ?_, ?_, ?_⟩, (Keeps.refl _).new, ?_⟩)
  · intro j v hj
    rw [hR j v hj]
    match j with
    | 0 => exact Wr.nil
    | 1 => exact Wr.nil
    | k + 2 => exact Wr.nil
  · intro j v b hj hb
    rw [hR j v hj] at hb
    cases hb
  · intro i j v u b hi hj hb
    rw [hR i v hi] at hb
    cases hb
  · rintro c (rfl | ⟨j, v, hj, hb⟩)
    · exact Nat.le_refl _
    · rw [hR j v hj] at hb
      cases hb
end
def A1 : SL := (SL.new.pick 3 2 0).2
def A2 : SL := { A1 with gs := A1.gs.set 0 (true, 0) }
def A3 : SL := A2.free 2 0 0
def A4 : SL := { (A3.pick 3 2 0).2 with gs := (A3.pick 3 2 0).2.gs.set 0 (true, 1) }
theorem ow2 (th : Nat) : (A2.ow th).length ≤ 64 := Nat.zero_le _
theorem ow3 (th : Nat) : (A3.ow th).length ≤ 64 := by
  show (if th = 0 then [(0 : Int)] else []).length ≤ 64
  split
  · exact Nat.le_of_ble_eq_true rfl
  · exact Nat.zero_le _
theorem alive_spec {H : AH} : ∃ H', callR tbl 15 [] H = some (.b true, H') := by
  refine Sp.tt fun Q hQ => ?_
  simp only [c15, b15, runR_seq, r15_0, aops_cons, aop, ev_c, thenOps_some, put_some, aops_nil, regR_some, r15_1, asX_cons, asX_nil]
  refine Sp.c2 (f := fun _ => .tup [.p (some (H.n, 0)), .i .i64 0]) (new_spec (H := H) (pl := 3) (sz := 2) (by omega)) ?_
  rintro R0 H0 ⟨t0, _, _⟩
  simp only [put_some, aops_cons, aop, ev_t, upd_get, ↓reduceIte, thenOps_some, List.getElem?_cons_zero, withH_some', Nat.reduceEqDiff, List.getElem?_cons_succ, aops_nil, regR_some, runR_seq, r15_2, aEqN, ev_c, bne_self_eq_false, aops_g, gOps_b, aBin, BinOp.isShift, Bool.false_eq_true, or_true, aInt_neq, runR_cond', condR_b, runR_skip, r15_4, asX_cons, asX_nil]
  refine Sp.c2 (f := fun _ => .tup [.i .i64 (0 : Nat), .i .u32 0, .i .i64 0]) (take_got t0 (by omega) (by decide) (by omega) (by omega) (by decide) (fun _ => Nat.zero_le _) (th := 0) (by omega) (i := 0) (p := (false, 0)) rfl rfl) ?_
  rintro R1 H1 ⟨t1, _⟩
  simp only [cast_of, put_some, aops_cons, aop, ev_t, upd_get, ↓reduceIte, thenOps_some, List.getElem?_cons_zero, withH_some', Nat.reduceEqDiff, List.getElem?_cons_succ, aops_nil, regR_some, runR_seq, r15_5, asX_cons, ev_c, asX_nil]
  refine Sp.c2 (f := fun _ => .i .i64 0) (free_spec (S := A2) t1 (by omega) (by decide) (by decide) ow2 (th := 0) (by omega) (i := 0) (g := 0) rfl (by omega)) ?_
  rintro R2 H2 ⟨t2, _⟩
  simp only [put_some, aops_cons, aop, ev_t, upd_get, ↓reduceIte, thenOps_some, aops_nil, regR_some, runR_seq, r15_6, Nat.reduceEqDiff, asX_cons, ev_c, asX_nil]
  refine Sp.c2 (f := fun _ => .tup [.i .i64 (0 : Nat), .i .u32 1, .i .i64 0]) (take_got (S := A3) t2 (by omega) (by decide) (by omega) (by omega) (by decide) ow3 (th := 0) (by omega) (i := 0) (p := (false, 1)) rfl rfl) ?_
  rintro R3 H3 ⟨t3, _⟩
  have k1 := check_spec (S := A4) (n := 0) (g := 1) t3 (by omega)
  have k2 := check_spec (S := A4) (n := 0) (g := 0) t3 (by omega)
  have k3 := made_spec (S := A4) t3 (by omega) (by decide) (by omega)
  have e1 : A4.chk 0 1 = true := rfl
  have e2 : A4.chk 0 0 = false := rfl
  have e3 : (((A4.gs.length + 2 - 1) / 2 : Nat) : Int) = 1 := rfl
  rw [e1] at k1
  rw [e2] at k2
  rw [e3] at k3
  simp only [show ((0 : Nat) : Int) = 0 from rfl, put_some, aops_cons, aop, ev_t, upd_get, ↓reduceIte, thenOps_some, List.getElem?_cons_zero, withH_some', Nat.reduceEqDiff, List.getElem?_cons_succ, aops_nil, regR_some, runR_seq, r15_7, aBin, ev_c, BinOp.isShift, Bool.false_eq_true, or_true, aInt_eql, beq_self_eq_true, aops_g, gOps_b, asX_cons, asX_nil, k1, k2, aUn_not, Bool.not_false, k3, runR_ret, afinish_def, s15, aresults, aresult, aback]
  exact Sp.ret (hQ _)
end Go.Proofs.Ythcibbfljcfheaa.Abs
