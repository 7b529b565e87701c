/- partition, partitionEqual in the plain machine, what the plain twin tells. No condition of its own. -/
import Derived.Test.YtaolkpkaiidmeaaSrtB
namespace Go.Proofs.Ytaolkpkaiidmeaa.Abs
open Go.Sort
set_option linter.unusedSimpArgs false
set_option linter.unusedVariables false
set_option maxRecDepth 100000
set_option maxHeartbeats 8000000
section
variable {q : Prm} {e b n lo : Nat} {ex : Bool} {cf : Int → Int → Int} {H0 H : AH} {d : Array Int}
theorem scanUp_le (p : Int → Bool) (d : Array Int) (j i : Nat) : scanUp p d j i ≤ max i (j + 1) := by
  by_cases h : i ≤ j + 1
  · have := (scanUp_spec p d j _ i rfl).2.1 h
    omega
  · rw [scanUp, if_neg (by simp; omega)]
    omega
theorem pe_up (hC : Cm q e b H0 cf) (hn : n ≤ 1000) {a j : Nat} (ha : a < n) (hj : j < n) {K : List AItem} {Q : AV → AH → Prop} {i0 : Nat} (hi0 : i0 ≤ 1001)
    (hQ : ∀ t' H', SS b n H0 H' d → t' 0 = .sl (some (b, 0)) n lo ex 1 → t' 1 = .i .i64 a → t' 4 = .fn (.func 26) [.p (some (e, 0))] [] → t' 11 = .i .i64 (scanUp (fun x => !ltc cf d[a]! x) d j i0 : Nat) → t' 12 = .i .i64 j → Sp (runR (tblP q) a45 K t' H') Q) :
    ∀ (k i : Nat) (H : AH) (t : Nat → AV), j + 1 - i ≤ k → i ≤ 1001 → SS b n H0 H d → scanUp (fun x => !ltc cf d[a]! x) d j i = scanUp (fun x => !ltc cf d[a]! x) d j i0 → t 0 = .sl (some (b, 0)) n lo ex 1 → t 1 = .i .i64 a → t 4 = .fn (.func 26) [.p (some (e, 0))] [] → t 11 = .i .i64 i → t 12 = .i .i64 j →
      Sp (runR (tblP q) a45 (.inLoop l45_5 :: .inBlock 2 :: K) t H) Q := by
  intro k
  induction k with
  | zero =>
    intro i H t hk hi hS he q0 q1 q4 qi qj
    have c1 : decide ((i : Int) ≤ (j : Int)) = false := by simp; omega
    rw [scanUp, if_neg (by simp; omega)] at he
    rw [runR_inLoop]
    simp only [l45_5, runR_seq, r45_3, aops_cons, aop, ev_t, qi, thenOps_some, put_some, upd_get, Nat.reduceEqDiff, ↓reduceIte, qj, aBin, BinOp.isShift, Bool.false_eq_true, or_true, aInt_leq, c1, withH_some', aops_g, gOps_b, ev_c, aops_nil, regR_some, runR_cond', condR_b, runR_exit', aexit_code, aexit_inLoop, aexit_inBlock, exitR_some]
    refine hQ _ _ hS ?_ ?_ ?_ ?_ ?_
    all_goals simp only [upd_get, Nat.reduceEqDiff, ↓reduceIte, qj, q4, reduceCtorEq, q0, q1, qi, ← he]
  | succ k ih =>
    intro i H t hk hi hS he q0 q1 q4 qi qj
    rw [scanUp] at he
    by_cases hij : i ≤ j
    · have c1 : decide ((i : Int) ≤ (j : Int)) = true := by simp; omega
      have b1 : 0 ≤ (i : Int) ∧ (i : Int) < (n : Int) := by omega
      have b2 : 0 ≤ (a : Int) ∧ (a : Int) < (n : Int) := by omega
      have w1 := wr1 (i := i) (by omega)
      obtain ⟨L, hL, hLl, hg⟩ := hS.g
      have x1 := hg i (by omega)
      have x2 := hg a ha
      obtain ⟨H1, e1, S1⟩ := hS.cmp hC d[a]! d[i]!
      cases hlt : decide (cf d[a]! d[i]! < 0)
      · rw [if_pos (by simp only [ltc, hlt]; simp; omega)] at he
        rw [runR_inLoop]
        simp only [l45_5, runR_seq, r45_3, aops_cons, aop, ev_t, qi, thenOps_some, put_some, upd_get, Nat.reduceEqDiff, ↓reduceIte, qj, aBin, BinOp.isShift, Bool.false_eq_true, or_true, aInt_leq, c1, withH_some', aops_g, gOps_b, q4, reduceCtorEq, q0, q1, b2, and_self, Int.toNat_natCast, Nat.mul_one, Nat.zero_add, aload, hL, apart, x2, b1, x1, asX_cons, asX_nil, List.cons_append, List.nil_append, List.append_nil, e1, ev_c, aInt_lss, hlt, aUn_not, Bool.not_false, aops_nil, regR_some, runR_cond', condR_b, runR_skip, runR_block, r45_4, aInt_add, w1, runR_inBlock]
        refine ih (i + 1) H1 _ (by omega) (by omega) S1 he ?_ ?_ ?_ ?_ ?_
        all_goals simp only [upd_get, Nat.reduceEqDiff, ↓reduceIte, q4, Nat.succ_ne_self, qj, reduceCtorEq, q0, q1]
      · rw [if_neg (by simp only [ltc, hlt]; simp)] at he
        rw [runR_inLoop]
        simp only [l45_5, runR_seq, r45_3, aops_cons, aop, ev_t, qi, thenOps_some, put_some, upd_get, Nat.reduceEqDiff, ↓reduceIte, qj, aBin, BinOp.isShift, Bool.false_eq_true, or_true, aInt_leq, c1, withH_some', aops_g, gOps_b, q4, reduceCtorEq, q0, q1, b2, and_self, Int.toNat_natCast, Nat.mul_one, Nat.zero_add, aload, hL, apart, x2, b1, x1, asX_cons, asX_nil, List.cons_append, List.nil_append, List.append_nil, e1, ev_c, aInt_lss, hlt, aUn_not, Bool.not_true, aops_nil, regR_some, runR_cond', condR_b, runR_exit', aexit_code, aexit_inLoop, aexit_inBlock, exitR_some]
        refine hQ _ _ S1 ?_ ?_ ?_ ?_ ?_
        all_goals simp only [upd_get, Nat.reduceEqDiff, ↓reduceIte, qj, q4, reduceCtorEq, q0, q1, qi, ← he]
    · rw [if_neg (by simp; omega)] at he
      have c1 : decide ((i : Int) ≤ (j : Int)) = false := by simp; omega
      rw [runR_inLoop]
      simp only [l45_5, runR_seq, r45_3, aops_cons, aop, ev_t, qi, thenOps_some, put_some, upd_get, Nat.reduceEqDiff, ↓reduceIte, qj, aBin, BinOp.isShift, Bool.false_eq_true, or_true, aInt_leq, c1, withH_some', aops_g, gOps_b, ev_c, aops_nil, regR_some, runR_cond', condR_b, runR_exit', aexit_code, aexit_inLoop, aexit_inBlock, exitR_some]
      refine hQ _ _ hS ?_ ?_ ?_ ?_ ?_
      all_goals simp only [upd_get, Nat.reduceEqDiff, ↓reduceIte, qj, q4, reduceCtorEq, q0, q1, qi, ← he]
theorem pe_down (hC : Cm q e b H0 cf) (hn : n ≤ 1000) {a i : Nat} (ha : a < n) (hi : 1 ≤ i) {K : List AItem} {Q : AV → AH → Prop} {j0 : Nat}
    (hQ : ∀ t' H', SS b n H0 H' d → t' 0 = .sl (some (b, 0)) n lo ex 1 → t' 1 = .i .i64 a → t' 4 = .fn (.func 26) [.p (some (e, 0))] [] → t' 11 = .i .i64 i → t' 12 = .i .i64 (scanDown (fun x => ltc cf d[a]! x) d i j0 : Nat) → Sp (runR (tblP q) a45 K t' H') Q) :
    ∀ (j : Nat) (H : AH) (t : Nat → AV), j < n → SS b n H0 H d → scanDown (fun x => ltc cf d[a]! x) d i j = scanDown (fun x => ltc cf d[a]! x) d i j0 → t 0 = .sl (some (b, 0)) n lo ex 1 → t 1 = .i .i64 a → t 4 = .fn (.func 26) [.p (some (e, 0))] [] → t 11 = .i .i64 i → t 12 = .i .i64 j →
      Sp (runR (tblP q) a45 (.inLoop l45_8 :: .inBlock 4 :: K) t H) Q := by
  intro j
  induction j with
  | zero =>
    intro H t hj hS he q0 q1 q4 qi qj
    have c1 : decide ((i : Int) ≤ 0) = false := by simp; omega
    rw [scanDown] at he
    rw [runR_inLoop]
    simp only [l45_8, runR_seq, r45_6, aops_cons, aop, ev_t, qi, thenOps_some, put_some, upd_get, Nat.reduceEqDiff, ↓reduceIte, qj, cast_of, aBin, BinOp.isShift, Bool.false_eq_true, or_true, aInt_leq, c1, withH_some', aops_g, gOps_b, ev_c, aops_nil, regR_some, runR_cond', condR_b, runR_exit', aexit_code, aexit_inLoop, aexit_inBlock, exitR_some]
    refine hQ _ _ hS ?_ ?_ ?_ ?_ ?_
    all_goals simp only [upd_get, Nat.reduceEqDiff, ↓reduceIte, q4, qi, reduceCtorEq, q0, qj, cast_of, ← he, q1]
  | succ j ih =>
    intro H t hj hS he q0 q1 q4 qi qj
    rw [scanDown] at he
    by_cases hij : i ≤ j + 1
    · have c1 : decide ((i : Int) ≤ ((j + 1 : Nat) : Int)) = true := by simp; omega
      have b1 : 0 ≤ ((j + 1 : Nat) : Int) ∧ ((j + 1 : Nat) : Int) < (n : Int) := by omega
      have b2 : 0 ≤ (a : Int) ∧ (a : Int) < (n : Int) := by omega
      have w1 := wrs (i := j) (by omega)
      obtain ⟨L, hL, hLl, hg⟩ := hS.g
      have x1 := hg (j + 1) (by omega)
      have x2 := hg a ha
      obtain ⟨H1, e1, S1⟩ := hS.cmp hC d[a]! d[j + 1]!
      cases hlt : decide (cf d[a]! d[j + 1]! < 0)
      · rw [if_neg (by simp only [ltc, hlt]; simp)] at he
        rw [runR_inLoop]
        simp only [l45_8, runR_seq, r45_6, aops_cons, aop, ev_t, qi, thenOps_some, put_some, upd_get, Nat.reduceEqDiff, ↓reduceIte, qj, aBin, BinOp.isShift, Bool.false_eq_true, or_true, aInt_leq, c1, withH_some', aops_g, gOps_b, q4, reduceCtorEq, q0, q1, b2, and_self, Int.toNat_natCast, Nat.mul_one, Nat.zero_add, aload, hL, apart, x2, b1, x1, asX_cons, asX_nil, List.cons_append, List.nil_append, List.append_nil, e1, ev_c, aInt_lss, hlt, aops_nil, regR_some, runR_cond', condR_b, runR_exit', aexit_code, aexit_inLoop, aexit_inBlock, exitR_some]
        refine hQ _ _ S1 ?_ ?_ ?_ ?_ ?_
        all_goals simp only [upd_get, Nat.reduceEqDiff, ↓reduceIte, q4, qj, ← he, qi, reduceCtorEq, q0, q1]
      · rw [if_pos (by simp only [ltc, hlt]; simp; omega)] at he
        rw [runR_inLoop]
        simp only [l45_8, runR_seq, r45_6, aops_cons, aop, ev_t, qi, thenOps_some, put_some, upd_get, Nat.reduceEqDiff, ↓reduceIte, qj, aBin, BinOp.isShift, Bool.false_eq_true, or_true, aInt_leq, c1, withH_some', aops_g, gOps_b, q4, reduceCtorEq, q0, q1, b2, and_self, Int.toNat_natCast, Nat.mul_one, Nat.zero_add, aload, hL, apart, x2, b1, x1, asX_cons, asX_nil, List.cons_append, List.nil_append, List.append_nil, e1, ev_c, aInt_lss, hlt, aops_nil, regR_some, runR_cond', condR_b, runR_skip, runR_block, r45_7, aInt_sub, w1, runR_inBlock]
        refine ih H1 _ (by omega) S1 he ?_ ?_ ?_ ?_ ?_
        all_goals simp only [upd_get, Nat.reduceEqDiff, ↓reduceIte, q4, qi, reduceCtorEq, q0, q1]
    · rw [if_neg (by simp; omega)] at he
      have c1 : decide ((i : Int) ≤ ((j + 1 : Nat) : Int)) = false := by simp; omega
      rw [runR_inLoop]
      simp only [l45_8, runR_seq, r45_6, aops_cons, aop, ev_t, qi, thenOps_some, put_some, upd_get, Nat.reduceEqDiff, ↓reduceIte, qj, aBin, BinOp.isShift, Bool.false_eq_true, or_true, aInt_leq, c1, withH_some', aops_g, gOps_b, ev_c, aops_nil, regR_some, runR_cond', condR_b, runR_exit', aexit_code, aexit_inLoop, aexit_inBlock, exitR_some]
      refine hQ _ _ hS ?_ ?_ ?_ ?_ ?_
      all_goals simp only [upd_get, Nat.reduceEqDiff, ↓reduceIte, q4, qj, ← he, qi, reduceCtorEq, q0, q1]
theorem p_up (hC : Cm q e b H0 cf) (hn : n ≤ 1000) {a j : Nat} (ha : a < n) (hj : j < n) {K : List AItem} {Q : AV → AH → Prop} {i0 : Nat} (hi0 : i0 ≤ 1001)
    (hQ : ∀ t' H', SS b n H0 H' d → t' 0 = .sl (some (b, 0)) n lo ex 1 → t' 1 = .i .i64 a → t' 4 = .fn (.func 26) [.p (some (e, 0))] [] → t' 12 = .i .i64 (scanUp (fun x => ltc cf x d[a]!) d j i0 : Nat) → t' 13 = .i .i64 j → Sp (runR (tblP q) a46 K t' H') Q) :
    ∀ (k i : Nat) (H : AH) (t : Nat → AV), j + 1 - i ≤ k → i ≤ 1001 → SS b n H0 H d → scanUp (fun x => ltc cf x d[a]!) d j i = scanUp (fun x => ltc cf x d[a]!) d j i0 → t 0 = .sl (some (b, 0)) n lo ex 1 → t 1 = .i .i64 a → t 4 = .fn (.func 26) [.p (some (e, 0))] [] → t 12 = .i .i64 i → t 13 = .i .i64 j →
      Sp (runR (tblP q) a46 (.inLoop l46_5 :: .inBlock 0 :: K) t H) Q := by
  intro k
  induction k with
  | zero =>
    intro i H t hk hi hS he q0 q1 q4 qi qj
    have c1 : decide ((i : Int) ≤ (j : Int)) = false := by simp; omega
    rw [scanUp, if_neg (by simp; omega)] at he
    rw [runR_inLoop]
    simp only [l46_5, runR_seq, r46_3, aops_cons, aop, ev_t, qi, thenOps_some, put_some, upd_get, Nat.reduceEqDiff, ↓reduceIte, qj, aBin, BinOp.isShift, Bool.false_eq_true, or_true, aInt_leq, c1, withH_some', aops_g, gOps_b, ev_c, aops_nil, regR_some, runR_cond', condR_b, runR_exit', aexit_code, aexit_inLoop, aexit_inBlock, exitR_some]
    refine hQ _ _ hS ?_ ?_ ?_ ?_ ?_
    all_goals simp only [upd_get, Nat.reduceEqDiff, ↓reduceIte, qj, q4, reduceCtorEq, q0, q1, qi, ← he]
  | succ k ih =>
    intro i H t hk hi hS he q0 q1 q4 qi qj
    rw [scanUp] at he
    by_cases hij : i ≤ j
    · have c1 : decide ((i : Int) ≤ (j : Int)) = true := by simp; omega
      have b1 : 0 ≤ (i : Int) ∧ (i : Int) < (n : Int) := by omega
      have b2 : 0 ≤ (a : Int) ∧ (a : Int) < (n : Int) := by omega
      have w1 := wr1 (i := i) (by omega)
      obtain ⟨L, hL, hLl, hg⟩ := hS.g
      have x1 := hg i (by omega)
      have x2 := hg a ha
      obtain ⟨H1, e1, S1⟩ := hS.cmp hC d[i]! d[a]!
      cases hlt : decide (cf d[i]! d[a]! < 0)
      · rw [if_neg (by simp only [ltc, hlt]; simp)] at he
        rw [runR_inLoop]
        simp only [l46_5, runR_seq, r46_3, aops_cons, aop, ev_t, qi, thenOps_some, put_some, upd_get, Nat.reduceEqDiff, ↓reduceIte, qj, aBin, BinOp.isShift, Bool.false_eq_true, or_true, aInt_leq, c1, withH_some', aops_g, gOps_b, q4, reduceCtorEq, q0, b1, and_self, Int.toNat_natCast, Nat.mul_one, Nat.zero_add, aload, hL, apart, x1, q1, b2, x2, asX_cons, asX_nil, List.cons_append, List.nil_append, List.append_nil, e1, ev_c, aInt_lss, hlt, aops_nil, regR_some, runR_cond', condR_b, runR_exit', aexit_code, aexit_inLoop, aexit_inBlock, exitR_some]
        refine hQ _ _ S1 ?_ ?_ ?_ ?_ ?_
        all_goals simp only [upd_get, Nat.reduceEqDiff, ↓reduceIte, qj, q4, reduceCtorEq, q0, q1, qi, ← he]
      · rw [if_pos (by simp only [ltc, hlt]; simp; omega)] at he
        rw [runR_inLoop]
        simp only [l46_5, runR_seq, r46_3, aops_cons, aop, ev_t, qi, thenOps_some, put_some, upd_get, Nat.reduceEqDiff, ↓reduceIte, qj, aBin, BinOp.isShift, Bool.false_eq_true, or_true, aInt_leq, c1, withH_some', aops_g, gOps_b, q4, reduceCtorEq, q0, b1, and_self, Int.toNat_natCast, Nat.mul_one, Nat.zero_add, aload, hL, apart, x1, q1, b2, x2, asX_cons, asX_nil, List.cons_append, List.nil_append, List.append_nil, e1, ev_c, aInt_lss, hlt, aops_nil, regR_some, runR_cond', condR_b, runR_skip, runR_block, r46_4, aInt_add, w1, runR_inBlock]
        refine ih (i + 1) H1 _ (by omega) (by omega) S1 he ?_ ?_ ?_ ?_ ?_
        all_goals simp only [upd_get, Nat.reduceEqDiff, ↓reduceIte, q4, Nat.succ_ne_self, qj, reduceCtorEq, q0, q1]
    · rw [if_neg (by simp; omega)] at he
      have c1 : decide ((i : Int) ≤ (j : Int)) = false := by simp; omega
      rw [runR_inLoop]
      simp only [l46_5, runR_seq, r46_3, aops_cons, aop, ev_t, qi, thenOps_some, put_some, upd_get, Nat.reduceEqDiff, ↓reduceIte, qj, aBin, BinOp.isShift, Bool.false_eq_true, or_true, aInt_leq, c1, withH_some', aops_g, gOps_b, ev_c, aops_nil, regR_some, runR_cond', condR_b, runR_exit', aexit_code, aexit_inLoop, aexit_inBlock, exitR_some]
      refine hQ _ _ hS ?_ ?_ ?_ ?_ ?_
      all_goals simp only [upd_get, Nat.reduceEqDiff, ↓reduceIte, qj, q4, reduceCtorEq, q0, q1, qi, ← he]
theorem p_down (hC : Cm q e b H0 cf) (hn : n ≤ 1000) {a i : Nat} (ha : a < n) (hi : 1 ≤ i) {K : List AItem} {Q : AV → AH → Prop} {j0 : Nat}
    (hQ : ∀ t' H', SS b n H0 H' d → t' 0 = .sl (some (b, 0)) n lo ex 1 → t' 1 = .i .i64 a → t' 4 = .fn (.func 26) [.p (some (e, 0))] [] → t' 12 = .i .i64 i → t' 13 = .i .i64 (scanDown (fun x => !ltc cf x d[a]!) d i j0 : Nat) → Sp (runR (tblP q) a46 K t' H') Q) :
    ∀ (j : Nat) (H : AH) (t : Nat → AV), j < n → SS b n H0 H d → scanDown (fun x => !ltc cf x d[a]!) d i j = scanDown (fun x => !ltc cf x d[a]!) d i j0 → t 0 = .sl (some (b, 0)) n lo ex 1 → t 1 = .i .i64 a → t 4 = .fn (.func 26) [.p (some (e, 0))] [] → t 12 = .i .i64 i → t 13 = .i .i64 j →
      Sp (runR (tblP q) a46 (.inLoop l46_8 :: .inBlock 2 :: K) t H) Q := by
  intro j
  induction j with
  | zero =>
    intro H t hj hS he q0 q1 q4 qi qj
    have c1 : decide ((i : Int) ≤ 0) = false := by simp; omega
    rw [scanDown] at he
    rw [runR_inLoop]
    simp only [l46_8, runR_seq, r46_6, aops_cons, aop, ev_t, qi, thenOps_some, put_some, upd_get, Nat.reduceEqDiff, ↓reduceIte, qj, cast_of, aBin, BinOp.isShift, Bool.false_eq_true, or_true, aInt_leq, c1, withH_some', aops_g, gOps_b, ev_c, aops_nil, regR_some, runR_cond', condR_b, runR_exit', aexit_code, aexit_inLoop, aexit_inBlock, exitR_some]
    refine hQ _ _ hS ?_ ?_ ?_ ?_ ?_
    all_goals simp only [upd_get, Nat.reduceEqDiff, ↓reduceIte, q4, qi, reduceCtorEq, q0, qj, cast_of, ← he, q1]
  | succ j ih =>
    intro H t hj hS he q0 q1 q4 qi qj
    rw [scanDown] at he
    by_cases hij : i ≤ j + 1
    · have c1 : decide ((i : Int) ≤ ((j + 1 : Nat) : Int)) = true := by simp; omega
      have b1 : 0 ≤ ((j + 1 : Nat) : Int) ∧ ((j + 1 : Nat) : Int) < (n : Int) := by omega
      have b2 : 0 ≤ (a : Int) ∧ (a : Int) < (n : Int) := by omega
      have w1 := wrs (i := j) (by omega)
      obtain ⟨L, hL, hLl, hg⟩ := hS.g
      have x1 := hg (j + 1) (by omega)
      have x2 := hg a ha
      obtain ⟨H1, e1, S1⟩ := hS.cmp hC d[j + 1]! d[a]!
      cases hlt : decide (cf d[j + 1]! d[a]! < 0)
      · rw [if_pos (by simp only [ltc, hlt]; simp; omega)] at he
        rw [runR_inLoop]
        simp only [l46_8, runR_seq, r46_6, aops_cons, aop, ev_t, qi, thenOps_some, put_some, upd_get, Nat.reduceEqDiff, ↓reduceIte, qj, aBin, BinOp.isShift, Bool.false_eq_true, or_true, aInt_leq, c1, withH_some', aops_g, gOps_b, q4, reduceCtorEq, q0, b1, and_self, Int.toNat_natCast, Nat.mul_one, Nat.zero_add, aload, hL, apart, x1, q1, b2, x2, asX_cons, asX_nil, List.cons_append, List.nil_append, List.append_nil, e1, ev_c, aInt_lss, hlt, aUn_not, Bool.not_false, aops_nil, regR_some, runR_cond', condR_b, runR_skip, runR_block, r46_7, aInt_sub, w1, runR_inBlock]
        refine ih H1 _ (by omega) S1 he ?_ ?_ ?_ ?_ ?_
        all_goals simp only [upd_get, Nat.reduceEqDiff, ↓reduceIte, q4, qi, reduceCtorEq, q0, q1]
      · rw [if_neg (by simp only [ltc, hlt]; simp)] at he
        rw [runR_inLoop]
        simp only [l46_8, runR_seq, r46_6, aops_cons, aop, ev_t, qi, thenOps_some, put_some, upd_get, Nat.reduceEqDiff, ↓reduceIte, qj, aBin, BinOp.isShift, Bool.false_eq_true, or_true, aInt_leq, c1, withH_some', aops_g, gOps_b, q4, reduceCtorEq, q0, b1, and_self, Int.toNat_natCast, Nat.mul_one, Nat.zero_add, aload, hL, apart, x1, q1, b2, x2, asX_cons, asX_nil, List.cons_append, List.nil_append, List.append_nil, e1, ev_c, aInt_lss, hlt, aUn_not, Bool.not_true, aops_nil, regR_some, runR_cond', condR_b, runR_exit', aexit_code, aexit_inLoop, aexit_inBlock, exitR_some]
        refine hQ _ _ S1 ?_ ?_ ?_ ?_ ?_
        all_goals simp only [upd_get, Nat.reduceEqDiff, ↓reduceIte, q4, qj, ← he, qi, reduceCtorEq, q0, q1]
    · rw [if_neg (by simp; omega)] at he
      have c1 : decide ((i : Int) ≤ ((j + 1 : Nat) : Int)) = false := by simp; omega
      rw [runR_inLoop]
      simp only [l46_8, runR_seq, r46_6, aops_cons, aop, ev_t, qi, thenOps_some, put_some, upd_get, Nat.reduceEqDiff, ↓reduceIte, qj, aBin, BinOp.isShift, Bool.false_eq_true, or_true, aInt_leq, c1, withH_some', aops_g, gOps_b, ev_c, aops_nil, regR_some, runR_cond', condR_b, runR_exit', aexit_code, aexit_inLoop, aexit_inBlock, exitR_some]
      refine hQ _ _ hS ?_ ?_ ?_ ?_ ?_
      all_goals simp only [upd_get, Nat.reduceEqDiff, ↓reduceIte, q4, qj, ← he, qi, reduceCtorEq, q0, q1]
theorem p_up2 (hC : Cm q e b H0 cf) (hn : n ≤ 1000) {a j : Nat} (ha : a < n) (hj : j < n) {K : List AItem} {Q : AV → AH → Prop} {i0 : Nat} (hi0 : i0 ≤ 1001)
    (hQ : ∀ t' H', SS b n H0 H' d → t' 0 = .sl (some (b, 0)) n lo ex 1 → t' 1 = .i .i64 a → t' 4 = .fn (.func 26) [.p (some (e, 0))] [] → t' 12 = .i .i64 (scanUp (fun x => ltc cf x d[a]!) d j i0 : Nat) → t' 13 = .i .i64 j → Sp (runR (tblP q) a46 K t' H') Q) :
    ∀ (k i : Nat) (H : AH) (t : Nat → AV), j + 1 - i ≤ k → i ≤ 1001 → SS b n H0 H d → scanUp (fun x => ltc cf x d[a]!) d j i = scanUp (fun x => ltc cf x d[a]!) d j i0 → t 0 = .sl (some (b, 0)) n lo ex 1 → t 1 = .i .i64 a → t 4 = .fn (.func 26) [.p (some (e, 0))] [] → t 12 = .i .i64 i → t 13 = .i .i64 j →
      Sp (runR (tblP q) a46 (.inLoop l46_17 :: .inBlock 6 :: K) t H) Q := by
  intro k
  induction k with
  | zero =>
    intro i H t hk hi hS he q0 q1 q4 qi qj
    have c1 : decide ((i : Int) ≤ (j : Int)) = false := by simp; omega
    rw [scanUp, if_neg (by simp; omega)] at he
    rw [runR_inLoop]
    simp only [l46_17, runR_seq, r46_15, aops_cons, aop, ev_t, qi, thenOps_some, put_some, upd_get, Nat.reduceEqDiff, ↓reduceIte, qj, aBin, BinOp.isShift, Bool.false_eq_true, or_true, aInt_leq, c1, withH_some', aops_g, gOps_b, ev_c, aops_nil, regR_some, runR_cond', condR_b, runR_exit', aexit_code, aexit_inLoop, aexit_inBlock, exitR_some]
    refine hQ _ _ hS ?_ ?_ ?_ ?_ ?_
    all_goals simp only [upd_get, Nat.reduceEqDiff, ↓reduceIte, qj, q4, reduceCtorEq, q0, q1, qi, ← he]
  | succ k ih =>
    intro i H t hk hi hS he q0 q1 q4 qi qj
    rw [scanUp] at he
    by_cases hij : i ≤ j
    · have c1 : decide ((i : Int) ≤ (j : Int)) = true := by simp; omega
      have b1 : 0 ≤ (i : Int) ∧ (i : Int) < (n : Int) := by omega
      have b2 : 0 ≤ (a : Int) ∧ (a : Int) < (n : Int) := by omega
      have w1 := wr1 (i := i) (by omega)
      obtain ⟨L, hL, hLl, hg⟩ := hS.g
      have x1 := hg i (by omega)
      have x2 := hg a ha
      obtain ⟨H1, e1, S1⟩ := hS.cmp hC d[i]! d[a]!
      cases hlt : decide (cf d[i]! d[a]! < 0)
      · rw [if_neg (by simp only [ltc, hlt]; simp)] at he
        rw [runR_inLoop]
        simp only [l46_17, runR_seq, r46_15, aops_cons, aop, ev_t, qi, thenOps_some, put_some, upd_get, Nat.reduceEqDiff, ↓reduceIte, qj, aBin, BinOp.isShift, Bool.false_eq_true, or_true, aInt_leq, c1, withH_some', aops_g, gOps_b, q4, reduceCtorEq, q0, b1, and_self, Int.toNat_natCast, Nat.mul_one, Nat.zero_add, aload, hL, apart, x1, q1, b2, x2, asX_cons, asX_nil, List.cons_append, List.nil_append, List.append_nil, e1, ev_c, aInt_lss, hlt, aops_nil, regR_some, runR_cond', condR_b, runR_exit', aexit_code, aexit_inLoop, aexit_inBlock, exitR_some]
        refine hQ _ _ S1 ?_ ?_ ?_ ?_ ?_
        all_goals simp only [upd_get, Nat.reduceEqDiff, ↓reduceIte, qj, q4, reduceCtorEq, q0, q1, qi, ← he]
      · rw [if_pos (by simp only [ltc, hlt]; simp; omega)] at he
        rw [runR_inLoop]
        simp only [l46_17, runR_seq, r46_15, aops_cons, aop, ev_t, qi, thenOps_some, put_some, upd_get, Nat.reduceEqDiff, ↓reduceIte, qj, aBin, BinOp.isShift, Bool.false_eq_true, or_true, aInt_leq, c1, withH_some', aops_g, gOps_b, q4, reduceCtorEq, q0, b1, and_self, Int.toNat_natCast, Nat.mul_one, Nat.zero_add, aload, hL, apart, x1, q1, b2, x2, asX_cons, asX_nil, List.cons_append, List.nil_append, List.append_nil, e1, ev_c, aInt_lss, hlt, aops_nil, regR_some, runR_cond', condR_b, runR_skip, runR_block, r46_16, aInt_add, w1, runR_inBlock]
        refine ih (i + 1) H1 _ (by omega) (by omega) S1 he ?_ ?_ ?_ ?_ ?_
        all_goals simp only [upd_get, Nat.reduceEqDiff, ↓reduceIte, q4, Nat.succ_ne_self, qj, reduceCtorEq, q0, q1]
    · rw [if_neg (by simp; omega)] at he
      have c1 : decide ((i : Int) ≤ (j : Int)) = false := by simp; omega
      rw [runR_inLoop]
      simp only [l46_17, runR_seq, r46_15, aops_cons, aop, ev_t, qi, thenOps_some, put_some, upd_get, Nat.reduceEqDiff, ↓reduceIte, qj, aBin, BinOp.isShift, Bool.false_eq_true, or_true, aInt_leq, c1, withH_some', aops_g, gOps_b, ev_c, aops_nil, regR_some, runR_cond', condR_b, runR_exit', aexit_code, aexit_inLoop, aexit_inBlock, exitR_some]
      refine hQ _ _ hS ?_ ?_ ?_ ?_ ?_
      all_goals simp only [upd_get, Nat.reduceEqDiff, ↓reduceIte, qj, q4, reduceCtorEq, q0, q1, qi, ← he]
theorem p_down2 (hC : Cm q e b H0 cf) (hn : n ≤ 1000) {a i : Nat} (ha : a < n) (hi : 1 ≤ i) {K : List AItem} {Q : AV → AH → Prop} {j0 : Nat}
    (hQ : ∀ t' H', SS b n H0 H' d → t' 0 = .sl (some (b, 0)) n lo ex 1 → t' 1 = .i .i64 a → t' 4 = .fn (.func 26) [.p (some (e, 0))] [] → t' 12 = .i .i64 i → t' 13 = .i .i64 (scanDown (fun x => !ltc cf x d[a]!) d i j0 : Nat) → Sp (runR (tblP q) a46 K t' H') Q) :
    ∀ (j : Nat) (H : AH) (t : Nat → AV), j < n → SS b n H0 H d → scanDown (fun x => !ltc cf x d[a]!) d i j = scanDown (fun x => !ltc cf x d[a]!) d i j0 → t 0 = .sl (some (b, 0)) n lo ex 1 → t 1 = .i .i64 a → t 4 = .fn (.func 26) [.p (some (e, 0))] [] → t 12 = .i .i64 i → t 13 = .i .i64 j →
      Sp (runR (tblP q) a46 (.inLoop l46_20 :: .inBlock 8 :: K) t H) Q := by
  intro j
  induction j with
  | zero =>
    intro H t hj hS he q0 q1 q4 qi qj
    have c1 : decide ((i : Int) ≤ 0) = false := by simp; omega
    rw [scanDown] at he
    rw [runR_inLoop]
    simp only [l46_20, runR_seq, r46_18, aops_cons, aop, ev_t, qi, thenOps_some, put_some, upd_get, Nat.reduceEqDiff, ↓reduceIte, qj, cast_of, aBin, BinOp.isShift, Bool.false_eq_true, or_true, aInt_leq, c1, withH_some', aops_g, gOps_b, ev_c, aops_nil, regR_some, runR_cond', condR_b, runR_exit', aexit_code, aexit_inLoop, aexit_inBlock, exitR_some]
    refine hQ _ _ hS ?_ ?_ ?_ ?_ ?_
    all_goals simp only [upd_get, Nat.reduceEqDiff, ↓reduceIte, q4, qi, reduceCtorEq, q0, qj, cast_of, ← he, q1]
  | succ j ih =>
    intro H t hj hS he q0 q1 q4 qi qj
    rw [scanDown] at he
    by_cases hij : i ≤ j + 1
    · have c1 : decide ((i : Int) ≤ ((j + 1 : Nat) : Int)) = true := by simp; omega
      have b1 : 0 ≤ ((j + 1 : Nat) : Int) ∧ ((j + 1 : Nat) : Int) < (n : Int) := by omega
      have b2 : 0 ≤ (a : Int) ∧ (a : Int) < (n : Int) := by omega
      have w1 := wrs (i := j) (by omega)
      obtain ⟨L, hL, hLl, hg⟩ := hS.g
      have x1 := hg (j + 1) (by omega)
      have x2 := hg a ha
      obtain ⟨H1, e1, S1⟩ := hS.cmp hC d[j + 1]! d[a]!
      cases hlt : decide (cf d[j + 1]! d[a]! < 0)
      · rw [if_pos (by simp only [ltc, hlt]; simp; omega)] at he
        rw [runR_inLoop]
        simp only [l46_20, runR_seq, r46_18, aops_cons, aop, ev_t, qi, thenOps_some, put_some, upd_get, Nat.reduceEqDiff, ↓reduceIte, qj, aBin, BinOp.isShift, Bool.false_eq_true, or_true, aInt_leq, c1, withH_some', aops_g, gOps_b, q4, reduceCtorEq, q0, b1, and_self, Int.toNat_natCast, Nat.mul_one, Nat.zero_add, aload, hL, apart, x1, q1, b2, x2, asX_cons, asX_nil, List.cons_append, List.nil_append, List.append_nil, e1, ev_c, aInt_lss, hlt, aUn_not, Bool.not_false, aops_nil, regR_some, runR_cond', condR_b, runR_skip, runR_block, r46_19, aInt_sub, w1, runR_inBlock]
        refine ih H1 _ (by omega) S1 he ?_ ?_ ?_ ?_ ?_
        all_goals simp only [upd_get, Nat.reduceEqDiff, ↓reduceIte, q4, qi, reduceCtorEq, q0, q1]
      · rw [if_neg (by simp only [ltc, hlt]; simp)] at he
        rw [runR_inLoop]
        simp only [l46_20, runR_seq, r46_18, aops_cons, aop, ev_t, qi, thenOps_some, put_some, upd_get, Nat.reduceEqDiff, ↓reduceIte, qj, aBin, BinOp.isShift, Bool.false_eq_true, or_true, aInt_leq, c1, withH_some', aops_g, gOps_b, q4, reduceCtorEq, q0, b1, and_self, Int.toNat_natCast, Nat.mul_one, Nat.zero_add, aload, hL, apart, x1, q1, b2, x2, asX_cons, asX_nil, List.cons_append, List.nil_append, List.append_nil, e1, ev_c, aInt_lss, hlt, aUn_not, Bool.not_true, aops_nil, regR_some, runR_cond', condR_b, runR_exit', aexit_code, aexit_inLoop, aexit_inBlock, exitR_some]
        refine hQ _ _ S1 ?_ ?_ ?_ ?_ ?_
        all_goals simp only [upd_get, Nat.reduceEqDiff, ↓reduceIte, q4, qj, ← he, qi, reduceCtorEq, q0, q1]
    · rw [if_neg (by simp; omega)] at he
      have c1 : decide ((i : Int) ≤ ((j + 1 : Nat) : Int)) = false := by simp; omega
      rw [runR_inLoop]
      simp only [l46_20, runR_seq, r46_18, aops_cons, aop, ev_t, qi, thenOps_some, put_some, upd_get, Nat.reduceEqDiff, ↓reduceIte, qj, aBin, BinOp.isShift, Bool.false_eq_true, or_true, aInt_leq, c1, withH_some', aops_g, gOps_b, ev_c, aops_nil, regR_some, runR_cond', condR_b, runR_exit', aexit_code, aexit_inLoop, aexit_inBlock, exitR_some]
      refine hQ _ _ hS ?_ ?_ ?_ ?_ ?_
      all_goals simp only [upd_get, Nat.reduceEqDiff, ↓reduceIte, q4, qj, ← he, qi, reduceCtorEq, q0, q1]
theorem parteq_spec (hC : Cm q e b H0 cf) (hn : n ≤ 1000) (hS : SS b n H0 H d) {a c p : Nat} (hac : a < c) (hc : c ≤ n) (hp : p < n) :
    ∃ H', callR (tblP q) 45 [.sl (some (b, 0)) n lo ex 1, .i .i64 a, .i .i64 c, .i .i64 p, .fn (.func 26) [.p (some (e, 0))] []] H = some (.i .i64 ((partitionEqual (ltc cf) d a c p).1 : Nat), H') ∧ SS b n H0 H' (partitionEqual (ltc cf) d a c p).2 := by
  refine Sp.one fun Q hQ => ?_
  have b1 : 0 ≤ (a : Int) ∧ (a : Int) < (n : Int) := by omega
  have b2 : 0 ≤ (p : Int) ∧ (p : Int) < (n : Int) := by omega
  have w1 := wr1 (i := a) (by omega)
  have w2 := wp1 (i := c) (by omega) (by omega)
  unfold partitionEqual at hQ
  obtain ⟨L2, r1, r2, r3, r4, r5, S2⟩ := hS.sw (i := a) (j := p) (by omega) (by omega)
  simp only [c45, b45, runR_seq, r45_0, aops_cons, aop, ev_c, thenOps_some, put_some, aops_nil, regR_some, r45_1, ev_t, upd_get, reduceCtorEq, ↓reduceIte, ainit_get, List.getD_cons_zero, Nat.reduceEqDiff, List.getD_cons_succ, b2, and_self, Int.toNat_natCast, Nat.mul_one, Nat.zero_add, aload, r1, apart, r3, withH_some', b1, r2, astore, AV.cells, List.length_cons, List.length_nil, r4, withU_some', put_none, hs_o, r5, r45_2, aBin, BinOp.isShift, Bool.false_eq_true, or_true, aInt_add, w1, aInt_sub, w2, runR_block, runR_loop']
  have key : ∀ (k i j : Nat) (d1 : Array Int) (H1 : AH) (t : Nat → AV), j + 1 - i ≤ k → 1 ≤ i → i ≤ 1001 → j < n → SS b n H0 H1 d1 → partEqLoop (ltc cf) a i j d1 = partEqLoop (ltc cf) a (a + 1) (c - 1) (swp d a p) → t 0 = .sl (some (b, 0)) n lo ex 1 → t 1 = .i .i64 a → t 4 = .fn (.func 26) [.p (some (e, 0))] [] → t 11 = .i .i64 i → t 12 = .i .i64 j →
      Sp (runR (tblP q) a45 [.inLoop l45_13, .inBlock 0, .code (.seq (.reg d45_14) .ret)] t H1) Q := by
    intro k
    induction k with
    | zero =>
      intro i j d1 H1 t hk hi hi2 hj S1 he q0 q1 q4 q11 q12
      rw [partEqLoop_eq] at he
      have su : scanUp (fun x => !ltc cf d1[a]! x) d1 j i = i := by rw [scanUp, if_neg (by simp; omega)]
      have sd : scanDown (fun x => ltc cf d1[a]! x) d1 i j ≤ j := scanDown_le _ d1 _ j
      rw [runR_inLoop]
      simp only [l45_13, runR_block, runR_seq, runR_loop']
      refine pe_up (lo := lo) (ex := ex) (d := d1) hC hn (a := a) (j := j) (by omega) hj (i0 := i) hi2 ?_ (j + 1 - i) i H1 t (Nat.le_refl _) hi2 S1 rfl q0 q1 q4 q11 q12
      intro t2 H2 S2 z0 z1 z4 z11 z12
      rw [su] at z11 he
      simp only [runR_seq, runR_block, runR_loop']
      refine pe_down (lo := lo) (ex := ex) (d := d1) hC hn (a := a) (i := i) (by omega) hi (j0 := j) ?_ j H2 t2 hj S2 rfl z0 z1 z4 z11 z12
      intro t3 H3 S3 y0 y1 y4 y11 y12
      rw [if_pos (by omega)] at he
      have c1 : decide ((scanDown (fun x => ltc cf d1[a]! x) d1 i j : Nat) < (i : Int)) = true := by simp; omega
      rw [← he] at hQ
      simp only [runR_seq, r45_9, aops_cons, aop, ev_t, y11, thenOps_some, put_some, upd_get, Nat.reduceEqDiff, ↓reduceIte, y12, aBin, BinOp.isShift, Bool.false_eq_true, or_true, aInt_gtr, GT.gt, c1, withH_some', aops_nil, regR_some, runR_cond', condR_b, runR_exit', aexit_code, aexit_inBlock, Nat.succ_ne_self, aexit_inLoop, exitR_some, r45_14, runR_ret, afinish_def, s45, aresults, aresult, aback]
      exact Sp.ret (hQ _ S3)
    | succ k ih =>
      intro i j d1 H1 t hk hi hi2 hj S1 he q0 q1 q4 q11 q12
      rw [partEqLoop_eq] at he
      have su := scanUp_ge (fun x => !ltc cf d1[a]! x) d1 j i
      have su2 := scanUp_le (fun x => !ltc cf d1[a]! x) d1 j i
      have hgd := fun i2 => guard_of (i := i) (j := j) (i2 := i2) (j2 := scanDown (fun x => ltc cf d1[a]! x) d1 i2 j)
      rw [runR_inLoop]
      simp only [l45_13, runR_block, runR_seq, runR_loop']
      refine pe_up (lo := lo) (ex := ex) (d := d1) hC hn (a := a) (j := j) (by omega) hj (i0 := i) hi2 ?_ (j + 1 - i) i H1 t (Nat.le_refl _) hi2 S1 rfl q0 q1 q4 q11 q12
      intro t2 H2 S2 z0 z1 z4 z11 z12
      generalize scanUp (fun x => !ltc cf d1[a]! x) d1 j i = i2 at z11 he su su2
      have hgd2 := hgd i2
      have sd : scanDown (fun x => ltc cf d1[a]! x) d1 i2 j ≤ j := scanDown_le _ d1 _ j
      simp only [runR_seq, runR_block, runR_loop']
      refine pe_down (lo := lo) (ex := ex) (d := d1) hC hn (a := a) (i := i2) (by omega) (by omega) (j0 := j) ?_ j H2 t2 hj S2 rfl z0 z1 z4 z11 z12
      intro t3 H3 S3 y0 y1 y4 y11 y12
      generalize scanDown (fun x => ltc cf d1[a]! x) d1 i2 j = j2 at y12 he sd hgd2
      by_cases hij : i2 > j2
      · rw [if_pos hij] at he
        have c1 : decide ((j2 : Int) < (i2 : Int)) = true := by simp; omega
        rw [← he] at hQ
        simp only [runR_seq, r45_9, aops_cons, aop, ev_t, y11, thenOps_some, put_some, upd_get, Nat.reduceEqDiff, ↓reduceIte, y12, aBin, BinOp.isShift, Bool.false_eq_true, or_true, aInt_gtr, GT.gt, c1, withH_some', aops_nil, regR_some, runR_cond', condR_b, runR_exit', aexit_code, aexit_inBlock, Nat.succ_ne_self, aexit_inLoop, exitR_some, r45_14, runR_ret, afinish_def, s45, aresults, aresult, aback]
        exact Sp.ret (hQ _ S3)
      · rw [if_neg hij] at he
        have hg3 := hgd2 su sd hij
        have c1 : decide ((j2 : Int) < (i2 : Int)) = false := by simp; omega
        have b3 : 0 ≤ (i2 : Int) ∧ (i2 : Int) < (n : Int) := by omega
        have b4 : 0 ≤ (j2 : Int) ∧ (j2 : Int) < (n : Int) := by omega
        have v1 := wr1 (i := i2) (by omega)
        have v2 := wp1 (i := j2) (by omega) (by omega)
        obtain ⟨L3, u1, u2, u3, u4, u5, S4⟩ := S3.sw (i := i2) (j := j2) (by omega) (by omega)
        simp only [runR_seq, r45_9, aops_cons, aop, ev_t, y11, thenOps_some, put_some, upd_get, Nat.reduceEqDiff, ↓reduceIte, y12, aBin, BinOp.isShift, Bool.false_eq_true, or_true, aInt_gtr, GT.gt, c1, withH_some', aops_nil, regR_some, runR_cond', condR_b, runR_skip, r45_10, reduceCtorEq, y0, b4, and_self, Int.toNat_natCast, Nat.mul_one, Nat.zero_add, aload, u1, apart, u3, b3, u2, astore, AV.cells, List.length_cons, List.length_nil, u4, withU_some', put_none, hs_o, u5, r45_11, ev_c, aInt_add, v1, r45_12, Nat.succ_ne_self, aInt_sub, v2, runR_inBlock]
        refine ih (i2 + 1) (j2 - 1) _ _ _ (by omega) (by omega) (by omega) (by omega) S4 he ?_ ?_ ?_ ?_ ?_
        all_goals simp only [upd_get, Nat.reduceEqDiff, ↓reduceIte, y1, y4, reduceCtorEq, y0]
  refine key (c - 1 + 1 - (a + 1)) (a + 1) (c - 1) _ _ _ (Nat.le_refl _) (by omega) (by omega) (by omega) S2 rfl ?_ ?_ ?_ ?_ ?_
  all_goals simp only [upd_get, Nat.reduceEqDiff, ↓reduceIte, ainit_get, List.getD_cons_succ, List.getD_cons_zero, reduceCtorEq]
theorem part_spec (hC : Cm q e b H0 cf) (hn : n ≤ 1000) (hS : SS b n H0 H d) {a c p : Nat} (hac : a < c) (hc : c ≤ n) (hp : p < n) :
    ∃ H', callR (tblP q) 46 [.sl (some (b, 0)) n lo ex 1, .i .i64 a, .i .i64 c, .i .i64 p, .fn (.func 26) [.p (some (e, 0))] []] H = some (.tup [.i .i64 ((partition (ltc cf) d a c p).1 : Nat), .b (partition (ltc cf) d a c p).2.1], H') ∧ SS b n H0 H' (partition (ltc cf) d a c p).2.2 := by
  refine Sp.one fun Q hQ => ?_
  have b1 : 0 ≤ (a : Int) ∧ (a : Int) < (n : Int) := by omega
  have b2 : 0 ≤ (p : Int) ∧ (p : Int) < (n : Int) := by omega
  have w1 := wr1 (i := a) (by omega)
  have w2 := wp1 (i := c) (by omega) (by omega)
  unfold partition at hQ
  obtain ⟨L2, r1, r2, r3, r4, r5, S2⟩ := hS.sw (i := a) (j := p) (by omega) (by omega)
  generalize swp d a p = d1 at hQ S2
  simp only [c46, b46, runR_seq, r46_0, aops_cons, aop, ev_c, thenOps_some, put_some, aops_nil, regR_some, r46_1, ev_t, upd_get, reduceCtorEq, ↓reduceIte, ainit_get, List.getD_cons_zero, Nat.reduceEqDiff, List.getD_cons_succ, b2, and_self, Int.toNat_natCast, Nat.mul_one, Nat.zero_add, aload, r1, apart, r3, withH_some', b1, r2, astore, AV.cells, List.length_cons, List.length_nil, r4, withU_some', put_none, hs_o, r5, r46_2, aBin, BinOp.isShift, Bool.false_eq_true, or_true, aInt_add, w1, aInt_sub, w2, runR_block, runR_loop']
  simp only at hQ
  have su := scanUp_ge (fun x => ltc cf x d1[a]!) d1 (c - 1) (a + 1)
  have su2 := scanUp_le (fun x => ltc cf x d1[a]!) d1 (c - 1) (a + 1)
  refine p_up (lo := lo) (ex := ex) (d := d1) hC hn (a := a) (j := c - 1) (by omega) (by omega) (i0 := a + 1) (by omega) ?_ (c - 1 + 1 - (a + 1)) (a + 1) _ _ (Nat.le_refl _) (by omega) S2 rfl ?_ ?_ ?_ ?_ ?_
  · intro t2 H2 S3 z0 z1 z4 z12 z13
    generalize scanUp (fun x => ltc cf x d1[a]!) d1 (c - 1) (a + 1) = i at z12 hQ su su2
    have sd : scanDown (fun x => !ltc cf x d1[a]!) d1 i (c - 1) ≤ c - 1 := scanDown_le _ d1 _ _
    simp only [runR_seq, runR_block, runR_loop']
    refine p_down (lo := lo) (ex := ex) (d := d1) hC hn (a := a) (i := i) (by omega) (by omega) (j0 := c - 1) ?_ (c - 1) H2 t2 (by omega) S3 rfl z0 z1 z4 z12 z13
    intro t3 H3 S4 y0 y1 y4 y12 y13
    generalize scanDown (fun x => !ltc cf x d1[a]!) d1 i (c - 1) = j at y13 hQ sd
    have b4 : 0 ≤ (j : Int) ∧ (j : Int) < (n : Int) := by omega
    by_cases hij : i > j
    · rw [if_pos hij] at hQ
      have c1 : decide ((j : Int) < (i : Int)) = true := by simp; omega
      obtain ⟨L3, u1, u2, u3, u4, u5, S5⟩ := S4.sw (i := j) (j := a) (by omega) (by omega)
      simp only [runR_seq, r46_9, aops_cons, aop, ev_t, y12, thenOps_some, put_some, upd_get, Nat.reduceEqDiff, ↓reduceIte, y13, aBin, BinOp.isShift, Bool.false_eq_true, or_true, aInt_gtr, GT.gt, c1, withH_some', aops_nil, regR_some, runR_cond', condR_b, r46_10, reduceCtorEq, y0, y1, b1, and_self, Int.toNat_natCast, Nat.mul_one, Nat.zero_add, aload, u1, apart, u3, b4, u2, astore, AV.cells, List.length_cons, List.length_nil, u4, withU_some', put_none, hs_o, u5, r46_11, ev_c, runR_ret, afinish_def, s46, aresults, aresult, aback]
      exact Sp.ret (hQ _ S5)
    · rw [if_neg hij] at hQ
      have c1 : decide ((j : Int) < (i : Int)) = false := by simp; omega
      have b3 : 0 ≤ (i : Int) ∧ (i : Int) < (n : Int) := by omega
      have v1 := wr1 (i := i) (by omega)
      have v2 := wp1 (i := j) (by omega) (by omega)
      obtain ⟨L3, u1, u2, u3, u4, u5, S5⟩ := S4.sw (i := i) (j := j) (by omega) (by omega)
      generalize hD : swp d1 i j = D at hQ S5
      have key : ∀ (k i j : Nat) (d1 : Array Int) (H1 : AH) (t : Nat → AV), j + 1 - i ≤ k → 1 ≤ i → i ≤ 1001 → j < n → SS b n H0 H1 d1 → (∀ H', SS b n H0 H' (swp (partLoop (ltc cf) a i j d1).2 (partLoop (ltc cf) a i j d1).1 a) → Q (.tup [.i .i64 ((partLoop (ltc cf) a i j d1).1 : Nat), .b false]) H') → t 0 = .sl (some (b, 0)) n lo ex 1 → t 1 = .i .i64 a → t 4 = .fn (.func 26) [.p (some (e, 0))] [] → t 12 = .i .i64 i → t 13 = .i .i64 j →
          Sp (runR (tblP q) a46 [.inLoop l46_25, .inBlock 4, .code (.seq (.drw d46_26) (.seq (.reg d46_27) .ret))] t H1) Q := by
        intro k
        induction k with
        | zero =>
          intro i j d1 H1 t hk hi hi2 hj S1 hq q0 q1 q4 q12 q13
          rw [partLoop_eq] at hq
          have su : scanUp (fun x => ltc cf x d1[a]!) d1 j i = i := by rw [scanUp, if_neg (by simp; omega)]
          have sd : scanDown (fun x => !ltc cf x d1[a]!) d1 i j ≤ j := scanDown_le _ d1 _ j
          rw [runR_inLoop]
          simp only [l46_25, runR_block, runR_seq, runR_loop']
          refine p_up2 (lo := lo) (ex := ex) (d := d1) hC hn (a := a) (j := j) (by omega) hj (i0 := i) hi2 ?_ (j + 1 - i) i H1 t (Nat.le_refl _) hi2 S1 rfl q0 q1 q4 q12 q13
          intro t2 H2 S2 z0 z1 z4 z12 z13
          rw [su] at z12 hq
          simp only [runR_seq, runR_block, runR_loop']
          refine p_down2 (lo := lo) (ex := ex) (d := d1) hC hn (a := a) (i := i) (by omega) hi (j0 := j) ?_ j H2 t2 hj S2 rfl z0 z1 z4 z12 z13
          intro t3 H3 S3 y0 y1 y4 y12 y13
          rw [if_pos (by omega)] at hq
          generalize scanDown (fun x => !ltc cf x d1[a]!) d1 i j = j2 at y13 hq sd
          have c1 : decide ((j2 : Int) < (i : Int)) = true := by simp; omega
          have b4 : 0 ≤ (j2 : Int) ∧ (j2 : Int) < (n : Int) := by omega
          obtain ⟨L3, u1, u2, u3, u4, u5, S5⟩ := S3.sw (i := j2) (j := a) (by omega) (by omega)
          simp only [runR_seq, r46_21, aops_cons, aop, ev_t, y12, thenOps_some, put_some, upd_get, Nat.reduceEqDiff, ↓reduceIte, y13, aBin, BinOp.isShift, Bool.false_eq_true, or_true, aInt_gtr, GT.gt, c1, withH_some', aops_nil, regR_some, runR_cond', condR_b, runR_exit', aexit_code, aexit_inBlock, Nat.succ_ne_self, aexit_inLoop, exitR_some, r46_26, reduceCtorEq, y0, y1, b1, and_self, Int.toNat_natCast, Nat.mul_one, Nat.zero_add, aload, u1, apart, u3, b4, u2, astore, AV.cells, List.length_cons, List.length_nil, u4, withU_some', put_none, hs_o, u5, r46_27, ev_c, runR_ret, afinish_def, s46, aresults, aresult, aback]
          exact Sp.ret (hq _ S5)
        | succ k ih =>
          intro i j d1 H1 t hk hi hi2 hj S1 hq q0 q1 q4 q12 q13
          rw [partLoop_eq] at hq
          have su := scanUp_ge (fun x => ltc cf x d1[a]!) d1 j i
          have su2 := scanUp_le (fun x => ltc cf x d1[a]!) d1 j i
          have hgd := fun i2 => guard_of (i := i) (j := j) (i2 := i2) (j2 := scanDown (fun x => !ltc cf x d1[a]!) d1 i2 j)
          rw [runR_inLoop]
          simp only [l46_25, runR_block, runR_seq, runR_loop']
          refine p_up2 (lo := lo) (ex := ex) (d := d1) hC hn (a := a) (j := j) (by omega) hj (i0 := i) hi2 ?_ (j + 1 - i) i H1 t (Nat.le_refl _) hi2 S1 rfl q0 q1 q4 q12 q13
          intro t2 H2 S2 z0 z1 z4 z12 z13
          generalize scanUp (fun x => ltc cf x d1[a]!) d1 j i = i2 at z12 hq su su2
          have hgd2 := hgd i2
          have sd : scanDown (fun x => !ltc cf x d1[a]!) d1 i2 j ≤ j := scanDown_le _ d1 _ j
          simp only [runR_seq, runR_block, runR_loop']
          refine p_down2 (lo := lo) (ex := ex) (d := d1) hC hn (a := a) (i := i2) (by omega) (by omega) (j0 := j) ?_ j H2 t2 hj S2 rfl z0 z1 z4 z12 z13
          intro t3 H3 S3 y0 y1 y4 y12 y13
          generalize scanDown (fun x => !ltc cf x d1[a]!) d1 i2 j = j2 at y13 hq sd hgd2
          have b4 : 0 ≤ (j2 : Int) ∧ (j2 : Int) < (n : Int) := by omega
          by_cases hij : i2 > j2
          · rw [if_pos hij] at hq
            have c1 : decide ((j2 : Int) < (i2 : Int)) = true := by simp; omega
            obtain ⟨L3, u1, u2, u3, u4, u5, S5⟩ := S3.sw (i := j2) (j := a) (by omega) (by omega)
            simp only [runR_seq, r46_21, aops_cons, aop, ev_t, y12, thenOps_some, put_some, upd_get, Nat.reduceEqDiff, ↓reduceIte, y13, aBin, BinOp.isShift, Bool.false_eq_true, or_true, aInt_gtr, GT.gt, c1, withH_some', aops_nil, regR_some, runR_cond', condR_b, runR_exit', aexit_code, aexit_inBlock, Nat.succ_ne_self, aexit_inLoop, exitR_some, r46_26, reduceCtorEq, y0, y1, b1, and_self, Int.toNat_natCast, Nat.mul_one, Nat.zero_add, aload, u1, apart, u3, b4, u2, astore, AV.cells, List.length_cons, List.length_nil, u4, withU_some', put_none, hs_o, u5, r46_27, ev_c, runR_ret, afinish_def, s46, aresults, aresult, aback]
            exact Sp.ret (hq _ S5)
          · rw [if_neg hij] at hq
            have hg3 := hgd2 su sd hij
            have c1 : decide ((j2 : Int) < (i2 : Int)) = false := by simp; omega
            have b3 : 0 ≤ (i2 : Int) ∧ (i2 : Int) < (n : Int) := by omega
            have v1 := wr1 (i := i2) (by omega)
            have v2 := wp1 (i := j2) (by omega) (by omega)
            obtain ⟨L3, u1, u2, u3, u4, u5, S4⟩ := S3.sw (i := i2) (j := j2) (by omega) (by omega)
            simp only [runR_seq, r46_21, aops_cons, aop, ev_t, y12, thenOps_some, put_some, upd_get, Nat.reduceEqDiff, ↓reduceIte, y13, aBin, BinOp.isShift, Bool.false_eq_true, or_true, aInt_gtr, GT.gt, c1, withH_some', aops_nil, regR_some, runR_cond', condR_b, runR_skip, r46_22, reduceCtorEq, y0, b4, and_self, Int.toNat_natCast, Nat.mul_one, Nat.zero_add, aload, u1, apart, u3, b3, u2, astore, AV.cells, List.length_cons, List.length_nil, u4, withU_some', put_none, hs_o, u5, r46_23, ev_c, aInt_add, v1, r46_24, Nat.succ_ne_self, aInt_sub, v2, runR_inBlock]
            refine ih (i2 + 1) (j2 - 1) _ _ _ (by omega) (by omega) (by omega) (by omega) S4 hq ?_ ?_ ?_ ?_ ?_
            all_goals simp only [upd_get, Nat.reduceEqDiff, ↓reduceIte, y1, y4, reduceCtorEq, y0]
      simp only [runR_seq, r46_9, aops_cons, aop, ev_t, y12, thenOps_some, put_some, upd_get, Nat.reduceEqDiff, ↓reduceIte, y13, aBin, BinOp.isShift, Bool.false_eq_true, or_true, aInt_gtr, GT.gt, c1, withH_some', aops_nil, regR_some, runR_cond', condR_b, runR_skip, r46_12, reduceCtorEq, y0, b4, and_self, Int.toNat_natCast, Nat.mul_one, Nat.zero_add, aload, u1, apart, u3, b3, u2, astore, AV.cells, List.length_cons, List.length_nil, u4, withU_some', put_none, hs_o, u5, r46_13, ev_c, aInt_add, v1, r46_14, Nat.succ_ne_self, aInt_sub, v2, runR_block, runR_loop']
      refine key (j - 1 + 1 - (i + 1)) (i + 1) (j - 1) _ _ _ (Nat.le_refl _) (by omega) (by omega) (by omega) S5 hQ ?_ ?_ ?_ ?_ ?_
      all_goals simp only [upd_get, Nat.reduceEqDiff, ↓reduceIte, y1, y4, reduceCtorEq, y0]
  all_goals simp only [upd_get, Nat.reduceEqDiff, ↓reduceIte, ainit_get, List.getD_cons_succ, List.getD_cons_zero, reduceCtorEq]
end
end Go.Proofs.Ytaolkpkaiidmeaa.Abs
