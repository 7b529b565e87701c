/- pdqsort, SortFunc in the plain machine: what the plain twin tells; so the row is sorted. No condition of its own. -/
import Derived.Test.YtaolkpkaiidmeaaSrt6
import Derived.Sort.Walk13a
namespace Go.Proofs.Ytaolkpkaiidmeaa.Abs
open Go.Sort
set_option linter.unusedSimpArgs false
set_option linter.unusedVariables false
set_option maxRecDepth 100000
set_option maxHeartbeats 16000000
section
variable {q : Prm} {e b n lo : Nat} {ex : Bool} {cf : Int → Int → Int} {H0 H : AH} {d : Array Int}
theorem hint_dec {h : Hint} : (hintV h == 2) = decide (h = .decreasing) := by cases h <;> rfl
theorem hint_inc {h : Hint} : (hintV h == 1) = decide (h = .increasing) := by cases h <;> rfl
theorem pdq_loop (hC : Cm q e b H0 cf) (hn : n ≤ 1000) (hO : SWO (ltc cf)) :
    ∀ (k a c limit : Nat) (wb wp : Bool) (d1 : Array Int) (H1 : AH) (t : Nat → AV) (Q : AV → AH → Prop), c - a ≤ k → a ≤ c → c ≤ n → limit ≤ 1000 → Below (ltc cf) a c d1 → SS b n H0 H1 d1 → t 0 = .sl (some (b, 0)) n lo ex 1 → t 1 = .i .i64 a → t 2 = .i .i64 c → t 3 = .i .i64 limit → t 4 = .fn (.func 26) [.p (some (e, 0))] [] → t 10 = .b wb → t 11 = .b wp → (∀ H', SS b n H0 H' (pdq (ltc cf) d1 a c limit wb wp) → Q (.tup []) H') →
      Sp (runR (tblP q) a35 [.inLoop l35_31, .inBlock 0] t H1) Q := by
  intro k
  induction k using Nat.strongRecOn with
  | _ k IH =>
  intro a c limit wb wp d1 H1 t Q hk hac hcn hlim hB S1 q0 q1 q2 q3 q4 q10 q11 hQ
  have hw := wrd (i := c) (j := a) (by omega) hac
  obtain ⟨l, hl⟩ : ∃ l, l = c - a := ⟨_, rfl⟩
  rw [← hl] at hw
  by_cases h12 : c - a ≤ 12
  · have c1 : decide ((l : Int) ≤ 12) = true := by simp; omega
    rw [pdq_small h12] at hQ
    obtain ⟨H2, e2, S2⟩ := ins_spec (lo := lo) (ex := ex) hC hn S1 hac hcn
    rw [runR_inLoop]
    simp only [l35_31, runR_block, runR_seq, r35_2, aops_cons, aop, ev_t, q2, thenOps_some, put_some, upd_get, Nat.reduceEqDiff, ↓reduceIte, q1, aBin, BinOp.isShift, Bool.false_eq_true, or_true, aInt_sub, hw, withH_some', aops_nil, regR_some, r35_3, ev_c, aInt_leq, c1, runR_cond', condR_b, r35_4, reduceCtorEq, q0, q4, asX_cons, asX_nil, e2, runR_ret, afinish_def, s35, aresults, aback]
    exact Sp.ret (hQ _ S2)
  have c1 : decide ((l : Int) ≤ 12) = false := by simp; omega
  by_cases h0 : limit = 0
  · rw [pdq_heap h12 h0] at hQ
    have c2 : ((limit : Int) == 0) = true := by simp; omega
    obtain ⟨H2, e2, S2⟩ := heap_spec (lo := lo) (ex := ex) hC hn S1 hac hcn
    rw [runR_inLoop]
    simp only [l35_31, runR_block, runR_seq, r35_2, aops_cons, aop, ev_t, q2, thenOps_some, put_some, upd_get, Nat.reduceEqDiff, ↓reduceIte, q1, aBin, BinOp.isShift, Bool.false_eq_true, or_true, aInt_sub, hw, withH_some', aops_nil, regR_some, r35_3, ev_c, aInt_leq, c1, runR_cond', condR_b, runR_skip, r35_5, q3, aInt_eql, c2, r35_6, reduceCtorEq, q0, q4, asX_cons, asX_nil, e2, runR_ret, afinish_def, s35, aresults, aback]
    exact Sp.ret (hQ _ S2)
  have c2 : ((limit : Int) == 0) = false := by simp; omega
  have hacl : a < c := by omega
  obtain ⟨s1, B1, g1, s2, B2, g2, s3, B3⟩ := rd_facts (lt := ltc cf) (d := d1) (a := a) (b := c) (limit := limit) (wb := wb) (wp := wp) hO partialInsertionSort_holds reverseRange_holds hacl (by rw [S1.sz]; exact hcn) hB
  obtain ⟨r, hr⟩ : ∃ r, r = rd (ltc cf) d1 a c limit wb wp := ⟨_, rfl⟩
  have hrl : r.lim ≤ 1000 := by rw [hr]; exact Nat.le_trans rd_lim_le hlim
  -- behind the shuffle
  have st1 : ∀ (t2 : Nat → AV) (H2 : AH), SS b n H0 H2 r.d1 → t2 0 = .sl (some (b, 0)) n lo ex 1 → t2 1 = .i .i64 a → t2 2 = .i .i64 c → t2 3 = .i .i64 r.lim → t2 4 = .fn (.func 26) [.p (some (e, 0))] [] → t2 10 = .b wb → t2 11 = .b wp → t2 12 = .i .i64 l →
      Sp (runR (tblP q) a35 [.code (.reg d35_10), .code (.seq (.seq (.reg d35_11) (.cond (.t 56) (.seq (.reg d35_12) (.seq (.reg d35_13) (.reg d35_14))) .skip)) (.seq (.seq (.reg d35_15) (.cond (.t 75) (.seq (.reg d35_16) (.cond (.t 80) .ret .skip)) .skip)) (.seq (.seq (.drw d35_17) (.cond (.t 97) (.seq (.reg d35_18) (.seq (.reg d35_19) (.exit 1))) .skip)) (.seq (.reg d35_20) (.seq (.reg d35_21) (.seq (.reg d35_22) (.seq (.reg d35_23) (.seq (.reg d35_24) (.cond (.t 125) (.seq (.reg d35_25) (.seq (.reg d35_26) (.reg d35_27))) (.seq (.reg d35_28) (.seq (.reg d35_29) (.reg d35_30)))))))))))), .inBlock 1, .inLoop l35_31, .inBlock 0] t2 H2) Q := by
    intro t2 H2 S2 z0 z1 z2 z3 z4 z10 z11 z12
    -- behind the test of what is sorted already
    have st3 : ∀ (t4 : Nat → AV) (H4 : AH), SS b n H0 H4 r.pi.1 → r.pi.2 = false → t4 0 = .sl (some (b, 0)) n lo ex 1 → t4 1 = .i .i64 a → t4 2 = .i .i64 c → t4 3 = .i .i64 r.lim → t4 4 = .fn (.func 26) [.p (some (e, 0))] [] → t4 10 = .b wb → t4 11 = .b wp → t4 12 = .i .i64 l → t4 13 = .i .i64 (r.pivot : Nat) →
        Sp (runR (tblP q) a35 [.code (.drw d35_17), .code (.cond (.t 97) (.seq (.reg d35_18) (.seq (.reg d35_19) (.exit 1))) .skip), .code (.seq (.reg d35_20) (.seq (.reg d35_21) (.seq (.reg d35_22) (.seq (.reg d35_23) (.seq (.reg d35_24) (.cond (.t 125) (.seq (.reg d35_25) (.seq (.reg d35_26) (.reg d35_27))) (.seq (.reg d35_28) (.seq (.reg d35_29) (.reg d35_30))))))))), .inBlock 1, .inLoop l35_31, .inBlock 0] t4 H4) Q := by
      intro t4 H4 S4 hpi y0 y1 y2 y3 y4 y10 y11 y12 y13
      have hpi' := hpi
      rw [hr] at hpi'
      have hpv : a ≤ r.pivot ∧ r.pivot < c := by rw [hr]; exact g2
      have B4 : Below (ltc cf) a c r.pi.1 := by rw [hr]; exact B3
      have s4 : r.pi.1.size = d1.size := by rw [hr]; exact s3
      have hsz := S1.sz
      -- the partition
      have st4 : ∀ (t5 : Nat → AV) (H5 : AH), SS b n H0 H5 r.pi.1 → (decide (a > 0) && !ltc cf r.pi.1[a - 1]! r.pi.1[r.pivot]!) = false → t5 0 = .sl (some (b, 0)) n lo ex 1 → t5 1 = .i .i64 a → t5 2 = .i .i64 c → t5 3 = .i .i64 r.lim → t5 4 = .fn (.func 26) [.p (some (e, 0))] [] → t5 12 = .i .i64 l → t5 13 = .i .i64 (r.pivot : Nat) →
          Sp (runR (tblP q) a35 [.code (.reg d35_20), .code (.seq (.reg d35_21) (.seq (.reg d35_22) (.seq (.reg d35_23) (.seq (.reg d35_24) (.cond (.t 125) (.seq (.reg d35_25) (.seq (.reg d35_26) (.reg d35_27))) (.seq (.reg d35_28) (.seq (.reg d35_29) (.reg d35_30)))))))), .inBlock 1, .inLoop l35_31, .inBlock 0] t5 H5) Q := by
        intro t5 H5 S5 hno x0 x1 x2 x3 x4 x12 x13
        have hno' := hno
        rw [hr] at hno'
        obtain ⟨H6, e6, S6⟩ := part_spec (lo := lo) (ex := ex) hC hn S5 (a := a) (c := c) (p := r.pivot) hacl hcn (by omega)
        have hx : partition (ltc cf) r.pi.1 a c r.pivot = ((partition (ltc cf) r.pi.1 a c r.pivot).1, (partition (ltc cf) r.pi.1 a c r.pivot).2.1, (partition (ltc cf) r.pi.1 a c r.pivot).2.2) := rfl
        obtain ⟨m1, m2, m3, mB1, mB2, mL, mR⟩ := round_part hO (partition_holds (ltc cf)) hpv.1 hpv.2 (by omega) B4 hx
        have hL := fun h4 => pdq_left (lt := ltc cf) (d := d1) (a := a) (b := c) (limit := limit) (wb := wb) (wp := wp) h12 h0 hpi' hno' (by rw [← hr]; exact ⟨m1, m2⟩) h4
        have hR := fun h4 => pdq_right (lt := ltc cf) (d := d1) (a := a) (b := c) (limit := limit) (wb := wb) (wp := wp) h12 h0 hpi' hno' (by rw [← hr]; exact ⟨m1, m2⟩) h4
        rw [← hr] at hL hR
        generalize partition (ltc cf) r.pi.1 a c r.pivot = pr at e6 S6 m1 m2 m3 mB1 mB2 mL mR hL hR
        obtain ⟨mid, ap, d4⟩ := pr
        simp only at e6 S6 m1 m2 m3 mB1 mB2 mL mR hL hR
        have hz8 : ((8 : Int) = 0) = False := by simp
        have q8 : bQuo .i64 (l : Int) 8 = ((l / 8 : Nat) : Int) := quo_nat (y := 8) (by omega)
        have v1 := wrd (i := mid) (j := a) (by omega) m1
        have v2 := wrd (i := c) (j := mid) (by omega) (by omega)
        have v3 := wr1 (i := mid) (by omega)
        -- one side by a call
        have call : ∀ (a' c' : Nat) (d5 : Array Int) (H7 : AH), c' - a' < k → a' ≤ c' → c' ≤ n → Below (ltc cf) a' c' d5 → SS b n H0 H7 d5 → ∃ H', callR (tblP q) 35 [.sl (some (b, 0)) n lo ex 1, .i .i64 a', .i .i64 c', .i .i64 r.lim, .fn (.func 26) [.p (some (e, 0))] []] H7 = some (.tup [], H') ∧ SS b n H0 H' (pdq (ltc cf) d5 a' c' r.lim true true) := by
          intro a' c' d5 H7 hlt ha' hc' hB' S7
          refine Sp.one fun Q' hQ' => ?_
          simp only [c35, b35, runR_seq, r35_0, aops_cons, aop, ev_c, thenOps_some, put_some, aops_nil, regR_some, r35_1, runR_block, runR_loop']
          refine IH (c' - a') hlt a' c' r.lim true true d5 H7 _ Q' (Nat.le_refl _) ha' hc' hrl hB' S7 ?_ ?_ ?_ ?_ ?_ ?_ ?_ hQ'
          all_goals simp only [upd_get, Nat.reduceEqDiff, ↓reduceIte, ainit_get, List.getD_cons_succ, List.getD_cons_zero, reduceCtorEq]
        by_cases h4 : mid - a < c - mid
        · have x4' : decide (((mid - a : Nat) : Int) < ((c - mid : Nat) : Int)) = true := by simp; omega
          obtain ⟨H7, e7, S7⟩ := call a mid d4 H6 (by omega) m1 (by omega) mB1 S6
          have hs := pdq_sorts (ltc cf) hO d4 a mid r.lim true true m1 (by omega) mB1
          obtain ⟨nB, _⟩ := mL _ hs.1 hs.2
          have c8 : decide (((l / 8 : Nat) : Int) ≤ ((mid - a : Nat) : Int)) = decide (mid - a ≥ (c - a) / 8) := by rw [hl, decide_eq_decide]; omega
          rw [hL h4] at hQ
          simp only [r35_20, aops_cons, aop, ev_t, x0, thenOps_some, put_some, upd_get, Nat.reduceEqDiff, ↓reduceIte, x1, x2, x13, x4, asX_cons, asX_nil, e6, List.getElem?_cons_zero, withH_some', List.getElem?_cons_succ, aops_nil, regR_some, runR_seq, r35_21, r35_22, aBin, BinOp.isShift, Bool.false_eq_true, or_true, aInt_sub, v1, v2, r35_23, Nat.succ_ne_self, x12, ev_c, aInt_quo, hz8, q8, r35_24, aInt_lss, x4', runR_cond', condR_b, r35_25, aInt_geq, GE.ge, r35_26, reduceCtorEq, x3, e7, r35_27, aInt_add, v3, runR_inBlock]
          refine IH (c - (mid + 1)) (by omega) (mid + 1) c r.lim _ ap _ H7 _ Q (Nat.le_refl _) (by omega) hcn hrl nB S7 ?_ ?_ ?_ ?_ ?_ ?_ ?_ hQ
          case refine_6 => simp only [upd_get, Nat.reduceEqDiff, ↓reduceIte, GE.ge]; rw [c8]
          all_goals simp only [upd_get, ↓reduceIte, Nat.reduceEqDiff, Nat.succ_ne_self, x3, reduceCtorEq, x0, x4, x2]
        · have x4' : decide (((mid - a : Nat) : Int) < ((c - mid : Nat) : Int)) = false := by simp; omega
          obtain ⟨H7, e7, S7⟩ := call (mid + 1) c d4 H6 (by omega) (by omega) hcn mB2 S6
          have hs := pdq_sorts (ltc cf) hO d4 (mid + 1) c r.lim true true (by omega) (by omega) mB2
          obtain ⟨nB, _⟩ := mR _ hs.1 hs.2
          have c8 : decide (((l / 8 : Nat) : Int) ≤ ((c - mid : Nat) : Int)) = decide (c - mid ≥ (c - a) / 8) := by rw [hl, decide_eq_decide]; omega
          rw [hR h4] at hQ
          simp only [r35_20, aops_cons, aop, ev_t, x0, thenOps_some, put_some, upd_get, Nat.reduceEqDiff, ↓reduceIte, x1, x2, x13, x4, asX_cons, asX_nil, e6, List.getElem?_cons_zero, withH_some', List.getElem?_cons_succ, aops_nil, regR_some, runR_seq, r35_21, r35_22, aBin, BinOp.isShift, Bool.false_eq_true, or_true, aInt_sub, v1, v2, r35_23, Nat.succ_ne_self, x12, ev_c, aInt_quo, hz8, q8, r35_24, aInt_lss, x4', runR_cond', condR_b, r35_28, aInt_geq, GE.ge, r35_29, reduceCtorEq, aInt_add, v3, x3, e7, r35_30, runR_inBlock]
          refine IH (mid - a) (by omega) a mid r.lim _ ap _ H7 _ Q (Nat.le_refl _) m1 (by omega) hrl nB S7 ?_ ?_ ?_ ?_ ?_ ?_ ?_ hQ
          case refine_6 => simp only [upd_get, Nat.reduceEqDiff, ↓reduceIte, GE.ge]; rw [c8]
          all_goals simp only [upd_get, Nat.reduceEqDiff, ↓reduceIte, x1, Nat.succ_ne_self, reduceCtorEq, x0, x4, x3]
      by_cases ha0 : a > 0
      · have c3 : decide ((0 : Int) < (a : Int)) = true := by simp; omega
        have w1 := wp1 (i := a) (by omega) (by omega)
        have b1 : 0 ≤ ((a - 1 : Nat) : Int) ∧ ((a - 1 : Nat) : Int) < (n : Int) := by omega
        have b2 : 0 ≤ (r.pivot : Int) ∧ (r.pivot : Int) < (n : Int) := by omega
        obtain ⟨L, hL, hLl, hg⟩ := S4.g
        have x1 := hg (a - 1) (by omega)
        have x2 := hg r.pivot (by omega)
        obtain ⟨H5, e5, S5⟩ := S4.cmp hC r.pi.1[a - 1]! r.pi.1[r.pivot]!
        cases hlt : decide (cf r.pi.1[a - 1]! r.pi.1[r.pivot]! < 0)
        · have hyes : (decide (a > 0) && !ltc cf r.pi.1[a - 1]! r.pi.1[r.pivot]!) = true := by unfold ltc; rw [hlt]; simp; exact ha0
          have hyes' := hyes
          rw [hr] at hyes'
          obtain ⟨H6, e6, S6⟩ := parteq_spec (lo := lo) (ex := ex) hC hn S5 (a := a) (c := c) (p := r.pivot) hacl hcn (by omega)
          have hx : partitionEqual (ltc cf) r.pi.1 a c r.pivot = ((partitionEqual (ltc cf) r.pi.1 a c r.pivot).1, (partitionEqual (ltc cf) r.pi.1 a c r.pivot).2) := rfl
          obtain ⟨m1, m2, m3, mB, _⟩ := round_eq hO (partitionEqual_holds (ltc cf)) ha0 hpv.1 hpv.2 (by omega) B4 hlt hx
          have hE := pdq_eq (lt := ltc cf) (d := d1) (a := a) (b := c) (limit := limit) (wb := wb) (wp := wp) h12 h0 hpi' hyes' (by rw [← hr]; exact ⟨m1, m2⟩)
          rw [← hr] at hE
          rw [hE] at hQ
          simp only [r35_17, aops_cons, aop, ev_t, y1, thenOps_some, put_some, aBin, upd_get, ↓reduceIte, ev_c, BinOp.isShift, Bool.false_eq_true, or_true, aInt_gtr, GT.gt, c3, withH_some', aops_g, gOps_b, Nat.reduceEqDiff, y4, reduceCtorEq, y0, aInt_sub, w1, b1, and_self, Int.toNat_natCast, Nat.mul_one, Nat.zero_add, aload, hL, apart, x1, y13, b2, x2, asX_cons, asX_nil, List.cons_append, List.nil_append, List.append_nil, e5, aInt_lss, hlt, aUn_not, Bool.not_false, aops_nil, regR_some, runR_cond', condR_b, runR_seq, r35_18, y2, e6, r35_19, runR_exit', aexit_code, aexit_inBlock, exitR_some]
          refine IH (c - (partitionEqual (ltc cf) r.pi.1 a c r.pivot).1) (by omega) _ c r.lim wb wp _ H6 _ Q (Nat.le_refl _) m2 hcn hrl mB S6 ?_ ?_ ?_ ?_ ?_ ?_ ?_ hQ
          all_goals simp only [upd_get, Nat.reduceEqDiff, ↓reduceIte, y4, reduceCtorEq, y0, y11, Nat.succ_ne_self, y2, y10, y3]
        · simp only [r35_17, aops_cons, aop, ev_t, y1, thenOps_some, put_some, aBin, upd_get, ↓reduceIte, ev_c, BinOp.isShift, Bool.false_eq_true, or_true, aInt_gtr, GT.gt, c3, withH_some', aops_g, gOps_b, Nat.reduceEqDiff, y4, reduceCtorEq, y0, aInt_sub, w1, b1, and_self, Int.toNat_natCast, Nat.mul_one, Nat.zero_add, aload, hL, apart, x1, y13, b2, x2, asX_cons, asX_nil, List.cons_append, List.nil_append, List.append_nil, e5, aInt_lss, hlt, aUn_not, Bool.not_true, aops_nil, regR_some, runR_cond', condR_b, runR_skip, runR_seq]
          refine st4 _ H5 S5 (by unfold ltc; rw [hlt]; simp) ?_ ?_ ?_ ?_ ?_ ?_ ?_
          all_goals simp only [upd_get, Nat.reduceEqDiff, ↓reduceIte, y1, y4, reduceCtorEq, y0, y13, y2, y12, y3]
      · have c3 : decide ((0 : Int) < (a : Int)) = false := by simp; omega
        simp only [r35_17, aops_cons, aop, ev_t, y1, thenOps_some, put_some, aBin, upd_get, ↓reduceIte, ev_c, BinOp.isShift, Bool.false_eq_true, or_true, aInt_gtr, GT.gt, c3, withH_some', aops_g, gOps_b, Nat.reduceEqDiff, aops_nil, regR_some, runR_cond', condR_b, runR_skip, runR_seq]
        refine st4 _ H4 S4 (by simp [ha0]) ?_ ?_ ?_ ?_ ?_ ?_ ?_
        all_goals simp only [upd_get, Nat.reduceEqDiff, ↓reduceIte, y1, y4, reduceCtorEq, y0, y13, y2, y12, y3]
    -- behind the turn
    have st2 : ∀ (t3 : Nat → AV) (H3 : AH), SS b n H0 H3 r.d2 → t3 0 = .sl (some (b, 0)) n lo ex 1 → t3 1 = .i .i64 a → t3 2 = .i .i64 c → t3 3 = .i .i64 r.lim → t3 4 = .fn (.func 26) [.p (some (e, 0))] [] → t3 10 = .b wb → t3 11 = .b wp → t3 12 = .i .i64 l → t3 13 = .i .i64 (r.pivot : Nat) → t3 14 = .i .i64 (hintV r.hint) →
        Sp (runR (tblP q) a35 [.code (.reg d35_15), .code (.cond (.t 75) (.seq (.reg d35_16) (.cond (.t 80) .ret .skip)) .skip), .code (.seq (.seq (.drw d35_17) (.cond (.t 97) (.seq (.reg d35_18) (.seq (.reg d35_19) (.exit 1))) .skip)) (.seq (.reg d35_20) (.seq (.reg d35_21) (.seq (.reg d35_22) (.seq (.reg d35_23) (.seq (.reg d35_24) (.cond (.t 125) (.seq (.reg d35_25) (.seq (.reg d35_26) (.reg d35_27))) (.seq (.reg d35_28) (.seq (.reg d35_29) (.reg d35_30)))))))))), .inBlock 1, .inLoop l35_31, .inBlock 0] t3 H3) Q := by
      intro t3 H3 S3 y0 y1 y2 y3 y4 y10 y11 y12 y13 y14
      have hn2 : r.d2.size = d1.size := by rw [hr]; exact s2
      have no : (wb && wp && decide (r.hint = .increasing)) = false → r.pi = (r.d2, false) := by
        intro h
        rw [hr] at h ⊢
        exact rd_pi_no h
      have hinc : (hintV r.hint == 1) = decide (r.hint = .increasing) := hint_inc
      cases wb with
      | false =>
        have h := no rfl
        simp only [r35_15, aops_cons, aop, ev_t, y10, thenOps_some, put_some, upd_get, ↓reduceIte, aops_g, gOps_b, Bool.false_eq_true, Nat.reduceEqDiff, ev_c, aops_nil, regR_some, runR_cond', condR_b, runR_skip, runR_seq]
        refine st3 _ H3 (by rw [h]; exact S3) (by rw [h]) ?_ ?_ ?_ ?_ ?_ ?_ ?_ ?_ ?_
        all_goals simp only [upd_get, Nat.reduceEqDiff, ↓reduceIte, y1, y4, reduceCtorEq, y0, y11, y13, y2, y10, y12, y3]
      | true =>
        cases wp with
        | false =>
          have h := no rfl
          simp only [r35_15, aops_cons, aop, ev_t, y10, thenOps_some, put_some, upd_get, ↓reduceIte, aops_g, gOps_b, Nat.reduceEqDiff, y11, Bool.false_eq_true, ev_c, aops_nil, regR_some, runR_cond', condR_b, runR_skip, runR_seq]
          refine st3 _ H3 (by rw [h]; exact S3) (by rw [h]) ?_ ?_ ?_ ?_ ?_ ?_ ?_ ?_ ?_
          all_goals simp only [upd_get, Nat.reduceEqDiff, ↓reduceIte, y1, y4, reduceCtorEq, y0, y11, y13, y2, y10, y12, y3]
        | true =>
          cases hi : decide (r.hint = .increasing)
          · have h := no hi
            rw [hi] at hinc
            simp only [r35_15, aops_cons, aop, ev_t, y10, thenOps_some, put_some, upd_get, ↓reduceIte, aops_g, gOps_b, Nat.reduceEqDiff, y11, y14, aBin, ev_c, BinOp.isShift, Bool.false_eq_true, or_true, aInt_eql, hinc, withH_some', aops_nil, regR_some, runR_cond', condR_b, runR_skip, runR_seq]
            refine st3 _ H3 (by rw [h]; exact S3) (by rw [h]) ?_ ?_ ?_ ?_ ?_ ?_ ?_ ?_ ?_
            all_goals simp only [upd_get, Nat.reduceEqDiff, ↓reduceIte, y1, y4, reduceCtorEq, y0, y11, y13, y2, y10, y12, y3]
          · have h : r.pi = partialInsertionSort (ltc cf) r.d2 a c := by
              rw [hr] at hi ⊢
              exact rd_pi_yes hi
            rw [hi] at hinc
            obtain ⟨H4, e4, S4⟩ := pins_spec (lo := lo) (ex := ex) hC hn S3 (a := a) (c := c) hacl hcn
            rw [← h] at e4 S4
            cases hp2 : r.pi.2
            · rw [hp2] at e4
              simp only [r35_15, aops_cons, aop, ev_t, y10, thenOps_some, put_some, upd_get, ↓reduceIte, aops_g, gOps_b, Nat.reduceEqDiff, y11, y14, aBin, ev_c, BinOp.isShift, Bool.false_eq_true, or_true, aInt_eql, hinc, withH_some', aops_nil, regR_some, runR_cond', condR_b, runR_seq, r35_16, reduceCtorEq, y0, y1, y2, y4, asX_cons, asX_nil, e4, runR_skip]
              refine st3 _ H4 S4 hp2 ?_ ?_ ?_ ?_ ?_ ?_ ?_ ?_ ?_
              all_goals simp only [upd_get, Nat.reduceEqDiff, ↓reduceIte, y1, y4, reduceCtorEq, y0, y11, y13, y2, y10, y12, y3]
            · rw [hp2] at e4
              have hp2' := hp2
              rw [hr] at hp2'
              rw [pdq_done h12 h0 hp2', ← hr] at hQ
              simp only [r35_15, aops_cons, aop, ev_t, y10, thenOps_some, put_some, upd_get, ↓reduceIte, aops_g, gOps_b, Nat.reduceEqDiff, y11, y14, aBin, ev_c, BinOp.isShift, Bool.false_eq_true, or_true, aInt_eql, hinc, withH_some', aops_nil, regR_some, runR_cond', condR_b, runR_seq, r35_16, reduceCtorEq, y0, y1, y2, y4, asX_cons, asX_nil, e4, runR_ret, afinish_def, s35, aresults, aback]
              exact Sp.ret (hQ _ S4)
    obtain ⟨H3, e3, S3⟩ := pivot_spec (lo := lo) (ex := ex) hC hn S2 (a := a) (c := c) hacl hcn
    have hc : choosePivot (ltc cf) r.d1 a c = r.c := by rw [hr]; rfl
    rw [hc] at e3
    have hcp : a ≤ r.c.1 ∧ r.c.1 < c := by rw [hr]; exact g1
    have hdec : (hintV r.c.2 == 2) = decide (r.c.2 = .decreasing) := hint_dec
    by_cases hd : r.c.2 = .decreasing
    · have hd' := hd
      rw [hr] at hd'
      obtain ⟨f1, f2, f3⟩ := rd_dec hd'
      rw [← hr] at f1 f2 f3
      obtain ⟨H4, e4, S4⟩ := rev_spec (q := q) (lo := lo) (ex := ex) hn S3 (a := a) (c := c) (by omega) (by omega) hcn (.fn (.func 26) [.p (some (e, 0))] [])
      rw [← f1] at S4
      rw [decide_eq_true hd] at hdec
      have w1 := wp1 (i := c) (by omega) (by omega)
      have w2 := wrd (i := r.c.1) (j := a) (by omega) hcp.1
      have w3 := wrd (i := c - 1) (j := r.c.1 - a) (by omega) (by omega)
      rw [← f2] at w3
      simp only [r35_10, aops_cons, aop, ev_t, z0, thenOps_some, put_some, upd_get, Nat.reduceEqDiff, ↓reduceIte, z1, z2, z4, asX_cons, asX_nil, e3, List.getElem?_cons_zero, withH_some', List.getElem?_cons_succ, aops_nil, regR_some, runR_seq, r35_11, aBin, ev_c, BinOp.isShift, Bool.false_eq_true, or_true, aInt_eql, hdec, runR_cond', condR_b, r35_12, reduceCtorEq, e4, r35_13, aInt_sub, w1, w2, w3, r35_14]
      refine st2 _ H4 S4 ?_ ?_ ?_ ?_ ?_ ?_ ?_ ?_ ?_ ?_
      case refine_10 => rw [f3]; simp only [upd_get, ↓reduceIte]; rfl
      all_goals simp only [upd_get, Nat.reduceEqDiff, ↓reduceIte, z1, z11, z4, z12, reduceCtorEq, z0, z2, z10, z3]
    · have hd' := hd
      rw [hr] at hd'
      obtain ⟨f1, f2, f3⟩ := rd_not hd'
      rw [← hr] at f1 f2 f3
      rw [decide_eq_false hd] at hdec
      simp only [r35_10, aops_cons, aop, ev_t, z0, thenOps_some, put_some, upd_get, Nat.reduceEqDiff, ↓reduceIte, z1, z2, z4, asX_cons, asX_nil, e3, List.getElem?_cons_zero, withH_some', List.getElem?_cons_succ, aops_nil, regR_some, runR_seq, r35_11, aBin, ev_c, BinOp.isShift, Bool.false_eq_true, or_true, aInt_eql, hdec, runR_cond', condR_b, runR_skip]
      refine st2 _ H3 (by rw [f1]; exact S3) ?_ ?_ ?_ ?_ ?_ ?_ ?_ ?_ ?_ ?_
      case refine_9 => rw [f2]; simp only [upd_get, Nat.reduceEqDiff, ↓reduceIte]
      case refine_10 => rw [f3]; simp only [upd_get, Nat.reduceEqDiff, ↓reduceIte]
      all_goals simp only [upd_get, Nat.reduceEqDiff, ↓reduceIte, z1, z11, z4, z12, reduceCtorEq, z0, z2, z10, z3]
  cases wb with
  | true =>
    have f1 : r.d1 = d1 ∧ r.lim = limit := by rw [hr]; exact rd_true
    rw [runR_inLoop]
    simp only [l35_31, runR_block, runR_seq, r35_2, aops_cons, aop, ev_t, q2, thenOps_some, put_some, upd_get, Nat.reduceEqDiff, ↓reduceIte, q1, aBin, BinOp.isShift, Bool.false_eq_true, or_true, aInt_sub, hw, withH_some', aops_nil, regR_some, r35_3, ev_c, aInt_leq, c1, runR_cond', condR_b, runR_skip, r35_5, q3, aInt_eql, c2, r35_7, q10, aUn_not, Bool.not_true]
    refine st1 _ H1 (by rw [f1.1]; exact S1) ?_ ?_ ?_ ?_ ?_ ?_ ?_ ?_
    case refine_4 => rw [f1.2]; simp only [upd_get, Nat.reduceEqDiff, ↓reduceIte, q3]
    all_goals simp only [upd_get, Nat.reduceEqDiff, ↓reduceIte, q10, q4, q11, reduceCtorEq, q0, q1, q2]
  | false =>
    have f1 : r.d1 = breakPatterns d1 a c ∧ r.lim = limit - 1 := by rw [hr]; exact rd_false
    obtain ⟨H2, e2, S2⟩ := break_spec (q := q) (lo := lo) (ex := ex) hn S1 hac hcn (.fn (.func 26) [.p (some (e, 0))] [])
    rw [← f1.1] at S2
    have w1 := wp1 (i := limit) (by omega) (by omega)
    rw [← f1.2] at w1
    rw [runR_inLoop]
    simp only [l35_31, runR_block, runR_seq, r35_2, aops_cons, aop, ev_t, q2, thenOps_some, put_some, upd_get, Nat.reduceEqDiff, ↓reduceIte, q1, aBin, BinOp.isShift, Bool.false_eq_true, or_true, aInt_sub, hw, withH_some', aops_nil, regR_some, r35_3, ev_c, aInt_leq, c1, runR_cond', condR_b, runR_skip, r35_5, q3, aInt_eql, c2, r35_7, q10, aUn_not, Bool.not_false, r35_8, reduceCtorEq, q0, q4, asX_cons, asX_nil, e2, r35_9, w1]
    refine st1 _ H2 S2 ?_ ?_ ?_ ?_ ?_ ?_ ?_ ?_
    all_goals simp only [upd_get, Nat.reduceEqDiff, ↓reduceIte, q10, Nat.succ_ne_self, q4, q11, reduceCtorEq, q0, q1, q2]
theorem sortf_spec (hC : Cm q e b H0 cf) (hn : n ≤ 1000) (hO : SWO (ltc cf)) (hS : SS b n H0 H d) :
    ∃ H', callR (tblP q) 29 [.sl (some (b, 0)) n lo ex 1, .fn (.func 26) [.p (some (e, 0))] []] H = some (.tup [], H') ∧ SS b n H0 H' (pdq (ltc cf) d 0 n (bitsLen n) true true) := by
  have e1 := len_spec (q := q) (H := H) (x := n) (by omega)
  have w1 : IntKind.u64.wrap (n : Int) = (n : Int) := wrap_u64 (by omega)
  have hle := bitsLen_small (x := n) (by omega)
  have e2 : ∃ H', callR (tblP q) 35 [.sl (some (b, 0)) n lo ex 1, .i .i64 0, .i .i64 n, .i .i64 (bitsLen n : Nat), .fn (.func 26) [.p (some (e, 0))] []] H = some (.tup [], H') ∧ SS b n H0 H' (pdq (ltc cf) d 0 n (bitsLen n) true true) := by
    refine Sp.one fun Q hQ => ?_
    simp only [c35, b35, runR_seq, r35_0, aops_cons, aop, ev_c, thenOps_some, put_some, aops_nil, regR_some, r35_1, runR_block, runR_loop']
    refine pdq_loop (lo := lo) (ex := ex) hC hn hO (n - 0) 0 n (bitsLen n) true true d H _ Q (Nat.le_refl _) (Nat.zero_le _) (Nat.le_refl _) (by omega) (Or.inl rfl) hS ?_ ?_ ?_ ?_ ?_ ?_ ?_ hQ
    all_goals simp only [upd_get, Nat.reduceEqDiff, ↓reduceIte, reduceCtorEq, ainit_get, List.getD_cons_zero, List.getD_cons_succ, cast_of]
  obtain ⟨H2, e2, S2⟩ := e2
  simp only [c29, b29, runR_seq, r29_0, aops_cons, aop, ev_t, ainit_get, List.getD_cons_zero, thenOps_some, put_some, upd_get, ↓reduceIte, aops_nil, regR_some, r29_1, reduceCtorEq, Nat.reduceEqDiff, w1, asX_cons, asX_nil, e1, List.getD_cons_succ, ev_c, e2, runR_nil, afinish_def, s29, aresults, aback, Option.some.injEq, Prod.mk.injEq, true_and]
  exact ⟨_, rfl, S2⟩
end
end Go.Proofs.Ytaolkpkaiidmeaa.Abs
