/- order2, median, choosePivot in the plain machine, each what the plain twin tells. No condition of its own. -/
import Derived.Test.YtaolkpkaiidmeaaSrtA
namespace Go.Proofs.Ytaolkpkaiidmeaa.Abs
open Go.Sort
set_option linter.unusedSimpArgs false
set_option linter.unusedVariables false
set_option maxRecDepth 100000
set_option maxHeartbeats 8000000
/-- The counter of exchanges. -/
structure Bs (H0 : AH) (sp : Nat) (H : AH) (s : Nat) : Prop where
  o : H.o sp = some (.row false [.i .i64 s])
  lt : sp < H.n
  ge : H0.n ≤ sp
section
variable {q : Prm} {e b n lo sp s : Nat} {ex : Bool} {cf : Int → Int → Int} {H0 H : AH} {d : Array Int}
theorem Bs.mv (h : Bs H0 sp H s) {H' : AH} (k : Keeps H H') : Bs H0 sp H' s := ⟨(k.o h.lt).trans h.o, k.lt h.lt, h.ge⟩
theorem order2_in {lt : Int → Int → Bool} {a c : Nat} : ((order2 lt d a c s).1 = a ∧ (order2 lt d a c s).2.1 = c ∨ (order2 lt d a c s).1 = c ∧ (order2 lt d a c s).2.1 = a) ∧ (order2 lt d a c s).2.2 ≤ s + 1 := by
  unfold order2
  split
  · exact ⟨Or.inr ⟨rfl, rfl⟩, Nat.le_refl _⟩
  · exact ⟨Or.inl ⟨rfl, rfl⟩, Nat.le_succ _⟩
theorem order2_spec (hC : Cm q e b H0 cf) (hn : n ≤ 1000) (hS : SS b n H0 H d) (hB : Bs H0 sp H s) (hs : s ≤ 1000) {a c : Nat} (ha : a < n) (hc : c < n) :
    ∃ H', callR (tblP q) 54 [.sl (some (b, 0)) n lo ex 1, .i .i64 a, .i .i64 c, .p (some (sp, 0)), .fn (.func 26) [.p (some (e, 0))] []] H = some (.tup [.i .i64 ((order2 (ltc cf) d a c s).1 : Nat), .i .i64 ((order2 (ltc cf) d a c s).2.1 : Nat)], H') ∧ SS b n H0 H' d ∧ Bs H0 sp H' (order2 (ltc cf) d a c s).2.2 := by
  have b1 : 0 ≤ (a : Int) ∧ (a : Int) < (n : Int) := by omega
  have b2 : 0 ≤ (c : Int) ∧ (c : Int) < (n : Int) := by omega
  obtain ⟨L, hL, hLl, hg⟩ := hS.g
  have x1 := hg a ha
  have x2 := hg c hc
  obtain ⟨H1, e1, k1⟩ := hC H d[c]! d[a]! hS.f
  have S1 := hS.mv k1
  have B1 := hB.mv k1
  have w1 := wr1 (i := s) (by omega)
  have o1 := B1.o
  unfold order2 ltc
  cases hlt : decide (cf d[c]! d[a]! < 0)
  · simp only [c54, b54, runR_seq, r54_0, aops_cons, aop, ev_c, thenOps_some, put_some, aops_nil, regR_some, r54_1, ev_t, upd_get, Nat.reduceEqDiff, ↓reduceIte, ainit_get, List.getD_cons_succ, List.getD_cons_zero, reduceCtorEq, b2, and_self, Int.toNat_natCast, Nat.mul_one, Nat.zero_add, aload, hL, apart, x2, withH_some', b1, x1, asX_cons, asX_nil, List.cons_append, List.nil_append, List.append_nil, e1, aBin, BinOp.isShift, Bool.false_eq_true, or_true, aInt_lss, hlt, runR_cond', condR_b, runR_skip, r54_4, runR_ret, afinish_def, s54, aresults, aresult, aback, Option.some.injEq, Prod.mk.injEq, true_and]
    exact ⟨_, rfl, S1, B1⟩
  · simp only [c54, b54, runR_seq, r54_0, aops_cons, aop, ev_c, thenOps_some, put_some, aops_nil, regR_some, r54_1, ev_t, upd_get, Nat.reduceEqDiff, ↓reduceIte, ainit_get, List.getD_cons_succ, List.getD_cons_zero, reduceCtorEq, b2, and_self, Int.toNat_natCast, Nat.mul_one, Nat.zero_add, aload, hL, apart, x2, withH_some', b1, x1, asX_cons, asX_nil, List.cons_append, List.nil_append, List.append_nil, e1, aBin, BinOp.isShift, Bool.false_eq_true, or_true, aInt_lss, hlt, runR_cond', condR_b, r54_2, o1, List.getElem?_cons_zero, aInt_add, w1, astore, AV.cells, List.length_cons, List.length_nil, Nat.reduceLeDiff, setR_z, setR_e, withU_some', put_none, r54_3, runR_ret, afinish_def, s54, aresults, aresult, aback, Option.some.injEq, Prod.mk.injEq, true_and]
    refine ⟨_, rfl, ⟨?_, ⟨?_, fun c hc hcb => ?_⟩, S1.sz, S1.lt⟩, ⟨?_, ?_, hB.ge⟩⟩
    · have := hB.ge; have := hS.lt; rw [AH_set_o, if_neg (by omega)]; exact S1.r
    · exact S1.f.1
    · have := hB.ge; rw [AH_set_o, if_neg (by omega)]; exact S1.f.2 c hc hcb
    · rw [AH_set_o, if_pos rfl]
    · exact B1.lt
theorem median_in {lt : Int → Int → Bool} {a c f : Nat} (ha : a < n) (hc : c < n) (hf : f < n) : (median lt d a c f s).1 < n ∧ (median lt d a c f s).2 ≤ s + 3 := by
  unfold median
  obtain ⟨r1, hr1⟩ : ∃ r, r = order2 lt d a c s := ⟨_, rfl⟩
  have g1 := order2_in (d := d) (lt := lt) (a := a) (c := c) (s := s)
  rw [← hr1] at g1
  obtain ⟨r2, hr2⟩ : ∃ r, r = order2 lt d r1.2.1 f r1.2.2 := ⟨_, rfl⟩
  have g2 := order2_in (d := d) (lt := lt) (a := r1.2.1) (c := f) (s := r1.2.2)
  rw [← hr2] at g2
  have g3 := order2_in (d := d) (lt := lt) (a := r1.1) (c := r2.1) (s := r2.2.2)
  simp only [← hr1, ← hr2]
  omega
theorem median_spec (hC : Cm q e b H0 cf) (hn : n ≤ 1000) (hS : SS b n H0 H d) (hB : Bs H0 sp H s) (hs : s ≤ 100) {a c f : Nat} (ha : a < n) (hc : c < n) (hf : f < n) :
    ∃ H', callR (tblP q) 53 [.sl (some (b, 0)) n lo ex 1, .i .i64 a, .i .i64 c, .i .i64 f, .p (some (sp, 0)), .fn (.func 26) [.p (some (e, 0))] []] H = some (.i .i64 ((median (ltc cf) d a c f s).1 : Nat), H') ∧ SS b n H0 H' d ∧ Bs H0 sp H' (median (ltc cf) d a c f s).2 := by
  unfold median
  obtain ⟨H1, e1, S1, B1⟩ := order2_spec (lo := lo) (ex := ex) hC hn hS hB (by omega) ha hc
  have g1 := order2_in (d := d) (lt := ltc cf) (a := a) (c := c) (s := s)
  generalize order2 (ltc cf) d a c s = r1 at e1 B1 g1
  obtain ⟨H2, e2, S2, B2⟩ := order2_spec (lo := lo) (ex := ex) hC hn S1 B1 (by omega) (a := r1.2.1) (c := f) (by omega) hf
  have g2 := order2_in (d := d) (lt := ltc cf) (a := r1.2.1) (c := f) (s := r1.2.2)
  generalize hr2 : order2 (ltc cf) d r1.2.1 f r1.2.2 = r2 at e2 B2 g2
  obtain ⟨H3, e3, S3, B3⟩ := order2_spec (lo := lo) (ex := ex) hC hn S2 B2 (by omega) (a := r1.1) (c := r2.1) (by omega) (by omega)
  simp only [c53, b53, runR_seq, r53_0, aops_cons, aop, ev_c, thenOps_some, put_some, aops_nil, regR_some, r53_1, ev_t, upd_get, reduceCtorEq, ↓reduceIte, ainit_get, List.getD_cons_zero, Nat.reduceEqDiff, List.getD_cons_succ, asX_cons, asX_nil, e1, List.getElem?_cons_zero, withH_some', List.getElem?_cons_succ, r53_2, Nat.succ_ne_self, e2, r53_3, e3, r53_4, runR_ret, afinish_def, s53, aresults, aresult, aback, hr2, Option.some.injEq, Prod.mk.injEq, true_and]
  exact ⟨_, rfl, S3, B3⟩
theorem medadj_spec (hC : Cm q e b H0 cf) (hn : n ≤ 1000) (hS : SS b n H0 H d) (hB : Bs H0 sp H s) (hs : s ≤ 100) {a : Nat} (ha : a + 1 < n) (h1 : 1 ≤ a) :
    ∃ H', callR (tblP q) 52 [.sl (some (b, 0)) n lo ex 1, .i .i64 a, .p (some (sp, 0)), .fn (.func 26) [.p (some (e, 0))] []] H = some (.i .i64 ((medianAdjacent (ltc cf) d a s).1 : Nat), H') ∧ SS b n H0 H' d ∧ Bs H0 sp H' (medianAdjacent (ltc cf) d a s).2 := by
  unfold medianAdjacent
  obtain ⟨H1, e1, S1, B1⟩ := median_spec (lo := lo) (ex := ex) hC hn hS hB hs (a := a - 1) (c := a) (f := a + 1) (by omega) (by omega) ha
  have w1 : IntKind.i64.wrap ((a : Int) - 1) = ((a - 1 : Nat) : Int) := by rw [wrap_i64 (by omega)]; omega
  have w2 := wr1 (i := a) (by omega)
  simp only [c52, b52, runR_seq, r52_0, aops_cons, aop, ev_c, thenOps_some, put_some, aops_nil, regR_some, r52_1, ev_t, upd_get, reduceCtorEq, ↓reduceIte, ainit_get, List.getD_cons_zero, Nat.reduceEqDiff, List.getD_cons_succ, aBin, BinOp.isShift, Bool.false_eq_true, or_true, aInt_sub, w1, withH_some', aInt_add, w2, asX_cons, asX_nil, e1, runR_ret, afinish_def, s52, aresults, aresult, aback, Option.some.injEq, Prod.mk.injEq, true_and]
  exact ⟨_, rfl, S1, B1⟩
def hintV : Hint → Int
  | .unknown => 0
  | .increasing => 1
  | .decreasing => 2
theorem mul_nat {x y : Nat} (hx : x * y ≤ 1000000) : IntKind.i64.wrap ((x : Int) * (y : Int)) = ((x * y : Nat) : Int) := by
  rw [← Int.natCast_mul]
  exact wrap_i64 (by omega)
theorem pivot_spec (hC : Cm q e b H0 cf) (hn : n ≤ 1000) (hS : SS b n H0 H d) {a c : Nat} (hac : a < c) (hc : c ≤ n) :
    ∃ H', callR (tblP q) 42 [.sl (some (b, 0)) n lo ex 1, .i .i64 a, .i .i64 c, .fn (.func 26) [.p (some (e, 0))] []] H = some (.tup [.i .i64 ((choosePivot (ltc cf) d a c).1 : Nat), .i .i64 (hintV (choosePivot (ltc cf) d a c).2)], H') ∧ SS b n H0 H' d := by
  refine Sp.one fun Q hQ => ?_
  have hw := wrd (i := c) (j := a) (by omega) (by omega)
  have hz : ((4 : Int) = 0) = False := by simp
  unfold choosePivot at hQ
  obtain ⟨l, hl⟩ : ∃ l, l = c - a := ⟨_, rfl⟩
  simp only [← hl] at hQ
  rw [← hl] at hw
  have q4 : bQuo .i64 (l : Int) 4 = ((l / 4 : Nat) : Int) := quo_nat (y := 4) (by omega)
  have m1 : IntKind.i64.wrap (((l / 4 : Nat) : Int) * 1) = ((l / 4 * 1 : Nat) : Int) := mul_nat (y := 1) (by omega)
  have m2 : IntKind.i64.wrap (((l / 4 : Nat) : Int) * 2) = ((l / 4 * 2 : Nat) : Int) := mul_nat (y := 2) (by omega)
  have m3 : IntKind.i64.wrap (((l / 4 : Nat) : Int) * 3) = ((l / 4 * 3 : Nat) : Int) := mul_nat (y := 3) (by omega)
  have m1' : IntKind.i64.wrap ((l / 4 : Nat) : Int) = ((l / 4 * 1 : Nat) : Int) := by rw [← m1, Int.mul_one]
  rw [Nat.mul_one] at m1 m1'
  rw [Nat.mul_one] at hQ
  have a1 := wra (i := a) (j := l / 4) (by omega)
  have a2 := wra (i := a) (j := l / 4 * 2) (by omega)
  have a3 := wra (i := a) (j := l / 4 * 3) (by omega)
  have hi : a + l / 4 * 3 < n := by omega
  generalize hI : a + l / 4 = I at a1 hQ
  generalize hJ : a + l / 4 * 2 = J at a2 hQ
  generalize hK : a + l / 4 * 3 = K at a3 hQ hi
  have hIn : I < n := by omega
  have hJn : J < n := by omega
  have hKn : K < n := by omega
  obtain ⟨HB, hHB⟩ : ∃ HB, HB = H.new (.row false [.i .i64 0]) := ⟨_, rfl⟩
  have kB : Keeps H HB := by rw [hHB]; exact (Keeps.refl _).new
  have SB := hS.mv kB
  have BB : Bs H0 H.n HB 0 := ⟨by rw [hHB, AH_new_o, if_pos rfl]; rfl, by rw [hHB]; exact Nat.lt_succ_self _, hS.f.1⟩
  -- the end, at the counter
  have fin : ∀ (p s : Nat) (t : Nat → AV) (H1 : AH), SS b n H0 H1 d → Bs H0 H.n H1 s → t 11 = .p (some (H.n, 0)) → t 13 = .i .i64 p → (∀ H', SS b n H0 H' d → Q (.tup [.i .i64 (p : Nat), .i .i64 (hintV (if s = 0 then Hint.increasing else if s = 12 then .decreasing else .unknown))]) H') →
      Sp (runR (tblP q) a42 [.code (.reg d42_12), .code (.block 0 (.seq (.reg d42_13) (.cond (.t 57) (.seq (.reg d42_14) .ret) (.seq (.reg d42_15) (.cond (.t 60) (.seq (.reg d42_16) .ret) (.seq (.reg d42_17) .ret))))))] t H1) Q := by
    intro p s t H1 S1 B1 z11 z13 hq
    have o1 := B1.o
    by_cases h0 : s = 0
    · subst h0
      have c1 : (((0 : Nat) : Int) == 0) = true := by decide
      simp only [r42_12, aops_cons, aop, aload, ev_t, z11, o1, cast_of, apart, List.getElem?_cons_zero, withH_some', thenOps_some, put_some, aops_nil, regR_some, runR_block, runR_seq, r42_13, aBin, upd_get, ↓reduceIte, ev_c, BinOp.isShift, Bool.false_eq_true, or_true, aInt_eql, beq_self_eq_true, runR_cond', condR_b, r42_14, Nat.reduceEqDiff, z13, runR_ret, afinish_def, s42, aresults, aresult, aback]
      exact Sp.ret (hq _ S1)
    · have c1 : ((s : Int) == 0) = false := by simp; omega
      by_cases h12 : s = 12
      · subst h12
        have c2 : (((12 : Nat) : Int) == 12) = true := by decide
        simp only [r42_12, aops_cons, aop, aload, ev_t, z11, o1, cast_of, apart, List.getElem?_cons_zero, withH_some', thenOps_some, put_some, aops_nil, regR_some, runR_block, runR_seq, r42_13, aBin, upd_get, ↓reduceIte, ev_c, BinOp.isShift, Bool.false_eq_true, or_true, aInt_eql, Int.reduceBEq, runR_cond', condR_b, r42_15, Nat.reduceEqDiff, beq_self_eq_true, r42_16, z13, runR_ret, afinish_def, s42, aresults, aresult, aback]
        exact Sp.ret (hq _ S1)
      · have c2 : ((s : Int) == 12) = false := by simp; omega
        rw [if_neg h0, if_neg h12] at hq
        simp only [r42_12, aops_cons, aop, aload, ev_t, z11, o1, apart, List.getElem?_cons_zero, withH_some', thenOps_some, put_some, aops_nil, regR_some, runR_block, runR_seq, r42_13, aBin, upd_get, ↓reduceIte, ev_c, BinOp.isShift, Bool.false_eq_true, or_true, aInt_eql, c1, runR_cond', condR_b, r42_15, Nat.reduceEqDiff, c2, r42_17, z13, runR_ret, afinish_def, s42, aresults, aresult, aback]
        exact Sp.ret (hq _ S1)
  by_cases h8 : l ≥ 8
  · rw [if_pos h8] at hQ
    have c8 : decide ((8 : Int) ≤ (l : Int)) = true := by simp; omega
    by_cases h50 : l ≥ 50
    · rw [if_pos h50] at hQ
      have c50 : decide ((50 : Int) ≤ (l : Int)) = true := by simp; omega
      obtain ⟨H1, e1, S1, B1⟩ := medadj_spec (lo := lo) (ex := ex) hC hn SB BB (by omega) (a := I) (by omega) (by omega)
      have g1 := median_in (d := d) (lt := ltc cf) (n := n) (a := I - 1) (c := I) (f := I + 1) (s := 0) (by omega) (by omega) (by omega)
      unfold medianAdjacent at e1 B1 hQ
      generalize median (ltc cf) d (I - 1) I (I + 1) 0 = r1 at e1 B1 g1 hQ
      obtain ⟨H2, e2, S2, B2⟩ := medadj_spec (lo := lo) (ex := ex) hC hn S1 B1 (by omega) (a := J) (by omega) (by omega)
      have g2 := median_in (d := d) (lt := ltc cf) (n := n) (a := J - 1) (c := J) (f := J + 1) (s := r1.2) (by omega) (by omega) (by omega)
      unfold medianAdjacent at e2 B2
      generalize median (ltc cf) d (J - 1) J (J + 1) r1.2 = r2 at e2 B2 g2 hQ
      obtain ⟨H3, e3, S3, B3⟩ := medadj_spec (lo := lo) (ex := ex) hC hn S2 B2 (by omega) (a := K) (by omega) (by omega)
      have g3 := median_in (d := d) (lt := ltc cf) (n := n) (a := K - 1) (c := K) (f := K + 1) (s := r2.2) (by omega) (by omega) (by omega)
      unfold medianAdjacent at e3 B3
      generalize median (ltc cf) d (K - 1) K (K + 1) r2.2 = r3 at e3 B3 g3 hQ
      obtain ⟨H4, e4, S4, B4⟩ := median_spec (lo := lo) (ex := ex) hC hn S3 B3 (by omega) (a := r1.1) (c := r2.1) (f := r3.1) (by omega) (by omega) (by omega)
      generalize median (ltc cf) d r1.1 r2.1 r3.1 r3.2 = r4 at e4 B4 hQ
      simp only [c42, b42, runR_seq, r42_0, aops_cons, aop, ev_c, thenOps_some, put_some, aops_nil, regR_some, r42_1, ev_t, upd_get, Nat.reduceEqDiff, ↓reduceIte, ainit_get, List.getD_cons_succ, List.getD_cons_zero, aBin, BinOp.isShift, Bool.false_eq_true, or_true, aInt_sub, hw, withH_some', r42_2, ← hHB, r42_3, aInt_quo, hz, q4, aInt_mul, m1, aInt_add, a1, r42_4, m2, a2, r42_5, m3, a3, r42_6, aInt_geq, GE.ge, c8, runR_cond', condR_b, r42_7, c50, r42_8, reduceCtorEq, asX_cons, asX_nil, e1, r42_9, Nat.succ_ne_self, e2, r42_10, e3, r42_11, e4]
      refine fin r4.1 r4.2 _ H4 S4 B4 ?_ ?_ hQ
      all_goals simp only [upd_get, Nat.reduceEqDiff, ↓reduceIte]
    · rw [if_neg h50] at hQ
      have c50 : decide ((50 : Int) ≤ (l : Int)) = false := by simp; omega
      obtain ⟨H4, e4, S4, B4⟩ := median_spec (lo := lo) (ex := ex) hC hn SB BB (by omega) (a := I) (c := J) (f := K) (by omega) (by omega) (by omega)
      generalize median (ltc cf) d I J K 0 = r4 at e4 B4 hQ
      simp only [c42, b42, runR_seq, r42_0, aops_cons, aop, ev_c, thenOps_some, put_some, aops_nil, regR_some, r42_1, ev_t, upd_get, Nat.reduceEqDiff, ↓reduceIte, ainit_get, List.getD_cons_succ, List.getD_cons_zero, aBin, BinOp.isShift, Bool.false_eq_true, or_true, aInt_sub, hw, withH_some', r42_2, ← hHB, r42_3, aInt_quo, hz, q4, aInt_mul, m1, aInt_add, a1, r42_4, m2, a2, r42_5, m3, a3, r42_6, aInt_geq, GE.ge, c8, runR_cond', condR_b, r42_7, c50, runR_skip, r42_11, reduceCtorEq, asX_cons, asX_nil, e4]
      refine fin r4.1 r4.2 _ H4 S4 B4 ?_ ?_ hQ
      all_goals simp only [upd_get, Nat.reduceEqDiff, ↓reduceIte]
  · rw [if_neg h8] at hQ
    have c8 : decide ((8 : Int) ≤ (l : Int)) = false := by simp; omega
    simp only [c42, b42, runR_seq, r42_0, aops_cons, aop, ev_c, thenOps_some, put_some, aops_nil, regR_some, r42_1, ev_t, upd_get, Nat.reduceEqDiff, ↓reduceIte, ainit_get, List.getD_cons_succ, List.getD_cons_zero, aBin, BinOp.isShift, Bool.false_eq_true, or_true, aInt_sub, hw, withH_some', r42_2, ← hHB, r42_3, aInt_quo, hz, q4, aInt_mul, m1, aInt_add, a1, r42_4, m2, a2, r42_5, m3, a3, r42_6, aInt_geq, GE.ge, c8, runR_cond', condR_b, runR_skip]
    refine fin J 0 _ HB SB BB ?_ ?_ hQ
    all_goals simp only [upd_get, Nat.reduceEqDiff, ↓reduceIte]
end
section
variable {q : Prm} {e b n lo sp s : Nat} {ex : Bool} {cf : Int → Int → Int} {H0 H : AH} {d : Array Int}
def tab8 : ByteArray := ⟨#[0, 1, 2, 2, 3, 3, 3, 3, 4, 4, 4, 4, 4, 4, 4, 4, 5, 5, 5, 5, 5, 5, 5, 5, 5, 5, 5, 5, 5, 5, 5, 5, 6, 6, 6, 6, 6, 6, 6, 6, 6, 6, 6, 6, 6, 6, 6, 6, 6, 6, 6, 6, 6, 6, 6, 6, 6, 6, 6, 6, 6, 6, 6, 6, 7, 7, 7, 7, 7, 7, 7, 7, 7, 7, 7, 7, 7, 7, 7, 7, 7, 7, 7, 7, 7, 7, 7, 7, 7, 7, 7, 7, 7, 7, 7, 7, 7, 7, 7, 7, 7, 7, 7, 7, 7, 7, 7, 7, 7, 7, 7, 7, 7, 7, 7, 7, 7, 7, 7, 7, 7, 7, 7, 7, 7, 7, 7, 7, 8, 8, 8, 8, 8, 8, 8, 8, 8, 8, 8, 8, 8, 8, 8, 8, 8, 8, 8, 8, 8, 8, 8, 8, 8, 8, 8, 8, 8, 8, 8, 8, 8, 8, 8, 8, 8, 8, 8, 8, 8, 8, 8, 8, 8, 8, 8, 8, 8, 8, 8, 8, 8, 8, 8, 8, 8, 8, 8, 8, 8, 8, 8, 8, 8, 8, 8, 8, 8, 8, 8, 8, 8, 8, 8, 8, 8, 8, 8, 8, 8, 8, 8, 8, 8, 8, 8, 8, 8, 8, 8, 8, 8, 8, 8, 8, 8, 8, 8, 8, 8, 8, 8, 8, 8, 8, 8, 8, 8, 8, 8, 8, 8, 8, 8, 8, 8, 8, 8, 8, 8, 8, 8, 8, 8, 8, 8, 8]⟩
theorem tab8_all : ∀ i : Fin 256, (tab8[i.val]?).map (fun c => c.toNat) = some (bitsLen i.val) := by decide +kernel
theorem tab8_at {i : Nat} (hi : i < 256) : ∃ c, tab8[i]? = some c ∧ c.toNat = bitsLen i := by
  have := tab8_all ⟨i, hi⟩
  simp only at this
  cases h : tab8[i]? with
  | none => rw [h] at this; cases this
  | some c => rw [h] at this; exact ⟨c, rfl, by simpa using this⟩
theorem bitsLen_div {x : Nat} (h : 256 ≤ x) : bitsLen x = 8 + bitsLen (x / 256) := by
  have h1 : ∀ k, bitsLen x ≤ k ↔ 8 + bitsLen (x / 256) ≤ k := by
    intro k
    rw [bitsLen_le_iff]
    by_cases hk : 8 ≤ k
    · obtain ⟨j, rfl⟩ : ∃ j, k = 8 + j := ⟨k - 8, by omega⟩
      have := bitsLen_le_iff (x / 256) j
      rw [Nat.pow_add, show (2 : Nat) ^ 8 = 256 from rfl]
      constructor
      · intro h2
        have : x / 256 < 2 ^ j := by rw [Nat.div_lt_iff_lt_mul (by omega)]; rw [Nat.mul_comm]; exact h2
        have := (bitsLen_le_iff (x / 256) j).2 this
        omega
      · intro h2
        have := (bitsLen_le_iff (x / 256) j).1 (by omega)
        rw [Nat.div_lt_iff_lt_mul (by omega)] at this
        rw [Nat.mul_comm]; exact this
    · have h2 : 2 ^ k ≤ 2 ^ 8 := Nat.pow_le_pow_right (by omega) (by omega)
      have : (2 : Nat) ^ 8 = 256 := rfl
      constructor
      · intro h3; omega
      · intro h3; omega
  have a := (h1 (bitsLen x)).1 (Nat.le_refl _)
  have c := (h1 (8 + bitsLen (x / 256))).2 (Nat.le_refl _)
  omega
theorem bitsLen_small {x : Nat} (h : x ≤ 2000) : bitsLen x ≤ 11 := (bitsLen_le_iff x 11).2 (by omega)
theorem len64_spec {x : Nat} (hx : x ≤ 2000) : callR (tblP q) 48 [.i .u64 x] H = some (.i .i64 (bitsLen x : Nat), H) := by
  have c1 : decide ((4294967296 : Int) ≤ (x : Int)) = false := by simp; omega
  have c2 : decide ((65536 : Int) ≤ (x : Int)) = false := by simp; omega
  have hle := bitsLen_small hx
  by_cases h : 256 ≤ x
  · have c3 : decide ((256 : Int) ≤ (x : Int)) = true := by simp; omega
    obtain ⟨c, e1, e2⟩ := tab8_at (i := x / 256) (by omega)
    unfold tab8 at e1
    have h8 := bitsLen_div h
    have sh : bShr .u64 (x : Int) 8 = ((x / 256 : Nat) : Int) := by
      unfold bShr
      show (x : Int).fdiv (2 ^ 8) = _
      rw [Int.fdiv_eq_ediv_of_nonneg _ (by decide)]
      omega
    have w1 : IntKind.u8.wrap ((x / 256 : Nat) : Int) = ((x / 256 : Nat) : Int) := wrap_u8 (by omega)
    have w2 : IntKind.i64.wrap (c.toNat : Int) = (c.toNat : Int) := wrap_i64 (by omega)
    have w3 : IntKind.i64.wrap (8 + (c.toNat : Int)) = (bitsLen x : Nat) := by rw [wrap_i64 (by omega)]; omega
    have h0 : 0 ≤ ((x / 256 : Nat) : Int) := Int.natCast_nonneg _
    simp only [c48, b48, runR_seq, r48_0, aops_cons, aop, ev_c, thenOps_some, put_some, aops_nil, regR_some, r48_1, ev_t, upd_get, reduceCtorEq, ↓reduceIte, ainit_get, List.getD_cons_zero, aBin, BinOp.isShift, Bool.false_eq_true, or_true, aInt_geq, GE.ge, c1, withH_some', runR_cond', condR_b, runR_skip, r48_4, c2, r48_7, c3, r48_8, aInt_shr, Int.reduceLT, sh, r48_9, Nat.reduceEqDiff, aInt_add, Int.reduceAdd, Int.reduceNeg, Int.reduceLE, and_self, wrap_i64, r48_10, w1, h0, Int.toNat_natCast, e1, w2, w3, runR_ret, afinish_def, s48, aresults, aresult, aback]
  · have c3 : decide ((256 : Int) ≤ (x : Int)) = false := by simp; omega
    obtain ⟨c, e1, e2⟩ := tab8_at (i := x) (by omega)
    unfold tab8 at e1
    have w1 : IntKind.u8.wrap (x : Int) = (x : Int) := wrap_u8 (by omega)
    have w2 : IntKind.i64.wrap (c.toNat : Int) = (c.toNat : Int) := wrap_i64 (by omega)
    have w3 : IntKind.i64.wrap (0 + (c.toNat : Int)) = (bitsLen x : Nat) := by rw [wrap_i64 (by omega)]; omega
    have h0 : 0 ≤ (x : Int) := Int.natCast_nonneg _
    simp only [c48, b48, runR_seq, r48_0, aops_cons, aop, ev_c, thenOps_some, put_some, aops_nil, regR_some, r48_1, ev_t, upd_get, reduceCtorEq, ↓reduceIte, ainit_get, List.getD_cons_zero, aBin, BinOp.isShift, Bool.false_eq_true, or_true, aInt_geq, GE.ge, c1, withH_some', runR_cond', condR_b, runR_skip, r48_4, c2, r48_7, c3, r48_10, Nat.reduceEqDiff, w1, h0, Int.toNat_natCast, e1, w2, aInt_add, w3, runR_ret, afinish_def, s48, aresults, aresult, aback]
theorem len_spec {x : Nat} (hx : x ≤ 2000) : callR (tblP q) 36 [.i .u64 x] H = some (.i .i64 (bitsLen x : Nat), H) := by
  have e1 := len64_spec (q := q) (H := H) hx
  simp only [c36, b36, runR_seq, r36_0, aops_cons, aop, ev_c, thenOps_some, put_some, aops_nil, regR_some, runR_cond', condR_b, Bool.false_eq_true, ↓reduceIte, runR_skip, r36_2, ev_t, upd_get, reduceCtorEq, ainit_get, List.getD_cons_zero, asX_cons, asX_nil, e1, runR_ret, afinish_def, s36, aresults, aresult, aback]
theorem npow_spec {x : Nat} (hx : x ≤ 2000) : callR (tblP q) 50 [.i .i64 x] H = some (.i .u64 ((1 <<< bitsLen x : Nat) : Int), H) := by
  have e1 := len_spec (q := q) (H := H) hx
  have w1 : IntKind.u64.wrap (x : Int) = (x : Int) := wrap_u64 (by omega)
  have hle := bitsLen_small hx
  have hp : 2 ^ bitsLen x ≤ 2 ^ 11 := Nat.pow_le_pow_right (by omega) hle
  have h2 : (2 : Nat) ^ 11 = 2048 := rfl
  have sh : bShl .u64 1 (bitsLen x : Nat) = ((1 <<< bitsLen x : Nat) : Int) := by
    unfold bShl
    rw [Int.toNat_natCast, Nat.min_eq_left (by show bitsLen x ≤ 64; omega), Int.one_mul, Nat.one_shiftLeft]
    have : ((2 : Int) ^ bitsLen x) = ((2 ^ bitsLen x : Nat) : Int) := by simp
    rw [this]
    generalize 2 ^ bitsLen x = M at hp
    exact wrap_u64 (by omega)
  have hn : ((bitsLen x : Nat) : Int) < 0 ↔ False := by constructor; (intro h; omega); exact False.elim
  simp only [c50, b50, runR_seq, r50_0, aops_cons, aop, ev_c, thenOps_some, put_some, aops_nil, regR_some, r50_1, ev_t, upd_get, reduceCtorEq, ↓reduceIte, ainit_get, List.getD_cons_zero, w1, asX_cons, asX_nil, e1, aBin, BinOp.isShift, or_false, aInt_shl, hn, sh, withH_some', runR_ret, afinish_def, s50, aresults, aresult, aback]
theorem next_spec {r : Nat} {w : Nat} (hr : r < 18446744073709551616) (hw : H.o w = some (.row false [.i .u64 r])) : ∃ H', callR (tblP q) 51 [.p (some (w, 0))] H = some (.i .u64 (xorNextN r : Nat), H') ∧ H' = H.set w (.row false [.i .u64 (xorNextN r : Nat)]) := by
  unfold xorNextN
  have p : (18446744073709551616 : Nat) = 2 ^ 64 := by decide
  obtain ⟨a, ha⟩ : ∃ a, a = r ^^^ (r * 8192 % 18446744073709551616) := ⟨_, rfl⟩
  obtain ⟨b, hb⟩ : ∃ b, b = a ^^^ (a / 128) := ⟨_, rfl⟩
  obtain ⟨c, hc⟩ : ∃ c, c = b ^^^ (b * 131072 % 18446744073709551616) := ⟨_, rfl⟩
  have la : a < 18446744073709551616 := by rw [ha, p]; exact Nat.xor_lt_two_pow (by omega) (by omega)
  have lb : b < 18446744073709551616 := by rw [hb, p]; exact Nat.xor_lt_two_pow (by omega) (by omega)
  have hx : ∀ x y : Nat, x < 18446744073709551616 → y < 18446744073709551616 → bXor .u64 (x : Int) (y : Int) = ((x ^^^ y : Nat) : Int) := fun x y h1 h2 => bits_xor_u64_nat x y h1 h2
  have s1 : bShl .u64 (r : Int) 13 = ((r * 8192 % 18446744073709551616 : Nat) : Int) := by
    unfold bShl
    show IntKind.u64.wrap ((r : Int) * 8192) = _
    rw [IntKind.wrap_u64]; omega
  have s2 : bShr .u64 (a : Int) 7 = ((a / 128 : Nat) : Int) := by
    unfold bShr
    show (a : Int).fdiv (2 ^ 7) = _
    rw [Int.fdiv_eq_ediv_of_nonneg _ (by decide)]
    omega
  have s3 : bShl .u64 (b : Int) 17 = ((b * 131072 % 18446744073709551616 : Nat) : Int) := by
    unfold bShl
    show IntKind.u64.wrap ((b : Int) * 131072) = _
    rw [IntKind.wrap_u64]; omega
  have x1 := hx r (r * 8192 % 18446744073709551616) hr (by omega)
  have x2 := hx a (a / 128) la (by omega)
  have x3 := hx b (b * 131072 % 18446744073709551616) lb (by omega)
  rw [← ha] at x1
  rw [← hb] at x2
  rw [← hc] at x3
  simp only [← ha, ← hb, ← hc]
  simp only [c51, b51, runR_seq, r51_0, aops_cons, aop, ev_c, thenOps_some, put_some, aops_nil, regR_some, r51_1, ev_t, upd_get, reduceCtorEq, ↓reduceIte, ainit_get, List.getD_cons_zero, aload, hw, apart, List.getElem?_cons_zero, withH_some', aBin, BinOp.isShift, or_true, aInt_shl, Int.reduceLT, s1, Nat.reduceEqDiff, Bool.false_eq_true, aInt_xor, x1, astore, AV.cells, List.length_cons, List.length_nil, Nat.zero_add, Nat.reduceLeDiff, and_self, setR_z, setR_e, withU_some', put_none, r51_2, hs_o, aInt_shr, s2, x2, r51_3, s3, x3, r51_4, runR_ret, afinish_def, s51, aresults, aresult, aback, Option.some.injEq, Prod.mk.injEq, true_and]
  exact ⟨_, rfl, by rw [set_set, set_set]⟩
theorem break_spec (hn : n ≤ 1000) (hS : SS b n H0 H d) {a c : Nat} (hac : a ≤ c) (hc : c ≤ n) (F : AV) :
    ∃ H', callR (tblP q) 41 [.sl (some (b, 0)) n lo ex 1, .i .i64 a, .i .i64 c, F] H = some (.tup [], H') ∧ SS b n H0 H' (breakPatterns d a c) := by
  refine Sp.one fun Q hQ => ?_
  have hw := wrd (i := c) (j := a) (by omega) (by omega)
  obtain ⟨L, hL⟩ : ∃ L, L = c - a := ⟨_, rfl⟩
  have hcL : c = a + L := by omega
  rw [← hL] at hw
  by_cases h8 : 8 ≤ L
  · have c8 : decide ((8 : Int) ≤ (L : Int)) = true := by simp; omega
    rw [hcL, Go.Proofs.breakPatterns_eq d a L h8] at hQ
    obtain ⟨M, hM⟩ : ∃ M, M = 1 <<< bitsLen L := ⟨_, rfl⟩
    rw [← hM] at hQ
    have hM1 : 1 ≤ M := by rw [hM, Nat.one_shiftLeft]; exact Nat.two_pow_pos _
    have hM2 : M ≤ 2 * L := by rw [hM, Nat.one_shiftLeft]; exact two_pow_bitsLen_le (by omega)
    have enp : ∀ H : AH, callR (tblP q) 50 [.i .i64 L] H = some (.i .u64 (M : Nat), H) := fun H => by rw [hM]; exact npow_spec (by omega)
    clear hM
    have hz : ((4 : Int) = 0) = False := by simp
    have w0 : IntKind.u64.wrap (L : Int) = (L : Int) := wrap_u64 (by omega)
    have q4 : bQuo .i64 (L : Int) 4 = ((L / 4 : Nat) : Int) := quo_nat (y := 4) (by omega)
    have m2 : IntKind.i64.wrap (((L / 4 : Nat) : Int) * 2) = ((L / 4 * 2 : Nat) : Int) := mul_nat (y := 2) (by omega)
    have a2 := wra (i := a) (j := L / 4 * 2) (by omega)
    obtain ⟨J, hJ⟩ : ∃ J, J = a + L / 4 * 2 := ⟨_, rfl⟩
    rw [← hJ] at a2 hQ
    have hJ1 : a + 1 ≤ J := by omega
    have hJ2 : J + 1 < a + L := by omega
    have a3 : IntKind.i64.wrap ((J : Int) - 1) = ((J - 1 : Nat) : Int) := by rw [wrap_i64 (by omega)]; omega
    have a4 := wr1 (i := J) (by omega)
    have wM : IntKind.u64.wrap ((M : Int) - 1) = ((M - 1 : Nat) : Int) := by rw [wrap_u64 (by omega)]; omega
    obtain ⟨HB, hHB⟩ : ∃ HB, HB = (H.new (.row false [.i .u64 0])).set H.n (.row false [.i .u64 L]) := ⟨_, rfl⟩
    have kB : Keeps H HB := by rw [hHB]; exact (Keeps.refl _).new.set (Nat.le_refl _)
    have SB := hS.mv kB
    have oB : HB.o H.n = some (.row false [.i .u64 ((UInt64.ofNat L).toNat : Nat)]) := by
      rw [hHB, AH_set_o, if_pos rfl]
      congr 4
      have : (UInt64.ofNat L).toNat = L := by simp; omega
      rw [this]
    have hge : H0.n ≤ H.n := hS.f.1
    have hbn : H.n ≠ b := by have := hS.lt; omega
    have nB : HB.n = H.n + 1 := by rw [hHB]; rfl
    clear hJ
    simp only [c41, b41, runR_seq, r41_0, aops_cons, aop, ev_t, ainit_get, List.getD_cons_succ, List.getD_cons_zero, thenOps_some, put_some, upd_get, Nat.reduceEqDiff, ↓reduceIte, aBin, BinOp.isShift, Bool.false_eq_true, or_true, aInt_sub, hw, withH_some', aops_nil, regR_some, r41_1, ev_c, aInt_geq, GE.ge, c8, runR_cond', condR_b, r41_2, w0, astore, hn_o, AV.cells, List.length_cons, List.length_nil, Nat.zero_add, Nat.reduceLeDiff, and_self, setR_z, setR_e, ← hHB, withU_some', put_none, r41_3, asX_cons, asX_nil, enp, r41_4, aInt_quo, hz, q4, aInt_mul, m2, aInt_add, a2, a3, runR_block, runR_loop']
    refine loop_law 3 (fun t t' H' => t' 0 = .sl (some (b, 0)) n lo ex 1 ∧ t' 1 = .i .i64 a ∧ t' 8 = .i .i64 L ∧ t' 9 = .p (some (H.n, 0)) ∧ t' 10 = .i .u64 M ∧ t' 11 = .i .i64 ((J - 1 + t : Nat) : Int) ∧ H.n < H'.n ∧ ∃ (r : UInt64) (dk : Array Int), SS b n H0 H' dk ∧ H'.o H.n = some (.row false [.i .u64 (r.toNat : Nat)]) ∧ Go.Proofs.bpRest a L M (J - 1) (3 - t) t (r, dk) = Go.Proofs.bpRest a L M (J - 1) 3 0 (UInt64.ofNat L, d)) (fun r => Sp r Q) ?_ ?_ 0 _ HB (Nat.zero_le _) ⟨?_, ?_, ?_, ?_, ?_, ?_, by omega, UInt64.ofNat L, d, SB, oB, rfl⟩
    · rintro t t' H' ht ⟨q0, q1, q8, q9, q10, q11, hlt, r, dk, S1, o1, he⟩ ih
      have c1 : decide (((J - 1 + t : Nat) : Int) ≤ ((J + 1 : Nat) : Int)) = true := by simp; omega
      obtain ⟨R', hR'⟩ : ∃ R', R' = xorNextN r.toNat := ⟨_, rfl⟩
      have hrl := r.toNat_lt
      have lR' : R' < 18446744073709551616 := by rw [hR']; exact xorNextN_lt _ hrl
      obtain ⟨H1, e1, hH1⟩ := next_spec (q := q) (H := H') (w := H.n) (r := r.toNat) hrl o1
      rw [← hR'] at e1 hH1
      obtain ⟨O, hO⟩ : ∃ O, O = R' &&& (M - 1) := ⟨_, rfl⟩
      have lO : O ≤ M - 1 := by rw [hO]; exact Nat.and_le_right
      have eA : bAnd .u64 (R' : Int) ((M - 1 : Nat) : Int) = (O : Int) := by rw [hO]; exact bits_and_u64_nat R' (M - 1) lR' (by omega)
      have wO : IntKind.i64.wrap (O : Int) = (O : Int) := wrap_i64 (by omega)
      have hRx : R' = (xorNext r).toNat := by rw [hR', xorNext_toNat]
      have S2 : SS b n H0 H1 dk := by
        rw [hH1]
        refine ⟨?_, ⟨?_, fun c hc hcb => ?_⟩, S1.sz, S1.lt⟩
        · rw [AH_set_o, if_neg (Ne.symm hbn)]; exact S1.r
        · exact S1.f.1
        · rw [AH_set_o, if_neg (by omega)]; exact S1.f.2 c hc hcb
      have o2 : H1.o H.n = some (.row false [.i .u64 (R' : Nat)]) := by rw [hH1, AH_set_o, if_pos rfl]
      have n2 : H1.n = H'.n := by rw [hH1]; rfl
      obtain ⟨o, ho⟩ : ∃ o, (if O ≥ L then O - L else O) = o := ⟨_, rfl⟩
      have hol : o < L := by
        rw [← ho]
        split <;> omega
      have v1 := wra (i := a) (j := o) (by omega)
      have b1 : 0 ≤ ((J - 1 + t : Nat) : Int) ∧ ((J - 1 + t : Nat) : Int) < (n : Int) := by omega
      have b2 : 0 ≤ ((a + o : Nat) : Int) ∧ ((a + o : Nat) : Int) < (n : Int) := by omega
      have wi := wr1 (i := J - 1 + t) (by omega)
      obtain ⟨L2, r1, r2, r3, r4, r5, S4⟩ := S2.sw (i := J - 1 + t) (j := a + o) (by omega) (by omega)
      have o4 : ((H1.set b (.row false (setR L2 (J - 1 + t) [.i .i64 dk[a + o]!]))).set b (.row false (setR (setR L2 (J - 1 + t) [.i .i64 dk[a + o]!]) (a + o) [.i .i64 dk[J - 1 + t]!]))).o H.n = some (.row false [.i .u64 (R' : Nat)]) := by
        rw [AH_set_o, if_neg hbn, AH_set_o, if_neg hbn]; exact o2
      have hst := Go.Proofs.bp_step a L M (J - 1) t r dk o (by omega) (by rw [← hRx, ← hO]; exact ho)
      rw [hst] at he
      simp only [Nat.add_assoc] at r4 r5
      rw [hRx] at o4
      by_cases hOL : O ≥ L
      · rw [if_pos hOL] at ho
        have c2 : decide ((L : Int) ≤ (O : Int)) = true := by simp; omega
        have wd := wrd (i := O) (j := L) (by omega) (by omega)
        rw [ho] at wd
        simp only [l41_11, runR_seq, r41_5, aops_cons, aop, ev_t, q11, thenOps_some, put_some, upd_get, Nat.reduceEqDiff, ↓reduceIte, q1, q8, aBin, ev_c, BinOp.isShift, Bool.false_eq_true, or_true, aInt_quo, hz, q4, withH_some', aInt_mul, m2, aInt_add, a2, a4, aInt_leq, c1, aops_nil, regR_some, runR_cond', condR_b, runR_skip, runR_block, r41_6, asX_cons, q9, asX_nil, e1, q10, aInt_sub, wM, aInt_and, eA, wO, r41_7, aInt_geq, GE.ge, c2, r41_8, wd, r41_9, reduceCtorEq, q0, v1, b2, and_self, Int.toNat_natCast, Nat.mul_one, Nat.zero_add, aload, r1, apart, r3, b1, r2, astore, AV.cells, List.length_cons, List.length_nil, Nat.add_assoc, r4, withU_some', put_none, hs_o, r5, runR_inBlock, r41_10, wi]
        refine ih _ _ ⟨?_, ?_, ?_, ?_, ?_, ?_, ?_, xorNext r, _, S4, o4, he⟩
        case refine_7 => simp only [AH_set_n]; omega
        all_goals simp only [upd_get, Nat.reduceEqDiff, ↓reduceIte, q10, q9, reduceCtorEq, q0, q1, q8]
      · rw [if_neg hOL] at ho
        have c2 : decide ((L : Int) ≤ (O : Int)) = false := by simp; omega
        rw [ho] at wO eA c2
        simp only [l41_11, runR_seq, r41_5, aops_cons, aop, ev_t, q11, thenOps_some, put_some, upd_get, Nat.reduceEqDiff, ↓reduceIte, q1, q8, aBin, ev_c, BinOp.isShift, Bool.false_eq_true, or_true, aInt_quo, hz, q4, withH_some', aInt_mul, m2, aInt_add, a2, a4, aInt_leq, c1, aops_nil, regR_some, runR_cond', condR_b, runR_skip, runR_block, r41_6, asX_cons, q9, asX_nil, e1, q10, aInt_sub, wM, aInt_and, eA, wO, r41_7, aInt_geq, GE.ge, c2, r41_9, reduceCtorEq, q0, v1, b2, and_self, Int.toNat_natCast, Nat.mul_one, Nat.zero_add, aload, r1, apart, r3, b1, r2, astore, AV.cells, List.length_cons, List.length_nil, Nat.add_assoc, r4, withU_some', put_none, hs_o, r5, runR_inBlock, r41_10, wi]
        refine ih _ _ ⟨?_, ?_, ?_, ?_, ?_, ?_, ?_, xorNext r, _, S4, o4, he⟩
        case refine_7 => simp only [AH_set_n]; omega
        all_goals simp only [upd_get, Nat.reduceEqDiff, ↓reduceIte, q10, q9, reduceCtorEq, q0, q1, q8]
    · rintro t' H' ⟨q0, q1, q8, q9, q10, q11, hlt, r, dk, S1, o1, he⟩
      have c1 : decide (((J - 1 + 3 : Nat) : Int) ≤ ((J + 1 : Nat) : Int)) = false := by simp; omega
      simp only [l41_11, runR_seq, r41_5, aops_cons, aop, ev_t, q11, thenOps_some, put_some, upd_get, Nat.reduceEqDiff, ↓reduceIte, q1, q8, aBin, ev_c, BinOp.isShift, Bool.false_eq_true, or_true, aInt_quo, hz, q4, withH_some', aInt_mul, m2, aInt_add, a2, a4, aInt_leq, c1, aops_nil, regR_some, runR_cond', condR_b, runR_exit', aexit_code, aexit_inLoop, aexit_inBlock, exitR_some, runR_nil, afinish_def, s41, aresults, aback]
      refine Sp.ret (hQ _ ?_)
      rw [← he]
      exact S1
    all_goals simp only [upd_get, Nat.reduceEqDiff, ↓reduceIte, ainit_get, List.getD_cons_succ, List.getD_cons_zero, reduceCtorEq, Nat.add_zero]
  · have hv : breakPatterns d a c = d := by unfold breakPatterns; simp only [← hL]; rw [if_neg h8]
    rw [hv] at hQ
    have c8 : decide ((8 : Int) ≤ (L : Int)) = false := by simp; omega
    simp only [c41, b41, runR_seq, r41_0, aops_cons, aop, ev_t, ainit_get, List.getD_cons_succ, List.getD_cons_zero, thenOps_some, put_some, upd_get, Nat.reduceEqDiff, ↓reduceIte, aBin, BinOp.isShift, Bool.false_eq_true, or_true, aInt_sub, hw, withH_some', aops_nil, regR_some, r41_1, ev_c, aInt_geq, GE.ge, c8, runR_cond', condR_b, runR_skip, runR_nil, afinish_def, s41, aresults, aback]
    exact Sp.ret (hQ _ hS)
end
section
variable {q : Prm} {e b n lo : Nat} {ex : Bool} {cf : Int → Int → Int} {H0 H : AH} {d : Array Int}
theorem wp1 {i : Nat} (hi : i ≤ 1000000) (h1 : 1 ≤ i) : IntKind.i64.wrap ((i : Int) - 1) = ((i - 1 : Nat) : Int) := by rw [wrap_i64 (by omega)]; omega
theorem pi_scan (hC : Cm q e b H0 cf) (hn : n ≤ 1000) {a c s : Nat} (hc : c ≤ n) {K : List AItem} {Q : AV → AH → Prop} {i0 : Nat} (hi0 : 1 ≤ i0)
    (hQ : ∀ t' H', SS b n H0 H' d → i0 ≤ scanSorted (ltc cf) d c i0 → scanSorted (ltc cf) d c i0 ≤ c → t' 0 = .sl (some (b, 0)) n lo ex 1 → t' 1 = .i .i64 a → t' 2 = .i .i64 c → t' 3 = .fn (.func 26) [.p (some (e, 0))] [] → t' 9 = .i .i64 (scanSorted (ltc cf) d c i0 : Nat) → t' 10 = .i .i64 s → Sp (runR (tblP q) a44 K t' H') Q) :
    ∀ (k i : Nat) (H : AH) (t : Nat → AV), c - i ≤ k → i ≤ c → i0 ≤ i → SS b n H0 H d → scanSorted (ltc cf) d c i = scanSorted (ltc cf) d c i0 → t 0 = .sl (some (b, 0)) n lo ex 1 → t 1 = .i .i64 a → t 2 = .i .i64 c → t 3 = .fn (.func 26) [.p (some (e, 0))] [] → t 9 = .i .i64 i → t 10 = .i .i64 s →
      Sp (runR (tblP q) a44 (.inLoop l44_6 :: .inBlock 2 :: K) t H) Q := by
  intro k
  induction k with
  | zero =>
    intro i H t hk hi hii hS he q0 q1 q2 q3 q9 q10
    have c1 : decide ((i : Int) < (c : Int)) = false := by simp; omega
    rw [scanSorted, if_neg (by simp; omega)] at he
    rw [runR_inLoop]
    simp only [l44_6, runR_seq, r44_4, aops_cons, aop, ev_t, q9, thenOps_some, put_some, upd_get, Nat.reduceEqDiff, ↓reduceIte, q2, aBin, BinOp.isShift, Bool.false_eq_true, or_true, aInt_lss, c1, withH_some', aops_g, gOps_b, ev_c, aops_nil, regR_some, runR_cond', condR_b, runR_exit', aexit_code, aexit_inLoop, aexit_inBlock, exitR_some]
    refine hQ _ _ hS (by omega) (by omega) ?_ ?_ ?_ ?_ ?_ ?_
    all_goals simp only [upd_get, Nat.reduceEqDiff, ↓reduceIte, q10, q9, ← he, q3, reduceCtorEq, q0, q1, q2]
  | succ k ih =>
    intro i H t hk hi hii hS he q0 q1 q2 q3 q9 q10
    rw [scanSorted] at he
    by_cases hic : i < c
    · have c1 : decide ((i : Int) < (c : Int)) = true := by simp; omega
      have b1 : 0 ≤ (i : Int) ∧ (i : Int) < (n : Int) := by omega
      have b2 : 0 ≤ ((i - 1 : Nat) : Int) ∧ ((i - 1 : Nat) : Int) < (n : Int) := by omega
      have w1 := wp1 (i := i) (by omega) (by omega)
      have w2 := wr1 (i := i) (by omega)
      obtain ⟨L, hL, hLl, hg⟩ := hS.g
      have x1 := hg i (by omega)
      have x2 := hg (i - 1) (by omega)
      obtain ⟨H1, e1, S1⟩ := hS.cmp hC d[i]! d[i - 1]!
      cases hlt : decide (cf d[i]! d[i - 1]! < 0)
      · rw [if_pos (by unfold ltc; rw [hlt]; simp; omega)] at he
        rw [runR_inLoop]
        simp only [l44_6, runR_seq, r44_4, aops_cons, aop, ev_t, q9, thenOps_some, put_some, upd_get, Nat.reduceEqDiff, ↓reduceIte, q2, aBin, BinOp.isShift, Bool.false_eq_true, or_true, aInt_lss, c1, withH_some', aops_g, gOps_b, q3, reduceCtorEq, q0, b1, and_self, Int.toNat_natCast, Nat.mul_one, Nat.zero_add, aload, hL, apart, x1, ev_c, aInt_sub, w1, b2, x2, asX_cons, asX_nil, List.cons_append, List.nil_append, List.append_nil, e1, hlt, aUn_not, Bool.not_false, aops_nil, regR_some, runR_cond', condR_b, runR_skip, runR_block, r44_5, aInt_add, w2, runR_inBlock]
        refine ih (i + 1) H1 _ (by omega) (by omega) (by omega) S1 he ?_ ?_ ?_ ?_ ?_ ?_
        all_goals simp only [upd_get, Nat.succ_ne_self, ↓reduceIte, Nat.reduceEqDiff, q10, q3, reduceCtorEq, q0, q1, q2]
      · rw [if_neg (by unfold ltc; rw [hlt]; simp)] at he
        rw [runR_inLoop]
        simp only [l44_6, runR_seq, r44_4, aops_cons, aop, ev_t, q9, thenOps_some, put_some, upd_get, Nat.reduceEqDiff, ↓reduceIte, q2, aBin, BinOp.isShift, Bool.false_eq_true, or_true, aInt_lss, c1, withH_some', aops_g, gOps_b, q3, reduceCtorEq, q0, b1, and_self, Int.toNat_natCast, Nat.mul_one, Nat.zero_add, aload, hL, apart, x1, ev_c, aInt_sub, w1, b2, x2, asX_cons, asX_nil, List.cons_append, List.nil_append, List.append_nil, e1, hlt, aUn_not, Bool.not_true, aops_nil, regR_some, runR_cond', condR_b, runR_exit', aexit_code, aexit_inLoop, aexit_inBlock, exitR_some]
        refine hQ _ _ S1 (by omega) (by omega) ?_ ?_ ?_ ?_ ?_ ?_
        all_goals simp only [upd_get, Nat.reduceEqDiff, ↓reduceIte, q10, q9, ← he, q3, reduceCtorEq, q0, q1, q2]
    · rw [if_neg (by simp; omega)] at he
      have c1 : decide ((i : Int) < (c : Int)) = false := by simp; omega
      rw [runR_inLoop]
      simp only [l44_6, runR_seq, r44_4, aops_cons, aop, ev_t, q9, thenOps_some, put_some, upd_get, Nat.reduceEqDiff, ↓reduceIte, q2, aBin, BinOp.isShift, Bool.false_eq_true, or_true, aInt_lss, c1, withH_some', aops_g, gOps_b, ev_c, aops_nil, regR_some, runR_cond', condR_b, runR_exit', aexit_code, aexit_inLoop, aexit_inBlock, exitR_some]
      refine hQ _ _ hS (by omega) (by omega) ?_ ?_ ?_ ?_ ?_ ?_
      all_goals simp only [upd_get, Nat.reduceEqDiff, ↓reduceIte, q10, q9, ← he, q3, reduceCtorEq, q0, q1, q2]
theorem pi_down (hC : Cm q e b H0 cf) (hn : n ≤ 1000) {a c s i : Nat} {K : List AItem} {Q : AV → AH → Prop} {D : Array Int}
    (hQ : ∀ t' H', SS b n H0 H' D → t' 0 = .sl (some (b, 0)) n lo ex 1 → t' 1 = .i .i64 a → t' 2 = .i .i64 c → t' 3 = .fn (.func 26) [.p (some (e, 0))] [] → t' 9 = .i .i64 i → t' 10 = .i .i64 s → Sp (runR (tblP q) a44 K t' H') Q) :
    ∀ (j : Nat) (d1 : Array Int) (H : AH) (t : Nat → AV), j < n → SS b n H0 H d1 → shiftDown (ltc cf) j d1 = D → t 0 = .sl (some (b, 0)) n lo ex 1 → t 1 = .i .i64 a → t 2 = .i .i64 c → t 3 = .fn (.func 26) [.p (some (e, 0))] [] → t 9 = .i .i64 i → t 10 = .i .i64 s → t 11 = .i .i64 j →
      Sp (runR (tblP q) a44 (.inLoop l44_18 :: .inBlock 4 :: K) t H) Q := by
  intro j
  induction j with
  | zero =>
    intro d1 H t hj hS he q0 q1 q2 q3 q9 q10 q11
    have c1 : decide ((1 : Int) ≤ 0) = false := by decide
    rw [shiftDown] at he
    subst he
    rw [runR_inLoop]
    simp only [l44_18, runR_seq, r44_14, aops_cons, aop, ev_t, q11, cast_of, thenOps_some, put_some, aBin, upd_get, ↓reduceIte, ev_c, BinOp.isShift, Bool.false_eq_true, or_true, aInt_geq, GE.ge, Int.reduceLE, decide_false, withH_some', aops_nil, regR_some, runR_cond', condR_b, runR_exit', aexit_code, aexit_inLoop, aexit_inBlock, exitR_some]
    refine hQ _ _ hS ?_ ?_ ?_ ?_ ?_ ?_
    all_goals simp only [upd_get, Nat.reduceEqDiff, ↓reduceIte, q10, q3, q9, reduceCtorEq, q0, q1, q2]
  | succ j ih =>
    intro d1 H t hj hS he q0 q1 q2 q3 q9 q10 q11
    have c1 : decide ((1 : Int) ≤ ((j + 1 : Nat) : Int)) = true := by simp; omega
    have b1 : 0 ≤ ((j + 1 : Nat) : Int) ∧ ((j + 1 : Nat) : Int) < (n : Int) := by omega
    have b2 : 0 ≤ (j : Int) ∧ (j : Int) < (n : Int) := by omega
    have w1 := wrs (i := j) (by omega)
    obtain ⟨L, hL, hLl, hg⟩ := hS.g
    have x1 := hg (j + 1) hj
    have x2 := hg j (by omega)
    obtain ⟨H1, e1, S1⟩ := hS.cmp hC d1[j + 1]! d1[j]!
    rw [shiftDown] at he
    cases hlt : decide (cf d1[j + 1]! d1[j]! < 0)
    · rw [if_pos (by unfold ltc; rw [hlt]; rfl)] at he
      subst he
      rw [runR_inLoop]
      simp only [l44_18, runR_seq, r44_14, aops_cons, aop, ev_t, q11, thenOps_some, put_some, aBin, upd_get, ↓reduceIte, ev_c, BinOp.isShift, Bool.false_eq_true, or_true, aInt_geq, GE.ge, c1, withH_some', aops_nil, regR_some, runR_cond', condR_b, runR_skip, runR_block, r44_15, Nat.reduceEqDiff, q3, reduceCtorEq, q0, b1, and_self, Int.toNat_natCast, Nat.mul_one, Nat.zero_add, aload, hL, apart, x1, aInt_sub, w1, b2, x2, asX_cons, asX_nil, List.cons_append, List.nil_append, List.append_nil, e1, aInt_lss, hlt, aUn_not, Bool.not_false, runR_exit', aexit_code, aexit_inBlock, Nat.succ_ne_self, aexit_inLoop, exitR_some]
      refine hQ _ _ S1 ?_ ?_ ?_ ?_ ?_ ?_
      all_goals simp only [upd_get, Nat.reduceEqDiff, ↓reduceIte, q10, q3, q9, reduceCtorEq, q0, q1, q2]
    · rw [if_neg (by unfold ltc; rw [hlt]; simp)] at he
      obtain ⟨L2, r1, r2, r3, r4, r5, S2⟩ := S1.sw hj (show j < n by omega)
      rw [runR_inLoop]
      simp only [l44_18, runR_seq, r44_14, aops_cons, aop, ev_t, q11, thenOps_some, put_some, aBin, upd_get, ↓reduceIte, ev_c, BinOp.isShift, Bool.false_eq_true, or_true, aInt_geq, GE.ge, c1, withH_some', aops_nil, regR_some, runR_cond', condR_b, runR_skip, runR_block, r44_15, Nat.reduceEqDiff, q3, reduceCtorEq, q0, b1, and_self, Int.toNat_natCast, Nat.mul_one, Nat.zero_add, aload, hL, apart, x1, aInt_sub, w1, b2, x2, asX_cons, asX_nil, List.cons_append, List.nil_append, List.append_nil, e1, aInt_lss, hlt, aUn_not, Bool.not_true, r44_16, r1, r3, r2, astore, AV.cells, List.length_cons, List.length_nil, Nat.add_assoc, Nat.reduceAdd, r4, withU_some', put_none, hs_o, r5, runR_inBlock, r44_17]
      refine ih _ _ _ (by omega) S2 he ?_ ?_ ?_ ?_ ?_ ?_ ?_
      all_goals simp only [upd_get, Nat.reduceEqDiff, ↓reduceIte, q10, q3, q9, reduceCtorEq, q0, q1, q2]
theorem pi_up (hC : Cm q e b H0 cf) (hn : n ≤ 1000) {a c s i : Nat} (hc : c ≤ n) {K : List AItem} {Q : AV → AH → Prop} {D : Array Int}
    (hQ : ∀ t' H', SS b n H0 H' D → t' 0 = .sl (some (b, 0)) n lo ex 1 → t' 1 = .i .i64 a → t' 2 = .i .i64 c → t' 3 = .fn (.func 26) [.p (some (e, 0))] [] → t' 9 = .i .i64 i → t' 10 = .i .i64 s → Sp (runR (tblP q) a44 K t' H') Q) :
    ∀ (k j : Nat) (d1 : Array Int) (H : AH) (t : Nat → AV), c - j ≤ k → 1 ≤ j → SS b n H0 H d1 → shiftUp (ltc cf) c j d1 = D → t 0 = .sl (some (b, 0)) n lo ex 1 → t 1 = .i .i64 a → t 2 = .i .i64 c → t 3 = .fn (.func 26) [.p (some (e, 0))] [] → t 9 = .i .i64 i → t 10 = .i .i64 s → t 12 = .i .i64 j →
      Sp (runR (tblP q) a44 (.inLoop l44_25 :: .inBlock 6 :: K) t H) Q := by
  intro k
  induction k with
  | zero =>
    intro j d1 H t hk hj hS he q0 q1 q2 q3 q9 q10 q12
    have c1 : decide ((j : Int) < (c : Int)) = false := by simp; omega
    rw [shiftUp, if_neg (by omega)] at he
    subst he
    rw [runR_inLoop]
    simp only [l44_25, runR_seq, r44_21, aops_cons, aop, ev_t, q12, thenOps_some, put_some, upd_get, Nat.reduceEqDiff, ↓reduceIte, q2, aBin, BinOp.isShift, Bool.false_eq_true, or_true, aInt_lss, c1, withH_some', aops_nil, regR_some, runR_cond', condR_b, runR_exit', aexit_code, aexit_inLoop, aexit_inBlock, exitR_some]
    refine hQ _ _ hS ?_ ?_ ?_ ?_ ?_ ?_
    all_goals simp only [upd_get, Nat.reduceEqDiff, ↓reduceIte, q10, q3, q9, reduceCtorEq, q0, q1, q2]
  | succ k ih =>
    intro j d1 H t hk hj hS he q0 q1 q2 q3 q9 q10 q12
    rw [shiftUp] at he
    by_cases hjc : j < c
    · rw [if_pos hjc] at he
      have c1 : decide ((j : Int) < (c : Int)) = true := by simp; omega
      have b1 : 0 ≤ (j : Int) ∧ (j : Int) < (n : Int) := by omega
      have b2 : 0 ≤ ((j - 1 : Nat) : Int) ∧ ((j - 1 : Nat) : Int) < (n : Int) := by omega
      have w1 := wp1 (i := j) (by omega) (by omega)
      have w2 := wr1 (i := j) (by omega)
      obtain ⟨L, hL, hLl, hg⟩ := hS.g
      have x1 := hg j (by omega)
      have x2 := hg (j - 1) (by omega)
      obtain ⟨H1, e1, S1⟩ := hS.cmp hC d1[j]! d1[j - 1]!
      cases hlt : decide (cf d1[j]! d1[j - 1]! < 0)
      · rw [if_pos (by unfold ltc; rw [hlt]; rfl)] at he
        subst he
        rw [runR_inLoop]
        simp only [l44_25, runR_seq, r44_21, aops_cons, aop, ev_t, q12, thenOps_some, put_some, upd_get, Nat.reduceEqDiff, ↓reduceIte, q2, aBin, BinOp.isShift, Bool.false_eq_true, or_true, aInt_lss, c1, withH_some', aops_nil, regR_some, runR_cond', condR_b, runR_skip, runR_block, r44_22, q3, reduceCtorEq, q0, b1, and_self, Int.toNat_natCast, Nat.mul_one, Nat.zero_add, aload, hL, apart, x1, ev_c, aInt_sub, w1, b2, x2, asX_cons, asX_nil, List.cons_append, List.nil_append, List.append_nil, e1, hlt, aUn_not, Bool.not_false, runR_exit', aexit_code, aexit_inBlock, Nat.succ_ne_self, aexit_inLoop, exitR_some]
        refine hQ _ _ S1 ?_ ?_ ?_ ?_ ?_ ?_
        all_goals simp only [upd_get, Nat.reduceEqDiff, ↓reduceIte, q10, q3, q9, reduceCtorEq, q0, q1, q2]
      · rw [if_neg (by unfold ltc; rw [hlt]; simp)] at he
        obtain ⟨L2, r1, r2, r3, r4, r5, S2⟩ := S1.sw (i := j) (j := j - 1) (by omega) (by omega)
        rw [runR_inLoop]
        simp only [l44_25, runR_seq, r44_21, aops_cons, aop, ev_t, q12, thenOps_some, put_some, upd_get, Nat.reduceEqDiff, ↓reduceIte, q2, aBin, BinOp.isShift, Bool.false_eq_true, or_true, aInt_lss, c1, withH_some', aops_nil, regR_some, runR_cond', condR_b, runR_skip, runR_block, r44_22, q3, reduceCtorEq, q0, b1, and_self, Int.toNat_natCast, Nat.mul_one, Nat.zero_add, aload, hL, apart, x1, ev_c, aInt_sub, w1, b2, x2, asX_cons, asX_nil, List.cons_append, List.nil_append, List.append_nil, e1, hlt, aUn_not, Bool.not_true, r44_23, r1, r3, r2, astore, AV.cells, List.length_cons, List.length_nil, r4, withU_some', put_none, hs_o, r5, runR_inBlock, r44_24, aInt_add, w2]
        refine ih (j + 1) _ _ _ (by omega) (by omega) S2 he ?_ ?_ ?_ ?_ ?_ ?_ ?_
        all_goals simp only [upd_get, Nat.reduceEqDiff, ↓reduceIte, q10, q3, q9, reduceCtorEq, q0, q1, q2]
    · rw [if_neg hjc] at he
      subst he
      have c1 : decide ((j : Int) < (c : Int)) = false := by simp; omega
      rw [runR_inLoop]
      simp only [l44_25, runR_seq, r44_21, aops_cons, aop, ev_t, q12, thenOps_some, put_some, upd_get, Nat.reduceEqDiff, ↓reduceIte, q2, aBin, BinOp.isShift, Bool.false_eq_true, or_true, aInt_lss, c1, withH_some', aops_nil, regR_some, runR_cond', condR_b, runR_exit', aexit_code, aexit_inLoop, aexit_inBlock, exitR_some]
      refine hQ _ _ hS ?_ ?_ ?_ ?_ ?_ ?_
      all_goals simp only [upd_get, Nat.reduceEqDiff, ↓reduceIte, q10, q3, q9, reduceCtorEq, q0, q1, q2]
theorem pins_spec (hC : Cm q e b H0 cf) (hn : n ≤ 1000) (hS : SS b n H0 H d) {a c : Nat} (hac : a < c) (hc : c ≤ n) :
    ∃ H', callR (tblP q) 44 [.sl (some (b, 0)) n lo ex 1, .i .i64 a, .i .i64 c, .fn (.func 26) [.p (some (e, 0))] []] H = some (.b (partialInsertionSort (ltc cf) d a c).2, H') ∧ SS b n H0 H' (partialInsertionSort (ltc cf) d a c).1 := by
  refine Sp.one fun Q hQ => ?_
  have hw := wr1 (i := a) (by omega)
  unfold partialInsertionSort at hQ
  simp only [c44, b44, runR_seq, r44_0, aops_cons, aop, ev_c, thenOps_some, put_some, aops_nil, regR_some, r44_1, ev_t, upd_get, Nat.reduceEqDiff, ↓reduceIte, ainit_get, List.getD_cons_succ, List.getD_cons_zero, aBin, BinOp.isShift, Bool.false_eq_true, or_true, aInt_add, hw, withH_some', r44_2, runR_block, runR_loop']
  have hwca := wrd (i := c) (j := a) (by omega) (by omega)
  have key : ∀ (s : Nat) (i j : Nat) (d1 : Array Int) (H1 : AH) (t : Nat → AV), j + s = 5 → 1 ≤ i → i ≤ c → SS b n H0 H1 d1 → partialIns (ltc cf) a c s i d1 = partialIns (ltc cf) a c 5 (a + 1) d → t 0 = .sl (some (b, 0)) n lo ex 1 → t 1 = .i .i64 a → t 2 = .i .i64 c → t 3 = .fn (.func 26) [.p (some (e, 0))] [] → t 9 = .i .i64 i → t 10 = .i .i64 j →
      Sp (runR (tblP q) a44 [.inLoop l44_27, .inBlock 0, .code (.seq (.reg d44_28) .ret)] t H1) Q := by
    intro s
    induction s with
    | zero =>
      intro i j d1 H1 t hj hi hic hS1 he q0 q1 q2 q3 q9 q10
      have hj5 : j = 5 := by omega
      subst hj5
      have c1 : decide (((5 : Nat) : Int) < 5) = false := by decide
      rw [partialIns] at he
      rw [← he] at hQ
      rw [runR_inLoop]
      simp only [l44_27, runR_seq, r44_3, aops_cons, aop, ev_t, q10, cast_of, thenOps_some, put_some, aBin, upd_get, ↓reduceIte, ev_c, BinOp.isShift, Bool.false_eq_true, or_true, aInt_lss, Int.reduceLT, decide_false, withH_some', aops_nil, regR_some, runR_cond', condR_b, runR_exit', aexit_code, aexit_inLoop, aexit_inBlock, exitR_some, r44_28, runR_ret, afinish_def, s44, aresults, aresult, aback]
      exact Sp.ret (hQ _ hS1)
    | succ s ih =>
      intro i j d1 H1 t hj hi hic hS1 he q0 q1 q2 q3 q9 q10
      have c1 : decide ((j : Int) < 5) = true := by simp; omega
      rw [partialIns_succ] at he
      rw [runR_inLoop]
      simp only [l44_27, runR_seq, r44_3, aops_cons, aop, ev_t, q10, thenOps_some, put_some, aBin, upd_get, ↓reduceIte, ev_c, BinOp.isShift, Bool.false_eq_true, or_true, aInt_lss, c1, withH_some', aops_nil, regR_some, runR_cond', condR_b, runR_skip, runR_block, runR_loop']
      refine pi_scan (lo := lo) (ex := ex) (a := a) (c := c) (s := j) (d := d1) hC hn hc (i0 := i) hi ?_ (c - i) i H1 _ (Nat.le_refl _) hic (Nat.le_refl _) hS1 rfl ?_ ?_ ?_ ?_ ?_ ?_
      · intro t2 H2 S2 hge hle z0 z1 z2 z3 z9 z10
        generalize scanSorted (ltc cf) d1 c i = p at he hge hle z9
        by_cases hpc : p = c
        · rw [if_pos hpc] at he
          rw [← he] at hQ
          have x1 : ((p : Int) == (c : Int)) = true := by simp [hpc]
          simp only [runR_seq, r44_7, aops_cons, aop, ev_t, z9, thenOps_some, put_some, upd_get, Nat.reduceEqDiff, ↓reduceIte, z2, aBin, BinOp.isShift, Bool.false_eq_true, or_true, aInt_eql, x1, withH_some', aops_nil, regR_some, runR_cond', condR_b, r44_8, ev_c, runR_ret, afinish_def, s44, aresults, aresult, aback]
          exact Sp.ret (hQ _ S2)
        · rw [if_neg hpc] at he
          have x1 : ((p : Int) == (c : Int)) = false := by simp; omega
          by_cases h50 : c - a < 50
          · rw [if_pos h50] at he
            rw [← he] at hQ
            have x2 : decide (((c - a : Nat) : Int) < 50) = true := by simp; omega
            simp only [runR_seq, r44_7, aops_cons, aop, ev_t, z9, thenOps_some, put_some, upd_get, Nat.reduceEqDiff, ↓reduceIte, z2, aBin, BinOp.isShift, Bool.false_eq_true, or_true, aInt_eql, x1, withH_some', aops_nil, regR_some, runR_cond', condR_b, runR_skip, r44_9, z1, aInt_sub, hwca, ev_c, aInt_lss, x2, r44_10, runR_ret, afinish_def, s44, aresults, aresult, aback]
            exact Sp.ret (hQ _ S2)
          · rw [if_neg h50] at he
            have x2 : decide (((c - a : Nat) : Int) < 50) = false := by simp; omega
            have b1 : 0 ≤ (p : Int) ∧ (p : Int) < (n : Int) := by omega
            have b2 : 0 ≤ ((p - 1 : Nat) : Int) ∧ ((p - 1 : Nat) : Int) < (n : Int) := by omega
            have w1 := wp1 (i := p) (by omega) (by omega)
            obtain ⟨L2, r1, r2, r3, r4, r5, S3⟩ := S2.sw (i := p) (j := p - 1) (by omega) (by omega)
            obtain ⟨H3, hH3⟩ : ∃ H3, H3 = ((H2.set b (.row false (setR L2 p [.i .i64 d1[p - 1]!]))).set b (.row false (setR (setR L2 p [.i .i64 d1[p - 1]!]) (p - 1) [.i .i64 d1[p]!]))) := ⟨_, rfl⟩
            rw [← hH3] at S3
            have wpa : IntKind.i64.wrap ((p : Int) - (a : Int)) = (p : Int) - (a : Int) := wrap_i64 (by omega)
            have wcp := wrd (i := c) (j := p) (by omega) (by omega)
            have w2 := wr1 (i := p) (by omega)
            -- behind the first shift
            have tl : ∀ (d2 : Array Int) (t4 : Nat → AV) (H4 : AH), SS b n H0 H4 d2 → d2 = fixDown (ltc cf) a p (swp d1 p (p - 1)) → t4 0 = .sl (some (b, 0)) n lo ex 1 → t4 1 = .i .i64 a → t4 2 = .i .i64 c → t4 3 = .fn (.func 26) [.p (some (e, 0))] [] → t4 9 = .i .i64 p → t4 10 = .i .i64 j →
                Sp (runR (tblP q) a44 [.code (.reg d44_19), .code (.cond (.t 104) (.seq (.reg d44_20) (.block 6 (.loop l44_25))) .skip), .inBlock 1, .code (.reg d44_26), .inLoop l44_27, .inBlock 0, .code (.seq (.reg d44_28) .ret)] t4 H4) Q := by
              intro d2 t4 H4 S4 hd2 y0 y1 y2 y3 y9 y10
              rw [← hd2] at he
              have wj := wr1 (i := j) (by omega)
              have tl2 : ∀ (d3 : Array Int) (t5 : Nat → AV) (H5 : AH), SS b n H0 H5 d3 → d3 = fixUp (ltc cf) c p d2 → t5 0 = .sl (some (b, 0)) n lo ex 1 → t5 1 = .i .i64 a → t5 2 = .i .i64 c → t5 3 = .fn (.func 26) [.p (some (e, 0))] [] → t5 9 = .i .i64 p → t5 10 = .i .i64 j →
                  Sp (runR (tblP q) a44 [.code (.reg d44_26), .inLoop l44_27, .inBlock 0, .code (.seq (.reg d44_28) .ret)] t5 H5) Q := by
                intro d3 t5 H5 S5 hd3 u0 u1 u2 u3 u9 u10
                rw [← hd3] at he
                simp only [r44_26, aops_cons, aop, ev_t, u10, thenOps_some, put_some, aBin, upd_get, ↓reduceIte, ev_c, BinOp.isShift, Bool.false_eq_true, or_true, aInt_add, wj, withH_some', aops_nil, regR_some]
                refine ih p (j + 1) d3 H5 _ (by omega) (by omega) (by omega) S5 he ?_ ?_ ?_ ?_ ?_ ?_
                all_goals simp only [upd_get, ↓reduceIte, Nat.reduceEqDiff, u3, u9, u1, reduceCtorEq, u0, u2]
              by_cases h2 : c - p ≥ 2
              · have x4 : decide ((2 : Int) ≤ ((c - p : Nat) : Int)) = true := by simp; omega
                simp only [r44_19, aops_cons, aop, ev_t, y2, thenOps_some, put_some, upd_get, Nat.reduceEqDiff, ↓reduceIte, y9, aBin, BinOp.isShift, Bool.false_eq_true, or_true, aInt_sub, wcp, withH_some', ev_c, aInt_geq, GE.ge, x4, aops_nil, regR_some, runR_cond', condR_b, runR_seq, r44_20, aInt_add, w2, runR_block, runR_loop']
                refine pi_up (lo := lo) (ex := ex) (a := a) (c := c) (s := j) (i := p) (D := shiftUp (ltc cf) c (p + 1) d2) hC hn hc (fun t5 H5 S5 u0 u1 u2 u3 u9 u10 => by rw [runR_inBlock]; exact tl2 _ t5 H5 S5 (by unfold fixUp; rw [if_pos h2]) u0 u1 u2 u3 u9 u10) (c - (p + 1)) (p + 1) d2 H4 _ (Nat.le_refl _) (by omega) S4 rfl ?_ ?_ ?_ ?_ ?_ ?_ ?_
                all_goals simp only [upd_get, Nat.reduceEqDiff, ↓reduceIte, y1, reduceCtorEq, y0, y2, y10, y3, y9]
              · have x4 : decide ((2 : Int) ≤ ((c - p : Nat) : Int)) = false := by simp; omega
                simp only [r44_19, aops_cons, aop, ev_t, y2, thenOps_some, put_some, upd_get, Nat.reduceEqDiff, ↓reduceIte, y9, aBin, BinOp.isShift, Bool.false_eq_true, or_true, aInt_sub, wcp, withH_some', ev_c, aInt_geq, GE.ge, x4, aops_nil, regR_some, runR_cond', condR_b, runR_skip, runR_inBlock]
                refine tl2 d2 _ H4 S4 (by unfold fixUp; rw [if_neg h2]) ?_ ?_ ?_ ?_ ?_ ?_
                all_goals simp only [upd_get, Nat.reduceEqDiff, ↓reduceIte, y1, reduceCtorEq, y0, y2, y10, y3, y9]
            by_cases h2 : p - a ≥ 2
            · have x3 : decide ((2 : Int) ≤ (p : Int) - (a : Int)) = true := by simp; omega
              simp only [runR_seq, r44_7, aops_cons, aop, ev_t, z9, thenOps_some, put_some, upd_get, Nat.reduceEqDiff, ↓reduceIte, z2, aBin, BinOp.isShift, Bool.false_eq_true, or_true, aInt_eql, x1, withH_some', aops_nil, regR_some, runR_cond', condR_b, runR_skip, r44_9, z1, aInt_sub, hwca, ev_c, aInt_lss, x2, r44_11, reduceCtorEq, z0, w1, b2, and_self, Int.toNat_natCast, Nat.mul_one, Nat.zero_add, aload, r1, apart, r3, b1, r2, astore, AV.cells, List.length_cons, List.length_nil, r4, withU_some', put_none, hs_o, r5, ← hH3, r44_12, wpa, aInt_geq, GE.ge, x3, r44_13, runR_block, runR_loop']
              refine pi_down (lo := lo) (ex := ex) (a := a) (c := c) (s := j) (i := p) (D := shiftDown (ltc cf) (p - 1) (swp d1 p (p - 1))) hC hn (fun t5 H5 S5 u0 u1 u2 u3 u9 u10 => by rw [runR_seq]; exact tl _ t5 H5 S5 (by unfold fixDown; rw [if_pos h2]) u0 u1 u2 u3 u9 u10) (p - 1) _ H3 _ (by omega) S3 rfl ?_ ?_ ?_ ?_ ?_ ?_ ?_
              all_goals simp only [upd_get, Nat.reduceEqDiff, ↓reduceIte, z1, z9, reduceCtorEq, z0, z2, z10, z3]
            · have x3 : decide ((2 : Int) ≤ (p : Int) - (a : Int)) = false := by simp; omega
              simp only [runR_seq, r44_7, aops_cons, aop, ev_t, z9, thenOps_some, put_some, upd_get, Nat.reduceEqDiff, ↓reduceIte, z2, aBin, BinOp.isShift, Bool.false_eq_true, or_true, aInt_eql, x1, withH_some', aops_nil, regR_some, runR_cond', condR_b, runR_skip, r44_9, z1, aInt_sub, hwca, ev_c, aInt_lss, x2, r44_11, reduceCtorEq, z0, w1, b2, and_self, Int.toNat_natCast, Nat.mul_one, Nat.zero_add, aload, r1, apart, r3, b1, r2, astore, AV.cells, List.length_cons, List.length_nil, r4, withU_some', put_none, hs_o, r5, ← hH3, r44_12, wpa, aInt_geq, GE.ge, x3]
              refine tl _ _ H3 S3 (by unfold fixDown; rw [if_neg h2]) ?_ ?_ ?_ ?_ ?_ ?_
              all_goals simp only [upd_get, Nat.reduceEqDiff, ↓reduceIte, z1, z9, reduceCtorEq, z0, z2, z10, z3]
      all_goals simp only [upd_get, Nat.reduceEqDiff, ↓reduceIte, q10, q3, q9, reduceCtorEq, q0, q1, q2]
  refine key 5 (a + 1) 0 d H _ rfl (by omega) (by omega) hS rfl ?_ ?_ ?_ ?_ ?_ ?_
  all_goals simp only [upd_get, Nat.reduceEqDiff, ↓reduceIte, ainit_get, List.getD_cons_succ, List.getD_cons_zero, reduceCtorEq, cast_of]
end
end Go.Proofs.Ytaolkpkaiidmeaa.Abs
