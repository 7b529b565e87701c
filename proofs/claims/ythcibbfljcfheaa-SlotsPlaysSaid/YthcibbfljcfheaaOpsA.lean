/- Where a number belongs in a rising list; a slot let to all. No condition of its own. -/
import Derived.Test.YthcibbfljcfheaaTabA
import Derived.Test.YthcibbfljcfheaaFlat
namespace Go.Proofs.Ythcibbfljcfheaa.Abs
set_option linter.unusedSimpArgs false
set_option linter.unusedVariables false
set_option maxRecDepth 100000
set_option maxHeartbeats 8000000
/-- How many are less. -/
def pos (l : List Int) (x : Int) : Nat := (l.takeWhile fun y => decide (y < x)).length
theorem tw_all {p : Int → Bool} : ∀ {l : List Int}, (∀ y ∈ l, p y = true) → l.takeWhile p = l
  | [], _ => rfl
  | x :: l, h => by
    rw [List.takeWhile_cons, if_pos (h x (List.mem_cons_self ..)), tw_all fun y hy => h y (List.mem_cons_of_mem _ hy)]
theorem pos_is {l : List Int} {x : Int} {i : Nat} (hi : i ≤ l.length) (h1 : ∀ k y, k < i → l[k]? = some y → y < x) (h2 : ∀ k y, i ≤ k → l[k]? = some y → x ≤ y) : pos l x = i := by
  unfold pos
  have hs : l = l.take i ++ l.drop i := (List.take_append_drop i l).symm
  have ht : (l.take i).takeWhile (fun y => decide (y < x)) = l.take i := by
    refine tw_all fun y hy => ?_
    obtain ⟨k, hk⟩ := List.getElem?_of_mem hy
    rw [List.getElem?_take] at hk
    split at hk
    · rename_i hki
      have := h1 k y hki hk
      simpa using this
    · cases hk
  have hd : (l.drop i).takeWhile (fun y => decide (y < x)) = [] := by
    cases hdr : l.drop i with
    | nil => rfl
    | cons y r =>
      have : l[i]? = some y := by
        have := congrArg (fun z => z[0]?) hdr
        simpa using this
      have := h2 i y (Nat.le_refl _) this
      rw [List.takeWhile_cons, if_neg (by simp; omega)]
  rw [hs, List.takeWhile_append, ht, if_pos rfl, hd, List.append_nil, List.length_take]
  omega
theorem pos_le (l : List Int) (x : Int) : pos l x ≤ l.length := by
  unfold pos
  exact (List.takeWhile_sublist _).length_le
def insI (l : List Int) (x : Int) : List Int := l.take (pos l x) ++ [x] ++ l.drop (pos l x)
theorem nan_spec {H : AH} {x : Int} : callR tbl 40 [.i .i64 x] H = some (.b false, H) := by
  simp only [c40, b40, runR_seq, r40_0, aops_cons, aop, ev_c, thenOps_some, put_some, aops_nil, regR_some, r40_1, ev_t, upd_get, reduceCtorEq, ↓reduceIte, ainit_get, List.getD_cons_zero, aBin, Nat.reduceEqDiff, BinOp.isShift, Bool.false_eq_true, or_true, aInt_neq, bne_self_eq_false, withH_some', runR_ret, afinish_def, s40, aresults, aresult, aback]
theorem nan_spec' {H : AH} {x : Int} : callR tbl 43 [.i .i64 x] H = some (.b false, H) := by
  simp only [c43, b43, runR_seq, r43_0, aops_cons, aop, ev_c, thenOps_some, put_some, aops_nil, regR_some, r43_1, ev_t, upd_get, reduceCtorEq, ↓reduceIte, ainit_get, List.getD_cons_zero, aBin, Nat.reduceEqDiff, BinOp.isShift, Bool.false_eq_true, or_true, aInt_neq, bne_self_eq_false, withH_some', runR_ret, afinish_def, s43, aresults, aresult, aback]
theorem less_spec {H : AH} {x y : Int} : callR tbl 39 [.i .i64 x, .i .i64 y] H = some (.b (decide (x < y)), H) := by
  simp only [c39, b39, runR_seq, r39_0, aops_cons, aop, ev_c, thenOps_some, put_some, aops_nil, regR_some, r39_1, ev_t, upd_get, reduceCtorEq, ↓reduceIte, ainit_get, List.getD_cons_zero, asX_cons, asX_nil, nan_spec', aops_g, gOps_b, Bool.false_eq_true, Nat.reduceEqDiff, List.getD_cons_succ, aBin, BinOp.isShift, or_true, aInt_lss, withH_some', runR_ret, afinish_def, s39, aresults, aresult, aback]
theorem bs_spec {H : AH} {v : AV} {l : List Int} {n : Nat} (h : Rs H v 1 n (l.map I1)) (hn : n ≤ 100000) (hs : l.Pairwise (· < ·)) {x : Int} : ∃ f, callR tbl 35 [v, .i .i64 x] H = some (.tup [.i .i64 (pos l x), .b f], H) := by
  have hl : l.length = n := by have := h.1; simpa using this
  have hlt : ∀ (i j : Nat) (y z : Int), i < j → l[i]? = some y → l[j]? = some z → y < z := by
    intro i j y z hij hy hz
    obtain ⟨h1, h2⟩ := List.getElem?_eq_some_iff.1 hy
    obtain ⟨h3, h4⟩ := List.getElem?_eq_some_iff.1 hz
    have := List.pairwise_iff_getElem.1 hs i j h1 h3 hij
    rw [h2, h4] at this
    exact this
  have e0 : ∃ f H', callR tbl 35 [v, .i .i64 x] H = some (.tup [.i .i64 (pos l x), .b f], H') ∧ H' = H := by
    refine Sp.two (f := fun f => .tup [.i .i64 (pos l x), .b f]) fun Q hQ => ?_
    obtain ⟨a, lo, ex, sz, hve⟩ : ∃ a lo ex sz, v = .sl a n lo ex sz := by obtain ⟨_, a, lo, ex, sz, e, _⟩ := h; exact ⟨a, lo, ex, sz, e⟩
    subst hve
    simp only [c35, b35, runR_seq, r35_0, aops_cons, aop, ev_c, thenOps_some, put_some, aops_nil, regR_some, r35_1, ev_t, upd_get, reduceCtorEq, ↓reduceIte, ainit_get, List.getD_cons_zero, r35_2, Nat.reduceEqDiff, runR_block]
    have key : ∀ (k i j : Nat) (t : Nat → AV), j - i ≤ k → i ≤ j → j ≤ n → (∀ c y, c < i → l[c]? = some y → y < x) → (∀ c y, j ≤ c → l[c]? = some y → x ≤ y) → t 0 = .sl a n lo ex sz → t 1 = .i .i64 x → t 6 = .i .i64 n → t 7 = .i .i64 i → t 8 = .i .i64 j →
        Sp (runR tbl a35 (.inLoop l35_8 :: .inBlock 0 :: .code (.seq (.reg d35_9) .ret) :: []) t H) Q := by
      intro k
      induction k with
      | zero =>
        intro i j t hk hij hj g1 g2 q0 q1 q6 q7 q8
        have hij' : i = j := by omega
        subst hij'
        have hp := pos_is (by omega) g1 g2
        have c1 : decide ((i : Int) < (i : Int)) = false := by simp
        rw [runR_inLoop]
        cases c2 : decide ((i : Int) < (n : Int))
        · simp only [l35_8, runR_seq, r35_3, aops_cons, aop, ev_t, q7, thenOps_some, put_some, upd_get, Nat.reduceEqDiff, ↓reduceIte, q8, aBin, BinOp.isShift, Bool.false_eq_true, or_true, aInt_lss, c1, withH_some', aops_nil, regR_some, runR_cond', condR_b, runR_exit', aexit_code, aexit_inLoop, aexit_inBlock, exitR_some, r35_9, q6, c2, aops_g, gOps_b, gOps_u, ev_c, runR_ret, afinish_def, aback]
          rw [← hp]
          exact Sp.ret (hQ _ _ rfl)
        · have c2' : 0 ≤ (i : Int) ∧ (i : Int) < (n : Int) := by simp at c2; omega
          obtain ⟨y, hy⟩ : ∃ y, l[i]? = some y := ⟨_, List.getElem?_eq_getElem (by omega)⟩
          obtain ⟨b, o, lo', ex', sz', ro, full, e, hb, hr, hel⟩ := h.el1 hy
          cases e
          cases c3 : y == x
          · simp only [l35_8, runR_seq, r35_3, aops_cons, aop, ev_t, q7, thenOps_some, put_some, upd_get, Nat.reduceEqDiff, ↓reduceIte, q8, aBin, BinOp.isShift, Bool.false_eq_true, or_true, aInt_lss, c1, withH_some', aops_nil, regR_some, runR_cond', condR_b, runR_exit', aexit_code, aexit_inLoop, aexit_inBlock, exitR_some, r35_9, q6, c2', decide_true, aops_g, gOps_b, reduceCtorEq, q0, and_self, Int.toNat_natCast, Nat.mul_one, aload, hr, apart, hel, q1, aInt_eql, c3, asX_cons, asX_nil, nan_spec, ev_c, runR_ret, afinish_def, aback]
            rw [← hp]
            exact Sp.ret (hQ _ _ rfl)
          · simp only [l35_8, runR_seq, r35_3, aops_cons, aop, ev_t, q7, thenOps_some, put_some, upd_get, Nat.reduceEqDiff, ↓reduceIte, q8, aBin, BinOp.isShift, Bool.false_eq_true, or_true, aInt_lss, c1, withH_some', aops_nil, regR_some, runR_cond', condR_b, runR_exit', aexit_code, aexit_inLoop, aexit_inBlock, exitR_some, r35_9, q6, c2', decide_true, aops_g, gOps_b, reduceCtorEq, q0, and_self, Int.toNat_natCast, Nat.mul_one, aload, hr, apart, hel, q1, aInt_eql, c3, Bool.true_eq_false, gOps_u, ev_c, runR_ret, afinish_def, aback]
            rw [← hp]
            exact Sp.ret (hQ _ _ rfl)
      | succ k ih =>
        intro i j t hk hij hj g1 g2 q0 q1 q6 q7 q8
        by_cases hij' : i = j
        · exact ih i j t (by omega) hij hj g1 g2 q0 q1 q6 q7 q8
        · have c1 : decide ((i : Int) < (j : Int)) = true := by simp; omega
          obtain ⟨d, hd⟩ : ∃ d, d = (i + j) / 2 := ⟨_, rfl⟩
          have w1 : IntKind.i64.wrap ((i : Int) + (j : Int)) = ((i + j : Nat) : Int) := by rw [wrap_i64 (by omega)]; omega
          have w2 : IntKind.u64.wrap ((i + j : Nat) : Int) = ((i + j : Nat) : Int) := wrap_u64 (by omega)
          have sh : bShr .u64 ((i + j : Nat) : Int) 1 = (d : Int) := by
            unfold bShr
            show ((i + j : Nat) : Int).fdiv (2 ^ 1) = _
            rw [Int.fdiv_eq_ediv_of_nonneg _ (by decide)]
            omega
          have w3 : IntKind.u64.wrap (d : Int) = (d : Int) := wrap_u64 (by omega)
          have w4 : IntKind.i64.wrap (d : Int) = (d : Int) := wrap_i64 (by omega)
          have w5 := wr1 (i := d) (by omega)
          have c2 : 0 ≤ (d : Int) ∧ (d : Int) < (n : Int) := by omega
          obtain ⟨y, hy⟩ : ∃ y, l[d]? = some y := ⟨_, List.getElem?_eq_getElem (by omega)⟩
          obtain ⟨b, o, lo', ex', sz', ro, full, e, hb, hr, hel⟩ := h.el1 hy
          cases e
          have hge : decide ((1 : Int) ≥ 0) = true := rfl
          have hgl : decide ((1 : Int) < 0) = false := rfl
          rw [runR_inLoop]
          cases c3 : decide (y < x)
          · simp only [l35_8, runR_seq, r35_3, aops_cons, aop, ev_t, q7, thenOps_some, put_some, upd_get, Nat.reduceEqDiff, ↓reduceIte, q8, aBin, BinOp.isShift, Bool.false_eq_true, or_true, aInt_lss, c1, withH_some', aops_nil, regR_some, runR_cond', condR_b, runR_skip, runR_block, r35_4, aInt_add, w1, w2, ev_c, aInt_shr, Int.reduceLT, sh, w4, r35_5, reduceCtorEq, q0, c2, and_self, Int.toNat_natCast, Nat.mul_one, aload, hr, apart, hel, q1, asX_cons, asX_nil, less_spec, c3, r35_7, runR_inBlock]
            refine ih i d _ (by omega) (by omega) (by omega) g1 (fun c z hc hz => ?_) ?_ ?_ ?_ ?_ ?_
            · simp at c3
              rcases Nat.lt_or_ge d c with h' | h'
              · have := hlt d c y z h' hy hz; omega
              · have : c = d := by omega
                subst this
                rw [hy] at hz
                cases hz
                exact c3
            all_goals simp only [upd_get, Nat.reduceEqDiff, ↓reduceIte, q1, q7, q6, reduceCtorEq, q0]
          · simp only [l35_8, runR_seq, r35_3, aops_cons, aop, ev_t, q7, thenOps_some, put_some, upd_get, Nat.reduceEqDiff, ↓reduceIte, q8, aBin, BinOp.isShift, Bool.false_eq_true, or_true, aInt_lss, c1, withH_some', aops_nil, regR_some, runR_cond', condR_b, runR_skip, runR_block, r35_4, aInt_add, w1, w2, ev_c, aInt_shr, Int.reduceLT, sh, w4, r35_5, reduceCtorEq, q0, c2, and_self, Int.toNat_natCast, Nat.mul_one, aload, hr, apart, hel, q1, asX_cons, asX_nil, less_spec, c3, r35_6, w5, runR_inBlock]
            refine ih (d + 1) j _ (by omega) (by omega) hj (fun c z hc hz => ?_) g2 ?_ ?_ ?_ ?_ ?_
            · simp at c3
              rcases Nat.lt_or_ge c d with h' | h'
              · have := hlt c d z y h' hz hy; omega
              · have : c = d := by omega
                subst this
                rw [hy] at hz
                cases hz
                exact c3
            all_goals simp only [upd_get, Nat.reduceEqDiff, ↓reduceIte, q1, Nat.succ_ne_self, q8, q6, reduceCtorEq, q0]
    rw [runR_loop, ← runR_inLoop]
    refine key n 0 n _ (by omega) (by omega) (Nat.le_refl _) (fun c y hc => by omega) (fun c y hc hy => ?_) ?_ ?_ ?_ ?_ ?_
    · have := (List.getElem?_eq_some_iff.1 hy).1; omega
    all_goals simp only [upd_get, ↓reduceIte, Nat.reduceEqDiff, cast_of, reduceCtorEq, ainit_get, List.getD_cons_zero, List.getD_cons_succ]
  obtain ⟨f, H', e, rfl⟩ := e0
  exact ⟨f, e⟩
theorem Wr.ins {H : AH} {c : AV} {n i : Nat} {l : List Int} {x : Int} {ex : Bool} (h : Wr H c 1 n (l.map I1)) (hi : i ≤ n) (hn : n ≤ 100000) :
    ∃ a lo H', callR tbl 36 [c, .i .i64 i, .sl (some (H.n, 0)) 1 1 ex 1] (H.new (.row false [.i .i64 x])) = some (.sl (some (a, 0)) (n + 1) lo false 1, H') ∧ Wr H' (.sl (some (a, 0)) (n + 1) lo false 1) 1 (n + 1) ((l.take i ++ [x] ++ l.drop i).map I1) ∧ H.n ≤ H'.n ∧ (∀ b, b < H.n → blk c ≠ some b → H'.o b = H.o b) ∧ H.n ≤ a := by
  have hl : l.length = n := by have := h.1; simpa using this
  have hv : (H.new (.row false [.i .i64 x])).o H.n = some (.row false [.i .i64 x]) := by rw [AH_new_o, if_pos rfl]
  rcases h.2 with ⟨rfl, rfl⟩ | ⟨b, o, lo, ex', full, rfl, hb, hr, hlo, hf, hc⟩
  · have hi0 : i = 0 := by omega
    subst hi0
    have hl0 : l = [] := List.length_eq_zero_iff.1 hl
    subst hl0
    refine ⟨_, _, _, ins_none hv (Nat.le_refl _), ⟨by simp, Or.inr ⟨_, _, _, _, [.i .i64 x], rfl, Nat.lt_succ_self _, by rw [AH_new_o, if_pos rfl]; rfl, Nat.le_refl _, by simp, rfl⟩⟩, by simp only [AH_new_n]; omega, fun b hb _ => by rw [AH_new_o, if_neg (by simp only [AH_new_n]; omega), AH_new_o, if_neg (by omega)], by simp only [AH_new_n]; omega⟩
  · have hr' : (H.new (.row false [.i .i64 x])).o b = some (.row false full) := by rw [AH_new_o, if_neg (by omega)]; exact hr
    rw [Nat.mul_one] at hf hc
    have hne : H.n ≠ b := by omega
    have e := ins_some (i := i) (n := n) (lo := lo) (o := o) (ex := ex') (vo := 0) (lo3 := 1) (ex3 := ex) (sz3 := 1) hr' hv hne hi (by omega) (Nat.le_refl _) (by omega)
    have hnew : ((full.drop o).take n).take i ++ ([AV.i .i64 x].drop 0).take 1 ++ ((full.drop o).take n).drop i = (l.take i ++ [x] ++ l.drop i).map I1 := by
      rw [hc, List.map_append, List.map_append, List.map_take, List.map_drop]
      rfl
    rw [hnew] at e
    have hlen : ((l.take i ++ [x] ++ l.drop i).map I1).length = n + 1 := by simp; omega
    refine ⟨_, _, _, e, ⟨by rw [hlen, Nat.mul_one], Or.inr ⟨_, _, _, _, _, rfl, Nat.lt_succ_self _, by rw [AH_move_o, if_pos rfl], Nat.le_refl _, by rw [hlen]; omega, by rw [List.drop_zero, List.take_of_length_le (by rw [hlen]; omega)]⟩⟩, by show H.n ≤ H.n + 1 + 1; omega, fun d hd hne' => ?_, by simp only [AH_new_n]; omega⟩
    rw [AH_move_o, if_neg (by simp only [AH_new_n]; omega), if_neg (fun e => hne' (by rw [e]; rfl)), AH_new_o, if_neg (by omega)]
def SL.share (S : SL) (x : Int) : SL := { S with co := insI S.co x }
section
variable {H : AH} {m pl sz : Nat} {S : SL} {R : List AV}
theorem share_spec (h : IsT H m pl sz S R) (hl : S.co.length ≤ 4096) (hs : S.co.Pairwise (· < ·)) {x : Int} : ∃ R' H', callR tbl 27 [.p (some (m, 0)), .i .i64 x] H = some (.tup [], H') ∧ IsT H' m pl sz (S.share x) R' ∧ Trn H H' (FT m R) (FT m R') ∧ (∀ j, j ≠ 3 → R'[j]? = R[j]?) := by
  obtain ⟨c, hc, wc⟩ := h.at1
  obtain ⟨f, e1⟩ := bs_spec wc.rs (by omega) hs (x := x)
  obtain ⟨a, lo, H1, e2, w2, n2, o2, b2⟩ := wc.ins (pos_le S.co x) (by omega) (x := x) (ex := true)
  have hcm : blk c ≠ some m := fun e => h.nm 1 c m hc e rfl
  have m1 : H1.o m = _ := (o2 m h.lm hcm).trans h.o
  have l1 : m < H1.n := Nat.lt_of_lt_of_le h.lm n2
  have hlen : (insI S.co x).length = S.co.length + 1 := by have := pos_le S.co x; unfold insI; simp; omega
  obtain ⟨T1, F1⟩ := h.upd (S' := S.share x) (H1 := H1) (j := 1) (v := c) (v' := .sl (some (a, 0)) (S.co.length + 1) lo false 1) hc n2 o2 (by
    show Wr H1 _ 1 (insI S.co x).length ((insI S.co x).map I1)
    rw [hlen]; exact w2) (fun b hb => Or.inr (by cases hb; exact b2)) ct_co
  have hll := h.ll
  have r1 : setR R 3 [.sl (some (a, 0)) (S.co.length + 1) lo false 1] = R.set 3 (.sl (some (a, 0)) (S.co.length + 1) lo false 1) := setR_set1 (by omega)
  have k1 : 3 + 1 ≤ R.length := by omega
  obtain ⟨ca, clo, cex, csz, rfl⟩ := wc.len
  refine Sp.two (f := fun _ => .tup []) fun Q hQ => ?_
  simp only [c27, b27, runR_seq, r27_0, aops_cons, aop, ev_t, ainit_get, List.getD_cons_zero, thenOps_some, put_some, upd_get, ↓reduceIte, Nat.zero_add, aload, h.o, apart, hc, withH_some', Nat.reduceEqDiff, List.getD_cons_succ, asX_cons, asX_nil, e1, List.getElem?_cons_zero, List.getElem?_cons_succ, aops_nil, regR_some, r27_1, reduceCtorEq, afill, AV.cells, List.length_cons, List.length_nil, zerosA, List.append_nil, Nat.reduceLeDiff, and_self, setR_z, setR_e, e2, astore, m1, Nat.reduceAdd, k1, r1, withU_some', put_none, runR_nil, afinish_def, s27, aresults, aback]
  exact Sp.ret (hQ _ _ ⟨T1, F1, fun j hj => List.getElem?_set_ne (Ne.symm hj)⟩)
end
variable {q : Prm}
theorem wr_none {H : AH} {sz : Nat} : Wr (H.new (.row false [])) (.sl (some (H.n, 0)) 0 0 true sz) sz 0 [] :=
  ⟨by simp, Or.inr ⟨H.n, 0, 0, true, [], rfl, Nat.lt_succ_self _, by rw [AH_new_o, if_pos rfl], Nat.le_refl _, by simp, by simp⟩⟩
theorem clone_spec {H : AH} {v : AV} {cs : List AV} {n : Nat} (h : Wr H v 1 n cs) (hl : n ≤ 1000000) : ∃ v' H', callR (tblP q) 29 [v] H = some (v', H') ∧ Wr H' v' 1 n cs ∧ Keeps H H' ∧ ∀ b, blk v' = some b → H.n ≤ b := by
  obtain ⟨v', H', e, h1, h2, h3, h4⟩ := Wr.app (z := [.i .i64 0]) (y := 8) (sz := 1) rfl (wr_none (H := H) (sz := 1)) h.new.rs (by omega)
  rw [Nat.zero_add, List.nil_append] at h1
  have hk : Keeps H H' := ⟨by rw [AH_new_n] at h2; omega, fun b hb => by rw [h3 b (by rw [AH_new_n]; omega) (by intro e; cases e; omega), AH_new_o, if_neg (by omega)]⟩
  rcases h.2 with ⟨rfl, rfl⟩ | ⟨b, o, lo, ex, full, rfl, hb, hr, hlo, hf, hc⟩
  · simp only [c29, b29, runR_seq, r29_0, aops_cons, aop, ev_c, thenOps_some, put_some, aops_nil, regR_some, r29_1, ev_t, upd_get, reduceCtorEq, ↓reduceIte, ainit_get, List.getD_cons_zero, aEqN, Option.isNone_none, Bool.bne_false, runR_cond', condR_b, r29_2, runR_ret, afinish_def, s29, aresults, aresult, aback, Option.some.injEq, Prod.mk.injEq]
    exact ⟨_, _, ⟨rfl, rfl⟩, h, Keeps.refl _, fun b hb => by cases hb⟩
  · simp only [c29, b29, runR_seq, r29_0, aops_cons, aop, ev_c, thenOps_some, put_some, aops_nil, regR_some, r29_1, ev_t, upd_get, reduceCtorEq, ↓reduceIte, ainit_get, List.getD_cons_zero, aEqN, bne_self_eq_false, runR_cond', condR_b, Bool.false_eq_true, runR_skip, r29_3, afill, zerosA, List.length_cons, List.length_nil, Nat.zero_add, Nat.reduceEqDiff, e, runR_ret, afinish_def, s29, aresults, aresult, aback, Option.some.injEq, Prod.mk.injEq]
    exact ⟨_, _, ⟨rfl, rfl⟩, h1, hk, fun b hb => (h4 b hb).elim (fun e => by cases e; exact Nat.le_refl _) (fun e => by rw [AH_new_n] at e; omega)⟩
section
variable {H : AH} {m pl sz : Nat} {S : SL} {R : List AV}
theorem slot_put (h : IsT H m pl sz S R) {i : Nat} {p : Bool × Int} (hi : S.gs[i]? = some p) : ∃ b o lo ex full, R[2]? = some (.sl (some (b, o)) S.gs.length lo ex 2) ∧ b < H.n ∧ H.o b = some (.row false full) ∧ i < S.gs.length ∧ o + i * 2 + 2 ≤ full.length ∧ full[o + i * 2]? = some (.b p.1) ∧ full[o + i * 2 + 1]? = some (.i .u32 p.2) ∧ b ≠ m ∧
    (∀ u, IsT (H.set b (.row false (setR full (o + i * 2) [.b u]))) m pl sz { S with gs := S.gs.set i (u, p.2) } R ∧ Trn H (H.set b (.row false (setR full (o + i * 2) [.b u]))) (FT m R) (FT m R)) ∧
    (∀ g, IsT (H.set b (.row false (setR full (o + i * 2 + 1) [.i .u32 g]))) m pl sz { S with gs := S.gs.set i (p.1, g) } R ∧ Trn H (H.set b (.row false (setR full (o + i * 2 + 1) [.i .u32 g]))) (FT m R) (FT m R)) := by
  obtain ⟨s, hs, ws⟩ := h.at0
  obtain ⟨b, o, lo, ex, full, rfl, hb, hr, hin, hle, e1, e2, k1, k2⟩ := ws.slot hi
  have hoff : ∀ (x : AObj) b', b' < H.n → blk (.sl (some (b, o)) S.gs.length lo ex 2) ≠ some b' → (H.set b x).o b' = H.o b' := fun x b' _ hne => hs_off (fun e => hne (by rw [e]; rfl))
  refine ⟨b, o, lo, ex, full, hs, hb, hr, hin, hle, e1, e2, h.nm 0 _ b hs rfl, fun u => ?_, fun g => ?_⟩
  · refine h.inp (j := 0) hs (Nat.le_refl _) (hoff _) ?_ ct_gs
    show Wr _ _ 2 (S.gs.set i (u, p.2)).length _
    rw [List.length_set]
    exact k1 _ u (Nat.le_refl _) (by rw [AH_set_o, if_pos rfl])
  · refine h.inp (j := 0) hs (Nat.le_refl _) (hoff _) ?_ ct_gs
    show Wr _ _ 2 (S.gs.set i (p.1, g)).length _
    rw [List.length_set]
    exact k2 _ g (Nat.le_refl _) (by rw [AH_set_o, if_pos rfl])
theorem take_thr (h : IsT H m pl sz S R) (hp1 : 1 ≤ pl) {th : Int} (ht : ¬ (0 ≤ th ∧ th < 256)) : callR tbl 11 [.p (some (m, 0)), .i .i64 th] H = some (.tup [.i .i64 0, .i .u32 0, .i .i64 1], H) := by
  have c1 : decide (0 ≤ th ∧ th < 256) = false := by simpa using ht
  simp only [c11, b11, runR_seq, r11_0, aops_cons, aop, ev_c, thenOps_some, put_some, aops_nil, regR_some, runR_block, r11_1, ev_t, upd_get, reduceCtorEq, ↓reduceIte, ainit_get, List.getD_cons_zero, asX_cons, asX_nil, ok_spec h hp1, aUn_not, Bool.not_true, withH_some', runR_cond', condR_b, Bool.false_eq_true, r11_3, Nat.reduceEqDiff, List.getD_cons_succ, thr_spec, c1, Bool.not_false, r11_4, runR_ret, afinish_def, s11, aresults, aresult, aback]
theorem take_got (h : IsT H m pl sz S R) (hp1 : 1 ≤ pl) (hg : S.gs.length ≤ pl) (hp : pl ≤ 4096) (hz : sz ≤ 64) (hco : S.co.length ≤ 4096) (how : ∀ th, (S.ow th).length ≤ 64) {th : Nat} (ht : th < 256) {i : Nat} {p : Bool × Int} (hk : (S.pick pl sz th).1 = (i : Int)) (hi : (S.pick pl sz th).2.gs[i]? = some p) :
    ∃ R' H', callR tbl 11 [.p (some (m, 0)), .i .i64 th] H = some (.tup [.i .i64 i, .i .u32 p.2, .i .i64 0], H') ∧ IsT H' m pl sz { (S.pick pl sz th).2 with gs := (S.pick pl sz th).2.gs.set i (true, p.2) } R' ∧ Trn H H' (FT m R) (FT m R') := by
  have c1 : decide (0 ≤ (th : Int) ∧ (th : Int) < 256) = true := by simp; omega
  refine Sp.two (f := fun _ => .tup [.i .i64 i, .i .u32 p.2, .i .i64 0]) fun Q hQ => ?_
  simp only [c11, b11, runR_seq, r11_0, aops_cons, aop, ev_c, thenOps_some, put_some, aops_nil, regR_some, runR_block, r11_1, ev_t, upd_get, reduceCtorEq, ↓reduceIte, ainit_get, List.getD_cons_zero, asX_cons, asX_nil, ok_spec h hp1, aUn_not, Bool.not_true, withH_some', runR_cond', condR_b, Bool.false_eq_true, r11_3, Nat.reduceEqDiff, List.getD_cons_succ, thr_spec, c1, runR_skip, runR_inBlock, r11_5]
  refine Sp.c2 (f := fun _ => .i .i64 (S.pick pl sz th).1) (pick_spec h hg hp hz hco how ht) ?_
  rintro R1 H1 ⟨hT, hF⟩
  rw [hk]
  obtain ⟨b, o, lo, ex, full, hs, hb, hr, hin, hle, e1, e2, nm, k1, k2⟩ := slot_put hT hi
  obtain ⟨T1, F1⟩ := k1 true
  have c2 : decide ((i : Int) < 0) = false := by simp
  have c3 : 0 ≤ (i : Int) ∧ (i : Int) < ((S.pick pl sz th).2.gs.length : Int) := by omega
  have nm' : (m = b) = False := eq_false (Ne.symm nm)
  have hle1 : o + i * 2 + 1 ≤ full.length := by omega
  have e3 : (setR full (o + i * 2) [.b true])[o + i * 2 + 1]? = some (.i .u32 p.2) := by rw [setR_set1 (by omega), List.getElem?_set_ne (by omega)]; exact e2
  have hle2 : o + (i * 2 + 1) ≤ full.length := by omega
  have e4 := e3
  rw [Nat.add_assoc] at e4
  have lm := hT.lm
  have ho := hT.o
  simp only [put_some, aops_cons, aop, ev_t, upd_get, ↓reduceIte, thenOps_some, aops_nil, regR_some, runR_seq, r11_6, aBin, ev_c, BinOp.isShift, Bool.false_eq_true, or_true, aInt_lss, c2, withH_some', runR_cond', condR_b, runR_skip, r11_8, reduceCtorEq, ainit_get, List.getD_cons_zero, Nat.zero_add, aload, ho, apart, hs, Nat.reduceEqDiff, c3, and_self, Int.toNat_natCast, Nat.add_zero, astore, hr, AV.cells, List.length_cons, List.length_nil, Nat.add_assoc, hle2, withU_some', put_none, r11_9, hs_o, nm', e4, runR_ret, afinish_def, s11, aresults, aresult, aback]
  exact Sp.ret (hQ _ _ ⟨T1, hF.trans F1⟩)
theorem take_out (h : IsT H m pl sz S R) (hp1 : 1 ≤ pl) (hg : S.gs.length ≤ pl) (hp : pl ≤ 4096) (hz : sz ≤ 64) (hco : S.co.length ≤ 4096) (how : ∀ th, (S.ow th).length ≤ 64) {th : Nat} (ht : th < 256) (hk : (S.pick pl sz th).1 = -1) :
    ∃ R' H', callR tbl 11 [.p (some (m, 0)), .i .i64 th] H = some (.tup [.i .i64 0, .i .u32 0, .i .i64 11], H') ∧ IsT H' m pl sz (S.pick pl sz th).2 R' ∧ Trn H H' (FT m R) (FT m R') := by
  have c1 : decide (0 ≤ (th : Int) ∧ (th : Int) < 256) = true := by simp; omega
  refine Sp.two (f := fun _ => .tup [.i .i64 0, .i .u32 0, .i .i64 11]) fun Q hQ => ?_
  simp only [c11, b11, runR_seq, r11_0, aops_cons, aop, ev_c, thenOps_some, put_some, aops_nil, regR_some, runR_block, r11_1, ev_t, upd_get, reduceCtorEq, ↓reduceIte, ainit_get, List.getD_cons_zero, asX_cons, asX_nil, ok_spec h hp1, aUn_not, Bool.not_true, withH_some', runR_cond', condR_b, Bool.false_eq_true, r11_3, Nat.reduceEqDiff, List.getD_cons_succ, thr_spec, c1, runR_skip, runR_inBlock, r11_5]
  refine Sp.c2 (f := fun _ => .i .i64 (S.pick pl sz th).1) (pick_spec h hg hp hz hco how ht) ?_
  rintro R1 H1 ⟨hT, hF⟩
  rw [hk]
  have c2 : decide ((-1 : Int) < 0) = true := rfl
  simp only [Int.reduceNeg, put_some, aops_cons, aop, ev_t, upd_get, ↓reduceIte, thenOps_some, aops_nil, regR_some, runR_seq, r11_6, aBin, ev_c, BinOp.isShift, Bool.false_eq_true, or_true, aInt_lss, Int.reduceLT, decide_true, withH_some', runR_cond', condR_b, r11_7, runR_ret, afinish_def, s11, aresults, aresult, Nat.reduceEqDiff, aback]
  exact Sp.ret (hQ _ _ ⟨hT, hF⟩)
theorem free_bad (h : IsT H m pl sz S R) (hp1 : 1 ≤ pl) {th n : Int} (hb : ¬ (0 ≤ th ∧ th < 256) ∨ S.usd n = false) : callR tbl 9 [.p (some (m, 0)), .i .i64 th, .i .i64 n] H = some (.i .i64 1, H) := by
  cases c1 : decide (0 ≤ th ∧ th < 256)
  · simp only [c9, b9, runR_seq, r9_0, aops_cons, aop, ev_c, thenOps_some, put_some, aops_nil, regR_some, runR_block, r9_1, ev_t, upd_get, reduceCtorEq, ↓reduceIte, ainit_get, List.getD_cons_zero, asX_cons, asX_nil, ok_spec h hp1, aUn_not, Bool.not_true, withH_some', runR_cond', condR_b, Bool.false_eq_true, r9_3, Nat.reduceEqDiff, List.getD_cons_succ, thr_spec, c1, Bool.not_false, aops_g, gOps_b, Bool.true_eq_false, r9_4, runR_ret, afinish_def, s9, aresults, aresult, aback]
  · have hu : S.usd n = false := hb.resolve_left (fun e => e (by simpa using c1))
    simp only [c9, b9, runR_seq, r9_0, aops_cons, aop, ev_c, thenOps_some, put_some, aops_nil, regR_some, runR_block, r9_1, ev_t, upd_get, reduceCtorEq, ↓reduceIte, ainit_get, List.getD_cons_zero, asX_cons, asX_nil, ok_spec h hp1, aUn_not, Bool.not_true, withH_some', runR_cond', condR_b, Bool.false_eq_true, r9_3, Nat.reduceEqDiff, List.getD_cons_succ, thr_spec, c1, aops_g, gOps_b, used_spec h hp1, hu, Bool.not_false, r9_4, runR_ret, afinish_def, s9, aresults, aresult, aback]
def SL.free (sz : Nat) (S : SL) (th : Nat) (i : Nat) : SL :=
  match S.gs[i]? with
  | some p =>
    if p.2 = 16777215 then { S with gs := S.gs.set i (false, p.2) }
    else if (S.ow th).length < sz then { S.setOw th (S.ow th ++ [(i : Int)]) with gs := S.gs.set i (false, p.2 + 1) }
    else { S.share i with gs := S.gs.set i (false, p.2 + 1) }
  | none => S
theorem free_spec (h : IsT H m pl sz S R) (hp1 : 1 ≤ pl) (hco : S.co.length ≤ 4096) (hs : S.co.Pairwise (· < ·)) (how : ∀ th, (S.ow th).length ≤ 64) {th : Nat} (ht : th < 256) {i : Nat} {g : Int} (hi : S.gs[i]? = some (true, g)) (hg : 0 ≤ g ∧ g ≤ 16777215) :
    ∃ R' H', callR tbl 9 [.p (some (m, 0)), .i .i64 th, .i .i64 i] H = some (.i .i64 0, H') ∧ IsT H' m pl sz (S.free sz th i) R' ∧ Trn H H' (FT m R) (FT m R') := by
  have hu : S.usd i = true := by unfold SL.usd; rw [Int.toNat_natCast, hi]; simp
  obtain ⟨b, o, lo, ex, full, hsl, hb, hr, hin, hle, e1, e2, nm, k1, k2⟩ := slot_put h hi
  obtain ⟨T1, F1⟩ := k1 false
  obtain ⟨H1, hH1⟩ : ∃ X, X = H.set b (.row false (setR full (o + i * 2) [.b false])) := ⟨_, rfl⟩
  rw [← hH1] at T1 F1
  have c1 : decide (0 ≤ (th : Int) ∧ (th : Int) < 256) = true := by simp; omega
  have c3 : 0 ≤ (i : Int) ∧ (i : Int) < (S.gs.length : Int) := by omega
  have c4 : (0 : Int) ≤ (th : Int) ∧ (th : Int) < 256 := by omega
  have hle1 : o + i * 2 + 1 ≤ full.length := by omega
  have e3 : (setR full (o + i * 2) [.b false])[o + i * 2 + 1]? = some (.i .u32 g) := by rw [setR_set1 (by omega), List.getElem?_set_ne (by omega)]; exact e2
  have hr1 : H1.o b = some (.row false (setR full (o + i * 2) [.b false])) := by rw [hH1, AH_set_o, if_pos rfl]
  have hle2 : o + (i * 2 + 1) ≤ full.length := by omega
  have e4 := e3
  rw [Nat.add_assoc] at e4
  have hi1 : ({ S with gs := S.gs.set i (false, g) } : SL).gs[i]? = some (false, g) := by
    show (S.gs.set i (false, g))[i]? = _
    rw [List.getElem?_set_self hin]
  have hll := h.ll
  have lm1 := T1.lm
  have hss : ∀ x : Bool × Int, (S.gs.set i (false, g)).set i x = S.gs.set i x := fun x => List.set_set ..
  refine Sp.two (f := fun _ => .i .i64 0) fun Q hQ => ?_
  cases c5 : g == 16777215
  · have hg1 : ¬ g = 16777215 := by simpa using c5
    have hwr : IntKind.u32.wrap (g + 1) = g + 1 := wrap_u32 (by omega)
    obtain ⟨y, hy, wy⟩ := T1.ato ht
    have hy' : R[4 + th]? = some y := hy
    have wy : Wr H1 y 1 (S.ow th).length ((S.ow th).map I1) := wy
    have hth := how th
    cases c6 : decide (((S.ow th).length : Int) < (sz : Int))
    · have hfr : S.free sz th i = { S.share i with gs := S.gs.set i (false, g + 1) } := by
        unfold SL.free
        rw [hi]
        simp only [if_neg hg1]
        rw [if_neg (by simp at c6; omega)]
      rw [hfr] at hQ
      obtain ⟨ya, ylo, yex, ysz, rfl⟩ := wy.len
      simp only [c9, b9, runR_seq, r9_0, aops_cons, aop, ev_c, thenOps_some, put_some, aops_nil, regR_some, runR_block, r9_1, ev_t, upd_get, reduceCtorEq, ↓reduceIte, ainit_get, List.getD_cons_zero, asX_cons, asX_nil, ok_spec h hp1, aUn_not, Bool.not_true, withH_some', runR_cond', condR_b, Bool.false_eq_true, r9_3, Nat.reduceEqDiff, List.getD_cons_succ, thr_spec, c4, and_self, decide_true, aops_g, gOps_b, used_spec h hp1, hu, runR_skip, runR_inBlock, r9_5, Nat.zero_add, aload, h.o, apart, hsl, c3, Int.toNat_natCast, r9_6, Nat.add_zero, astore, hr, AV.cells, List.length_cons, List.length_nil, Nat.add_assoc, hle2, ← hH1, withU_some', put_none, r9_7, hr1, e4, aBin, BinOp.isShift, or_true, aInt_eql, c5, r9_9, cast_of, Nat.mul_one, T1.o, hy, h.z, aInt_lss, c6, r9_11]
      refine Sp.c2 (f := fun _ => .tup []) (share_spec T1 hco hs (x := (i : Int))) ?_
      rintro R2 H2 ⟨T2, F2, hR2⟩
      obtain ⟨b', o', lo', ex', full', hsl', hb', hr', hin', hle', e1', e2', nm', k1', k2'⟩ := slot_put T2 (i := i) hi1
      rw [hR2 2 (by omega), hsl] at hsl'
      injection hsl' with hsl'
      injection hsl' with q1
      injection q1 with q1
      injection q1 with q1 q2
      subst q1 q2
      obtain ⟨T3, F3⟩ := k2' (g + 1)
      have hle3 : o + i * 2 + 1 + 1 ≤ full'.length := by omega
      have hle4 : o + (i * 2 + (1 + 1)) ≤ full'.length := by omega
      have hle5 : o + (i * 2 + 2) ≤ full'.length := by omega
      have e5 := e2'
      rw [Nat.add_assoc] at e5
      rw [Nat.add_assoc] at T3 F3
      simp only [put_some, aops_nil, regR_some, runR_inBlock, runR_seq, r9_12, aops_cons, aop, ev_t, upd_get, Nat.reduceEqDiff, ↓reduceIte, thenOps_some, Nat.add_assoc, aload, hr', apart, e5, withH_some', aBin, ev_c, BinOp.isShift, Bool.false_eq_true, or_true, aInt_add, hwr, astore, AV.cells, List.length_cons, List.length_nil, Nat.zero_add, Nat.reduceAdd, hle4, and_self, withU_some', put_none, r9_13, runR_ret, afinish_def, s9, aresults, aresult, aback]
      refine Sp.ret (hQ _ _ ⟨?_, (F1.trans F2).trans F3⟩)
      have := T3
      unfold SL.share at this ⊢
      simp only [hss] at this
      exact this
    · have hfr : S.free sz th i = { S.setOw th (S.ow th ++ [(i : Int)]) with gs := S.gs.set i (false, g + 1) } := by
        unfold SL.free
        rw [hi]
        simp only [if_neg hg1]
        rw [if_pos (by simp at c6; omega)]
      rw [hfr] at hQ
      obtain ⟨v', H2, ea, w2, n2, o2, b2⟩ := Wr.one (z := [.i .i64 0]) (y := 8) (sz := 1) (ex := true) rfl wy (xs := [.i .i64 (i : Int)]) rfl (by omega)
      have hym : blk y ≠ some m := fun e => T1.nm (th + 2) y m (by rw [show th + 2 + 2 = 4 + th by omega]; exact hy) e rfl
      have m2 : H2.o m = _ := (o2 m lm1 hym).trans T1.o
      obtain ⟨T2, F2⟩ := T1.upd (S' := { S.setOw th (S.ow th ++ [(i : Int)]) with gs := S.gs.set i (false, g) }) (j := th + 2) (v := y) (v' := v') (by rw [show th + 2 + 2 = 4 + th by omega]; exact hy) n2 o2 (by
        have : ({ S.setOw th (S.ow th ++ [(i : Int)]) with gs := S.gs.set i (false, g) } : SL).ct (th + 2) = (1, (S.ow th).length + 1, (S.ow th ++ [(i : Int)]).map I1) := by unfold SL.setOw SL.ct; simp
        rw [this, List.map_append]
        exact w2) b2 (fun k hk => by
          have := ct_ow (S := { S with gs := S.gs.set i (false, g) }) (l := S.ow th ++ [(i : Int)]) k hk
          exact this)
      rw [show th + 2 + 2 = 4 + th by omega] at T2 F2
      obtain ⟨va, vlo, vex, vsz, rfl⟩ := w2.len
      obtain ⟨ya, ylo, yex, ysz, rfl⟩ := wy.len
      have r1 : setR R (4 + th) [.sl va ((S.ow th).length + 1) vlo vex vsz] = R.set (4 + th) (.sl va ((S.ow th).length + 1) vlo vex vsz) := setR_set1 (by omega)
      have g1 : 4 + th + 1 ≤ R.length := by omega
      have g2 : 4 + (th + 1) ≤ R.length := by omega
      have l2 : m < H2.n := Nat.lt_of_lt_of_le lm1 n2
      obtain ⟨H3, hH3⟩ : ∃ X, X = H2.set m (.row false (R.set (4 + th) (.sl va ((S.ow th).length + 1) vlo vex vsz))) := ⟨_, rfl⟩
      rw [← hH3] at T2 F2
      obtain ⟨b', o', lo', ex', full', hsl', hb', hr', hin', hle', e1', e2', nm', k1', k2'⟩ := slot_put T2 (i := i) hi1
      rw [List.getElem?_set_ne (by omega), hsl] at hsl'
      injection hsl' with hsl'
      injection hsl' with q1
      injection q1 with q1
      injection q1 with q1 q2
      subst q1 q2
      obtain ⟨T3, F3⟩ := k2' (g + 1)
      have hle3 : o + i * 2 + 1 + 1 ≤ full'.length := by omega
      have hle4 : o + (i * 2 + (1 + 1)) ≤ full'.length := by omega
      have hle5 : o + (i * 2 + 2) ≤ full'.length := by omega
      have e5 := e2'
      rw [Nat.add_assoc] at e5
      rw [Nat.add_assoc] at T3 F3
      simp only [c9, b9, runR_seq, r9_0, aops_cons, aop, ev_c, thenOps_some, put_some, aops_nil, regR_some, runR_block, r9_1, ev_t, upd_get, reduceCtorEq, ↓reduceIte, ainit_get, List.getD_cons_zero, asX_cons, asX_nil, ok_spec h hp1, aUn_not, Bool.not_true, withH_some', runR_cond', condR_b, Bool.false_eq_true, r9_3, Nat.reduceEqDiff, List.getD_cons_succ, thr_spec, c4, and_self, decide_true, aops_g, gOps_b, used_spec h hp1, hu, runR_skip, runR_inBlock, r9_5, Nat.zero_add, aload, h.o, apart, hsl, c3, Int.toNat_natCast, r9_6, Nat.add_zero, astore, hr, AV.cells, List.length_cons, List.length_nil, Nat.add_assoc, hle2, ← hH1, withU_some', put_none, r9_7, hr1, e4, aBin, BinOp.isShift, or_true, aInt_eql, c5, r9_9, cast_of, Nat.mul_one, T1.o, hy, h.z, aInt_lss, c6, r9_10, afill, zerosA, List.append_nil, Nat.reduceLeDiff, setR_z, setR_e, ea, m2, g2, r1, ← hH3, r9_12, hr', e5, aInt_add, hwr, Nat.reduceAdd, hle4, r9_13, runR_ret, afinish_def, s9, aresults, aresult, aback]
      refine Sp.ret (hQ _ _ ⟨?_, (F1.trans F2).trans F3⟩)
      have := T3
      simp only [hss] at this
      exact this
  · have hg1 : g = 16777215 := by simpa using c5
    have hfr : S.free sz th i = { S with gs := S.gs.set i (false, g) } := by
      unfold SL.free
      rw [hi]
      simp only [if_pos hg1]
    rw [hfr] at hQ
    simp only [c9, b9, runR_seq, r9_0, aops_cons, aop, ev_c, thenOps_some, put_some, aops_nil, regR_some, runR_block, r9_1, ev_t, upd_get, reduceCtorEq, ↓reduceIte, ainit_get, List.getD_cons_zero, asX_cons, asX_nil, ok_spec h hp1, aUn_not, Bool.not_true, withH_some', runR_cond', condR_b, Bool.false_eq_true, r9_3, Nat.reduceEqDiff, List.getD_cons_succ, thr_spec, c4, and_self, decide_true, aops_g, gOps_b, used_spec h hp1, hu, runR_skip, runR_inBlock, r9_5, Nat.zero_add, aload, h.o, apart, hsl, c3, Int.toNat_natCast, r9_6, Nat.add_zero, astore, hr, AV.cells, List.length_cons, List.length_nil, Nat.add_assoc, hle2, ← hH1, withU_some', put_none, r9_7, hr1, e4, aBin, BinOp.isShift, or_true, aInt_eql, c5, r9_8, runR_ret, afinish_def, s9, aresults, aresult, aback]
    exact Sp.ret (hQ _ _ ⟨T1, F1⟩)
end
end Go.Proofs.Ythcibbfljcfheaa.Abs
