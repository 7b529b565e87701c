/- Sorting by a comparison that turns nothing: the functions of slices.SortFunc in the plain machine, each what the plain twin (Go.Sort) tells. No condition of its own. -/
import Derived.Test.YtaolkpkaiidmeaaWr
import Derived.Test.YtaolkpkaiidmeaaFlat
import Derived.Sort.AssemblyPlain
import Derived.Sort.Walk7
import Derived.Sort.WalkB2
import Derived.Sort.WalkB12
namespace Go.Proofs.Ytaolkpkaiidmeaa.Abs
open Go.Sort
set_option linter.unusedSimpArgs false
set_option linter.unusedVariables false
set_option maxRecDepth 100000
set_option maxHeartbeats 8000000
/-- All but one object stay. -/
def Fb (b : Nat) (H H' : AH) : Prop := H.n ≤ H'.n ∧ ∀ c, c < H.n → c ≠ b → H'.o c = H.o c
theorem Fb.refl {b : Nat} {H : AH} : Fb b H H := ⟨Nat.le_refl _, fun _ _ _ => rfl⟩
theorem Fb.trans {b : Nat} {H H1 H2 : AH} (h : Fb b H H1) (k : Fb b H1 H2) : Fb b H H2 :=
  ⟨Nat.le_trans h.1 k.1, fun c hc hb => (k.2 c (Nat.lt_of_lt_of_le hc h.1) hb).trans (h.2 c hc hb)⟩
theorem Keeps.fb {b : Nat} {H H' : AH} (k : Keeps H H') : Fb b H H' := ⟨k.1, fun c hc _ => k.o hc⟩
theorem Fb.set {b : Nat} {H H' : AH} (h : Fb b H H') {x : AObj} : Fb b H (H'.set b x) := ⟨h.1, fun c hc hb => by rw [AH_set_o, if_neg hb]; exact h.2 c hc hb⟩
/-- What a comparison is asked. -/
def Cm (q : Prm) (e b : Nat) (H0 : AH) (cf : Int → Int → Int) : Prop :=
  ∀ H x y, Fb b H0 H → ∃ H', callR (tblP q) 26 [.p (some (e, 0)), .i .i64 x, .i .i64 y] H = some (.i .i64 (cf x y), H') ∧ Keeps H H'
def ltc (cf : Int → Int → Int) (x y : Int) : Bool := decide (cf x y < 0)
def rw1 (d : Array Int) : AObj := .row false (d.toList.map (AV.i .i64))
structure SS (b n : Nat) (H0 H : AH) (d : Array Int) : Prop where
  r : H.o b = some (rw1 d)
  f : Fb b H0 H
  sz : d.size = n
  lt : b < H0.n
section
variable {q : Prm} {e b n lo : Nat} {ex : Bool} {cf : Int → Int → Int} {H0 H : AH} {d : Array Int}
theorem SS.mv (h : SS b n H0 H d) {H' : AH} (k : Keeps H H') : SS b n H0 H' d :=
  ⟨(k.o (Nat.lt_of_lt_of_le h.lt h.f.1)).trans h.r, h.f.trans k.fb, h.sz, h.lt⟩
theorem SS.cmp (h : SS b n H0 H d) (hC : Cm q e b H0 cf) (x y : Int) : ∃ H', callR (tblP q) 26 [.p (some (e, 0)), .i .i64 x, .i .i64 y] H = some (.i .i64 (cf x y), H') ∧ SS b n H0 H' d := by
  obtain ⟨H', e1, k⟩ := hC H x y h.f
  exact ⟨H', e1, h.mv k⟩
theorem arr_get {d : Array Int} {i : Nat} (hi : i < d.size) : (d.toList.map (AV.i .i64))[i]? = some (.i .i64 d[i]!) := by
  rw [List.getElem?_map, Array.getElem?_toList, Array.getElem?_eq_getElem hi, getElem!_pos d i hi]; rfl
/-- Two elements read. -/
theorem SS.g (h : SS b n H0 H d) : ∃ L, H.o b = some (.row false L) ∧ L.length = n ∧ ∀ i, i < n → L[i]? = some (.i .i64 d[i]!) :=
  ⟨_, h.r, by simp [h.sz], fun i hi => arr_get (by rw [h.sz]; exact hi)⟩
theorem setR_arr {d : Array Int} {i : Nat} {x : Int} (hi : i < d.size) : setR (d.toList.map (AV.i .i64)) i [.i .i64 x] = (d.setIfInBounds i x).toList.map (AV.i .i64) := by
  rw [setR_map (by simpa using hi), Array.toList_setIfInBounds]
/-- Two elements exchanged. -/
theorem SS.sw (h : SS b n H0 H d) {i j : Nat} (hi : i < n) (hj : j < n) : ∃ L, H.o b = some (.row false L) ∧ L[i]? = some (.i .i64 d[i]!) ∧ L[j]? = some (.i .i64 d[j]!) ∧ i + 1 ≤ L.length ∧ j + 1 ≤ (setR L i [.i .i64 d[j]!]).length ∧
    SS b n H0 ((H.set b (.row false (setR L i [.i .i64 d[j]!]))).set b (.row false (setR (setR L i [.i .i64 d[j]!]) j [.i .i64 d[i]!]))) (swp d i j) := by
  have hs := h.sz
  have e1 : setR (d.toList.map (AV.i .i64)) i [.i .i64 d[j]!] = (d.setIfInBounds i d[j]!).toList.map (AV.i .i64) := setR_arr (by omega)
  have e2 : setR ((d.setIfInBounds i d[j]!).toList.map (AV.i .i64)) j [.i .i64 d[i]!] = (swp d i j).toList.map (AV.i .i64) := setR_arr (by simp; omega)
  refine ⟨_, h.r, arr_get (by omega), arr_get (by omega), by simp; omega, by rw [e1]; simp; omega, ?_⟩
  rw [e1, e2]
  refine ⟨by rw [AH_set_o, if_pos rfl]; rfl, h.f.set.set, by rw [size_swp]; exact hs, h.lt⟩
theorem wr1 {i : Nat} (hi : i ≤ 1000000) : IntKind.i64.wrap ((i : Int) + 1) = ((i + 1 : Nat) : Int) := by rw [wrap_i64 (by omega)]; omega
theorem wrs {i : Nat} (hi : i ≤ 1000000) : IntKind.i64.wrap (((i + 1 : Nat) : Int) - 1) = (i : Int) := by rw [wrap_i64 (by omega)]; omega
theorem wra {i j : Nat} (hi : i + j ≤ 1000000) : IntKind.i64.wrap ((i : Int) + (j : Int)) = ((i + j : Nat) : Int) := by rw [wrap_i64 (by omega)]; omega
theorem wrd {i j : Nat} (hi : i ≤ 1000000) (hj : j ≤ i) : IntKind.i64.wrap ((i : Int) - (j : Int)) = ((i - j : Nat) : Int) := by rw [wrap_i64 (by omega)]; omega
/-- The inner loop of insertionSort. -/
theorem ins_inner (hC : Cm q e b H0 cf) (hn : n ≤ 1000) {a : Nat} {K : List AItem} {Q : AV → AH → Prop} {i : Nat} {v2 v8 : AV}
    (hQ : ∀ t' H', SS b n H0 H' (insInner (ltc cf) a i d) → t' 0 = .sl (some (b, 0)) n lo ex 1 → t' 1 = .i .i64 a → t' 2 = v2 → t' 3 = .fn (.func 26) [.p (some (e, 0))] [] → t' 8 = v8 → Sp (runR (tblP q) a39 K t' H') Q) :
    ∀ (j : Nat) (d1 : Array Int) (H : AH) (t1 : Nat → AV), SS b n H0 H d1 → j < n → insInner (ltc cf) a j d1 = insInner (ltc cf) a i d → t1 0 = .sl (some (b, 0)) n lo ex 1 → t1 1 = .i .i64 a → t1 3 = .fn (.func 26) [.p (some (e, 0))] [] → t1 9 = .i .i64 j → t1 2 = v2 → t1 8 = v8 →
      Sp (runR (tblP q) a39 (.inLoop l39_6 :: .inBlock 2 :: K) t1 H) Q := by
  intro j
  induction j with
  | zero =>
    intro d1 H t1 hS hj he q0 q1 q3 q9 g2 g8
    have c1 : decide ((a : Int) < 0) = false := by simp
    rw [runR_inLoop]
    simp only [l39_6, runR_seq, r39_3, aops_cons, aop, ev_t, q9, cast_of, thenOps_some, put_some, upd_get, Nat.reduceEqDiff, ↓reduceIte, q1, aBin, BinOp.isShift, Bool.false_eq_true, or_true, aInt_gtr, GT.gt, c1, withH_some', aops_g, gOps_b, ev_c, aops_nil, regR_some, runR_cond', condR_b, runR_exit', aexit_code, aexit_inLoop, aexit_inBlock, exitR_some]
    refine hQ _ _ (by rw [← he]; exact hS) ?_ ?_ ?_ ?_ ?_
    all_goals simp only [upd_get, Nat.reduceEqDiff, ↓reduceIte, g8, q3, g2, reduceCtorEq, q0, q1]
  | succ j ih =>
    intro d1 H t1 hS hj he q0 q1 q3 q9 g2 g8
    have hw := wrs (i := j) (by omega)
    by_cases ha : a < j + 1
    · have c1 : decide ((a : Int) < ((j + 1 : Nat) : Int)) = true := by simp; omega
      have c2 : 0 ≤ ((j + 1 : Nat) : Int) ∧ ((j + 1 : Nat) : Int) < (n : Int) := by omega
      have c3 : 0 ≤ (j : Int) ∧ (j : Int) < (n : Int) := by omega
      obtain ⟨L, hL, hLl, hg⟩ := hS.g
      have x1 := hg (j + 1) hj
      have x2 := hg j (by omega)
      obtain ⟨H1, e1, S1⟩ := hS.cmp hC d1[j + 1]! d1[j]!
      cases hlt : decide (cf d1[j + 1]! d1[j]! < 0)
      · rw [runR_inLoop]
        simp only [l39_6, runR_seq, r39_3, aops_cons, aop, ev_t, q9, thenOps_some, put_some, upd_get, Nat.reduceEqDiff, ↓reduceIte, q1, aBin, BinOp.isShift, Bool.false_eq_true, or_true, aInt_gtr, GT.gt, c1, withH_some', aops_g, gOps_b, q3, reduceCtorEq, q0, c2, and_self, Int.toNat_natCast, Nat.mul_one, Nat.zero_add, aload, hL, apart, x1, ev_c, aInt_sub, hw, c3, x2, asX_cons, asX_nil, List.cons_append, List.nil_append, List.append_nil, e1, aInt_lss, hlt, aops_nil, regR_some, runR_cond', condR_b, runR_exit', aexit_code, aexit_inLoop, aexit_inBlock, exitR_some]
        have : insInner (ltc cf) a (j + 1) d1 = d1 := by
          rw [insInner, if_neg (by unfold ltc; rw [hlt]; simp)]
        rw [this] at he
        refine hQ _ _ (by rw [← he]; exact S1) ?_ ?_ ?_ ?_ ?_
        all_goals simp only [upd_get, Nat.reduceEqDiff, ↓reduceIte, g8, q3, g2, reduceCtorEq, q0, q1]
      · obtain ⟨L2, r1, r2, r3, r4, r5, S2⟩ := S1.sw hj (show j < n by omega)
        rw [runR_inLoop]
        simp only [l39_6, runR_seq, r39_3, aops_cons, aop, ev_t, q9, thenOps_some, put_some, upd_get, Nat.reduceEqDiff, ↓reduceIte, q1, aBin, BinOp.isShift, Bool.false_eq_true, or_true, aInt_gtr, GT.gt, c1, withH_some', aops_g, gOps_b, q3, reduceCtorEq, q0, c2, and_self, Int.toNat_natCast, Nat.mul_one, Nat.zero_add, aload, hL, apart, x1, ev_c, aInt_sub, hw, c3, x2, asX_cons, asX_nil, List.cons_append, List.nil_append, List.append_nil, e1, aInt_lss, hlt, aops_nil, regR_some, runR_cond', condR_b, runR_skip, runR_block, r39_4, r1, r3, r2, astore, AV.cells, List.length_cons, List.length_nil, Nat.add_assoc, Nat.reduceAdd, r4, withU_some', put_none, hs_o, r5, runR_inBlock, r39_5]
        have : insInner (ltc cf) a (j + 1) d1 = insInner (ltc cf) a j (swp d1 (j + 1) j) := by
          rw [insInner, if_pos (by unfold ltc; rw [hlt]; simp; omega)]
        rw [this] at he
        refine ih _ _ _ S2 (by omega) he ?_ ?_ ?_ ?_ ?_ ?_
        all_goals simp only [upd_get, Nat.reduceEqDiff, ↓reduceIte, g8, q3, g2, reduceCtorEq, q0, q1]
    · have c1 : decide ((a : Int) < ((j + 1 : Nat) : Int)) = false := by simp; omega
      rw [runR_inLoop]
      simp only [l39_6, runR_seq, r39_3, aops_cons, aop, ev_t, q9, thenOps_some, put_some, upd_get, Nat.reduceEqDiff, ↓reduceIte, q1, aBin, BinOp.isShift, Bool.false_eq_true, or_true, aInt_gtr, GT.gt, c1, withH_some', aops_g, gOps_b, ev_c, aops_nil, regR_some, runR_cond', condR_b, runR_exit', aexit_code, aexit_inLoop, aexit_inBlock, exitR_some]
      have : insInner (ltc cf) a (j + 1) d1 = d1 := by
        rw [insInner, if_neg (by simp; omega)]
      rw [this] at he
      refine hQ _ _ (by rw [← he]; exact hS) ?_ ?_ ?_ ?_ ?_
      all_goals simp only [upd_get, Nat.reduceEqDiff, ↓reduceIte, g8, q3, g2, reduceCtorEq, q0, q1]
theorem ins_spec (hC : Cm q e b H0 cf) (hn : n ≤ 1000) (hS : SS b n H0 H d) {a c : Nat} (hac : a ≤ c) (hc : c ≤ n) :
    ∃ H', callR (tblP q) 39 [.sl (some (b, 0)) n lo ex 1, .i .i64 a, .i .i64 c, .fn (.func 26) [.p (some (e, 0))] []] H = some (.tup [], H') ∧ SS b n H0 H' (insertionSort (ltc cf) d a c) := by
  refine Sp.one fun Q hQ => ?_
  have hw := wr1 (i := a) (by omega)
  simp only [c39, b39, runR_seq, r39_0, aops_cons, aop, ev_t, ainit_get, List.getD_cons_succ, List.getD_cons_zero, thenOps_some, put_some, aBin, upd_get, ↓reduceIte, ev_c, BinOp.isShift, Bool.false_eq_true, or_true, aInt_add, hw, withH_some', aops_nil, regR_some, runR_block, runR_loop']
  have key : ∀ (k i : Nat) (d1 : Array Int) (H1 : AH) (t : Nat → AV), c - i ≤ k → a < i → SS b n H0 H1 d1 → insOuter (ltc cf) a c i d1 = insertionSort (ltc cf) d a c → t 0 = .sl (some (b, 0)) n lo ex 1 → t 1 = .i .i64 a → t 2 = .i .i64 c → t 3 = .fn (.func 26) [.p (some (e, 0))] [] → t 8 = .i .i64 i →
      Sp (runR (tblP q) a39 [.inLoop l39_8, .inBlock 0] t H1) Q := by
    intro k
    induction k with
    | zero =>
      intro i d1 H1 t hk hai hS1 he q0 q1 q2 q3 q8
      have c1 : decide ((i : Int) < (c : Int)) = false := by simp; omega
      rw [runR_inLoop]
      simp only [l39_8, runR_seq, r39_1, aops_cons, aop, ev_t, q8, thenOps_some, put_some, upd_get, Nat.reduceEqDiff, ↓reduceIte, q2, aBin, BinOp.isShift, Bool.false_eq_true, or_true, aInt_lss, c1, withH_some', aops_nil, regR_some, runR_cond', condR_b, runR_exit', aexit_code, aexit_inLoop, aexit_inBlock, exitR_some, runR_nil, afinish_def, s39, aresults, aback]
      rw [insOuter, if_neg (by omega)] at he
      exact Sp.ret (hQ _ (by rw [← he]; exact hS1))
    | succ k ih =>
      intro i d1 H1 t hk hai hS1 he q0 q1 q2 q3 q8
      rw [insOuter] at he
      by_cases hi : i < c
      · rw [if_pos hi] at he
        have c1 : decide ((i : Int) < (c : Int)) = true := by simp; omega
        have hwi := wr1 (i := i) (by omega)
        rw [runR_inLoop]
        simp only [l39_8, runR_seq, r39_1, aops_cons, aop, ev_t, q8, thenOps_some, put_some, upd_get, Nat.reduceEqDiff, ↓reduceIte, q2, aBin, BinOp.isShift, Bool.false_eq_true, or_true, aInt_lss, c1, withH_some', aops_nil, regR_some, runR_cond', condR_b, runR_skip, runR_block, r39_2, runR_loop']
        refine ins_inner (a := a) (lo := lo) (ex := ex) (v2 := .i .i64 c) (v8 := .i .i64 i) hC hn (i := i) (d := d1) ?_ i d1 H1 _ hS1 (by omega) rfl ?_ ?_ ?_ ?_ ?_ ?_
        · intro t2 H2 hS2 g0 g1 g2 g3 g8
          simp only [runR_inBlock, r39_7, aops_cons, aop, ev_t, g8, thenOps_some, put_some, aBin, upd_get, ↓reduceIte, ev_c, BinOp.isShift, Bool.false_eq_true, or_true, aInt_add, hwi, withH_some', aops_nil, regR_some]
          refine ih (i + 1) _ H2 _ (by omega) (by omega) hS2 he ?_ ?_ ?_ ?_ ?_
          all_goals simp only [upd_get, ↓reduceIte, Nat.reduceEqDiff, g3, reduceCtorEq, g0, g2, g1]
        all_goals simp only [upd_get, ↓reduceIte, Nat.reduceEqDiff, q3, reduceCtorEq, q0, q1, q2, q8]
      · rw [if_neg hi] at he
        have c1 : decide ((i : Int) < (c : Int)) = false := by simp; omega
        rw [runR_inLoop]
        simp only [l39_8, runR_seq, r39_1, aops_cons, aop, ev_t, q8, thenOps_some, put_some, upd_get, Nat.reduceEqDiff, ↓reduceIte, q2, aBin, BinOp.isShift, Bool.false_eq_true, or_true, aInt_lss, c1, withH_some', aops_nil, regR_some, runR_cond', condR_b, runR_exit', aexit_code, aexit_inLoop, aexit_inBlock, exitR_some, runR_nil, afinish_def, s39, aresults, aback]
        exact Sp.ret (hQ _ (by rw [← he]; exact hS1))
  refine key (c - (a + 1)) (a + 1) d H _ (Nat.le_refl _) (by omega) hS rfl ?_ ?_ ?_ ?_ ?_
  all_goals simp only [upd_get, ↓reduceIte, Nat.reduceEqDiff, ainit_get, List.getD_cons_succ, List.getD_cons_zero, reduceCtorEq]
end
section
variable {q : Prm} {e b n lo : Nat} {ex : Bool} {cf : Int → Int → Int} {H0 H : AH} {d : Array Int}
theorem sift_spec (hC : Cm q e b H0 cf) (hn : n ≤ 1000) (hS : SS b n H0 H d) {lw hi first : Nat} (hh : first + hi ≤ n) (hl : lw ≤ hi) :
    ∃ H', callR (tblP q) 49 [.sl (some (b, 0)) n lo ex 1, .i .i64 lw, .i .i64 hi, .i .i64 first, .fn (.func 26) [.p (some (e, 0))] []] H = some (.tup [], H') ∧ SS b n H0 H' (siftDown (ltc cf) hi first lw d) := by
  refine Sp.one fun Q hQ => ?_
  simp only [c49, b49, runR_seq, r49_0, aops_cons, aop, ev_t, ainit_get, List.getD_cons_succ, List.getD_cons_zero, thenOps_some, put_some, upd_get, ↓reduceIte, aops_nil, regR_some, runR_block, runR_loop']
  have key : ∀ (k root : Nat) (d1 : Array Int) (H1 : AH) (t : Nat → AV), hi - root ≤ k → root ≤ hi → SS b n H0 H1 d1 → siftDown (ltc cf) hi first root d1 = siftDown (ltc cf) hi first lw d → t 0 = .sl (some (b, 0)) n lo ex 1 → t 2 = .i .i64 hi → t 3 = .i .i64 first → t 4 = .fn (.func 26) [.p (some (e, 0))] [] → t 10 = .i .i64 root →
      Sp (runR (tblP q) a49 [.inLoop l49_8, .inBlock 0] t H1) Q := by
    intro k
    induction k with
    | zero =>
      intro root d1 H1 t hk hr hS1 he q0 q2 q3 q4 q10
      have w1 : IntKind.i64.wrap (2 * (root : Int)) = ((2 * root : Nat) : Int) := by rw [wrap_i64 (by omega)]; omega
      have w2 := wr1 (i := 2 * root) (by omega)
      have c1 : decide ((hi : Int) ≤ ((2 * root + 1 : Nat) : Int)) = true := by simp; omega
      rw [siftDown, dif_pos (by omega)] at he
      rw [runR_inLoop]
      simp only [l49_8, runR_block, runR_seq, r49_1, aops_cons, aop, ev_t, q10, thenOps_some, put_some, aBin, ev_c, upd_get, ↓reduceIte, BinOp.isShift, Bool.false_eq_true, or_true, aInt_mul, w1, withH_some', aInt_add, w2, aops_nil, regR_some, r49_2, Nat.reduceEqDiff, q2, aInt_geq, GE.ge, c1, runR_cond', condR_b, runR_exit', aexit_code, aexit_inBlock, Nat.succ_ne_self, aexit_inLoop, exitR_some, runR_nil, afinish_def, s49, aresults, aback]
      exact Sp.ret (hQ _ (by rw [← he]; exact hS1))
    | succ k ih =>
      intro root d1 H1 t hk hr hS1 he q0 q2 q3 q4 q10
      have w1 : IntKind.i64.wrap (2 * (root : Int)) = ((2 * root : Nat) : Int) := by rw [wrap_i64 (by omega)]; omega
      have w2 := wr1 (i := 2 * root) (by omega)
      rw [siftDown] at he
      by_cases h1 : 2 * root + 1 ≥ hi
      · rw [dif_pos h1] at he
        have c1 : decide ((hi : Int) ≤ ((2 * root + 1 : Nat) : Int)) = true := by simp; omega
        rw [runR_inLoop]
        simp only [l49_8, runR_block, runR_seq, r49_1, aops_cons, aop, ev_t, q10, thenOps_some, put_some, aBin, ev_c, upd_get, ↓reduceIte, BinOp.isShift, Bool.false_eq_true, or_true, aInt_mul, w1, withH_some', aInt_add, w2, aops_nil, regR_some, r49_2, Nat.reduceEqDiff, q2, aInt_geq, GE.ge, c1, runR_cond', condR_b, runR_exit', aexit_code, aexit_inBlock, Nat.succ_ne_self, aexit_inLoop, exitR_some, runR_nil, afinish_def, s49, aresults, aback]
        exact Sp.ret (hQ _ (by rw [← he]; exact hS1))
      · rw [dif_neg h1] at he
        have c1 : decide ((hi : Int) ≤ ((2 * root + 1 : Nat) : Int)) = false := by simp; omega
        have w3 := wr1 (i := 2 * root + 1) (by omega)
        have v0 := wra (i := first) (j := root) (by omega)
        have v1 := wra (i := first) (j := 2 * root + 1) (by omega)
        have v1' := wr1 (i := first + (2 * root + 1)) (by omega)
        have v2 := wra (i := first) (j := 2 * root + 1 + 1) (by omega)
        have b0 : 0 ≤ ((first + root : Nat) : Int) ∧ ((first + root : Nat) : Int) < (n : Int) := by omega
        have b1 : 0 ≤ ((first + (2 * root + 1) : Nat) : Int) ∧ ((first + (2 * root + 1) : Nat) : Int) < (n : Int) := by omega
        -- the second half: against the child ch
        have fin : ∀ (ch : Nat) (t2 : Nat → AV) (H2 : AH), root < ch → ch < hi → (ch = 2 * root + 1 ∨ ch = 2 * root + 1 + 1) → SS b n H0 H2 d1 → (if (!ltc cf d1[first + root]! d1[first + ch]!) = true then d1 else siftDown (ltc cf) hi first ch (swp d1 (first + root) (first + ch))) = siftDown (ltc cf) hi first lw d → t2 0 = .sl (some (b, 0)) n lo ex 1 → t2 2 = .i .i64 hi → t2 3 = .i .i64 first → t2 4 = .fn (.func 26) [.p (some (e, 0))] [] → t2 10 = .i .i64 root → t2 11 = .i .i64 ch →
            Sp (runR (tblP q) a49 [.code (.drw d49_5), .code (.cond (.t 58) .ret .skip), .code (.seq (.drw d49_6) (.reg d49_7)), .inBlock 1, .inLoop l49_8, .inBlock 0] t2 H2) Q := by
          intro ch t2 H2 hrc hch hcc hS2 he2 z0 z2 z3 z4 z10 z11
          have v3 := wra (i := first) (j := ch) (by omega)
          have b3 : 0 ≤ ((first + ch : Nat) : Int) ∧ ((first + ch : Nat) : Int) < (n : Int) := by omega
          obtain ⟨L, hL, hLl, hg⟩ := hS2.g
          have x1 := hg (first + root) (by omega)
          have x2 := hg (first + ch) (by omega)
          obtain ⟨H3, e1, S3⟩ := hS2.cmp hC d1[first + root]! d1[first + ch]!
          cases hlt : decide (cf d1[first + root]! d1[first + ch]! < 0)
          · rw [if_pos (by unfold ltc; rw [hlt]; rfl)] at he2
            simp only [r49_5, aops_cons, aop, ev_t, z4, thenOps_some, put_some, upd_get, reduceCtorEq, ↓reduceIte, z0, Nat.reduceEqDiff, z3, z10, aBin, BinOp.isShift, Bool.false_eq_true, or_true, aInt_add, v0, withH_some', b0, and_self, Int.toNat_natCast, Nat.mul_one, Nat.zero_add, aload, hL, apart, x1, z11, v3, b3, x2, asX_cons, asX_nil, List.cons_append, List.nil_append, List.append_nil, e1, ev_c, aInt_lss, hlt, aUn_not, Bool.not_false, aops_nil, regR_some, runR_cond', condR_b, runR_ret, afinish_def, s49, aresults, aback]
            exact Sp.ret (hQ _ (by rw [← he2]; exact S3))
          · rw [if_neg (by unfold ltc; rw [hlt]; simp)] at he2
            obtain ⟨L2, r1, r2, r3, r4, r5, S4⟩ := S3.sw (i := first + root) (j := first + ch) (by omega) (by omega)
            simp only [Nat.add_assoc] at r4 r5
            simp only [r49_5, aops_cons, aop, ev_t, z4, thenOps_some, put_some, upd_get, reduceCtorEq, ↓reduceIte, z0, Nat.reduceEqDiff, z3, z10, aBin, BinOp.isShift, Bool.false_eq_true, or_true, aInt_add, v0, withH_some', b0, and_self, Int.toNat_natCast, Nat.mul_one, Nat.zero_add, aload, hL, apart, x1, z11, v3, b3, x2, asX_cons, asX_nil, List.cons_append, List.nil_append, List.append_nil, e1, ev_c, aInt_lss, hlt, aUn_not, Bool.not_true, aops_nil, regR_some, runR_cond', condR_b, runR_skip, runR_seq, r49_6, r1, r3, r2, astore, AV.cells, List.length_cons, List.length_nil, Nat.add_assoc, r4, withU_some', put_none, hs_o, r5, r49_7, runR_inBlock]
            refine ih ch _ _ _ (by omega) (by omega) S4 he2 ?_ ?_ ?_ ?_ ?_
            all_goals simp only [upd_get, ↓reduceIte, Nat.reduceEqDiff, z4, reduceCtorEq, z0, z2, z3]
        by_cases h2 : 2 * root + 1 + 1 < hi
        · have c2 : decide (((2 * root + 1 + 1 : Nat) : Int) < (hi : Int)) = true := by simp; omega
          obtain ⟨L, hL, hLl, hg⟩ := hS1.g
          have x1 := hg (first + (2 * root + 1)) (by omega)
          have x2 := hg (first + (2 * root + 1) + 1) (by omega)
          have b2 : 0 ≤ ((first + (2 * root + 1) + 1 : Nat) : Int) ∧ ((first + (2 * root + 1) + 1 : Nat) : Int) < (n : Int) := by omega
          obtain ⟨H2, e1, S2⟩ := hS1.cmp hC d1[first + (2 * root + 1)]! d1[first + (2 * root + 1) + 1]!
          simp only [Nat.add_assoc] at w2 w3 v1 v1' b1 b2 x1 x2 e1 c1 c2
          cases hlt : decide (cf d1[first + (2 * root + 1)]! d1[first + (2 * root + 1) + 1]! < 0)
          · have hlt0 := hlt
            simp only [Nat.add_assoc] at hlt
            rw [if_neg (by unfold ltc; rw [hlt0]; simp)] at he
            rw [runR_inLoop]
            simp only [l49_8, runR_block, runR_seq, r49_1, aops_cons, aop, ev_t, q10, thenOps_some, put_some, aBin, ev_c, upd_get, ↓reduceIte, BinOp.isShift, Bool.false_eq_true, or_true, aInt_mul, w1, withH_some', aInt_add, w2, aops_nil, regR_some, r49_2, Nat.reduceEqDiff, q2, aInt_geq, GE.ge, c1, runR_cond', condR_b, runR_skip, r49_3, w3, Nat.reduceAdd, aInt_lss, c2, aops_g, gOps_b, q4, reduceCtorEq, q0, q3, v1, b1, and_self, Int.toNat_natCast, Nat.mul_one, Nat.zero_add, aload, hL, apart, x1, v1', b2, x2, asX_cons, asX_nil, List.cons_append, List.nil_append, List.append_nil, e1, hlt]
            refine fin (2 * root + 1) _ H2 (by omega) (by omega) (Or.inl rfl) S2 he ?_ ?_ ?_ ?_ ?_ ?_
            all_goals simp only [upd_get, Nat.reduceEqDiff, ↓reduceIte, q10, q3, reduceCtorEq, q0, q4, q2]
          · have hlt0 := hlt
            simp only [Nat.add_assoc] at hlt
            rw [if_pos (by unfold ltc; rw [hlt0]; simp; omega)] at he
            rw [runR_inLoop]
            simp only [l49_8, runR_block, runR_seq, r49_1, aops_cons, aop, ev_t, q10, thenOps_some, put_some, aBin, ev_c, upd_get, ↓reduceIte, BinOp.isShift, Bool.false_eq_true, or_true, aInt_mul, w1, withH_some', aInt_add, w2, aops_nil, regR_some, r49_2, Nat.reduceEqDiff, q2, aInt_geq, GE.ge, c1, runR_cond', condR_b, runR_skip, r49_3, w3, Nat.reduceAdd, aInt_lss, c2, aops_g, gOps_b, q4, reduceCtorEq, q0, q3, v1, b1, and_self, Int.toNat_natCast, Nat.mul_one, Nat.zero_add, aload, hL, apart, x1, v1', b2, x2, asX_cons, asX_nil, List.cons_append, List.nil_append, List.append_nil, e1, hlt, r49_4]
            have he' : (if (!ltc cf d1[first + root]! d1[first + (2 * root + 1 + 1)]!) = true then d1 else siftDown (ltc cf) hi first (2 * root + 1 + 1) (swp d1 (first + root) (first + (2 * root + 1 + 1)))) = siftDown (ltc cf) hi first lw d := by
              rw [← he]
              split
              · rfl
              · rfl
            refine fin (2 * root + 1 + 1) _ H2 (by omega) (by omega) (Or.inr rfl) S2 he' ?_ ?_ ?_ ?_ ?_ ?_
            all_goals simp only [upd_get, Nat.reduceEqDiff, ↓reduceIte, q10, Nat.add_assoc, Nat.reduceAdd, q3, reduceCtorEq, q0, q4, q2]
        · have c2 : decide (((2 * root + 1 + 1 : Nat) : Int) < (hi : Int)) = false := by simp; omega
          rw [if_neg (by simp; omega)] at he
          simp only [Nat.add_assoc] at w2 w3 c1 c2
          rw [runR_inLoop]
          simp only [l49_8, runR_block, runR_seq, r49_1, aops_cons, aop, ev_t, q10, thenOps_some, put_some, aBin, ev_c, upd_get, ↓reduceIte, BinOp.isShift, Bool.false_eq_true, or_true, aInt_mul, w1, withH_some', aInt_add, w2, aops_nil, regR_some, r49_2, Nat.reduceEqDiff, q2, aInt_geq, GE.ge, c1, runR_cond', condR_b, runR_skip, r49_3, w3, Nat.reduceAdd, aInt_lss, c2, aops_g, gOps_b]
          refine fin (2 * root + 1) _ H1 (by omega) (by omega) (Or.inl rfl) hS1 he ?_ ?_ ?_ ?_ ?_ ?_
          all_goals simp only [upd_get, Nat.reduceEqDiff, ↓reduceIte, q10, q3, reduceCtorEq, q0, q4, q2]
  refine key (hi - lw) lw d H _ (Nat.le_refl _) hl hS rfl ?_ ?_ ?_ ?_ ?_
  all_goals simp only [upd_get, ↓reduceIte, Nat.reduceEqDiff, ainit_get, List.getD_cons_succ, List.getD_cons_zero, reduceCtorEq]
theorem sift_size : ∀ (k hi first root : Nat) (d : Array Int) (lt : Int → Int → Bool), hi - root ≤ k → (siftDown lt hi first root d).size = d.size := by
  intro k
  induction k with
  | zero => intro hi first root d lt hk; rw [siftDown, dif_pos (by omega)]
  | succ k ih =>
    intro hi first root d lt hk
    rw [siftDown]
    split
    · rfl
    · split
      · split
        · rfl
        · split
          · rw [ih _ _ _ _ _ (by omega), size_swp]
          · rfl
      · split
        · rfl
        · rw [ih _ _ _ _ _ (by omega), size_swp]
theorem quo_nat {x y : Nat} (hx : x ≤ 1000000) : bQuo .i64 (x : Int) (y : Int) = ((x / y : Nat) : Int) := by
  unfold bQuo
  have h : (x : Int).tdiv (y : Int) = ((x / y : Nat) : Int) := (Int.ofNat_tdiv x y).symm
  have h2 : x / y ≤ x := Nat.div_le_self x y
  rw [h]
  generalize x / y = z at h2
  exact wrap_i64 (by omega)
theorem quo_pred {m : Nat} (hx : m ≤ 1000000) : bQuo .i64 ((m : Int) - 1) 2 = (((m - 1) / 2 : Nat) : Int) := by
  cases m with
  | zero => decide
  | succ m =>
    have h : (((m + 1 : Nat) : Int) - 1) = (m : Int) := by omega
    rw [h]
    exact quo_nat (y := 2) (by omega)
theorem heap_spec (hC : Cm q e b H0 cf) (hn : n ≤ 1000) (hS : SS b n H0 H d) {a c : Nat} (hac : a ≤ c) (hc : c ≤ n) :
    ∃ H', callR (tblP q) 40 [.sl (some (b, 0)) n lo ex 1, .i .i64 a, .i .i64 c, .fn (.func 26) [.p (some (e, 0))] []] H = some (.tup [], H') ∧ SS b n H0 H' (heapSort (ltc cf) d a c) := by
  refine Sp.one fun Q hQ => ?_
  have hw := wrd (i := c) (j := a) (by omega) hac
  obtain ⟨m, hm⟩ : ∃ m, m = c - a := ⟨_, rfl⟩
  rw [← hm] at hw
  have hw1 : IntKind.i64.wrap ((m : Int) - 1) = (m : Int) - 1 := wrap_i64 (by omega)
  have hw2 := quo_pred (m := m) (by omega)
  have hz : ((2 : Int) = 0) = False := by simp
  unfold heapSort at hQ
  rw [← hm] at hQ
  simp only [c40, b40, runR_seq, r40_0, aops_cons, aop, ev_t, ainit_get, List.getD_cons_succ, List.getD_cons_zero, thenOps_some, put_some, upd_get, ↓reduceIte, aops_nil, regR_some, r40_1, ev_c, r40_2, Nat.reduceEqDiff, aBin, BinOp.isShift, Bool.false_eq_true, or_true, aInt_sub, hw, withH_some', r40_3, hw1, aInt_quo, hz, hw2, runR_block, runR_loop']
  have pop : ∀ (k : Nat) (d1 : Array Int) (H1 : AH) (t : Nat → AV) (v : Int), k ≤ m → v = (k : Int) - 1 → SS b n H0 H1 d1 → heapPop (ltc cf) a k d1 = heapPop (ltc cf) a m (heapBuild (ltc cf) m a ((m - 1) / 2 + 1) d) → t 0 = .sl (some (b, 0)) n lo ex 1 → t 3 = .fn (.func 26) [.p (some (e, 0))] [] → t 8 = .i .i64 a → t 9 = .i .i64 0 → t 12 = .i .i64 v →
      Sp (runR (tblP q) a40 [.inLoop l40_13, .inBlock 2] t H1) Q := by
    intro k
    induction k with
    | zero =>
      intro d1 H1 t v hk hv hS1 he q0 q3 q8 q9 q12
      have hv' : v = -1 := by omega
      subst hv'
      have c1 : decide ((0 : Int) ≤ -1) = false := by decide
      rw [runR_inLoop]
      simp only [l40_13, runR_seq, r40_9, aops_cons, aop, ev_t, q12, Int.reduceNeg, thenOps_some, put_some, aBin, upd_get, ↓reduceIte, ev_c, BinOp.isShift, Bool.false_eq_true, or_true, aInt_geq, GE.ge, Int.reduceLE, decide_false, withH_some', aops_nil, regR_some, runR_cond', condR_b, runR_exit', aexit_code, aexit_inLoop, aexit_inBlock, exitR_some, runR_nil, afinish_def, s40, aresults, aback]
      rw [heapPop] at he
      exact Sp.ret (hQ _ (by rw [← he]; exact hS1))
    | succ k ih =>
      intro d1 H1 t v hk hv hS1 he q0 q3 q8 q9 q12
      have hv' : v = (k : Int) := by omega
      subst hv'
      have c1 : decide ((0 : Int) ≤ (k : Int)) = true := by simp
      have v1 := wra (i := a) (j := k) (by omega)
      have hwk : IntKind.i64.wrap ((k : Int) - 1) = (k : Int) - 1 := wrap_i64 (by omega)
      have b1 : 0 ≤ ((a + k : Nat) : Int) ∧ ((a + k : Nat) : Int) < (n : Int) := by omega
      have b2 : 0 ≤ (a : Int) ∧ (a : Int) < (n : Int) := by omega
      obtain ⟨L2, r1, r2, r3, r4, r5, S4⟩ := hS1.sw (i := a) (j := a + k) (by omega) (by omega)
      have r5' := r5
      simp only [Nat.add_assoc] at r5'
      rw [runR_inLoop]
      simp only [l40_13, runR_seq, r40_9, aops_cons, aop, ev_t, q12, thenOps_some, put_some, aBin, upd_get, ↓reduceIte, ev_c, BinOp.isShift, Bool.false_eq_true, or_true, aInt_geq, GE.ge, c1, withH_some', aops_nil, regR_some, runR_cond', condR_b, runR_skip, runR_block, r40_10, reduceCtorEq, q0, Nat.reduceEqDiff, q8, aInt_add, v1, b1, and_self, Int.toNat_natCast, Nat.mul_one, Nat.zero_add, aload, r1, apart, r3, b2, r2, astore, AV.cells, List.length_cons, List.length_nil, r4, withU_some', put_none, hs_o, Nat.add_assoc, r5']
      obtain ⟨H5, e5, S5⟩ := sift_spec (lo := lo) (ex := ex) hC hn S4 (lw := 0) (hi := k) (first := a) (by omega) (Nat.zero_le _)
      have e5' : callR (tblP q) 49 [.sl (some (b, 0)) n lo ex 1, .i .i64 0, .i .i64 k, .i .i64 a, .fn (.func 26) [.p (some (e, 0))] []] _ = some (.tup [], H5) := e5
      simp only [r40_11, aops_cons, aop, ev_t, upd_get, reduceCtorEq, ↓reduceIte, q0, thenOps_some, put_some, Nat.reduceEqDiff, q9, q12, q8, q3, asX_cons, asX_nil, e5', aops_nil, regR_some, runR_inBlock, r40_12, aBin, ev_c, BinOp.isShift, Bool.false_eq_true, or_true, aInt_sub, hwk, withH_some']
      rw [heapPop] at he
      refine ih _ H5 _ ((k : Int) - 1) (by omega) rfl S5 he ?_ ?_ ?_ ?_ ?_
      all_goals simp only [upd_get, ↓reduceIte, Nat.reduceEqDiff, q3, q9, reduceCtorEq, q0, q8]
  have build : ∀ (k : Nat) (d1 : Array Int) (H1 : AH) (t : Nat → AV) (v : Int), k ≤ (m - 1) / 2 + 1 → v = (k : Int) - 1 → SS b n H0 H1 d1 → heapBuild (ltc cf) m a k d1 = heapBuild (ltc cf) m a ((m - 1) / 2 + 1) d → t 0 = .sl (some (b, 0)) n lo ex 1 → t 3 = .fn (.func 26) [.p (some (e, 0))] [] → t 8 = .i .i64 a → t 9 = .i .i64 0 → t 10 = .i .i64 m → t 11 = .i .i64 v →
      Sp (runR (tblP q) a40 [.inLoop l40_7, .inBlock 0, .code (.seq (.reg d40_8) (.block 2 (.loop l40_13)))] t H1) Q := by
    intro k
    induction k with
    | zero =>
      intro d1 H1 t v hk hv hS1 he q0 q3 q8 q9 q10 q11
      have hv' : v = -1 := by omega
      subst hv'
      have c1 : decide ((0 : Int) ≤ -1) = false := by decide
      rw [heapBuild] at he
      rw [runR_inLoop]
      simp only [l40_7, runR_seq, r40_4, aops_cons, aop, ev_t, q11, Int.reduceNeg, thenOps_some, put_some, aBin, upd_get, ↓reduceIte, ev_c, BinOp.isShift, Bool.false_eq_true, or_true, aInt_geq, GE.ge, Int.reduceLE, decide_false, withH_some', aops_nil, regR_some, runR_cond', condR_b, runR_exit', aexit_code, aexit_inLoop, aexit_inBlock, exitR_some, r40_8, Nat.reduceEqDiff, q10, aInt_sub, hw1, runR_block, runR_loop']
      refine pop m d1 H1 _ ((m : Int) - 1) (Nat.le_refl _) rfl hS1 (by rw [he]) ?_ ?_ ?_ ?_ ?_
      all_goals simp only [Int.reduceNeg, upd_get, reduceCtorEq, ↓reduceIte, q0, Nat.reduceEqDiff, q3, q9, q8]
    | succ k ih =>
      intro d1 H1 t v hk hv hS1 he q0 q3 q8 q9 q10 q11
      have hv' : v = (k : Int) := by omega
      subst hv'
      have c1 : decide ((0 : Int) ≤ (k : Int)) = true := by simp
      have hwk : IntKind.i64.wrap ((k : Int) - 1) = (k : Int) - 1 := wrap_i64 (by omega)
      obtain ⟨H5, e5, S5⟩ := sift_spec (lo := lo) (ex := ex) hC hn hS1 (lw := k) (hi := m) (first := a) (by omega) (by omega)
      rw [heapBuild] at he
      rw [runR_inLoop]
      simp only [l40_7, runR_seq, r40_4, aops_cons, aop, ev_t, q11, thenOps_some, put_some, aBin, upd_get, ↓reduceIte, ev_c, BinOp.isShift, Bool.false_eq_true, or_true, aInt_geq, GE.ge, c1, withH_some', aops_nil, regR_some, runR_cond', condR_b, runR_skip, runR_block, r40_5, reduceCtorEq, q0, Nat.reduceEqDiff, q10, q8, q3, asX_cons, asX_nil, e5, runR_inBlock, r40_6, aInt_sub, hwk]
      refine ih _ H5 _ ((k : Int) - 1) (by omega) rfl S5 he ?_ ?_ ?_ ?_ ?_ ?_
      all_goals simp only [upd_get, Nat.reduceEqDiff, ↓reduceIte, q10, q3, q9, reduceCtorEq, q0, q8]
  refine build ((m - 1) / 2 + 1) d H _ (((m - 1) / 2 : Nat) : Int) (Nat.le_refl _) (by omega) hS rfl ?_ ?_ ?_ ?_ ?_ ?_
  all_goals simp only [upd_get, Nat.reduceEqDiff, ↓reduceIte, ainit_get, List.getD_cons_succ, List.getD_cons_zero, reduceCtorEq]
theorem rev_spec (hn : n ≤ 1000) (hS : SS b n H0 H d) {a c : Nat} (hac : a ≤ c) (h1 : 1 ≤ c) (hc : c ≤ n) (F : AV) :
    ∃ H', callR (tblP q) 43 [.sl (some (b, 0)) n lo ex 1, .i .i64 a, .i .i64 c, F] H = some (.tup [], H') ∧ SS b n H0 H' (reverseRange d a c) := by
  refine Sp.one fun Q hQ => ?_
  have hw : IntKind.i64.wrap ((c : Int) - 1) = ((c - 1 : Nat) : Int) := by rw [wrap_i64 (by omega)]; omega
  unfold reverseRange at hQ
  simp only [c43, b43, runR_seq, r43_0, aops_cons, aop, ev_t, ainit_get, List.getD_cons_succ, List.getD_cons_zero, thenOps_some, put_some, upd_get, ↓reduceIte, aops_nil, regR_some, r43_1, Nat.reduceEqDiff, aBin, ev_c, BinOp.isShift, Bool.false_eq_true, or_true, aInt_sub, hw, withH_some', runR_block, runR_loop']
  have key : ∀ (k i j : Nat) (d1 : Array Int) (H1 : AH) (t : Nat → AV), j - i ≤ k → j < n → SS b n H0 H1 d1 → reverseLoop i j d1 = reverseLoop a (c - 1) d → t 0 = .sl (some (b, 0)) n lo ex 1 → t 8 = .i .i64 i → t 9 = .i .i64 j →
      Sp (runR (tblP q) a43 [.inLoop l43_6, .inBlock 0] t H1) Q := by
    intro k
    induction k with
    | zero =>
      intro i j d1 H1 t hk hj hS1 he q0 q8 q9
      have c1 : decide ((i : Int) < (j : Int)) = false := by simp; omega
      rw [reverseLoop, if_neg (by omega)] at he
      rw [runR_inLoop]
      simp only [l43_6, runR_seq, r43_2, aops_cons, aop, ev_t, q8, thenOps_some, put_some, upd_get, Nat.reduceEqDiff, ↓reduceIte, q9, aBin, BinOp.isShift, Bool.false_eq_true, or_true, aInt_lss, c1, withH_some', aops_nil, regR_some, runR_cond', condR_b, runR_exit', aexit_code, aexit_inLoop, aexit_inBlock, exitR_some, runR_nil, afinish_def, s43, aresults, aback]
      exact Sp.ret (hQ _ (by rw [← he]; exact hS1))
    | succ k ih =>
      intro i j d1 H1 t hk hj hS1 he q0 q8 q9
      rw [reverseLoop] at he
      by_cases hij : i < j
      · rw [if_pos hij] at he
        have c1 : decide ((i : Int) < (j : Int)) = true := by simp; omega
        have b1 : 0 ≤ (i : Int) ∧ (i : Int) < (n : Int) := by omega
        have b2 : 0 ≤ (j : Int) ∧ (j : Int) < (n : Int) := by omega
        have w1 := wr1 (i := i) (by omega)
        have w2 : IntKind.i64.wrap ((j : Int) - 1) = ((j - 1 : Nat) : Int) := by rw [wrap_i64 (by omega)]; omega
        obtain ⟨L2, r1, r2, r3, r4, r5, S4⟩ := hS1.sw (i := i) (j := j) (by omega) (by omega)
        rw [runR_inLoop]
        simp only [l43_6, runR_seq, r43_2, aops_cons, aop, ev_t, q8, thenOps_some, put_some, upd_get, Nat.reduceEqDiff, ↓reduceIte, q9, aBin, BinOp.isShift, Bool.false_eq_true, or_true, aInt_lss, c1, withH_some', aops_nil, regR_some, runR_cond', condR_b, runR_skip, runR_block, r43_3, reduceCtorEq, q0, b2, and_self, Int.toNat_natCast, Nat.mul_one, Nat.zero_add, aload, r1, apart, r3, b1, r2, astore, AV.cells, List.length_cons, List.length_nil, r4, withU_some', put_none, hs_o, r5, r43_4, ev_c, aInt_add, w1, r43_5, Nat.succ_ne_self, aInt_sub, w2, runR_inBlock]
        refine ih (i + 1) (j - 1) _ _ _ (by omega) (by omega) S4 he ?_ ?_ ?_
        all_goals simp only [upd_get, reduceCtorEq, ↓reduceIte, q0, Nat.reduceEqDiff]
      · rw [if_neg hij] at he
        have c1 : decide ((i : Int) < (j : Int)) = false := by simp; omega
        rw [runR_inLoop]
        simp only [l43_6, runR_seq, r43_2, aops_cons, aop, ev_t, q8, thenOps_some, put_some, upd_get, Nat.reduceEqDiff, ↓reduceIte, q9, aBin, BinOp.isShift, Bool.false_eq_true, or_true, aInt_lss, c1, withH_some', aops_nil, regR_some, runR_cond', condR_b, runR_exit', aexit_code, aexit_inLoop, aexit_inBlock, exitR_some, runR_nil, afinish_def, s43, aresults, aback]
        exact Sp.ret (hQ _ (by rw [← he]; exact hS1))
  refine key (c - 1 - a) a (c - 1) d H _ (Nat.le_refl _) (by omega) hS rfl ?_ ?_ ?_
  all_goals simp only [upd_get, Nat.reduceEqDiff, ↓reduceIte, reduceCtorEq, ainit_get, List.getD_cons_zero]
end
end Go.Proofs.Ytaolkpkaiidmeaa.Abs
