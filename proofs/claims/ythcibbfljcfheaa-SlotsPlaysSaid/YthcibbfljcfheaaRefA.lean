/- The document's table. No condition of its own. -/
import Derived.Test.YthcibbfljcfheaaStepS
namespace Go.Proofs.Ythcibbfljcfheaa.Abs
set_option linter.unusedSimpArgs false
set_option linter.unusedVariables false
set_option maxRecDepth 100000
set_option maxHeartbeats 8000000
abbrev Z4 := Int × Int × Int × Int
def zF (z : Z4) : List AV := [.i .i64 z.1, .i .i64 z.2.1, .i .i64 z.2.2.1, .i .u32 z.2.2.2]
theorem zF_len (l : List Z4) : (l.flatMap zF).length = l.length * 4 := flat_length (sz := 4) (fun _ => rfl) l
theorem fm_get {α : Type} {f : α → List AV} {sz : Nat} (hf : ∀ a, (f a).length = sz) {l : List α} {i d : Nat} {a : α} (h : l[i]? = some a) (hd : d < sz) : (l.flatMap f)[i * sz + d]? = (f a)[d]? := by
  rw [← (flat_at hf l i a h).1, List.getElem?_take, if_pos hd, List.getElem?_drop]
theorem fm_setb {α : Type} {f : α → List AV} {sz : Nat} (hf : ∀ a, (f a).length = sz) : ∀ {l : List α} {i d : Nat} {a a' : α} {vs : List AV}, l[i]? = some a → d + vs.length ≤ sz → setR (f a) d vs = f a' → setR (l.flatMap f) (i * sz + d) vs = (l.set i a').flatMap f
  | [], i, d, a, a', vs, h, _, _ => by simp at h
  | x :: l, 0, d, a, a', vs, h, hd, he => by
    simp at h
    subst h
    rw [List.set_cons_zero, List.flatMap_cons, List.flatMap_cons, ← he, Nat.zero_mul, Nat.zero_add]
    have := hf x
    unfold setR
    rw [List.take_append_of_le_length (by omega), List.drop_append_of_le_length (by omega), List.append_assoc, List.append_assoc, List.append_assoc]
  | x :: l, i + 1, d, a, a', vs, h, hd, he => by
    have ih := fm_setb hf (l := l) (i := i) (d := d) (a := a) (a' := a') (vs := vs) (by simpa using h) hd he
    rw [List.set_cons_succ, List.flatMap_cons, List.flatMap_cons, ← ih]
    have hx := hf x
    have e : (i + 1) * sz + d = (f x).length + (i * sz + d) := by rw [hx, Nat.succ_mul]; omega
    rw [e]
    unfold setR
    rw [List.take_length_add_append, Nat.add_assoc, List.drop_length_add_append, List.append_assoc, List.append_assoc, List.append_assoc]
theorem Wr.setb {H : AH} {v : AV} {sz n k : Nat} {cs vs : List AV} (h : Wr H v sz n cs) (hk : k + vs.length ≤ n * sz) (h0 : 0 < n) : ∃ b o lo ex full, v = .sl (some (b, o)) n lo ex sz ∧ b < H.n ∧ H.o b = some (.row false full) ∧ o + n * sz ≤ full.length ∧ (∀ j, j < n * sz → full[o + j]? = cs[j]?) ∧
    ∀ H', H.n ≤ H'.n → H'.o b = some (.row false (setR full (o + k) vs)) → Wr H' v sz n (setR cs k vs) := by
  rcases h.2 with ⟨_, h0⟩ | ⟨b, o, lo, ex, full, rfl, hb, hr, hl, hf, hc⟩
  · omega
  · have hle := Nat.mul_le_mul_right sz hl
    refine ⟨b, o, lo, ex, full, rfl, hb, hr, by omega, fun j hj => by rw [← hc, List.getElem?_take, if_pos hj, List.getElem?_drop], fun H' hn ho => ⟨?_, Or.inr ⟨b, o, lo, ex, _, rfl, Nat.lt_of_lt_of_le hb hn, ho, hl, ?_, ?_⟩⟩⟩
    · have := h.1
      unfold setR
      simp only [List.length_append, List.length_take, List.length_drop]
      omega
    · unfold setR
      simp only [List.length_append, List.length_take, List.length_drop]
      omega
    · rw [← hc]
      unfold setR
      apply List.ext_getElem?
      intro j
      simp only [List.getElem?_append, List.getElem?_take, List.getElem?_drop, List.length_take, List.length_append, List.length_drop]
      clear h hc hr
      grind
theorem wr_row {H : AH} {v : AV} {b : Nat} {sz n : Nat} {cs : List AV} (h : Wr H v sz n cs) (hb : blk v = some b) : ∃ full, H.o b = some (.row false full) := by
  rcases h.2 with ⟨rfl, _⟩ | ⟨b', o, lo, ex, full, rfl, _, hr, _⟩
  · cases hb
  · cases hb; exact ⟨full, hr⟩
/-- The document's table. -/
structure IsR (H : AH) (r : Nat) (sv : AV) (bl N : Int) (Z : List Z4) : Prop where
  lr : r < H.n
  o : H.o r = some (.row false [.i .i64 bl, .i .i64 N, sv])
  w : Wr H sv 4 Z.length (Z.flatMap zF)
  nb : ∀ b, blk sv = some b → b ≠ r
def FR (r : Nat) (sv : AV) : Nat → Prop := fun b => b = r ∨ blk sv = some b
section
variable {H : AH} {r : Nat} {sv : AV} {bl N : Int} {Z : List Z4}
theorem IsR.keep {H' : AH} (h : IsR H r sv bl N Z) (hn : H.n ≤ H'.n) (ho : ∀ c, FR r sv c → H'.o c = H.o c) : IsR H' r sv bl N Z :=
  ⟨Nat.lt_of_lt_of_le h.lr hn, (ho r (Or.inl rfl)).trans h.o, h.w.keep hn (fun b hb _ => ho b (Or.inr hb)), h.nb⟩
theorem IsR.old (h : IsR H r sv bl N Z) {c : Nat} (hc : FR r sv c) : c < H.n := by
  rcases hc with rfl | hc
  · exact h.lr
  · exact h.w.old hc
theorem IsR.keeps {H' : AH} (h : IsR H r sv bl N Z) (k : Keeps H H') : IsR H' r sv bl N Z := h.keep k.1 fun c hc => k.2 c (h.old hc)
/-- A slot of it. -/
theorem IsR.slot (h : IsR H r sv bl N Z) {i : Nat} {z : Z4} (hi : Z[i]? = some z) : ∃ b o lo ex full, sv = .sl (some (b, o)) Z.length lo ex 4 ∧ b < H.n ∧ H.o b = some (.row false full) ∧ i < Z.length ∧ o + i * 4 + 4 ≤ full.length ∧ full[o + i * 4]? = some (.i .i64 z.1) ∧ full[o + i * 4 + 1]? = some (.i .i64 z.2.1) ∧ full[o + i * 4 + 2]? = some (.i .i64 z.2.2.1) ∧ full[o + i * 4 + 3]? = some (.i .u32 z.2.2.2) ∧ b ≠ r ∧
    (∀ a, IsR (H.set b (.row false (setR full (o + i * 4) [.i .i64 a]))) r sv bl N (Z.set i (a, z.2.1, z.2.2.1, z.2.2.2))) ∧
    (∀ z', IsR (H.set b (.row false (setR full (o + i * 4) (zF z')))) r sv bl N (Z.set i z')) := by
  have hin := (List.getElem?_eq_some_iff.1 hi).1
  have hg : ∀ d, d < 4 → (Z.flatMap zF)[i * 4 + d]? = (zF z)[d]? := fun d hd => fm_get (sz := 4) (fun _ => rfl) hi hd
  obtain ⟨b, o, lo, ex, full, e, hb, hr, hf, hel, k1⟩ := h.w.setb (k := i * 4) (vs := zF (0, 0, 0, 0)) (by show i * 4 + 4 ≤ _; omega) (by omega)
  have hbr : b ≠ r := h.nb b (by rw [e]; rfl)
  have hoff : ∀ x, (H.set b x).o r = H.o r := fun x => hs_off (Ne.symm hbr)
  refine ⟨b, o, lo, ex, full, e, hb, hr, hin, by omega, ?_, ?_, ?_, ?_, hbr, fun a => ?_, fun z' => ?_⟩
  · have := (hel (i * 4 + 0) (by omega)).trans (hg 0 (by omega)); exact this
  · rw [Nat.add_assoc]; exact (hel (i * 4 + 1) (by omega)).trans (hg 1 (by omega))
  · rw [Nat.add_assoc]; exact (hel (i * 4 + 2) (by omega)).trans (hg 2 (by omega))
  · rw [Nat.add_assoc]; exact (hel (i * 4 + 3) (by omega)).trans (hg 3 (by omega))
  · obtain ⟨b', o', lo', ex', full', e', hb', hr', hf', hel', k1'⟩ := h.w.setb (k := i * 4) (vs := [.i .i64 a]) (by show i * 4 + 1 ≤ _; omega) (by omega)
    rw [e] at e'
    cases e'
    rw [hr] at hr'
    cases hr'
    refine ⟨h.lr, (hoff _).trans h.o, ?_, h.nb⟩
    have := k1' (H.set b (.row false (setR full (o + i * 4) [.i .i64 a]))) (Nat.le_refl _) (by rw [AH_set_o, if_pos rfl])
    rw [List.length_set]
    have hs := fm_setb (f := zF) (sz := 4) (fun _ => rfl) (d := 0) (a' := (a, z.2.1, z.2.2.1, z.2.2.2)) (vs := [.i .i64 a]) hi (Nat.le_of_ble_eq_true rfl) rfl
    rw [Nat.add_zero] at hs
    rw [← hs]
    exact this
  · obtain ⟨b', o', lo', ex', full', e', hb', hr', hf', hel', k1'⟩ := h.w.setb (k := i * 4) (vs := zF z') (by show i * 4 + 4 ≤ _; omega) (by omega)
    rw [e] at e'
    cases e'
    rw [hr] at hr'
    cases hr'
    refine ⟨h.lr, (hoff _).trans h.o, ?_, h.nb⟩
    have := k1' (H.set b (.row false (setR full (o + i * 4) (zF z')))) (Nat.le_refl _) (by rw [AH_set_o, if_pos rfl])
    rw [List.length_set]
    have hs := fm_setb (f := zF) (sz := 4) (fun _ => rfl) (d := 0) (a' := z') (vs := zF z') hi (Nat.le_of_ble_eq_true rfl) rfl
    rw [Nat.add_zero] at hs
    rw [← hs]
    exact this
theorem ris_spec {n : Int} : callR tbl 30 [.i .i64 n] H = some (.b (decide (0 ≤ n ∧ n < 256)), H) := by
  cases h1 : decide (n ≥ 0)
  · have : decide (0 ≤ n ∧ n < 256) = false := by simp at h1 ⊢; omega
    simp only [c30, b30, runR_seq, r30_0, aops_cons, aop, ev_c, thenOps_some, put_some, aops_nil, regR_some, r30_1, ev_t, upd_get, reduceCtorEq, ↓reduceIte, ainit_get, List.getD_cons_zero, aBin, BinOp.isShift, Bool.false_eq_true, or_true, aInt_geq, GE.ge, h1, withH_some', aops_g, gOps_b, Nat.reduceEqDiff, runR_ret, afinish_def, s30, aresults, aresult, aback, this]
  · have : decide (0 ≤ n ∧ n < 256) = decide (n < 256) := by simp at h1; simp; omega
    simp only [c30, b30, runR_seq, r30_0, aops_cons, aop, ev_c, thenOps_some, put_some, aops_nil, regR_some, r30_1, ev_t, upd_get, reduceCtorEq, ↓reduceIte, ainit_get, List.getD_cons_zero, aBin, BinOp.isShift, Bool.false_eq_true, or_true, aInt_geq, GE.ge, h1, withH_some', aops_g, gOps_b, Nat.reduceEqDiff, aInt_lss, runR_ret, afinish_def, s30, aresults, aresult, aback, this]
theorem zeros_z (n : Nat) : zerosA [.i .i64 0, .i .i64 0, .i .i64 0, .i .u32 0] n = (List.replicate n ((0, 0, 0, 0) : Z4)).flatMap zF := by
  induction n with
  | zero => rfl
  | succ n ih =>
    rw [List.replicate_succ, List.flatMap_cons, ← ih]
    rfl
theorem rnew_bad {pl sz : Int} (h : pl < 1 ∨ 4096 < pl ∨ sz < 1 ∨ 64 < sz) : ∃ H', callR tbl 17 [.i .i64 pl, .i .i64 sz] H = some (.tup [.agg [.i .i64 0, .i .i64 0, .sl none 0 0 true 0], .i .i64 1], H') ∧ Keeps H H' := by
  refine Sp.one fun Q hQ => ?_
  cases c1 : decide (pl < 1)
  · cases c2 : decide (pl > 4096)
    · cases c3 : decide (sz < 1)
      · have c4 : decide (sz > 64) = true := by simp at c1 c2 c3 ⊢; omega
        simp only [c17, b17, runR_seq, r17_0, aops_cons, aop, thenOps_some, put_some, ev_c, aops_nil, regR_some, r17_1, ev_t, upd_get, reduceCtorEq, ↓reduceIte, ainit_get, List.getD_cons_zero, aBin, BinOp.isShift, Bool.false_eq_true, or_true, aInt_lss, c1, withH_some', aops_g, gOps_b, Nat.reduceEqDiff, aInt_gtr, GT.gt, c2, List.getD_cons_succ, c3, c4, runR_cond', condR_b, r17_2, afill, astore, hn_o, AV.cells, List.length_cons, List.length_nil, Nat.zero_add, Nat.reduceAdd, Nat.reduceLeDiff, and_self, setR_z, setR_e, withU_some', put_none, runR_ret, afinish_def, s17, aresults, aresult, aload, hs_o, apart, List.drop_zero, List.take_succ_cons, List.take_zero, aback]
        exact Sp.ret (hQ _ (by (repeat (first | exact Keeps.refl _ | apply Keeps.new | (refine Keeps.set ?_ (by first | omega | (simp only [AH_new_n, AH_set_n, Nat.add_assoc, Nat.reduceAdd]; omega))) | (refine Keeps.trans ?_ (by assumption))))))
      · simp only [c17, b17, runR_seq, r17_0, aops_cons, aop, thenOps_some, put_some, ev_c, aops_nil, regR_some, r17_1, ev_t, upd_get, reduceCtorEq, ↓reduceIte, ainit_get, List.getD_cons_zero, aBin, BinOp.isShift, Bool.false_eq_true, or_true, aInt_lss, c1, withH_some', aops_g, gOps_b, Nat.reduceEqDiff, aInt_gtr, GT.gt, c2, List.getD_cons_succ, c3, Bool.true_eq_false, runR_cond', condR_b, r17_2, afill, astore, hn_o, AV.cells, List.length_cons, List.length_nil, Nat.zero_add, Nat.reduceAdd, Nat.reduceLeDiff, and_self, setR_z, setR_e, withU_some', put_none, runR_ret, afinish_def, s17, aresults, aresult, aload, hs_o, apart, List.drop_zero, List.take_succ_cons, List.take_zero, aback]
        exact Sp.ret (hQ _ (by (repeat (first | exact Keeps.refl _ | apply Keeps.new | (refine Keeps.set ?_ (by first | omega | (simp only [AH_new_n, AH_set_n, Nat.add_assoc, Nat.reduceAdd]; omega))) | (refine Keeps.trans ?_ (by assumption))))))
    · simp only [c17, b17, runR_seq, r17_0, aops_cons, aop, thenOps_some, put_some, ev_c, aops_nil, regR_some, r17_1, ev_t, upd_get, reduceCtorEq, ↓reduceIte, ainit_get, List.getD_cons_zero, aBin, BinOp.isShift, Bool.false_eq_true, or_true, aInt_lss, c1, withH_some', aops_g, gOps_b, Nat.reduceEqDiff, aInt_gtr, GT.gt, c2, Bool.true_eq_false, runR_cond', condR_b, r17_2, afill, astore, hn_o, AV.cells, List.length_cons, List.length_nil, Nat.zero_add, Nat.reduceAdd, Nat.reduceLeDiff, and_self, setR_z, setR_e, withU_some', put_none, runR_ret, afinish_def, s17, aresults, aresult, aload, hs_o, apart, List.drop_zero, List.take_succ_cons, List.take_zero, aback]
      exact Sp.ret (hQ _ (by (repeat (first | exact Keeps.refl _ | apply Keeps.new | (refine Keeps.set ?_ (by first | omega | (simp only [AH_new_n, AH_set_n, Nat.add_assoc, Nat.reduceAdd]; omega))) | (refine Keeps.trans ?_ (by assumption))))))
  · simp only [c17, b17, runR_seq, r17_0, aops_cons, aop, thenOps_some, put_some, ev_c, aops_nil, regR_some, r17_1, ev_t, upd_get, reduceCtorEq, ↓reduceIte, ainit_get, List.getD_cons_zero, aBin, BinOp.isShift, Bool.false_eq_true, or_true, aInt_lss, c1, withH_some', aops_g, gOps_b, Bool.true_eq_false, Nat.reduceEqDiff, runR_cond', condR_b, r17_2, afill, astore, hn_o, AV.cells, List.length_cons, List.length_nil, Nat.zero_add, Nat.reduceAdd, Nat.reduceLeDiff, and_self, setR_z, setR_e, withU_some', put_none, runR_ret, afinish_def, s17, aresults, aresult, aload, hs_o, apart, List.drop_zero, List.take_succ_cons, List.take_zero, aback]
    exact Sp.ret (hQ _ (by (repeat (first | exact Keeps.refl _ | apply Keeps.new | (refine Keeps.set ?_ (by first | omega | (simp only [AH_new_n, AH_set_n, Nat.add_assoc, Nat.reduceAdd]; omega))) | (refine Keeps.trans ?_ (by assumption))))))
theorem rnew_spec {pl sz : Nat} (h : 1 ≤ pl ∧ pl ≤ 4096 ∧ 1 ≤ sz ∧ sz ≤ 64) : ∃ sv H', callR tbl 17 [.i .i64 pl, .i .i64 sz] H = some (.tup [.agg [.i .i64 sz, .i .i64 0, sv], .i .i64 0], H') ∧ Wr H' sv 4 pl ((List.replicate pl ((0, 0, 0, 0) : Z4)).flatMap zF) ∧ Keeps H H' ∧ ∀ b, blk sv = some b → H.n ≤ b := by
  have c1 : decide ((pl : Int) < 1) = false := by simp; omega
  have c2 : decide ((pl : Int) > 4096) = false := by simp; omega
  have c3 : decide ((sz : Int) < 1) = false := by simp; omega
  have c4 : decide ((sz : Int) > 64) = false := by simp; omega
  have c5 : (0 : Int) ≤ (pl : Int) ∧ (pl : Int) ≤ (pl : Int) ∧ (pl : Int) ≤ 1099511627776 ∧ 32 * (pl : Int) ≤ 281474976710656 := by omega
  refine Sp.two (f := fun sv => .tup [.agg [.i .i64 sz, .i .i64 0, sv], .i .i64 0]) fun Q hQ => ?_
  simp only [c17, b17, runR_seq, r17_0, aops_cons, aop, thenOps_some, put_some, ev_c, aops_nil, regR_some, r17_1, ev_t, upd_get, reduceCtorEq, ↓reduceIte, ainit_get, List.getD_cons_zero, aBin, BinOp.isShift, Bool.false_eq_true, or_true, aInt_lss, c1, withH_some', aops_g, gOps_b, Nat.reduceEqDiff, aInt_gtr, GT.gt, c2, List.getD_cons_succ, c3, c4, runR_cond', condR_b, runR_skip, r17_3, amakeSlice, c5, cast_of, and_self, hn_n, Int.toNat_natCast, List.length_cons, List.length_nil, Nat.zero_add, Nat.reduceAdd, zeros_z, afill, AV.cells, Nat.reduceLeDiff, setR_z, setR_e, setR_s, astore, hn_o, Nat.left_eq_add, Nat.succ_ne_self, withU_some', put_none, runR_ret, afinish_def, s17, aresults, aresult, aload, hs_o, apart, List.drop_zero, List.take_succ_cons, List.take_zero, aback]
  refine Sp.ret (hQ (.sl (some (H.n + 1, 0)) pl pl true 4) _ ⟨?_, by (repeat (first | exact Keeps.refl _ | apply Keeps.new | (refine Keeps.set ?_ (by first | omega | (simp only [AH_new_n, AH_set_n, Nat.add_assoc, Nat.reduceAdd]; omega))) | (refine Keeps.trans ?_ (by assumption)))), fun b hb => by cases hb; omega⟩)
  refine ⟨by rw [zF_len]; simp, Or.inr ⟨H.n + 1, 0, pl, true, _, rfl, by rw [AH_set_n]; exact Nat.lt_succ_self _, by rw [hs_off (by omega), AH_new_o, if_pos (by rfl)], Nat.le_refl _, by rw [zF_len]; simp, ?_⟩⟩
  rw [List.drop_zero, List.take_of_length_le (by rw [zF_len]; simp)]
end
/-- Those of a thread that came at a time. -/
def isM (z : Z4) (th n : Int) : Bool := (z.1 == 3) && (z.2.1 == th) && (z.2.2.1 == n)
def min1 (Z : List Z4) (th n : Int) : Nat → List Int
  | 0 => []
  | i + 1 => min1 Z th n i ++ (if ((Z[i]?).map fun z => isM z th n).getD false then [(i : Int)] else [])
def minN (Z : List Z4) (th : Int) : Nat → List Int
  | 0 => []
  | n + 1 => minN Z th n ++ min1 Z th n Z.length
def firZ (Z : List Z4) (at' : Int) : Int := match Z.findIdx? (fun z => z.1 == at') with
  | some i => (i : Int)
  | none => -1
def cntZ (Z : List Z4) (at' : Int) : Nat := Z.countP fun z => z.1 == at'
theorem min1_len (Z : List Z4) (th n : Int) : ∀ i, (min1 Z th n i).length ≤ i
  | 0 => Nat.le_refl _
  | i + 1 => by have := min1_len Z th n i; unfold min1; rw [List.length_append]; split <;> simp <;> omega
theorem minN_len (Z : List Z4) (th : Int) : ∀ n, (minN Z th n).length ≤ n * Z.length
  | 0 => by simp [minN]
  | n + 1 => by
    have := minN_len Z th n
    have := min1_len Z th n Z.length
    unfold minN
    rw [List.length_append, Nat.succ_mul]
    omega
section
variable {H : AH} {r : Nat} {sv : AV} {bl : Int} {N : Nat} {Z : List Z4}
theorem mine_spec (h : IsR H r sv bl (N : Int) Z) (hN : N ≤ 200) (hZ : Z.length ≤ 200) (th : Int) : ∃ v H', callR tbl 31 [.p (some (r, 0)), .i .i64 th] H = some (v, H') ∧ Wr H' v 1 (minN Z th (N + 1)).length ((minN Z th (N + 1)).map I1) ∧ Keeps H H' ∧ ∀ b, blk v = some b → H.n ≤ b := by
  obtain ⟨sa, slo, sex, ssz, hsv⟩ := h.w.len
  refine Sp.two (f := fun v => v) fun Q hQ => ?_
  simp only [c31, b31, runR_seq, r31_0, aops_cons, aop, ev_c, thenOps_some, put_some, aops_nil, regR_some, r31_1, r31_2, runR_block]
  rw [runR_loop, ← runR_inLoop]
  refine loop_law (N + 1) (fun n t' H' => t' 0 = .p (some (r, 0)) ∧ t' 1 = .i .i64 th ∧ t' 6 = .i .i64 n ∧ Keeps H H' ∧ ∃ v, t' 5 = v ∧ Wr H' v 1 (minN Z th n).length ((minN Z th n).map I1) ∧ ∀ b, blk v = some b → H.n ≤ b) (fun r => Sp r Q) ?_ ?_ 0 _ H (Nat.zero_le _) ?_
  · rintro n t' H' hn ⟨q0, q1, q6, hk, v, q5, hw, hb⟩ ih
    have c1 : decide ((n : Int) ≤ (N : Int)) = true := by simp; omega
    have hwn := wr1 (i := n) (by omega)
    have hR := h.keeps hk
    have hml := minN_len Z th n
    have hml2 : n * Z.length ≤ 200 * 200 := Nat.mul_le_mul (by omega) hZ
    simp only [l31_11, runR_seq, r31_3, aops_cons, aop, ev_t, q6, thenOps_some, put_some, upd_get, reduceCtorEq, ↓reduceIte, q0, Nat.zero_add, aload, hR.o, apart, List.getElem?_cons_succ, List.getElem?_cons_zero, withH_some', aBin, Nat.reduceEqDiff, BinOp.isShift, Bool.false_eq_true, or_true, aInt_leq, c1, aops_nil, regR_some, runR_cond', condR_b, runR_skip, runR_block, r31_4, ev_c]
    rw [runR_loop, ← runR_inLoop]
    refine loop_law Z.length (fun i t2 H2 => t2 0 = .p (some (r, 0)) ∧ t2 1 = .i .i64 th ∧ t2 6 = .i .i64 n ∧ t2 7 = .i .i64 i ∧ Keeps H H2 ∧ ∃ v, t2 5 = v ∧ Wr H2 v 1 (minN Z th n ++ min1 Z th n i).length ((minN Z th n ++ min1 Z th n i).map I1) ∧ ∀ b, blk v = some b → H.n ≤ b) (fun r => Sp r Q) ?_ ?_ 0 _ H' (Nat.zero_le _) ?_
    · rintro i t2 H2 hi ⟨p0, p1, p6, p7, k2, v2, p5, w2, b2⟩ ih2
      have hR2 := h.keeps k2
      have d1 : decide ((i : Int) < (Z.length : Int)) = true := by simp; omega
      have d2 : 0 ≤ (i : Int) ∧ (i : Int) < (Z.length : Int) := by omega
      have hwi := wr1 (i := i) (by omega)
      obtain ⟨z, hz⟩ : ∃ z, Z[i]? = some z := ⟨_, List.getElem?_eq_getElem hi⟩
      obtain ⟨b, o, lo, ex, full, e, hbn, hr, hin, hle, e0, e1, e2, e3, hbr, _⟩ := hR2.slot hz
      subst e
      have e1' := e1
      have e2' := e2
      rw [Nat.add_assoc] at e1' e2'
      have hm1 := min1_len Z th n i
      cases hc : isM z th n
      · have hx : min1 Z th n (i + 1) = min1 Z th n i := by
          show min1 Z th n i ++ _ = _
          rw [hz]; simp [hc]
        have go : ∀ (t3 : Nat → AV), t3 0 = .p (some (r, 0)) → t3 1 = .i .i64 th → t3 6 = .i .i64 n → t3 7 = .i .i64 (i + 1 : Nat) → t3 5 = v2 → Sp (runR tbl a31 (.inLoop l31_9 :: .inBlock 2 :: .inBlock 1 :: .code (.reg d31_10) :: .inLoop l31_11 :: .inBlock 0 :: .code (.seq (.reg d31_12) .ret) :: []) t3 H2) Q := by
          intro t3 y0 y1 y6 y7 y5
          exact ih2 t3 H2 ⟨y0, y1, y6, y7, k2, v2, y5, by rw [hx]; exact w2, b2⟩
        unfold isM at hc
        cases f1 : z.1 == 3
        · simp only [l31_9, runR_seq, r31_5, aops_cons, aop, ev_t, p7, thenOps_some, put_some, upd_get, reduceCtorEq, ↓reduceIte, p0, Nat.zero_add, aload, hR2.o, apart, List.getElem?_cons_succ, List.getElem?_cons_zero, withH_some', aBin, Nat.reduceEqDiff, BinOp.isShift, Bool.false_eq_true, or_true, aInt_lss, d2, decide_true, aops_nil, regR_some, runR_cond', condR_b, runR_skip, runR_block, r31_6, and_self, Int.toNat_natCast, Nat.add_zero, hr, e0, ev_c, aInt_eql, f1, aops_g, gOps_b, runR_inBlock, r31_8, aInt_add, hwi]
          refine go _ ?_ ?_ ?_ ?_ ?_
          all_goals simp only [upd_get, ↓reduceIte, Nat.reduceEqDiff, p5, reduceCtorEq, p0, p6, p1]
        · cases f2 : z.2.1 == th
          · simp only [l31_9, runR_seq, r31_5, aops_cons, aop, ev_t, p7, thenOps_some, put_some, upd_get, reduceCtorEq, ↓reduceIte, p0, Nat.zero_add, aload, hR2.o, apart, List.getElem?_cons_succ, List.getElem?_cons_zero, withH_some', aBin, Nat.reduceEqDiff, BinOp.isShift, Bool.false_eq_true, or_true, aInt_lss, d2, decide_true, aops_nil, regR_some, runR_cond', condR_b, runR_skip, runR_block, r31_6, and_self, Int.toNat_natCast, Nat.add_zero, hr, e0, ev_c, aInt_eql, f1, aops_g, gOps_b, Nat.add_assoc, e1', p1, f2, runR_inBlock, r31_8, aInt_add, hwi]
            refine go _ ?_ ?_ ?_ ?_ ?_
            all_goals simp only [upd_get, ↓reduceIte, Nat.reduceEqDiff, p5, reduceCtorEq, p0, p6, p1]
          · have f3 : (z.2.2.1 == (n : Int)) = false := by rw [f1, f2] at hc; simpa using hc
            simp only [l31_9, runR_seq, r31_5, aops_cons, aop, ev_t, p7, thenOps_some, put_some, upd_get, reduceCtorEq, ↓reduceIte, p0, Nat.zero_add, aload, hR2.o, apart, List.getElem?_cons_succ, List.getElem?_cons_zero, withH_some', aBin, Nat.reduceEqDiff, BinOp.isShift, Bool.false_eq_true, or_true, aInt_lss, d2, decide_true, aops_nil, regR_some, runR_cond', condR_b, runR_skip, runR_block, r31_6, and_self, Int.toNat_natCast, Nat.add_zero, hr, e0, ev_c, aInt_eql, f1, aops_g, gOps_b, Nat.add_assoc, e1', p1, f2, e2', p6, f3, runR_inBlock, r31_8, aInt_add, hwi]
            refine go _ ?_ ?_ ?_ ?_ ?_
            all_goals simp only [upd_get, ↓reduceIte, Nat.reduceEqDiff, p5, reduceCtorEq, p0, p6, p1]
      · have hx : min1 Z th n (i + 1) = min1 Z th n i ++ [(i : Int)] := by
          show min1 Z th n i ++ _ = _
          rw [hz]; simp [hc]
        unfold isM at hc
        have f1 : (z.1 == 3) = true := by cases f : z.1 == 3 <;> simp [f] at hc ⊢
        have f2 : (z.2.1 == th) = true := by cases f : z.2.1 == th <;> simp [f] at hc ⊢
        have f3 : (z.2.2.1 == (n : Int)) = true := by cases f : z.2.2.1 == (n : Int) <;> simp [f] at hc ⊢
        obtain ⟨v', H3, ea, w3, n3, o3, b3⟩ := Wr.one (z := [.i .i64 0]) (y := 8) (sz := 1) (ex := true) rfl w2 (xs := [.i .i64 (i : Int)]) rfl (by rw [List.length_append]; omega)
        have k3 : Keeps H H3 := ⟨Nat.le_trans k2.1 n3, fun c hc => (o3 c (Nat.lt_of_lt_of_le hc k2.1) (fun e => by have := b2 c e; omega)).trans (k2.2 c hc)⟩
        obtain ⟨a4, lo4, ex4, sz4, hv4⟩ := w2.len
        subst hv4
        simp only [l31_9, runR_seq, r31_5, aops_cons, aop, ev_t, p7, thenOps_some, put_some, upd_get, reduceCtorEq, ↓reduceIte, p0, Nat.zero_add, aload, hR2.o, apart, List.getElem?_cons_succ, List.getElem?_cons_zero, withH_some', aBin, Nat.reduceEqDiff, BinOp.isShift, Bool.false_eq_true, or_true, aInt_lss, d2, decide_true, aops_nil, regR_some, runR_cond', condR_b, runR_skip, runR_block, r31_6, and_self, Int.toNat_natCast, Nat.add_zero, hr, e0, ev_c, aInt_eql, f1, aops_g, gOps_b, Nat.add_assoc, e1', p1, f2, e2', p6, f3, r31_7, p5, afill, AV.cells, List.length_cons, List.length_nil, zerosA, List.append_nil, Nat.reduceLeDiff, setR_z, setR_e, ea, runR_inBlock, r31_8, aInt_add, hwi]
        refine ih2 _ _ ⟨?_, ?_, ?_, ?_, k3, v', ?_, ?_, fun c hc => (b3 c hc).elim (b2 c) (fun e => Nat.le_trans k2.1 e)⟩
        case refine_6 =>
          rw [hx, ← List.append_assoc, List.length_append, List.map_append]
          exact w3
        all_goals simp only [upd_get, ↓reduceIte, reduceCtorEq, p0, Nat.reduceEqDiff, Nat.succ_ne_self, p6, p1]
    · rintro t2 H2 ⟨p0, p1, p6, p7, k2, v2, p5, w2, b2⟩
      have hR2 := h.keeps k2
      have d1 : decide ((Z.length : Int) < (Z.length : Int)) = false := by simp
      subst hsv
      simp only [l31_9, runR_seq, r31_5, aops_cons, aop, ev_t, p7, thenOps_some, put_some, upd_get, reduceCtorEq, ↓reduceIte, p0, Nat.zero_add, aload, hR2.o, apart, List.getElem?_cons_succ, List.getElem?_cons_zero, withH_some', aBin, Nat.reduceEqDiff, BinOp.isShift, Bool.false_eq_true, or_true, aInt_lss, d1, aops_nil, regR_some, runR_cond', condR_b, runR_exit', aexit_code, aexit_inLoop, aexit_inBlock, exitR_some, runR_inBlock, r31_10, p6, ev_c, aInt_add, hwn]
      refine ih _ _ ⟨?_, ?_, ?_, k2, v2, ?_, w2, b2⟩
      all_goals simp only [upd_get, ↓reduceIte, Nat.reduceEqDiff, p5, p1, reduceCtorEq, p0]
    · refine ⟨?_, ?_, ?_, ?_, hk, v, ?_, by simpa [min1] using hw, hb⟩
      all_goals simp only [upd_get, Nat.reduceEqDiff, ↓reduceIte, q1, q5, q6, cast_of, reduceCtorEq, q0]
  · rintro t' H' ⟨q0, q1, q6, hk, v, q5, hw, hb⟩
    have hR := h.keeps hk
    have c1 : decide (((N + 1 : Nat) : Int) ≤ (N : Int)) = false := by simp; omega
    simp only [l31_11, runR_seq, r31_3, aops_cons, aop, ev_t, q6, thenOps_some, put_some, upd_get, reduceCtorEq, ↓reduceIte, q0, Nat.zero_add, aload, hR.o, apart, List.getElem?_cons_succ, List.getElem?_cons_zero, withH_some', aBin, Nat.reduceEqDiff, BinOp.isShift, Bool.false_eq_true, or_true, aInt_leq, c1, aops_nil, regR_some, runR_cond', condR_b, runR_exit', aexit_code, aexit_inLoop, aexit_inBlock, exitR_some, r31_12, q5, runR_ret, afinish_def, s31, aresults, aresult, aback]
    exact Sp.ret (hQ _ _ ⟨hw, hk, hb⟩)
  · refine ⟨?_, ?_, ?_, Keeps.refl _, .sl none 0 0 true 0, ?_, Wr.nil, fun b hb => by cases hb⟩
    all_goals simp only [upd_get, Nat.reduceEqDiff, ↓reduceIte, ainit_get, List.getD_cons_succ, List.getD_cons_zero, reduceCtorEq, cast_of]
theorem first_spec (h : IsR H r sv bl N Z) (hZ : Z.length ≤ 200) (at' : Int) : callR tbl 32 [.p (some (r, 0)), .i .i64 at'] H = some (.i .i64 (firZ Z at'), H) := by
  obtain ⟨sa, slo, sex, ssz, hsv⟩ := h.w.len
  have e0 : ∃ (u : AV) (H' : AH), callR tbl 32 [.p (some (r, 0)), .i .i64 at'] H = some (.i .i64 (firZ Z at'), H') ∧ H' = H := by
    refine Sp.two (α := AV) (f := fun _ => .i .i64 (firZ Z at')) fun Q hQ => ?_
    simp only [c32, b32, runR_seq, r32_0, aops_cons, aop, ev_c, thenOps_some, put_some, aops_nil, regR_some, r32_1, runR_block]
    rw [runR_loop, ← runR_inLoop]
    refine loop_law Z.length (fun i t' H' => t' 0 = .p (some (r, 0)) ∧ t' 1 = .i .i64 at' ∧ t' 5 = .i .i64 i ∧ H' = H ∧ ∀ j z, j < i → Z[j]? = some z → (z.1 == at') = false) (fun r => Sp r Q) ?_ ?_ 0 _ H (Nat.zero_le _) ?_
    · rintro i t' H' hi ⟨q0, q1, q5, rfl, hno⟩ ih
      have d1 : decide ((i : Int) < (Z.length : Int)) = true := by simp; omega
      have d2 : 0 ≤ (i : Int) ∧ (i : Int) < (Z.length : Int) := by omega
      have hwi := wr1 (i := i) (by omega)
      obtain ⟨z, hz⟩ : ∃ z, Z[i]? = some z := ⟨_, List.getElem?_eq_getElem hi⟩
      obtain ⟨b, o, lo, ex, full, e, hbn, hr, hin, hle, e0, _⟩ := h.slot hz
      subst e
      cases f1 : z.1 == at'
      · simp only [l32_6, runR_seq, r32_2, aops_cons, aop, ev_t, q5, thenOps_some, put_some, upd_get, reduceCtorEq, ↓reduceIte, q0, Nat.zero_add, aload, h.o, apart, List.getElem?_cons_succ, List.getElem?_cons_zero, withH_some', aBin, Nat.reduceEqDiff, BinOp.isShift, Bool.false_eq_true, or_true, aInt_lss, d2, decide_true, aops_nil, regR_some, runR_cond', condR_b, runR_skip, runR_block, r32_3, and_self, Int.toNat_natCast, Nat.add_zero, hr, e0, q1, aInt_eql, f1, runR_inBlock, r32_5, ev_c, aInt_add, hwi]
        refine ih _ _ ⟨?_, ?_, ?_, rfl, fun j y hj hy => ?_⟩
        case refine_4 =>
          rcases Nat.lt_or_ge j i with h1 | h1
          · exact hno j y h1 hy
          · have : j = i := by omega
            subst this
            rw [hz] at hy
            cases hy
            exact f1
        all_goals simp only [upd_get, Nat.reduceEqDiff, ↓reduceIte, q1, reduceCtorEq, q0]
      · simp only [l32_6, runR_seq, r32_2, aops_cons, aop, ev_t, q5, thenOps_some, put_some, upd_get, reduceCtorEq, ↓reduceIte, q0, Nat.zero_add, aload, h.o, apart, List.getElem?_cons_succ, List.getElem?_cons_zero, withH_some', aBin, Nat.reduceEqDiff, BinOp.isShift, Bool.false_eq_true, or_true, aInt_lss, d2, decide_true, aops_nil, regR_some, runR_cond', condR_b, runR_skip, runR_block, r32_3, and_self, Int.toNat_natCast, Nat.add_zero, hr, e0, q1, aInt_eql, f1, r32_4, runR_ret, afinish_def, s32, aresults, aresult, aback]
        have hf : firZ Z at' = (i : Int) := by
          unfold firZ
          have : Z.findIdx? (fun z => z.1 == at') = some i := by
            rw [List.findIdx?_eq_some_iff_getElem]
            refine ⟨hi, ?_, fun j hj => ?_⟩
            · have := (List.getElem?_eq_some_iff.1 hz).2
              rw [this]; exact f1
            · have := hno j (Z[j]'(by omega)) hj (List.getElem?_eq_getElem (by omega))
              rw [this]; decide
          rw [this]
        rw [← hf]
        exact Sp.ret (hQ undefA _ rfl)
    · rintro t' H' ⟨q0, q1, q5, rfl, hno⟩
      have d1 : decide ((Z.length : Int) < (Z.length : Int)) = false := by simp
      subst hsv
      simp only [l32_6, runR_seq, r32_2, aops_cons, aop, ev_t, q5, thenOps_some, put_some, upd_get, reduceCtorEq, ↓reduceIte, q0, Nat.zero_add, aload, h.o, apart, List.getElem?_cons_succ, List.getElem?_cons_zero, withH_some', aBin, Nat.reduceEqDiff, BinOp.isShift, Bool.false_eq_true, or_true, aInt_lss, d1, aops_nil, regR_some, runR_cond', condR_b, runR_exit', aexit_code, aexit_inLoop, aexit_inBlock, exitR_some, r32_7, Int.reduceNeg, ev_c, runR_ret, afinish_def, s32, aresults, aresult, aback]
      have hf : firZ Z at' = -1 := by
        unfold firZ
        have : Z.findIdx? (fun z => z.1 == at') = none := by
          rw [List.findIdx?_eq_none_iff]
          intro z hz
          obtain ⟨j, hj⟩ := List.getElem?_of_mem hz
          exact hno j z (List.getElem?_eq_some_iff.1 hj).1 hj
        rw [this]
      rw [← hf]
      exact Sp.ret (hQ undefA _ rfl)
    · refine ⟨?_, ?_, ?_, rfl, fun j z hj => by omega⟩
      all_goals simp only [upd_get, Nat.reduceEqDiff, ↓reduceIte, ainit_get, List.getD_cons_succ, List.getD_cons_zero, reduceCtorEq, cast_of]
  obtain ⟨u, H', e, rfl⟩ := e0
  exact e
theorem count_spec (h : IsR H r sv bl N Z) (hZ : Z.length ≤ 200) (at' : Int) : callR tbl 34 [.p (some (r, 0)), .i .i64 at'] H = some (.i .i64 (cntZ Z at'), H) := by
  obtain ⟨sa, slo, sex, ssz, hsv⟩ := h.w.len
  have e0 : ∃ (u : AV) (H' : AH), callR tbl 34 [.p (some (r, 0)), .i .i64 at'] H = some (.i .i64 (cntZ Z at'), H') ∧ H' = H := by
    refine Sp.two (α := AV) (f := fun _ => .i .i64 (cntZ Z at')) fun Q hQ => ?_
    simp only [c34, b34, runR_seq, r34_0, aops_cons, aop, ev_c, thenOps_some, put_some, aops_nil, regR_some, r34_1, r34_2, runR_block]
    rw [runR_loop, ← runR_inLoop]
    refine loop_law Z.length (fun i t' H' => t' 0 = .p (some (r, 0)) ∧ t' 1 = .i .i64 at' ∧ t' 6 = .i .i64 i ∧ t' 5 = .i .i64 (cntZ (Z.take i) at') ∧ H' = H) (fun r => Sp r Q) ?_ ?_ 0 _ H (Nat.zero_le _) ?_
    · rintro i t' H' hi ⟨q0, q1, q6, q5, rfl⟩ ih
      have d1 : decide ((i : Int) < (Z.length : Int)) = true := by simp; omega
      have d2 : 0 ≤ (i : Int) ∧ (i : Int) < (Z.length : Int) := by omega
      have hwi := wr1 (i := i) (by omega)
      obtain ⟨z, hz⟩ : ∃ z, Z[i]? = some z := ⟨_, List.getElem?_eq_getElem hi⟩
      obtain ⟨b, o, lo, ex, full, e, hbn, hr, hin, hle, e0, _⟩ := h.slot hz
      subst e
      have hcl : cntZ (Z.take i) at' ≤ i := by
        have : cntZ (Z.take i) at' ≤ (Z.take i).length := List.countP_le_length ..
        rw [List.length_take] at this; omega
      have hct : cntZ (Z.take (i + 1)) at' = cntZ (Z.take i) at' + (if z.1 == at' then 1 else 0) := by
        unfold cntZ
        rw [List.take_add_one, hz, List.countP_append]
        simp [List.countP_cons]
      cases f1 : z.1 == at'
      · rw [f1] at hct
        simp only [l34_7, runR_seq, r34_3, aops_cons, aop, ev_t, q6, thenOps_some, put_some, upd_get, reduceCtorEq, ↓reduceIte, q0, Nat.zero_add, aload, h.o, apart, List.getElem?_cons_succ, List.getElem?_cons_zero, withH_some', aBin, Nat.reduceEqDiff, BinOp.isShift, Bool.false_eq_true, or_true, aInt_lss, d2, decide_true, aops_nil, regR_some, runR_cond', condR_b, runR_skip, runR_block, r34_4, and_self, Int.toNat_natCast, Nat.add_zero, hr, e0, q1, aInt_eql, f1, runR_inBlock, r34_6, ev_c, aInt_add, hwi]
        refine ih _ _ ⟨?_, ?_, ?_, ?_, rfl⟩
        case refine_4 => rw [hct]; simp only [upd_get, Nat.reduceEqDiff, ↓reduceIte, q5, Bool.false_eq_true, Nat.add_zero]; try simp
        all_goals simp only [upd_get, Nat.reduceEqDiff, ↓reduceIte, q1, reduceCtorEq, q0]
      · rw [f1] at hct
        have hwc := wr1 (i := cntZ (Z.take i) at') (by omega)
        simp only [l34_7, runR_seq, r34_3, aops_cons, aop, ev_t, q6, thenOps_some, put_some, upd_get, reduceCtorEq, ↓reduceIte, q0, Nat.zero_add, aload, h.o, apart, List.getElem?_cons_succ, List.getElem?_cons_zero, withH_some', aBin, Nat.reduceEqDiff, BinOp.isShift, Bool.false_eq_true, or_true, aInt_lss, d2, decide_true, aops_nil, regR_some, runR_cond', condR_b, runR_skip, runR_block, r34_4, and_self, Int.toNat_natCast, Nat.add_zero, hr, e0, q1, aInt_eql, f1, r34_5, q5, ev_c, aInt_add, hwc, runR_inBlock, r34_6, Nat.succ_ne_self, hwi]
        refine ih _ _ ⟨?_, ?_, ?_, ?_, rfl⟩
        case refine_4 => rw [hct]; simp only [upd_get, Nat.reduceEqDiff, ↓reduceIte]; try simp
        all_goals simp only [upd_get, Nat.reduceEqDiff, ↓reduceIte, q1, reduceCtorEq, q0]
    · rintro t' H' ⟨q0, q1, q6, q5, rfl⟩
      have d1 : decide ((Z.length : Int) < (Z.length : Int)) = false := by simp
      rw [List.take_length] at q5
      subst hsv
      simp only [l34_7, runR_seq, r34_3, aops_cons, aop, ev_t, q6, thenOps_some, put_some, upd_get, reduceCtorEq, ↓reduceIte, q0, Nat.zero_add, aload, h.o, apart, List.getElem?_cons_succ, List.getElem?_cons_zero, withH_some', aBin, Nat.reduceEqDiff, BinOp.isShift, Bool.false_eq_true, or_true, aInt_lss, d1, aops_nil, regR_some, runR_cond', condR_b, runR_exit', aexit_code, aexit_inLoop, aexit_inBlock, exitR_some, r34_8, q5, runR_ret, afinish_def, s34, aresults, aresult, aback]
      exact Sp.ret (hQ undefA _ rfl)
    · refine ⟨?_, ?_, ?_, ?_, rfl⟩
      all_goals simp only [upd_get, Nat.reduceEqDiff, ↓reduceIte, ainit_get, List.getD_cons_succ, List.getD_cons_zero, List.take_zero, reduceCtorEq, cast_of]
      rfl
  obtain ⟨u, H', e, rfl⟩ := e0
  exact e
end
def setAt (Z : List Z4) (i : Nat) (a : Int) : List Z4 := match Z[i]? with
  | some z => Z.set i (a, z.2.1, z.2.2.1, z.2.2.2)
  | none => Z
theorem setAt_at {Z : List Z4} {i : Nat} {z : Z4} (a : Int) (h : Z[i]? = some z) : setAt Z i a = Z.set i (a, z.2.1, z.2.2.1, z.2.2.2) := by unfold setAt; rw [h]
theorem setAt_len (Z : List Z4) (i : Nat) (a : Int) : (setAt Z i a).length = Z.length := by
  unfold setAt
  split
  · rw [List.length_set]
  · rfl
theorem min1_mem {Z : List Z4} {th n : Int} : ∀ {k : Nat} {x : Int}, x ∈ min1 Z th n k → ∃ (i : Nat) (z : Z4), x = i ∧ i < k ∧ Z[i]? = some z ∧ isM z th n = true
  | 0, x, h => by cases h
  | k + 1, x, h => by
    unfold min1 at h
    rcases List.mem_append.1 h with h | h
    · obtain ⟨i, z, h1, h2, h3⟩ := min1_mem h
      exact ⟨i, z, h1, by omega, h3⟩
    · split at h
      · rename_i hc
        have hx : x = k := by simpa using h
        cases hz : Z[k]? with
        | none => rw [hz] at hc; simp at hc
        | some z => rw [hz] at hc; exact ⟨k, z, hx, by omega, hz, by simpa using hc⟩
      · cases h
theorem minN_mem {Z : List Z4} {th : Int} : ∀ {n : Nat} {x : Int}, x ∈ minN Z th n → ∃ (i : Nat) (z : Z4) (c : Nat), x = i ∧ c < n ∧ Z[i]? = some z ∧ isM z th c = true
  | 0, x, h => by cases h
  | n + 1, x, h => by
    unfold minN at h
    rcases List.mem_append.1 h with h | h
    · obtain ⟨i, z, c, h1, h2, h3⟩ := minN_mem h
      exact ⟨i, z, c, h1, by omega, h3⟩
    · obtain ⟨i, z, h1, h2, h3, h4⟩ := min1_mem h
      exact ⟨i, z, n, h1, by omega, h3, h4⟩
theorem fold_len (D : List Int) : ∀ Z : List Z4, (D.foldl (fun Z x => setAt Z x.toNat 2) Z).length = Z.length := by
  induction D with
  | nil => intro Z; rfl
  | cons x D ih => intro Z; rw [List.foldl_cons, ih, setAt_len]
section
variable {H : AH} {r : Nat} {sv : AV} {bl N : Int} {Z : List Z4}
theorem trn_in {b : Nat} {x : AObj} {F : Nat → Prop} (hb : F b) : Trn H (H.set b x) F F :=
  ⟨Nat.le_refl _, fun c _ hc => hs_off (fun e => hc (by rw [e]; exact hb)), fun c h => Or.inl h⟩
theorem IsR.setN (h : IsR H r sv bl N Z) (N' : Int) : IsR (H.set r (.row false [.i .i64 bl, .i .i64 N', sv])) r sv bl N' Z :=
  ⟨h.lr, by rw [AH_set_o, if_pos rfl], h.w.keep (Nat.le_refl _) (fun b hb _ => hs_off (h.nb b hb)), h.nb⟩
theorem rflush_spec {N : Nat} (h : IsR H r sv bl (N : Int) Z) (hN : N ≤ 200) (hZ : Z.length ≤ 200) (th : Int) : ∃ H', callR tbl 19 [.p (some (r, 0)), .i .i64 th] H = some (.i .i64 (minN Z th (N + 1)).length, H') ∧ IsR H' r sv bl N ((minN Z th (N + 1)).foldl (fun Z x => setAt Z x.toNat 2) Z) ∧ Trn H H' (FR r sv) (FR r sv) := by
  obtain ⟨v, H1, e1, w1, k1, b1⟩ := mine_spec h hN hZ th
  obtain ⟨D, hD⟩ : ∃ D, D = minN Z th (N + 1) := ⟨_, rfl⟩
  have hDm : ∀ x ∈ D, 0 ≤ x ∧ x < Z.length := by
    intro x hx
    rw [hD] at hx
    obtain ⟨i, z, c, rfl, _, hz, _⟩ := minN_mem hx
    have := (List.getElem?_eq_some_iff.1 hz).1
    omega
  have hDl : D.length ≤ 201 * 200 := by rw [hD]; exact Nat.le_trans (minN_len Z th (N + 1)) (Nat.mul_le_mul (by omega) hZ)
  rw [← hD] at w1 ⊢
  obtain ⟨a, lo, ex, sz', hve⟩ := w1.len
  subst hve
  have hvF : ∀ b, blk (.sl a D.length lo ex sz') = some b → ¬ FR r sv b := fun b hb hf => by have := h.old hf; have := b1 b hb; omega
  refine Sp.one fun Q hQ => ?_
  simp only [c19, b19, runR_seq, r19_0, aops_cons, aop, ev_c, thenOps_some, put_some, aops_nil, regR_some, r19_1, ev_t, upd_get, reduceCtorEq, ↓reduceIte, ainit_get, List.getD_cons_zero, Nat.reduceEqDiff, List.getD_cons_succ, asX_cons, asX_nil, e1, r19_2, runR_block]
  rw [runR_loop, ← runR_inLoop]
  refine loop_law D.length (fun i t' H' => t' 0 = .p (some (r, 0)) ∧ t' 5 = .sl a D.length lo ex sz' ∧ t' 6 = .i .i64 i ∧ IsR H' r sv bl N ((D.take i).foldl (fun Z x => setAt Z x.toNat 2) Z) ∧ Trn H1 H' (FR r sv) (FR r sv)) (fun r => Sp r Q) ?_ ?_ 0 _ H1 (Nat.zero_le _) ?_
  · rintro i t' H' hi ⟨q0, q5, q6, hR, tr⟩ ih
    have c1 : decide ((i : Int) < (D.length : Int)) = true := by simp; omega
    have c2 : 0 ≤ (i : Int) ∧ (i : Int) < (D.length : Int) := by omega
    have hwi := wr1 (i := i) (by omega)
    obtain ⟨x, hx⟩ : ∃ x, D[i]? = some x := ⟨_, List.getElem?_eq_getElem hi⟩
    obtain ⟨b, o, lo', ex', sz2, ro, full, e, hb, hr, hel⟩ := w1.rs.el1 hx
    cases e
    have hr' : H'.o b = _ := (tr.o b hb (hvF b rfl)).trans hr
    obtain ⟨x0, x1⟩ := hDm x (List.mem_of_getElem? hx)
    obtain ⟨j, rfl⟩ := Int.eq_ofNat_of_zero_le x0
    obtain ⟨Z1, hZ1⟩ : ∃ Z1, Z1 = (D.take i).foldl (fun Z x => setAt Z x.toNat 2) Z := ⟨_, rfl⟩
    rw [← hZ1] at hR
    have hZl : Z1.length = Z.length := by rw [hZ1]; exact fold_len _ _
    obtain ⟨z, hz⟩ : ∃ z, Z1[j]? = some z := ⟨_, List.getElem?_eq_getElem (by omega)⟩
    obtain ⟨b2, o2, lo2, ex2, full2, e2, hbn2, hr2, hin, hle, _, _, _, _, hbr, k2, _⟩ := hR.slot hz
    have c3 : 0 ≤ (j : Int) ∧ (j : Int) < (Z1.length : Int) := by omega
    have hR2 := k2 2
    rw [← setAt_at 2 hz] at hR2
    have hFb : FR r sv b2 := Or.inr (by rw [e2]; rfl)
    have hle2 : o2 + (j * 4 + 1) ≤ full2.length := by omega
    have hRo := hR.o
    rw [e2] at hRo
    simp only [l19_6, runR_seq, r19_3, aops_cons, aop, ev_t, q6, thenOps_some, put_some, upd_get, Nat.reduceEqDiff, ↓reduceIte, q5, aBin, BinOp.isShift, Bool.false_eq_true, or_true, aInt_lss, c2, decide_true, withH_some', aops_nil, regR_some, runR_cond', condR_b, runR_skip, runR_block, r19_4, reduceCtorEq, q0, Nat.zero_add, aload, hRo, apart, List.getElem?_cons_succ, List.getElem?_cons_zero, and_self, Int.toNat_natCast, Nat.mul_one, hr', hel, c3, Nat.add_zero, astore, ev_c, hr2, AV.cells, List.length_cons, List.length_nil, Nat.add_assoc, hle2, withU_some', put_none, runR_inBlock, r19_5, aInt_add, hwi]
    refine ih _ _ ⟨?_, ?_, ?_, ?_, tr.trans (trn_in hFb)⟩
    case refine_4 =>
      have : D.take (i + 1) = D.take i ++ [(j : Int)] := by rw [List.take_add_one, hx]; rfl
      rw [this, List.foldl_append, ← hZ1]
      exact hR2
    all_goals simp only [upd_get, ↓reduceIte, Nat.reduceEqDiff, q5, reduceCtorEq, q0]
  · rintro t' H' ⟨q0, q5, q6, hR, tr⟩
    have c1 : decide ((D.length : Int) < (D.length : Int)) = false := by simp
    rw [List.take_length] at hR
    simp only [l19_6, runR_seq, r19_3, aops_cons, aop, ev_t, q6, thenOps_some, put_some, upd_get, Nat.reduceEqDiff, ↓reduceIte, q5, aBin, BinOp.isShift, Bool.false_eq_true, or_true, aInt_lss, c1, withH_some', aops_nil, regR_some, runR_cond', condR_b, runR_exit', aexit_code, aexit_inLoop, aexit_inBlock, exitR_some, r19_7, runR_ret, afinish_def, s19, aresults, aresult, aback]
    exact Sp.ret (hQ _ ⟨hR, (Trn.of_keeps k1).trans tr⟩)
  · refine ⟨?_, ?_, ?_, h.keeps k1, Trn.refl⟩
    all_goals simp only [upd_get, Nat.reduceEqDiff, ↓reduceIte, reduceCtorEq, ainit_get, List.getD_cons_zero, cast_of]
theorem rfree_bad (h : IsR H r sv bl N Z) {th n : Int} (hb : ¬ (0 ≤ th ∧ th < 256) ∨ n < 0 ∨ (Z.length : Int) ≤ n ∨ ∃ z, Z[n.toNat]? = some z ∧ z.1 ≠ 1) : callR tbl 18 [.p (some (r, 0)), .i .i64 th, .i .i64 n] H = some (.i .i64 1, H) := by
  obtain ⟨sa, slo, sex, ssz, hsv⟩ := h.w.len
  cases c1 : decide (0 ≤ th ∧ th < 256)
  · simp only [c18, b18, runR_seq, r18_0, aops_cons, aop, ev_c, thenOps_some, put_some, aops_nil, regR_some, r18_1, ev_t, upd_get, Nat.reduceEqDiff, ↓reduceIte, ainit_get, List.getD_cons_succ, List.getD_cons_zero, asX_cons, asX_nil, ris_spec, c1, aUn_not, Bool.not_false, withH_some', aops_g, gOps_b, Bool.true_eq_false, runR_cond', condR_b, r18_2, runR_ret, afinish_def, s18, aresults, aresult, aback]
  · cases c2 : decide (n < 0)
    · cases c3 : decide (n ≥ (Z.length : Int))
      · have h0 : 0 ≤ n := by simp at c2; omega
        obtain ⟨i, rfl⟩ := Int.eq_ofNat_of_zero_le h0
        have hz : ∃ z, Z[i]? = some z ∧ z.1 ≠ 1 := by
          rcases hb with hb | hb | hb | hb
          · exact absurd (by simpa using c1) hb
          · simp at c2; omega
          · simp at c3; omega
          · simpa using hb
        obtain ⟨z, hz, hz1⟩ := hz
        obtain ⟨b, o, lo, ex, full, e, hbn, hr, hin, hle, e0, _⟩ := h.slot hz
        have c4 : 0 ≤ (i : Int) ∧ (i : Int) < (Z.length : Int) := by omega
        have c5 : (z.1 != 1) = true := by simpa using hz1
        have ho := h.o
        rw [e] at ho
        simp only [c18, b18, runR_seq, r18_0, aops_cons, aop, ev_c, thenOps_some, put_some, aops_nil, regR_some, r18_1, ev_t, upd_get, Nat.reduceEqDiff, ↓reduceIte, ainit_get, List.getD_cons_succ, List.getD_cons_zero, asX_cons, asX_nil, ris_spec, c1, aUn_not, Bool.not_true, withH_some', aops_g, gOps_b, aBin, BinOp.isShift, Bool.false_eq_true, or_true, aInt_lss, c2, reduceCtorEq, Nat.zero_add, aload, ho, apart, List.getElem?_cons_succ, List.getElem?_cons_zero, aInt_geq, GE.ge, c3, c4, and_self, Int.toNat_natCast, Nat.add_zero, hr, e0, aInt_neq, c5, runR_cond', condR_b, r18_2, runR_ret, afinish_def, s18, aresults, aresult, aback]
      · have ho := h.o
        rw [hsv] at ho
        simp only [c18, b18, runR_seq, r18_0, aops_cons, aop, ev_c, thenOps_some, put_some, aops_nil, regR_some, r18_1, ev_t, upd_get, Nat.reduceEqDiff, ↓reduceIte, ainit_get, List.getD_cons_succ, List.getD_cons_zero, asX_cons, asX_nil, ris_spec, c1, aUn_not, Bool.not_true, withH_some', aops_g, gOps_b, aBin, BinOp.isShift, Bool.false_eq_true, or_true, aInt_lss, c2, reduceCtorEq, Nat.zero_add, aload, ho, apart, List.getElem?_cons_succ, List.getElem?_cons_zero, aInt_geq, GE.ge, c3, Bool.true_eq_false, runR_cond', condR_b, r18_2, runR_ret, afinish_def, s18, aresults, aresult, aback]
    · simp only [c18, b18, runR_seq, r18_0, aops_cons, aop, ev_c, thenOps_some, put_some, aops_nil, regR_some, r18_1, ev_t, upd_get, Nat.reduceEqDiff, ↓reduceIte, ainit_get, List.getD_cons_succ, List.getD_cons_zero, asX_cons, asX_nil, ris_spec, c1, aUn_not, Bool.not_true, withH_some', aops_g, gOps_b, aBin, BinOp.isShift, Bool.false_eq_true, or_true, aInt_lss, c2, Bool.true_eq_false, runR_cond', condR_b, r18_2, runR_ret, afinish_def, s18, aresults, aresult, aback]
def freeZ (bl : Int) (th c g : Int) (m : Nat) : Z4 := ((if g = 16777215 then 4 else if (m : Int) < bl then 3 else 2), th, c, if g = 16777215 then g else g + 1)
theorem rfree_spec {N : Nat} (h : IsR H r sv bl (N : Int) Z) (hN : N ≤ 150) (hZ : Z.length ≤ 200) {th : Int} (ht : 0 ≤ th ∧ th < 256) {i : Nat} {z : Z4} (hi : Z[i]? = some z) (hz : z.1 = 1) (hg : 0 ≤ z.2.2.2 ∧ z.2.2.2 ≤ 16777215) :
    ∃ H', callR tbl 18 [.p (some (r, 0)), .i .i64 th, .i .i64 i] H = some (.i .i64 0, H') ∧ IsR H' r sv bl (N + 1 : Nat) (Z.set i (freeZ bl th (N + 1 : Nat) z.2.2.2 (minN Z th (N + 1 + 1)).length)) ∧ Trn H H' (FR r sv) (FR r sv) := by
  obtain ⟨b, o, lo, ex, full, e, hbn, hr, hin, hle, e0, e1, e2, e3, hbr, _⟩ := h.slot hi
  have hin' := hin
  have c1 : decide (0 ≤ th ∧ th < 256) = true := by simpa using ht
  have c2 : decide ((i : Int) < 0) = false := by simp
  have c3 : decide ((i : Int) ≥ (Z.length : Int)) = false := by simp; omega
  have c4 : 0 ≤ (i : Int) ∧ (i : Int) < (Z.length : Int) := by omega
  have c5 : (z.1 != 1) = false := by rw [hz]; rfl
  have ho := h.o
  rw [e] at ho
  have hwN := wr1 (i := N) (by omega)
  have h1 := h.setN ((N + 1 : Nat) : Int)
  obtain ⟨H1, hH1⟩ : ∃ H1, H1 = H.set r (.row false [.i .i64 bl, .i .i64 (N + 1 : Nat), .sl (some (b, o)) Z.length lo ex 4]) := ⟨_, rfl⟩
  rw [e, ← hH1] at h1
  rw [e]
  have o1 := h1.o
  have hr1 : H1.o b = some (.row false full) := by rw [hH1, hs_off hbr]; exact hr
  have e3' := e3
  rw [Nat.add_assoc] at e3'
  obtain ⟨H2, hH2⟩ : ∃ H2, H2 = (H1.new (.row false [.i .i64 0, .i .i64 0, .i .i64 0, .i .u32 0])).set H1.n (.row false [.i .i64 2, .i .i64 th, .i .i64 (N + 1 : Nat), .i .u32 z.2.2.2]) := ⟨_, rfl⟩
  have k2 : Keeps H1 H2 := by rw [hH2]; exact (Keeps.refl _).new.set (Nat.le_refl _)
  have oX : H2.o H1.n = some (.row false [.i .i64 2, .i .i64 th, .i .i64 (N + 1 : Nat), .i .u32 z.2.2.2]) := by rw [hH2, AH_set_o, if_pos rfl]
  have lX : H1.n < H2.n := by rw [hH2]; exact Nat.lt_succ_self _
  have tr1 : Trn H H1 (FR r (.sl (some (b, o)) Z.length lo ex 4)) (FR r (.sl (some (b, o)) Z.length lo ex 4)) := by rw [hH1]; exact trn_in (Or.inl rfl)
  refine Sp.one fun Q hQ => ?_
  simp only [c18, b18, runR_seq, r18_0, aops_cons, aop, ev_c, thenOps_some, put_some, aops_nil, regR_some, r18_1, ev_t, upd_get, Nat.reduceEqDiff, ↓reduceIte, ainit_get, List.getD_cons_succ, List.getD_cons_zero, asX_cons, asX_nil, ris_spec, c1, aUn_not, Bool.not_true, withH_some', aops_g, gOps_b, aBin, BinOp.isShift, Bool.false_eq_true, or_true, aInt_lss, c2, reduceCtorEq, Nat.zero_add, aload, ho, apart, List.getElem?_cons_succ, List.getElem?_cons_zero, aInt_geq, GE.ge, c3, c4, and_self, Int.toNat_natCast, Nat.add_zero, hr, e0, aInt_neq, c5, runR_cond', condR_b, runR_skip, r18_3, aInt_add, hwN, astore, AV.cells, List.length_cons, List.length_nil, Nat.reduceAdd, Nat.reduceLeDiff, setR_s, setR_z, setR_e, ← hH1, withU_some', put_none, r18_4, o1, Nat.add_assoc, hr1, e3', afill, hn_o, ← hH2, r18_5, adrn_cons, AOp.kind, nStep_0, thenN_some, nStep_3]
  refine Sp.n2 (f := fun v => v) (mine_spec (h1.keeps k2) (by omega) hZ th) ?_
  rintro v H3 ⟨w3, k3, b3⟩
  obtain ⟨M, hM⟩ : ∃ M, M = (minN Z th (N + 1 + 1)).length := ⟨_, rfl⟩
  rw [← hM] at w3 hQ
  obtain ⟨va, vlo, vex, vsz, hve⟩ := w3.len
  subst hve
  have h3 := (h1.keeps k2).keeps k3
  have o3 := h3.o
  have o2r := (h1.keeps k2).o
  have oX3 := (k3.2 _ lX).trans oX
  have lX3 := k3.lt lX
  have lr3 := h3.lr
  have hrX : r ≠ H1.n := by have := h1.lr; omega
  have hXF : ¬ FR r (.sl (some (b, o)) Z.length lo ex 4) H1.n := fun hf => by have := h1.old hf; omega
  have fin : ∀ (t3 : Nat → AV) (a : Int), t3 0 = .p (some (r, 0)) → t3 2 = .i .i64 i → t3 7 = .p (some (H1.n, 0)) → (z.2.2.2 ≠ 16777215 → a = if (M : Int) < bl then 3 else 2) →
      ∀ H4, H4.o H1.n = some (.row false [.i .i64 a, .i .i64 th, .i .i64 (N + 1 : Nat), .i .u32 z.2.2.2]) → IsR H4 r (.sl (some (b, o)) Z.length lo ex 4) bl (N + 1 : Nat) Z → H1.n < H4.n → Trn H H4 (FR r (.sl (some (b, o)) Z.length lo ex 4)) (FR r (.sl (some (b, o)) Z.length lo ex 4)) →
      Sp (runR tbl a18 (.code (.reg d18_7) :: .code (.cond (.t 68) (.reg d18_8) (.reg d18_9)) :: .code (.seq (.drw d18_10) (.seq (.reg d18_11) .ret)) :: []) t3 H4) Q := by
    intro t3 a y0 y2 y7 ha H4 oX4 h4 lX4 tr4
    have o4 := h4.o
    have fin2 : ∀ (t5 : Nat → AV) (H5 : AH), t5 0 = .p (some (r, 0)) → t5 2 = .i .i64 i → t5 7 = .p (some (H1.n, 0)) → H5.o H1.n = some (.row false (zF (freeZ bl th (N + 1 : Nat) z.2.2.2 M))) → IsR H5 r (.sl (some (b, o)) Z.length lo ex 4) bl (N + 1 : Nat) Z → Trn H H5 (FR r (.sl (some (b, o)) Z.length lo ex 4)) (FR r (.sl (some (b, o)) Z.length lo ex 4)) →
        Sp (runR tbl a18 (.code (.drw d18_10) :: .code (.seq (.reg d18_11) .ret) :: []) t5 H5) Q := by
      intro t5 H5 x0 x2 x7 oX5 h5 tr5
      obtain ⟨b5, o5, lo5, ex5, full5, e5, hbn5, hr5, _, hle5, _, _, _, _, hbr5, _, k5⟩ := h5.slot hi
      injection e5 with q1
      injection q1 with q1
      injection q1 with q1 q2
      subst q1 q2
      have hR5 := k5 (freeZ bl th (N + 1 : Nat) z.2.2.2 M)
      have o5 := h5.o
      have hz4 : ∀ y : Z4, zF y = [.i .i64 y.1, .i .i64 y.2.1, .i .i64 y.2.2.1, .i .u32 y.2.2.2] := fun _ => rfl
      rw [hz4] at oX5 hR5
      have hle6 : o + (i * 4 + 4) ≤ full5.length := by omega
      simp only [r18_10, aops_cons, aop, ev_t, x0, thenOps_some, put_some, upd_get, ↓reduceIte, Nat.zero_add, aload, o5, apart, List.getElem?_cons_succ, List.getElem?_cons_zero, withH_some', Nat.reduceEqDiff, x2, x7, oX5, List.length_cons, List.length_nil, Nat.reduceAdd, Nat.reduceLeDiff, List.drop_zero, List.take_succ_cons, List.take_zero, c4, and_self, Int.toNat_natCast, astore, hr5, AV.cells, Nat.add_assoc, hle6, withU_some', put_none, aops_nil, regR_some, runR_seq, r18_11, ev_c, runR_ret, afinish_def, s18, aresults, aresult, aback]
      exact Sp.ret (hQ _ ⟨hR5, tr5.trans (trn_in (Or.inr rfl))⟩)
    cases c6 : z.2.2.2 == 16777215
    · have hne : ¬ z.2.2.2 = 16777215 := by simpa using c6
      have hwg : IntKind.u32.wrap (z.2.2.2 + 1) = z.2.2.2 + 1 := wrap_u32 (by omega)
      have hfz : zF (freeZ bl th (N + 1 : Nat) z.2.2.2 M) = [.i .i64 a, .i .i64 th, .i .i64 (N + 1 : Nat), .i .u32 (z.2.2.2 + 1)] := by
        unfold freeZ zF
        simp only [if_neg hne]
        rw [ha hne]
      simp only [r18_7, aops_cons, aop, ev_t, y7, Nat.zero_add, thenOps_some, put_some, aload, upd_get, ↓reduceIte, oX4, apart, List.getElem?_cons_succ, List.getElem?_cons_zero, withH_some', aBin, ev_c, BinOp.isShift, Bool.false_eq_true, or_true, aInt_eql, c6, aops_nil, regR_some, runR_cond', condR_b, r18_9, Nat.reduceEqDiff, aInt_add, hwg, astore, AV.cells, List.length_cons, List.length_nil, Nat.reduceAdd, Nat.reduceLeDiff, and_self, setR_s, setR_z, setR_e, withU_some', put_none, runR_seq]
      refine fin2 _ _ ?_ ?_ ?_ (by rw [AH_set_o, if_pos rfl, hfz]) (h4.keep (Nat.le_refl _) (fun c hc => hs_off (fun e => hXF (by rw [← e]; exact hc)))) ?_
      case refine_4 => exact ⟨tr4.n, fun c hc hf => by rw [hs_off (by have := tr1.n; omega)]; exact tr4.o c hc hf, tr4.f⟩
      all_goals simp only [upd_get, reduceCtorEq, ↓reduceIte, y0, Nat.reduceEqDiff, y2, y7]
    · have heq : z.2.2.2 = 16777215 := by simpa using c6
      have hfz : zF (freeZ bl th (N + 1 : Nat) z.2.2.2 M) = [.i .i64 4, .i .i64 th, .i .i64 (N + 1 : Nat), .i .u32 z.2.2.2] := by
        unfold freeZ zF
        simp only [if_pos heq]
      simp only [r18_7, aops_cons, aop, ev_t, y7, Nat.zero_add, thenOps_some, put_some, aload, upd_get, ↓reduceIte, oX4, apart, List.getElem?_cons_succ, List.getElem?_cons_zero, withH_some', aBin, ev_c, BinOp.isShift, Bool.false_eq_true, or_true, aInt_eql, c6, aops_nil, regR_some, runR_cond', condR_b, r18_8, Nat.reduceEqDiff, Nat.add_zero, astore, AV.cells, List.length_cons, List.length_nil, Nat.reduceAdd, Nat.reduceLeDiff, and_self, setR_z, setR_e, withU_some', put_none, runR_seq]
      refine fin2 _ _ ?_ ?_ ?_ (by rw [AH_set_o, if_pos rfl, hfz]) (h4.keep (Nat.le_refl _) (fun c hc => hs_off (fun e => hXF (by rw [← e]; exact hc)))) ?_
      case refine_4 => exact ⟨tr4.n, fun c hc hf => by rw [hs_off (by have := tr1.n; omega)]; exact tr4.o c hc hf, tr4.f⟩
      all_goals simp only [upd_get, reduceCtorEq, ↓reduceIte, y0, Nat.reduceEqDiff, y2, y7]
  have tr3 := (tr1.trans (Trn.of_keeps k2)).trans (Trn.of_keeps k3)
  cases c7 : decide ((M : Int) < bl)
  · simp only [put_some, adrn_cons, AOp.kind, nStep_0, aop, ev_t, upd_get, ↓reduceIte, thenN_some, reduceCtorEq, ainit_get, List.getD_cons_zero, Nat.add_zero, nStep_1, List.take_succ_cons, List.take_zero, asame_more, aload, o3, apart, List.getElem?_cons_zero, withH_some', asame_one, o2r, fst1_some, both_same, thenNL_some, aBin, Nat.reduceEqDiff, BinOp.isShift, Bool.false_eq_true, or_true, aInt_lss, c7, adrn_nil, regR_some, runR_cond', condR_b, runR_skip, runR_seq]
    refine fin _ 2 ?_ ?_ ?_ (fun _ => by rw [if_neg (by simpa using c7)]) H3 oX3 h3 lX3 tr3
    all_goals simp only [upd_get, Nat.reduceEqDiff, ↓reduceIte, ainit_get, List.getD_cons_succ, List.getD_cons_zero, reduceCtorEq]
  · simp only [put_some, adrn_cons, AOp.kind, nStep_0, aop, ev_t, upd_get, ↓reduceIte, thenN_some, reduceCtorEq, ainit_get, List.getD_cons_zero, Nat.add_zero, nStep_1, List.take_succ_cons, List.take_zero, asame_more, aload, o3, apart, List.getElem?_cons_zero, withH_some', asame_one, o2r, fst1_some, both_same, thenNL_some, aBin, Nat.reduceEqDiff, BinOp.isShift, Bool.false_eq_true, or_true, aInt_lss, c7, adrn_nil, regR_some, runR_cond', condR_b, r18_6, aops_cons, thenOps_some, astore, ev_c, oX3, AV.cells, List.length_cons, List.length_nil, Nat.zero_add, Nat.reduceAdd, Nat.reduceLeDiff, and_self, setR_z, setR_e, withU_some', put_none, aops_nil, runR_seq]
    refine fin _ 3 ?_ ?_ ?_ (fun _ => by rw [if_pos (by simpa using c7)]) _ (by rw [AH_set_o, if_pos rfl]) (h3.keep (Nat.le_refl _) (fun c hc => hs_off (fun e => hXF (by rw [← e]; exact hc)))) lX3 ?_
    case refine_4 => exact ⟨tr3.n, fun c hc hf => by rw [hs_off (by have := tr1.n; omega)]; exact tr3.o c hc hf, tr3.f⟩
    all_goals simp only [upd_get, Nat.reduceEqDiff, ↓reduceIte, ainit_get, List.getD_cons_succ, List.getD_cons_zero, reduceCtorEq]
end
def growZ (Z : List Z4) (i k : Nat) : List Z4 := (List.range k).foldl (fun Z j => setAt Z (i + j) 2) Z
theorem growZ_succ (Z : List Z4) (i k : Nat) : growZ Z i (k + 1) = setAt (growZ Z i k) (i + k) 2 := by
  unfold growZ
  rw [List.range_succ, List.foldl_append]
  rfl
theorem growZ_len (Z : List Z4) (i : Nat) : ∀ k, (growZ Z i k).length = Z.length
  | 0 => rfl
  | k + 1 => by rw [growZ_succ, setAt_len, growZ_len Z i k]
section
variable {H0 H : AH} {r : Nat} {sv : AV} {Z : List Z4} {Q : AV → AH → Prop}
theorem rt_tail {bl N : Int} (h : IsR H r sv bl N Z) (tr : Trn H0 H (FR r sv) (FR r sv)) {i : Nat} {z : Z4} (hi : Z[i]? = some z) {t : Nat → AV} (q0 : t 0 = .p (some (r, 0))) (q7 : t 7 = .i .i64 i)
    (hQ : ∀ H', IsR H' r sv bl N (setAt Z i 1) → Trn H0 H' (FR r sv) (FR r sv) → Q (.tup [.i .i64 i, .i .u32 z.2.2.2, .i .i64 0]) H') :
    Sp (runR tbl a20 (.code (.reg d20_16) :: .code (.cond (.t 66) (.seq (.reg d20_17) .ret) .skip) :: .code (.seq (.reg d20_18) (.seq (.drw d20_19) .ret)) :: []) t H) Q := by
  obtain ⟨b, o, lo, ex, full, e, hbn, hr, hin, hle, e0, e1, e2, e3, hbr, k1, _⟩ := h.slot hi
  have hR := k1 1
  rw [← setAt_at 1 hi] at hR
  have ho := h.o
  rw [e] at ho
  have c1 : decide ((i : Int) < 0) = false := by simp
  have c2 : 0 ≤ (i : Int) ∧ (i : Int) < (Z.length : Int) := by omega
  have hle1 : o + i * 4 + 1 ≤ full.length := by omega
  have hle2 : o + (i * 4 + 1) ≤ full.length := by omega
  have g1 : (setR full (o + i * 4) [.i .i64 1])[o + i * 4 + 3]? = some (.i .u32 z.2.2.2) := by rw [setR_set1 (by omega), List.getElem?_set_ne (by omega)]; exact e3
  have g2 := g1
  rw [Nat.add_assoc] at g2
  have nm : (r = b) = False := eq_false (Ne.symm hbr)
  simp only [r20_16, aops_cons, aop, ev_t, q7, thenOps_some, put_some, aBin, upd_get, ↓reduceIte, ev_c, BinOp.isShift, Bool.false_eq_true, or_true, aInt_lss, c1, withH_some', aops_nil, regR_some, runR_cond', condR_b, runR_skip, runR_seq, r20_18, reduceCtorEq, q0, Nat.zero_add, aload, ho, apart, List.getElem?_cons_succ, List.getElem?_cons_zero, Nat.reduceEqDiff, c2, and_self, Int.toNat_natCast, Nat.add_zero, astore, hr, AV.cells, List.length_cons, List.length_nil, Nat.add_assoc, hle2, withU_some', put_none, r20_19, hs_o, nm, g2, runR_ret, afinish_def, s20, aresults, aresult, aback]
  exact Sp.ret (hQ _ hR (tr.trans (trn_in (Or.inr (by rw [e]; rfl)))))
end
section
variable {H : AH} {r : Nat} {sv : AV} {Z : List Z4} {bl N : Nat}
theorem rt_bad {bl N : Int} (h : IsR H r sv bl N Z) {th : Int} (ht : ¬ (0 ≤ th ∧ th < 256)) : callR tbl 20 [.p (some (r, 0)), .i .i64 th] H = some (.tup [.i .i64 0, .i .u32 0, .i .i64 1], H) := by
  have c1 : decide (0 ≤ th ∧ th < 256) = false := by simpa using ht
  simp only [c20, b20, runR_seq, r20_0, aops_cons, aop, ev_c, thenOps_some, put_some, aops_nil, regR_some, r20_1, ev_t, upd_get, Nat.reduceEqDiff, ↓reduceIte, ainit_get, List.getD_cons_succ, List.getD_cons_zero, asX_cons, asX_nil, ris_spec, c1, aUn_not, Bool.not_false, withH_some', runR_cond', condR_b, r20_2, runR_ret, afinish_def, s20, aresults, aresult, aback]
theorem rt_own (h : IsR H r sv bl N Z) (hN : N ≤ 200) (hZ : Z.length ≤ 200) {th : Int} (ht : 0 ≤ th ∧ th < 256) {l : List Int} {i : Nat} {z : Z4} (hD : minN Z th (N + 1) = l ++ [(i : Int)]) (hi : Z[i]? = some z) :
    ∃ H', callR tbl 20 [.p (some (r, 0)), .i .i64 th] H = some (.tup [.i .i64 i, .i .u32 z.2.2.2, .i .i64 0], H') ∧ IsR H' r sv bl N (setAt Z i 1) ∧ Trn H H' (FR r sv) (FR r sv) := by
  have c1 : decide (0 ≤ th ∧ th < 256) = true := by simpa using ht
  refine Sp.one fun Q hQ => ?_
  simp only [c20, b20, runR_seq, r20_0, aops_cons, aop, ev_c, thenOps_some, put_some, aops_nil, regR_some, r20_1, ev_t, upd_get, Nat.reduceEqDiff, ↓reduceIte, ainit_get, List.getD_cons_succ, List.getD_cons_zero, asX_cons, asX_nil, ris_spec, c1, aUn_not, Bool.not_true, withH_some', runR_cond', condR_b, Bool.false_eq_true, runR_skip, r20_3, Int.reduceNeg, r20_4, reduceCtorEq]
  refine Sp.c2 (f := fun v => v) (mine_spec h hN hZ th) ?_
  rintro v H1 ⟨w1, k1, b1⟩
  have hml := minN_len Z th (N + 1)
  have hml2 : (N + 1) * Z.length ≤ 201 * 200 := Nat.mul_le_mul (by omega) hZ
  rw [hD] at w1 hml
  obtain ⟨n, hn⟩ : ∃ n, n = (l ++ [(i : Int)]).length := ⟨_, rfl⟩
  rw [← hn] at w1 hml
  have hn1 : n = l.length + 1 := by rw [hn]; simp
  obtain ⟨b, o, lo, ex, sz', ro, full, e, hb, hr, hel⟩ := w1.rs.el1 (j := l.length) (x := (i : Int)) (by simp)
  subst e
  have c2 : decide ((n : Int) > 0) = true := by simp; omega
  have w2 : IntKind.i64.wrap ((n : Int) - 1) = (l.length : Int) := by rw [wrap_i64 (by omega)]; omega
  have c3 : 0 ≤ (l.length : Int) ∧ (l.length : Int) < (n : Int) := by omega
  have c4 : decide ((i : Int) < 0) = false := by simp
  simp only [Int.reduceNeg, put_some, aops_cons, aop, ev_t, upd_get, ↓reduceIte, thenOps_some, aops_nil, regR_some, runR_seq, r20_5, aBin, ev_c, BinOp.isShift, Bool.false_eq_true, or_true, aInt_gtr, GT.gt, c2, withH_some', runR_cond', condR_b, r20_6, Nat.reduceEqDiff, aInt_sub, w2, c3, and_self, Int.toNat_natCast, Nat.mul_one, aload, hr, apart, hel, r20_7, aInt_lss, c4, runR_skip, r20_9]
  refine rt_tail (h.keeps k1) (Trn.of_keeps k1) hi ?_ ?_ (fun H' g1 g2 => hQ H' ⟨g1, g2⟩)
  all_goals simp only [Int.reduceNeg, upd_get, reduceCtorEq, ↓reduceIte, ainit_get, List.getD_cons_zero, Nat.reduceEqDiff]
theorem rt_com (h : IsR H r sv bl N Z) (hN : N ≤ 200) (hZ : Z.length ≤ 200) {th : Int} (ht : 0 ≤ th ∧ th < 256) {i : Nat} {z : Z4} (hD : minN Z th (N + 1) = []) (hf : firZ Z 2 = (i : Int)) (hi : Z[i]? = some z) :
    ∃ H', callR tbl 20 [.p (some (r, 0)), .i .i64 th] H = some (.tup [.i .i64 i, .i .u32 z.2.2.2, .i .i64 0], H') ∧ IsR H' r sv bl N (setAt Z i 1) ∧ Trn H H' (FR r sv) (FR r sv) := by
  have c1 : decide (0 ≤ th ∧ th < 256) = true := by simpa using ht
  refine Sp.one fun Q hQ => ?_
  simp only [c20, b20, runR_seq, r20_0, aops_cons, aop, ev_c, thenOps_some, put_some, aops_nil, regR_some, r20_1, ev_t, upd_get, Nat.reduceEqDiff, ↓reduceIte, ainit_get, List.getD_cons_succ, List.getD_cons_zero, asX_cons, asX_nil, ris_spec, c1, aUn_not, Bool.not_true, withH_some', runR_cond', condR_b, Bool.false_eq_true, runR_skip, r20_3, Int.reduceNeg, r20_4, reduceCtorEq]
  refine Sp.c2 (f := fun v => v) (mine_spec h hN hZ th) ?_
  rintro v H1 ⟨w1, k1, b1⟩
  rw [hD] at w1
  obtain ⟨a, lo, ex, sz', hve⟩ := w1.len
  subst hve
  have ef := first_spec (h.keeps k1) hZ 2
  rw [hf] at ef
  have c2 : decide (((([] : List Int).length : Nat) : Int) > 0) = false := rfl
  have c3 : decide ((-1 : Int) < 0) = true := rfl
  have c4 : decide ((i : Int) < 0) = false := by simp
  simp only [Int.reduceNeg, List.length_nil, put_some, aops_cons, aop, ev_t, upd_get, ↓reduceIte, thenOps_some, aops_nil, regR_some, runR_seq, r20_5, cast_of, aBin, ev_c, BinOp.isShift, Bool.false_eq_true, or_true, aInt_gtr, GT.gt, Int.reduceLT, decide_false, withH_some', runR_cond', condR_b, runR_skip, r20_7, Nat.reduceEqDiff, aInt_lss, decide_true, r20_8, reduceCtorEq, ainit_get, List.getD_cons_zero, asX_cons, asX_nil, ef, r20_9, c4]
  refine rt_tail (h.keeps k1) (Trn.of_keeps k1) hi ?_ ?_ (fun H' g1 g2 => hQ H' ⟨g1, g2⟩)
  all_goals simp only [Int.reduceNeg, upd_get, reduceCtorEq, ↓reduceIte, ainit_get, List.getD_cons_zero, Nat.reduceEqDiff]
theorem rt_new (h : IsR H r sv bl N Z) (hN : N ≤ 200) (hZ : Z.length ≤ 200) (hbl : 1 ≤ bl ∧ bl ≤ 64) {th : Int} (ht : 0 ≤ th ∧ th < 256) {i : Nat} {z : Z4} (hD : minN Z th (N + 1) = []) (hf : firZ Z 2 = -1) (hf0 : firZ Z 0 = (i : Int)) (hil : i < Z.length) (hi : (growZ Z i (min bl (Z.length - i)))[i]? = some z) :
    ∃ H', callR tbl 20 [.p (some (r, 0)), .i .i64 th] H = some (.tup [.i .i64 i, .i .u32 z.2.2.2, .i .i64 0], H') ∧ IsR H' r sv bl N (setAt (growZ Z i (min bl (Z.length - i))) i 1) ∧ Trn H H' (FR r sv) (FR r sv) := by
  have c1 : decide (0 ≤ th ∧ th < 256) = true := by simpa using ht
  refine Sp.one fun Q hQ => ?_
  simp only [c20, b20, runR_seq, r20_0, aops_cons, aop, ev_c, thenOps_some, put_some, aops_nil, regR_some, r20_1, ev_t, upd_get, Nat.reduceEqDiff, ↓reduceIte, ainit_get, List.getD_cons_succ, List.getD_cons_zero, asX_cons, asX_nil, ris_spec, c1, aUn_not, Bool.not_true, withH_some', runR_cond', condR_b, Bool.false_eq_true, runR_skip, r20_3, Int.reduceNeg, r20_4, reduceCtorEq]
  refine Sp.c2 (f := fun v => v) (mine_spec h hN hZ th) ?_
  rintro v H1 ⟨w1, k1, b1⟩
  rw [hD] at w1
  obtain ⟨a, lo, ex, sz', hve⟩ := w1.len
  subst hve
  have h1 := h.keeps k1
  have ef := first_spec h1 hZ 2
  have ef0 := first_spec h1 hZ 0
  rw [hf] at ef
  rw [hf0] at ef0
  have c2 : decide (((([] : List Int).length : Nat) : Int) > 0) = false := rfl
  have c3 : decide ((-1 : Int) < 0) = true := rfl
  obtain ⟨k, hk⟩ : ∃ k, k = min bl (Z.length - i) := ⟨_, rfl⟩
  rw [← hk] at hi hQ
  simp only [Int.reduceNeg, List.length_nil, put_some, aops_cons, aop, ev_t, upd_get, ↓reduceIte, thenOps_some, aops_nil, regR_some, runR_seq, r20_5, cast_of, aBin, ev_c, BinOp.isShift, Bool.false_eq_true, or_true, aInt_gtr, GT.gt, Int.reduceLT, decide_false, withH_some', runR_cond', condR_b, runR_skip, r20_7, Nat.reduceEqDiff, aInt_lss, decide_true, r20_8, reduceCtorEq, ainit_get, List.getD_cons_zero, asX_cons, asX_nil, ef, r20_9, r20_10, ef0, r20_11, runR_block]
  rw [runR_loop, ← runR_inLoop]
  refine loop_law k (fun j t' H' => t' 0 = .p (some (r, 0)) ∧ t' 7 = .i .i64 i ∧ t' 9 = .i .i64 j ∧ IsR H' r sv bl N (growZ Z i j) ∧ Trn H H' (FR r sv) (FR r sv)) (fun r => Sp r Q) ?_ ?_ 0 _ H1 (Nat.zero_le _) ?_
  · rintro j t' H' hj ⟨q0, q7, q9, hR, tr⟩ ih
    have hgl := growZ_len Z i j
    obtain ⟨y, hy⟩ : ∃ y, (growZ Z i j)[i + j]? = some y := ⟨_, List.getElem?_eq_getElem (by omega)⟩
    obtain ⟨b, o, lo', ex', full, e, hbn, hr, hin, hle, _, _, _, _, hbr, k2, _⟩ := hR.slot hy
    have hR2 := k2 2
    rw [← setAt_at 2 hy, ← growZ_succ] at hR2
    have ho := hR.o
    rw [e] at ho
    have d1 : decide ((i : Int) ≥ 0) = true := by simp
    have d2 : decide ((j : Int) < (bl : Int)) = true := by simp; omega
    have w2 : IntKind.i64.wrap ((i : Int) + (j : Int)) = ((i + j : Nat) : Int) := by rw [wrap_i64 (by omega)]; omega
    have d3 : decide (((i + j : Nat) : Int) < ((growZ Z i j).length : Int)) = true := by simp; omega
    have d4 : 0 ≤ ((i + j : Nat) : Int) ∧ ((i + j : Nat) : Int) < ((growZ Z i j).length : Int) := by omega
    have hwi := wr1 (i := j) (by omega)
    have hle2 : o + ((i + j) * 4 + 1) ≤ full.length := by omega
    simp only [l20_15, runR_seq, r20_12, aops_cons, aop, ev_t, q7, thenOps_some, put_some, aBin, upd_get, ↓reduceIte, ev_c, BinOp.isShift, Bool.false_eq_true, or_true, aInt_geq, GE.ge, d1, withH_some', aops_g, gOps_b, Nat.reduceEqDiff, q9, reduceCtorEq, q0, Nat.add_zero, aload, ho, apart, List.getElem?_cons_zero, aInt_lss, d2, aInt_add, w2, Nat.zero_add, List.getElem?_cons_succ, d4, decide_true, aops_nil, regR_some, runR_cond', condR_b, runR_skip, runR_block, r20_13, and_self, Int.toNat_natCast, astore, hr, AV.cells, List.length_cons, List.length_nil, Nat.add_assoc, hle2, withU_some', put_none, runR_inBlock, r20_14, hwi]
    refine ih _ _ ⟨?_, ?_, ?_, hR2, tr.trans (trn_in (Or.inr (by rw [e]; rfl)))⟩
    all_goals simp only [upd_get, ↓reduceIte, Nat.reduceEqDiff, q7, reduceCtorEq, q0]
  · rintro t' H' ⟨q0, q7, q9, hR, tr⟩
    have hgl := growZ_len Z i k
    have d1 : decide ((i : Int) ≥ 0) = true := by simp
    obtain ⟨sa, slo, sex, ssz, hsv⟩ := hR.w.len
    have ho := hR.o
    rw [hsv] at ho
    have go : ∀ t2 : Nat → AV, t2 0 = .p (some (r, 0)) → t2 7 = .i .i64 i → Sp (runR tbl a20 (.code (.reg d20_16) :: .code (.cond (.t 66) (.seq (.reg d20_17) .ret) .skip) :: .code (.seq (.reg d20_18) (.seq (.drw d20_19) .ret)) :: []) t2 H') Q := by
      intro t2 y0 y7
      exact rt_tail hR tr hi y0 y7 (fun H' g1 g2 => hQ H' ⟨g1, g2⟩)
    by_cases hb : k < bl
    · have d2 : decide ((k : Int) < (bl : Int)) = true := by simp; omega
      have w2 : IntKind.i64.wrap ((i : Int) + (k : Int)) = ((i + k : Nat) : Int) := by rw [wrap_i64 (by omega)]; omega
      have d3 : decide (((i + k : Nat) : Int) < ((growZ Z i k).length : Int)) = false := by simp; omega
      simp only [l20_15, runR_seq, r20_12, aops_cons, aop, ev_t, q7, thenOps_some, put_some, aBin, upd_get, ↓reduceIte, ev_c, BinOp.isShift, Bool.false_eq_true, or_true, aInt_geq, GE.ge, d1, withH_some', aops_g, gOps_b, Nat.reduceEqDiff, q9, reduceCtorEq, q0, Nat.add_zero, aload, ho, apart, List.getElem?_cons_zero, aInt_lss, d2, aInt_add, w2, Nat.zero_add, List.getElem?_cons_succ, d3, aops_nil, regR_some, runR_cond', condR_b, runR_exit', aexit_code, aexit_inLoop, aexit_inBlock, exitR_some]
      refine go _ ?_ ?_
      all_goals simp only [upd_get, Nat.reduceEqDiff, ↓reduceIte, q7, reduceCtorEq, q0]
    · have d2 : decide ((k : Int) < (bl : Int)) = false := by simp; omega
      simp only [l20_15, runR_seq, r20_12, aops_cons, aop, ev_t, q7, thenOps_some, put_some, aBin, upd_get, ↓reduceIte, ev_c, BinOp.isShift, Bool.false_eq_true, or_true, aInt_geq, GE.ge, d1, withH_some', aops_g, gOps_b, Nat.reduceEqDiff, q9, reduceCtorEq, q0, Nat.add_zero, aload, ho, apart, List.getElem?_cons_zero, aInt_lss, d2, aops_nil, regR_some, runR_cond', condR_b, runR_exit', aexit_code, aexit_inLoop, aexit_inBlock, exitR_some]
      refine go _ ?_ ?_
      all_goals simp only [upd_get, Nat.reduceEqDiff, ↓reduceIte, q7, reduceCtorEq, q0]
  · refine ⟨?_, ?_, ?_, h1, Trn.of_keeps k1⟩
    all_goals simp only [Int.reduceNeg, upd_get, reduceCtorEq, ↓reduceIte, ainit_get, List.getD_cons_zero, Nat.reduceEqDiff, cast_of]
theorem rt_out (h : IsR H r sv bl N Z) (hN : N ≤ 200) (hZ : Z.length ≤ 200) {th : Int} (ht : 0 ≤ th ∧ th < 256) (hD : minN Z th (N + 1) = []) (hf : firZ Z 2 = -1) (hf0 : firZ Z 0 = -1) :
    ∃ H', callR tbl 20 [.p (some (r, 0)), .i .i64 th] H = some (.tup [.i .i64 0, .i .u32 0, .i .i64 11], H') ∧ IsR H' r sv bl N Z ∧ Trn H H' (FR r sv) (FR r sv) := by
  have c1 : decide (0 ≤ th ∧ th < 256) = true := by simpa using ht
  refine Sp.one fun Q hQ => ?_
  simp only [c20, b20, runR_seq, r20_0, aops_cons, aop, ev_c, thenOps_some, put_some, aops_nil, regR_some, r20_1, ev_t, upd_get, Nat.reduceEqDiff, ↓reduceIte, ainit_get, List.getD_cons_succ, List.getD_cons_zero, asX_cons, asX_nil, ris_spec, c1, aUn_not, Bool.not_true, withH_some', runR_cond', condR_b, Bool.false_eq_true, runR_skip, r20_3, Int.reduceNeg, r20_4, reduceCtorEq]
  refine Sp.c2 (f := fun v => v) (mine_spec h hN hZ th) ?_
  rintro v H1 ⟨w1, k1, b1⟩
  rw [hD] at w1
  obtain ⟨a, lo, ex, sz', hve⟩ := w1.len
  subst hve
  have h1 := h.keeps k1
  have ef := first_spec h1 hZ 2
  have ef0 := first_spec h1 hZ 0
  rw [hf] at ef
  rw [hf0] at ef0
  have c2 : decide (((([] : List Int).length : Nat) : Int) > 0) = false := rfl
  have c3 : decide ((-1 : Int) < 0) = true := rfl
  have c5 : decide ((-1 : Int) ≥ 0) = false := rfl
  simp only [Int.reduceNeg, List.length_nil, put_some, aops_cons, aop, ev_t, upd_get, ↓reduceIte, thenOps_some, aops_nil, regR_some, runR_seq, r20_5, cast_of, aBin, ev_c, BinOp.isShift, Bool.false_eq_true, or_true, aInt_gtr, GT.gt, Int.reduceLT, decide_false, withH_some', runR_cond', condR_b, runR_skip, r20_7, Nat.reduceEqDiff, aInt_lss, decide_true, r20_8, reduceCtorEq, ainit_get, List.getD_cons_zero, asX_cons, asX_nil, ef, r20_9, r20_10, ef0, r20_11, runR_block]
  rw [runR_loop]
  simp only [l20_15, Int.reduceNeg, runR_seq, r20_12, aops_cons, aop, ev_t, upd_get, Nat.reduceEqDiff, ↓reduceIte, thenOps_some, put_some, aBin, ev_c, BinOp.isShift, Bool.false_eq_true, or_true, aInt_geq, GE.ge, Int.reduceLE, decide_false, withH_some', aops_g, gOps_b, aops_nil, regR_some, runR_cond', condR_b, runR_exit', aexit_code, aexit_inLoop, aexit_inBlock, exitR_some, r20_16, aInt_lss, Int.reduceLT, decide_true, r20_17, runR_ret, afinish_def, s20, aresults, aresult, aback]
  exact Sp.ret (hQ _ ⟨h1, Trn.of_keeps k1⟩)
end
end Go.Proofs.Ythcibbfljcfheaa.Abs
