/- Each slot is in one place: the law. No condition of its own. -/
import Derived.Test.YthcibbfljcfheaaStepS
namespace Go.Proofs.Ythcibbfljcfheaa.Abs
set_option linter.unusedSimpArgs false
set_option linter.unusedVariables false
set_option maxRecDepth 100000
set_option maxHeartbeats 8000000
def SL.apM (S : SL) : Nat → List Int
  | 0 => []
  | c + 1 => S.apM c ++ (if c = 0 then S.inu S.gs.length else S.ow (c - 1))
theorem inu_mem {S : SL} : ∀ {k : Nat} {x : Int}, x ∈ S.inu k → S.usd x = true ∧ ∃ i : Nat, x = i ∧ i < k
  | 0, x, h => by cases h
  | k + 1, x, h => by
    unfold SL.inu at h
    rcases List.mem_append.1 h with h | h
    · obtain ⟨h1, i, h2, h3⟩ := inu_mem h
      exact ⟨h1, i, h2, by omega⟩
    · split at h
      · rename_i hu
        have : x = k := by simpa using h
        subst this
        exact ⟨hu, k, rfl, by omega⟩
      · cases h
theorem inu_nd (S : SL) : ∀ k, (S.inu k).Nodup
  | 0 => List.nodup_nil
  | k + 1 => by
    unfold SL.inu
    rw [List.nodup_append]
    refine ⟨inu_nd S k, by split <;> simp, fun a ha b hb => ?_⟩
    obtain ⟨_, i, rfl, hi⟩ := inu_mem ha
    split at hb
    · have : b = k := by simpa using hb
      omega
    · cases hb
theorem inu_len (S : SL) : ∀ k, (S.inu k).length ≤ k
  | 0 => Nat.le_refl _
  | k + 1 => by have := inu_len S k; unfold SL.inu; rw [List.length_append]; split <;> simp <;> omega
theorem apM_mem {S : SL} : ∀ {c : Nat} {x : Int}, x ∈ S.apM c → S.usd x = true ∨ ∃ j, j + 1 < c ∧ x ∈ S.ow j
  | 0, x, h => by cases h
  | c + 1, x, h => by
    unfold SL.apM at h
    rcases List.mem_append.1 h with h | h
    · rcases apM_mem h with h | ⟨j, h1, h2⟩
      · exact Or.inl h
      · exact Or.inr ⟨j, by omega, h2⟩
    · split at h
      · exact Or.inl (inu_mem h).1
      · exact Or.inr ⟨c - 1, by omega, h⟩
theorem own_nat {S : SL} {th : Nat} (h : th < 256) : S.own (th : Int) = S.ow th := by
  unfold SL.own
  rw [if_pos (by omega), Int.toNat_natCast]
theorem Gd.off {pl sz : Nat} {S : SL} (g : Gd pl sz S) {th : Nat} {x : Int} (h : x ∈ S.ow th) : S.usd x = false ∧ 0 ≤ x ∧ x < pl := by
  obtain ⟨h0, p, hp⟩ := g.fo th x h
  have := lt_of_at h0 hp
  have := g.gl
  refine ⟨?_, h0, by omega⟩
  unfold SL.usd
  rw [hp]
  simp
section
variable {m pl sz : Nat} {S : SL} {R : List AV}
/-- One list gone through. -/
theorem ap_list {K : List AItem} {H : AH} {w : Nat} {M D : List Int} {ml : ML} {th : Int} {v : AV} {Q : AV → AH → Prop} {t : Nat → AV} (h : IsT H m pl sz S R) (g : Gd pl sz S) (hDl : D.length ≤ 100000) (hnd : D.Nodup) (hd : ∀ x ∈ D, x ∉ M ∧ 0 ≤ x ∧ x < pl ∧ S.usd x = decide (th < 0)) (hw : IsMp H w ml) (hm : ∀ u, (mget ml u).getD (.b false) = .b (decide (u ∈ M))) (hwF : ¬ FT m R w) (hv : Wr H v 1 D.length (D.map I1))
    (t7 : t 7 = .i .i64 pl) (t8 : t 8 = .p (some (m, 0))) (t12 : t 12 = .mp (some w)) (t13 : t 13 = .i .i64 th) (t80 : t 80 = v) (t81 : t 81 = .i .i64 D.length) (t82 : t 82 = .i .i64 0)
    (hg : ∀ t' H', t' 7 = .i .i64 pl → t' 8 = .p (some (m, 0)) → t' 12 = .mp (some w) → t' 13 = .i .i64 th → t' 37 = t 37 → t' 38 = t 38 → t' 39 = t 39 → IsT H' m pl sz S R → H.n ≤ H'.n → (∀ b, b < H.n → b ≠ w → H'.o b = H.o b) → (∃ ml', IsMp H' w ml' ∧ ∀ u, (mget ml' u).getD (.b false) = .b (decide (u ∈ M ++ D))) → Sp (runR tbl a3 K t' H') Q) :
    Sp (runR tbl a3 (.inLoop l3_27 :: .inBlock 5 :: K) t H) Q := by
  obtain ⟨a, lo, ex, sz', hve⟩ := hv.len
  subst hve
  have nw : ∀ c, FT m R c → c ≠ w := fun c hc e => hwF (by rw [← e]; exact hc)
  refine loop_law D.length (fun i t' H' => t' 7 = .i .i64 pl ∧ t' 8 = .p (some (m, 0)) ∧ t' 12 = .mp (some w) ∧ t' 13 = .i .i64 th ∧ t' 80 = .sl a D.length lo ex sz' ∧ t' 81 = .i .i64 D.length ∧ t' 82 = .i .i64 i ∧ t' 37 = t 37 ∧ t' 38 = t 38 ∧ t' 39 = t 39 ∧ H.n ≤ H'.n ∧ (∀ b, b < H.n → b ≠ w → H'.o b = H.o b) ∧ ∃ ml', IsMp H' w ml' ∧ ∀ u, (mget ml' u).getD (.b false) = .b (decide (u ∈ M ++ D.take i))) (fun r => Sp r Q) ?_ ?_ 0 t H (Nat.zero_le _) ⟨t7, t8, t12, t13, t80, t81, by rw [t82]; rfl, rfl, rfl, rfl, Nat.le_refl _, fun _ _ _ => rfl, ml, hw, by simpa using hm⟩
  · rintro i t' H' hi ⟨q7, q8, q12, q13, q80, q81, q82, q37, q38, q39, hn, ho, ml', hw', hm'⟩ ih
    have c1 : decide ((i : Int) < (D.length : Int)) = true := by simp; omega
    have c2 : 0 ≤ (i : Int) ∧ (i : Int) < (D.length : Int) := by omega
    have hwi := wr1 (i := i) (by omega)
    obtain ⟨x, hx⟩ : ∃ x, D[i]? = some x := ⟨_, List.getElem?_eq_getElem hi⟩
    obtain ⟨bc, hbc⟩ := hw.o
    have hv' : Wr H' (.sl a D.length lo ex sz') 1 D.length (D.map I1) := hv.keep hn (fun b hb hlt => ho b hlt (hv.nemap hbc hb))
    obtain ⟨b, o, lo', ex', sz2, ro, full, e, hb, hr, hel⟩ := hv'.rs.el1 hx
    cases e
    obtain ⟨k1, k2, k3, k4⟩ := hd x (List.mem_of_getElem? hx)
    have hno : x ∉ M ++ D.take i := by
      intro hmm
      rcases List.mem_append.1 hmm with hmm | hmm
      · exact k1 hmm
      · rw [← List.take_append_drop i D, List.nodup_append] at hnd
        refine hnd.2.2 x hmm x ?_ rfl
        rw [List.drop_eq_getElem_cons hi]
        have : D[i] = x := (List.getElem?_eq_some_iff.1 hx).2
        rw [this]
        exact List.mem_cons_self ..
    have hqa := hm' x
    rw [decide_eq_false hno] at hqa
    have hT := h.keep hn (fun c hc => ho c (h.old hc) (nw c hc))
    have eu := used_spec (n := x) hT g.p1
    rw [k4] at eu
    have x1 : decide (x < 0) = false := by simp; omega
    have x2 : decide (x ≥ (pl : Int)) = false := by simp; omega
    have eb : ((decide (th < 0) == decide (th < 0)) != true) = false := by simp
    have eb2 : (decide (th < 0) == decide (th < 0)) = true := by simp
    obtain ⟨bc', hbc'⟩ := hw'.o
    simp only [l3_27, runR_seq, r3_21, aops_cons, aop, aBin, ev_t, q82, q81, BinOp.isShift, Bool.false_eq_true, or_true, ↓reduceIte, aInt_lss, c2, decide_true, withH_some', thenOps_some, put_some, aops_nil, regR_some, runR_cond', upd_get, condR_b, runR_skip, runR_block, r3_22, Nat.reduceEqDiff, q80, and_self, Int.toNat_natCast, Nat.mul_one, aload, hr, apart, hel, r3_23, q12, lk_mp, hbc', lkO_1, hqa, aops_g, gOps_b, ev_c, x1, q7, aInt_geq, GE.ge, x2, q8, asX_cons, asX_nil, eu, q13, beq_self_eq_true, bne_self_eq_false, r3_25, mu_b, muO_E, withU_some', put_none, runR_inBlock, r3_26, aInt_add, hwi]
    refine ih _ _ ⟨?_, ?_, ?_, ?_, ?_, ?_, ?_, ?_, ?_, ?_, ?_, fun b' h1 h2 => ?_, _, hw'.put x (.b true) _, fun u => ?_⟩
    case refine_11 => exact hn
    case refine_12 => rw [hs_off h2]; exact ho b' h1 h2
    case refine_13 =>
      have htk : D.take (i + 1) = D.take i ++ [x] := by rw [List.take_add_one, hx]; rfl
      rw [mget_put, htk]
      by_cases e : u = x
      · subst e; simp
      · rw [if_neg e, hm' u]
        congr 1
        simp [e]
    all_goals simp only [upd_get, ↓reduceIte, Nat.reduceEqDiff, q38, q7, q81, q13, q80, q37, q12, q8, q39]
  · rintro t' H' ⟨q7, q8, q12, q13, q80, q81, q82, q37, q38, q39, hn, ho, ml', hw', hm'⟩
    have c1 : decide ((D.length : Int) < (D.length : Int)) = false := by simp
    rw [List.take_length] at hm'
    simp only [l3_27, runR_seq, r3_21, aops_cons, aop, aBin, ev_t, q82, q81, BinOp.isShift, Bool.false_eq_true, or_true, ↓reduceIte, aInt_lss, c1, withH_some', thenOps_some, put_some, aops_nil, regR_some, runR_cond', upd_get, condR_b, runR_exit', aexit_code, aexit_inLoop, aexit_inBlock, exitR_some]
    refine hg _ H' ?_ ?_ ?_ ?_ ?_ ?_ ?_ (h.keep hn (fun c hc => ho c (h.old hc) (nw c hc))) hn ho ⟨ml', hw', hm'⟩
    all_goals simp only [upd_get, Nat.reduceEqDiff, ↓reduceIte, q38, q7, q13, q37, q12, q8, q39]
/-- All lists. -/
theorem ap_all {K : List AItem} {H : AH} {w : Nat} {Q : AV → AH → Prop} {t : Nat → AV} (h : IsT H m pl sz S R) (g : Gd pl sz S) (hw : IsMp H w []) (hwF : ¬ FT m R w)
    (t7 : t 7 = .i .i64 pl) (t8 : t 8 = .p (some (m, 0))) (t12 : t 12 = .mp (some w)) (t13 : t 13 = .i .i64 (-1))
    (hg : ∀ t' H', t' 7 = .i .i64 pl → t' 8 = .p (some (m, 0)) → t' 37 = t 37 → t' 38 = t 38 → t' 39 = t 39 → IsT H' m pl sz S R → H.n ≤ H'.n → (∀ b, b < H.n → b ≠ w → H'.o b = H.o b) → Sp (runR tbl a3 K t' H') Q) :
    Sp (runR tbl a3 (.inLoop l3_29 :: .inBlock 3 :: K) t H) Q := by
  have nw : ∀ c, FT m R c → c ≠ w := fun c hc e => hwF (by rw [← e]; exact hc)
  have hgl := g.gl
  have hp2 := g.p2
  refine loop_law 5 (fun i t' H' => t' 7 = .i .i64 pl ∧ t' 8 = .p (some (m, 0)) ∧ t' 12 = .mp (some w) ∧ t' 13 = .i .i64 ((i : Int) - 1) ∧ t' 37 = t 37 ∧ t' 38 = t 38 ∧ t' 39 = t 39 ∧ H.n ≤ H'.n ∧ (∀ b, b < H.n → b ≠ w → H'.o b = H.o b) ∧ ∃ ml', IsMp H' w ml' ∧ ∀ u, (mget ml' u).getD (.b false) = .b (decide (u ∈ S.apM i))) (fun r => Sp r Q) ?_ ?_ 0 t H (Nat.zero_le _) ⟨t7, t8, t12, by rw [t13]; rfl, rfl, rfl, rfl, Nat.le_refl _, fun _ _ _ => rfl, [], hw, fun u => rfl⟩
  · rintro i t' H' hi ⟨q7, q8, q12, q13, q37, q38, q39, hn, ho, ml', hw', hm'⟩ ih
    have hT := h.keep hn (fun c hc => ho c (h.old hc) (nw c hc))
    have c1 : decide ((i : Int) - 1 < 4) = true := by simp; omega
    have w1 : IntKind.i64.wrap ((i : Int) - 1 + 1) = ((i + 1 : Nat) : Int) - 1 := by rw [wrap_i64 (by omega)]; omega
    have hwl := hw'.lt
    simp only [l3_29, runR_seq, r3_16, aops_cons, aop, ev_t, q13, thenOps_some, put_some, aBin, upd_get, ↓reduceIte, ev_c, BinOp.isShift, Bool.false_eq_true, or_true, aInt_lss, c1, withH_some', aops_nil, regR_some, runR_cond', condR_b, runR_skip, runR_block, r3_17, Nat.reduceEqDiff, q8, asX_cons, asX_nil]
    refine Sp.c2 (f := fun v => v) (inuse_spec hT g.p1 (by omega)) ?_
    rintro v H1 ⟨hv, k1, b1⟩
    have hT1 := hT.keeps k1
    have hw1 := hw'.keeps k1
    have fin : ∀ (t2 : Nat → AV) (H2 : AH), t2 7 = .i .i64 pl → t2 8 = .p (some (m, 0)) → t2 12 = .mp (some w) → t2 13 = .i .i64 ((i : Int) - 1) → t2 37 = t 37 → t2 38 = t 38 → t2 39 = t 39 → H.n ≤ H2.n → (∀ b, b < H.n → b ≠ w → H2.o b = H.o b) → (∃ ml', IsMp H2 w ml' ∧ ∀ u, (mget ml' u).getD (.b false) = .b (decide (u ∈ S.apM (i + 1)))) →
        Sp (runR tbl a3 (.inBlock 4 :: .code (.reg d3_28) :: .inLoop l3_29 :: .inBlock 3 :: K) t2 H2) Q := by
      intro t2 H2 z7 z8 z12 z13 z37 z38 z39 n2 o2 hm2
      simp only [runR_inBlock, r3_28, aops_cons, aop, ev_t, z13, thenOps_some, put_some, aBin, upd_get, ↓reduceIte, ev_c, BinOp.isShift, Bool.false_eq_true, or_true, aInt_add, w1, withH_some', aops_nil, regR_some]
      refine ih _ _ ⟨?_, ?_, ?_, ?_, ?_, ?_, ?_, n2, o2, hm2⟩
      all_goals simp only [upd_get, Nat.reduceEqDiff, ↓reduceIte, z38, z8, z7, z39, z12, z37]
    by_cases hi0 : i = 0
    · subst hi0
      have c2 : decide (((0 : Nat) : Int) - 1 ≥ 0) = false := rfl
      obtain ⟨a, lo, ex, sz', hve⟩ := hv.len
      subst hve
      simp only [cast_of, Int.reduceSub, Int.reduceNeg, put_some, aops_cons, aop, ev_t, upd_get, ↓reduceIte, thenOps_some, aops_nil, regR_some, runR_seq, r3_18, Nat.reduceEqDiff, q13, aBin, ev_c, BinOp.isShift, Bool.false_eq_true, or_true, aInt_geq, GE.ge, Int.reduceLE, decide_false, withH_some', runR_cond', condR_b, runR_skip, r3_20, runR_block]
      rw [runR_loop, ← runR_inLoop]
      refine ap_list (M := []) (D := S.inu S.gs.length) hT1 g (by have := inu_len S S.gs.length; omega) (inu_nd S _) (fun x hx => ?_) hw1 (by simpa [SL.apM] using hm') hwF hv ?_ ?_ ?_ (th := ((0 : Nat) : Int) - 1) ?_ ?_ ?_ ?_ ?_
      case refine_1 =>
        obtain ⟨g1, j, rfl, g2⟩ := inu_mem hx
        exact ⟨by simp, by omega, by omega, by rw [g1]; rfl⟩
      case refine_9 =>
        intro t2 H2 z7 z8 z12 z13 z37 z38 z39 _ n2 o2 hm2
        refine fin t2 H2 z7 z8 z12 z13 ?_ ?_ ?_ (Nat.le_trans hn (Nat.le_trans k1.1 n2)) (fun b h1 h2 => ?_) (by simpa [SL.apM] using hm2)
        · rw [z37]; simp only [Int.reduceNeg, upd_get, Nat.reduceEqDiff, ↓reduceIte, q37]
        · rw [z38]; simp only [Int.reduceNeg, upd_get, Nat.reduceEqDiff, ↓reduceIte, q38]
        · rw [z39]; simp only [Int.reduceNeg, upd_get, Nat.reduceEqDiff, ↓reduceIte, q39]
        · rw [o2 b (by have := k1.1; omega) h2, k1.2 b (by omega), ho b h1 h2]
      all_goals simp only [Int.reduceNeg, upd_get, Nat.reduceEqDiff, ↓reduceIte, q7, q13, cast_of, Int.reduceSub, q12, q8]
    · obtain ⟨j, rfl⟩ : ∃ j, i = j + 1 := ⟨i - 1, by omega⟩
      have e1 : ((j + 1 : Nat) : Int) - 1 = (j : Int) := by omega
      rw [e1] at q13 fin
      have c2 : decide ((j : Int) ≥ 0) = true := by simp
      simp only [put_some, aops_cons, aop, ev_t, upd_get, ↓reduceIte, thenOps_some, aops_nil, regR_some, runR_seq, r3_18, Nat.reduceEqDiff, q13, aBin, ev_c, BinOp.isShift, Bool.false_eq_true, or_true, aInt_geq, GE.ge, c2, withH_some', runR_cond', condR_b, r3_19, q8, asX_cons, asX_nil]
      refine Sp.c2 (f := fun v => v) (own_spec hT1 g.p1 g.how (j : Int)) ?_
      rintro v2 H2 ⟨hv2, k2, b2⟩
      rw [own_nat (by omega)] at hv2
      obtain ⟨a, lo, ex, sz', hve⟩ := hv2.len
      subst hve
      simp only [put_some, aops_cons, aop, ev_t, upd_get, ↓reduceIte, thenOps_some, aops_nil, regR_some, runR_seq, r3_20, ev_c, runR_block]
      rw [runR_loop, ← runR_inLoop]
      have hap : S.apM (j + 1 + 1) = S.apM (j + 1) ++ S.ow j := by
        show S.apM (j + 1) ++ (if j + 1 = 0 then S.inu S.gs.length else S.ow (j + 1 - 1)) = _
        rw [if_neg (by omega)]; rfl
      refine ap_list (M := S.apM (j + 1)) (D := S.ow j) (hT1.keeps k2) g (by have := g.how j; omega) (g.on j) (fun x hx => ?_) (hw1.keeps k2) hm' hwF hv2 ?_ ?_ ?_ (th := (j : Int)) ?_ ?_ ?_ ?_ ?_
      case refine_1 =>
        obtain ⟨g1, g2, g3⟩ := g.off hx
        refine ⟨fun hmm => ?_, g2, g3, by rw [g1]; symm; simp⟩
        rcases apM_mem hmm with hu | ⟨c, hc1, hc2⟩
        · rw [g1] at hu; cases hu
        · have := g.oo c j x hc2 hx; omega
      case refine_9 =>
        intro t2 H3 z7 z8 z12 z13 z37 z38 z39 _ n2 o2 hm2
        refine fin t2 H3 z7 z8 z12 z13 ?_ ?_ ?_ (Nat.le_trans hn (Nat.le_trans k1.1 (Nat.le_trans k2.1 n2))) (fun b h1 h2 => ?_) (by rw [hap]; exact hm2)
        · rw [z37]; simp only [upd_get, Nat.reduceEqDiff, ↓reduceIte, q37]
        · rw [z38]; simp only [upd_get, Nat.reduceEqDiff, ↓reduceIte, q38]
        · rw [z39]; simp only [upd_get, Nat.reduceEqDiff, ↓reduceIte, q39]
        · rw [o2 b (by have := k1.1; have := k2.1; omega) h2, k2.2 b (by have := k1.1; omega), k1.2 b (by omega), ho b h1 h2]
      all_goals simp only [upd_get, ↓reduceIte, Nat.reduceEqDiff, q7, q13, q12, q8]
  · rintro t' H' ⟨q7, q8, q12, q13, q37, q38, q39, hn, ho, ml', hw', hm'⟩
    have c1 : decide (((5 : Nat) : Int) - 1 < 4) = false := rfl
    simp only [l3_29, runR_seq, r3_16, aops_cons, aop, ev_t, q13, cast_of, Int.reduceSub, thenOps_some, put_some, aBin, upd_get, ↓reduceIte, ev_c, BinOp.isShift, Bool.false_eq_true, or_true, aInt_lss, Int.reduceLT, decide_false, withH_some', aops_nil, regR_some, runR_cond', condR_b, runR_exit', aexit_code, aexit_inLoop, aexit_inBlock, exitR_some]
    refine hg _ H' ?_ ?_ ?_ ?_ ?_ (h.keep hn (fun c hc => ho c (h.old hc) (nw c hc))) hn ho
    all_goals simp only [upd_get, Nat.reduceEqDiff, ↓reduceIte, q38, q7, q37, q8, q39]
end
end Go.Proofs.Ythcibbfljcfheaa.Abs
