/- A clock goes on; what is due is told. No condition of its own. -/
import Derived.Test.YtaolkpkaiidmeaaTb
import Derived.Test.YtaolkpkaiidmeaaOpen
namespace Go.Proofs.Ytaolkpkaiidmeaa.Abs
open Go.Sort
set_option linter.unusedSimpArgs false
set_option linter.unusedVariables false
set_option maxRecDepth 100000
set_option maxHeartbeats 8000000
/-- All but two objects stay. -/
def Fm (m1 m2 : Nat) (H H' : AH) : Prop := H.n ≤ H'.n ∧ ∀ b, b < H.n → b ≠ m1 → b ≠ m2 → H'.o b = H.o b
theorem Fm.refl {m1 m2 : Nat} {H : AH} : Fm m1 m2 H H := ⟨Nat.le_refl _, fun _ _ _ _ => rfl⟩
theorem Fm.trans {m1 m2 : Nat} {H H1 H2 : AH} (h : Fm m1 m2 H H1) (k : Fm m1 m2 H1 H2) : Fm m1 m2 H H2 :=
  ⟨Nat.le_trans h.1 k.1, fun b hb h1 h2 => (k.2 b (Nat.lt_of_lt_of_le hb h.1) h1 h2).trans (h.2 b hb h1 h2)⟩
theorem Keeps.fm {m1 m2 : Nat} {H H' : AH} (k : Keeps H H') : Fm m1 m2 H H' := ⟨k.1, fun b hb _ _ => k.o hb⟩
theorem Fb.fm {m1 m2 : Nat} {H H' : AH} (k : Fb m2 H H') : Fm m1 m2 H H' := ⟨k.1, fun b hb _ h => k.2 b hb h⟩
theorem canon_ro {H : AH} {T : List P2} : Ro (canonH H T) (canonV H T) 1 T.length ((srtT T).map (AV.i .i64)) := by
  have hl : ((srtT T).map (AV.i .i64)).length = T.length * 1 := by rw [List.length_map, srtT_len]; omega
  refine ⟨hl, ?_⟩
  unfold canonH canonV
  by_cases h : T = []
  · rw [if_pos h, if_pos h]
    exact Or.inl ⟨by rw [h]; rfl, 0, rfl⟩
  · rw [if_neg h, if_neg h]
    exact Or.inr ⟨H.n, 0, _, _, false, _, rfl, Nat.lt_succ_self _, by rw [AH_new_o, if_pos rfl], Nat.le_refl _, by omega, by rw [List.drop_zero, List.take_of_length_le (by omega)]⟩
theorem canon_k {H : AH} {T : List P2} : Keeps H (canonH H T) := by
  unfold canonH
  split
  · exact Keeps.refl _
  · exact (Keeps.refl _).new
def tickN (now n : Int) : Int := now + (if 1099511627776 - now < (if n < 0 then 0 else n) then 1099511627776 - now else (if n < 0 then 0 else n))
theorem tickN_in {now n : Int} (h : 0 ≤ now ∧ now ≤ 1099511627776) : now ≤ tickN now n ∧ tickN now n ≤ 1099511627776 := by
  unfold tickN
  repeat' split
  all_goals omega
def dueT (T : List P2) (now : Int) : List Int := (srtT T).takeWhile fun t => decide (at0 T t ≤ now)
theorem tw_at {p : Int → Bool} : ∀ {l : List Int} {i : Nat}, i ≤ l.length → (∀ x ∈ l.take i, p x = true) → (∀ x, l[i]? = some x → p x = false) → l.takeWhile p = l.take i
  | [], i, hi, _, _ => by simp
  | y :: l, 0, _, _, h => by
    have := h y rfl
    rw [List.takeWhile_cons, this]
    rfl
  | y :: l, i + 1, hi, h1, h2 => by
    have hy := h1 y (by simp)
    rw [List.takeWhile_cons, hy, List.take_succ_cons]
    simp only [if_true]
    rw [tw_at (by simpa using hi) (fun x hx => h1 x (by simp [hx])) (fun x hx => h2 x (by simpa using hx))]
theorem take_snoc {α : Type} {L : List α} {i : Nat} {x : α} (hx : L[i]? = some x) : L.take (i + 1) = L.take i ++ [x] := by rw [List.take_add_one, hx]; rfl
theorem keys25 {q : Prm} {H : AH} {m : Nat} : callR (tblP q) 25 [.mp (some m)] H = some (.fn (.func 30) [] [.p (some (H.n, 0))], H.new (.row false [.mp (some m)])) := by
  simp only [c25, b25, runR_seq, r25_0, aops_cons, aop, ev_t, ainit_get, List.getD_cons_zero, AV.cells, thenOps_some, put_some, ev_c, aops_nil, regR_some, r25_1, asX_nil, asX_cons, upd_get, Nat.reduceEqDiff, ↓reduceIte, runR_ret, afinish_def, s25, aresults, aresult, aback]
/-- The alarms that are due taken off. -/
theorem tick_del {q : Prm} {e m : Nat} {now : Int} {D : List Int} {v : AV} {K : List AItem} {Q : AV → AH → Prop} {H0 : AH} (hD : D.length ≤ 256)
    : ∀ (k i : Nat) (T1 : List P2) (H : AH) (t : Nat → AV), i + k = D.length → Ck H e m now T1 → Ro H v 1 D.length (D.map (AV.i .i64)) → (∀ b, blk v = some b → b ≠ m) → Fm e m H0 H → t 0 = .p (some (e, 0)) → t 5 = v → t 57 = v → t 58 = .i .i64 D.length → t 59 = .i .i64 i →
      (∀ t' H', Ck H' e m now ((D.drop i).foldl delT T1) → Ro H' v 1 D.length (D.map (AV.i .i64)) → Fm e m H0 H' → t' 5 = v → Sp (runR (tblP q) a9 K t' H') Q) →
      Sp (runR (tblP q) a9 (.inLoop l9_17 :: .inBlock 2 :: K) t H) Q := by
  intro k
  induction k with
  | zero =>
    intro i T1 H t hi hk hv hb f q0 q5 q57 q58 q59 hQ
    have c1 : decide ((i : Int) < (D.length : Int)) = false := by simp; omega
    rw [List.drop_of_length_le (by omega)] at hQ
    rw [runR_inLoop]
    simp only [l9_17, runR_seq, r9_13, aops_cons, aop, aBin, ev_t, q59, q58, BinOp.isShift, Bool.false_eq_true, or_true, ↓reduceIte, aInt_lss, c1, withH_some', thenOps_some, put_some, aops_nil, regR_some, runR_cond', upd_get, condR_b, runR_exit', aexit_code, aexit_inLoop, aexit_inBlock, exitR_some]
    exact hQ _ _ hk hv f (by simp only [upd_get, Nat.reduceEqDiff, ↓reduceIte, q5])
  | succ k ih =>
    intro i T1 H t hi hk hv hb f q0 q5 q57 q58 q59 hQ
    have c1 : decide ((i : Int) < (D.length : Int)) = true := by simp; omega
    have c2 : 0 ≤ (i : Int) ∧ (i : Int) < (D.length : Int) := by omega
    have hwi := wr1 (i := i) (by omega)
    obtain ⟨x, hx⟩ : ∃ y, D[i]? = some y := ⟨_, List.getElem?_eq_getElem (by omega)⟩
    have hdr : D.drop i = x :: D.drop (i + 1) := by rw [List.drop_eq_getElem_cons (by omega), (List.getElem?_eq_some_iff.1 hx).2]
    rw [hdr, List.foldl_cons] at hQ
    obtain ⟨b, o, lo, ex, sz, ro, full, e', hbn, hr, hel⟩ := hv.rs.el1 hx
    subst e'
    have he := hk.he
    obtain ⟨bc, hm, hbok⟩ := hk.hm
    obtain ⟨H2, hH2⟩ : ∃ H2, H2 = H.set m (.mapo (mE (mdel (T1.map kv) x)) (bdel (T1.map kv) x bc)) := ⟨_, rfl⟩
    have hne := hk.ne
    have k2 : Ck H2 e m now (delT T1 x) := hk.del hm hbok (by rw [hH2]; exact Nat.le_refl _) (by rw [hH2, AH_set_o, if_neg hne]) (by rw [hH2, AH_set_o, if_pos rfl])
    have v2 : Ro H2 (.sl (some (b, o)) D.length lo ex sz) 1 D.length (D.map (AV.i .i64)) := hv.keep (by rw [hH2]; exact Nat.le_refl _) (fun c hc _ => by rw [hH2, AH_set_o, if_neg (hb c hc)])
    have f2 : Fm e m H0 H2 := f.trans ⟨by rw [hH2]; exact Nat.le_refl _, fun c _ _ h2 => by rw [hH2, AH_set_o, if_neg h2]⟩
    rw [runR_inLoop]
    simp only [l9_17, runR_seq, r9_13, aops_cons, aop, aBin, ev_t, q59, q58, BinOp.isShift, Bool.false_eq_true, or_true, ↓reduceIte, aInt_lss, c2, decide_true, withH_some', thenOps_some, put_some, aops_nil, regR_some, runR_cond', upd_get, condR_b, runR_skip, runR_block, r9_14, Nat.reduceEqDiff, q57, and_self, Int.toNat_natCast, Nat.mul_one, aload, hr, apart, hel, r9_15, reduceCtorEq, q0, Nat.zero_add, he, List.getElem?_cons_succ, List.getElem?_cons_zero, dl_mp, hm, dlO_E, ← hH2, withU_some', put_none, runR_inBlock, r9_16, ev_c, aInt_add, hwi]
    refine ih (i + 1) (delT T1 x) H2 _ (by omega) k2 v2 hb f2 ?_ ?_ ?_ ?_ ?_ hQ
    all_goals simp only [upd_get, Nat.reduceEqDiff, ↓reduceIte, q57, q5, q58, reduceCtorEq, q0]
theorem tick_spec {H : AH} {e m : Nat} {now : Int} {T : List P2} (hk : Ck H e m now T) (n : Int) :
    ∃ v H', callR tbl 9 [.p (some (e, 0)), .i .i64 n] H = some (v, H') ∧ Ck H' e m (tickN now n) ((dueT T (tickN now n)).foldl delT T) ∧ Ro H' v 1 (dueT T (tickN now n)).length ((dueT T (tickN now n)).map (AV.i .i64)) ∧ Fm e m H H' ∧ ∀ b, blk v = some b → H.n ≤ b := by
  refine Sp.two (f := fun v : AV => v) fun Q hQ => ?_
  have h0 := ok_spec (q := qS SSo) hk
  have he := hk.he
  have hne := hk.ne
  have hlt := hk.lt
  have htm := hk.tm
  have hin := tickN_in (n := n) htm
  have w1 : IntKind.i64.wrap (1099511627776 - now) = 1099511627776 - now := wrap_i64 (by omega)
  have w2 : IntKind.i64.wrap (now + if 1099511627776 - now < (if n < 0 then 0 else n) then 1099511627776 - now else (if n < 0 then 0 else n)) = tickN now n := by
    have : (now + if 1099511627776 - now < (if n < 0 then 0 else n) then 1099511627776 - now else (if n < 0 then 0 else n)) = tickN now n := rfl
    rw [this]
    exact wrap_i64 (by omega)
  generalize tickN now n = N at hQ hin w2
  obtain ⟨H1, hH1⟩ : ∃ H1, H1 = H.set e (.row false [.i .i64 N, .mp (some m)]) := ⟨_, rfl⟩
  have n1 : H1.n = H.n := by rw [hH1]; rfl
  have k1 : Ck H1 e m N T := by
    obtain ⟨bc, hm, hb⟩ := hk.hm
    exact ⟨by rw [hH1, AH_set_o, if_pos rfl], ⟨bc, by rw [hH1, AH_set_o, if_neg (Ne.symm hne)]; exact hm, hb⟩, hne, by rw [n1]; exact hlt, hk.nd, hk.rg, by omega⟩
  have f1 : Fm e m H H1 := ⟨by omega, fun c _ h1 _ => by rw [hH1, AH_set_o, if_neg h1]⟩
  have he1 := k1.he
  obtain ⟨H2, hH2⟩ : ∃ H2, H2 = H1.new (.row false [.mp (some m)]) := ⟨_, rfl⟩
  have kp2 : Keeps H1 H2 := by rw [hH2]; exact (Keeps.refl _).new
  have n2 : H2.n = H1.n + 1 := by rw [hH2]; rfl
  have e25 := keys25 (q := qS SSo) (H := H1) (m := m)
  rw [← hH2] at e25
  have k2 := k1.keeps kp2
  have e24 := sorted_spec k2 (c := H1.n) (ro := false) (by rw [hH2, AH_new_o, if_pos rfl]) (by omega)
  have kp3 : Keeps H2 (canonH H2 T) := canon_k
  have hv : Ro (canonH H2 T) (canonV H2 T) 1 T.length ((srtT T).map (AV.i .i64)) := canon_ro
  obtain ⟨H3, hH3⟩ : ∃ H3, H3 = canonH H2 T := ⟨_, rfl⟩
  obtain ⟨V, hV⟩ : ∃ V, V = canonV H2 T := ⟨_, rfl⟩
  rw [← hV, ← hH3] at e24 hv
  rw [← hH3] at kp3
  have k3 := k2.keeps kp3
  have f3 : Fm e m H H3 := f1.trans (kp2.trans kp3).fm
  have hTl := hk.len
  have hsl := srtT_len T
  obtain ⟨va, vlo, vex, vsz, hve⟩ := hv.len
  subst hve
  have hsl' : T.length = (srtT T).length := hsl.symm
  have n3 : H.n < H3.n := by have := kp3.1; omega
  simp only [c9, b9, runR_seq, r9_0, aops_cons, aop, ev_c, thenOps_some, put_some, aops_nil, regR_some, r9_1, ev_t, upd_get, reduceCtorEq, ↓reduceIte, ainit_get, List.getD_cons_zero, asX_cons, asX_nil, h0, aUn_not, Bool.not_true, withH_some', runR_cond', condR_b, Bool.false_eq_true, runR_skip, r9_3, Nat.add_zero, aload, he, apart, List.getElem?_cons_zero, Nat.reduceEqDiff, List.getD_cons_succ, aminmax, GT.gt, aBin, BinOp.isShift, or_true, aInt_sub, w1, aInt_add, w2, astore, AV.cells, List.length_cons, List.length_nil, Nat.zero_add, Nat.reduceAdd, Nat.reduceLeDiff, and_self, setR_z, setR_e, ← hH1, withU_some', put_none, r9_4, r9_5, he1, List.getElem?_cons_succ, e25, e24, runR_block, runR_loop']
  -- the deletions
  have tl : ∀ (D : List Int) (v : AV) (t : Nat → AV) (H4 : AH), D = dueT T N → D.length ≤ 256 → Ck H4 e m N T → Wr H4 v 1 D.length (D.map (AV.i .i64)) → (∀ b, blk v = some b → H3.n ≤ b) → Fm e m H H4 → t 0 = .p (some (e, 0)) → t 5 = v →
      Sp (runR tbl a9 [.code (.reg d9_12), .code (.block 2 (.loop l9_17)), .code (.seq (.reg d9_18) .ret)] t H4) Q := by
    intro D v t H4 hD hDl k4 w4 hb4 f4 z0 z5
    rw [← hD] at hQ
    obtain ⟨a, lo, ex, sz, hve⟩ := w4.len
    simp only [r9_12, aops_cons, aop, ev_t, z5, hve, thenOps_some, put_some, upd_get, ↓reduceIte, ev_c, aops_nil, regR_some, runR_block, runR_loop']
    refine tick_del (e := e) (m := m) (now := N) (D := D) (v := .sl a D.length lo ex sz) (H0 := H) hDl D.length 0 T H4 _ (by omega) k4 (by rw [← hve]; exact w4.ro) (fun b hb => ?_) f4 ?_ ?_ ?_ ?_ ?_ ?_
    · have := hb4 b (by rw [hve]; exact hb); omega
    case refine_7 =>
      intro t5 H5 k5 v5 f5 z5'
      rw [List.drop_zero] at k5
      simp only [runR_seq, r9_18, aops_cons, aop, ev_t, z5', thenOps_some, put_some, upd_get, ↓reduceIte, aops_nil, regR_some, runR_ret, afinish_def, s9, aresults, aresult, aback]
      exact Sp.ret (hQ _ _ ⟨k5, v5, f5, fun b hb => by have := hb4 b (by rw [hve]; exact hb); omega⟩)
    all_goals simp only [upd_get, reduceCtorEq, ↓reduceIte, z0, Nat.reduceEqDiff, z5, hve, cast_of]
  refine loop_law (srtT T).length (fun i t' H' => t' 0 = .p (some (e, 0)) ∧ t' 35 = .sl va T.length vlo vex vsz ∧ t' 36 = .i .i64 T.length ∧ t' 37 = .i .i64 i ∧ Keeps H3 H' ∧ Wr H' (t' 5) 1 i (((srtT T).take i).map (AV.i .i64)) ∧ (∀ b, blk (t' 5) = some b → H3.n ≤ b) ∧ ∀ x ∈ (srtT T).take i, decide (at0 T x ≤ N) = true) (fun r => Sp r Q) ?_ ?_ 0 _ H3 (Nat.zero_le _) ⟨?_, ?_, ?_, ?_, Keeps.refl _, ?_, ?_, by simp⟩
  · rintro i t' H' hi ⟨q0, q35, q36, q37, kk, hw, hb, hall⟩ ih
    have c1 : decide ((i : Int) < (T.length : Int)) = true := by simp; omega
    have c2 : 0 ≤ (i : Int) ∧ (i : Int) < (T.length : Int) := by omega
    have hwi := wr1 (i := i) (by omega)
    obtain ⟨x, hx⟩ : ∃ y, (srtT T)[i]? = some y := ⟨_, List.getElem?_eq_getElem hi⟩
    obtain ⟨b, o, lo, ex, sz, ro, full, e', hbn, hr, hel⟩ := hv.rs.el1 hx
    cases e'
    have hr' := (kk.o hbn).trans hr
    have k4 := k3.keeps kk
    have he4 := k4.he
    obtain ⟨bc, hm4, _⟩ := k4.hm
    have hg := mget_kv T x
    have hg0 : ((lk T x).map fun p => AV.i .i64 p.2).getD (.i .i64 0) = .i .i64 (at0 T x) := by unfold at0; cases lk T x <;> rfl
    obtain ⟨v5, hv5⟩ : ∃ v5, t' 5 = v5 := ⟨_, rfl⟩
    rw [hv5] at hw hb
    cases hlt : decide (N < at0 T x)
    · simp only [l9_11, runR_seq, r9_6, aops_cons, aop, aBin, ev_t, q37, q36, BinOp.isShift, Bool.false_eq_true, or_true, ↓reduceIte, aInt_lss, c2, decide_true, withH_some', thenOps_some, put_some, aops_nil, regR_some, runR_cond', upd_get, condR_b, runR_skip, runR_block, r9_7, Nat.reduceEqDiff, q35, and_self, Int.toNat_natCast, Nat.mul_one, aload, hr', apart, hel, r9_8, reduceCtorEq, q0, Nat.zero_add, he4, List.getElem?_cons_succ, List.getElem?_cons_zero, lk_mp, hm4, lkO_1, hg, hg0, Nat.add_zero, aInt_gtr, GT.gt, hlt, r9_9, hv5, afill, AV.cells, List.length_cons, List.length_nil, zerosA, List.append_nil, Nat.reduceLeDiff, setR_z, setR_e]
      refine Sp.c2 (Wr.one (sz := 1) (y := 8) rfl hw (xs := [AV.i .i64 x]) rfl (by omega)) ?_
      rintro w H5 ⟨w2', n5, o5, b5⟩
      have hk1 := kk.1
      simp only [put_some, aops_cons, aop, ev_t, upd_get, ↓reduceIte, thenOps_some, aops_nil, regR_some, runR_inBlock, r9_10, aBin, Nat.reduceEqDiff, q37, ev_c, BinOp.isShift, Bool.false_eq_true, or_true, aInt_add, hwi, withH_some']
      refine ih _ _ ⟨?_, ?_, ?_, ?_, ⟨by omega, fun c hc => ?_⟩, ?_, ?_, fun y hy => ?_⟩
      case refine_5 => rw [o5 c (by omega) (fun e => by have := hb c e; omega)]; exact kk.2 c hc
      case refine_6 =>
        simp only [upd_get, Nat.reduceEqDiff, ↓reduceIte]
        rw [take_snoc hx, List.map_append]
        exact w2'
      case refine_7 =>
        simp only [upd_get, Nat.reduceEqDiff, ↓reduceIte]
        intro b' hb'
        rcases b5 b' hb' with h1 | h1
        · exact hb b' h1
        · omega
      case refine_8 =>
        rw [take_snoc hx] at hy
        rcases List.mem_append.1 hy with hy | hy
        · exact hall y hy
        · simp at hy; subst hy; simp at hlt; simpa using hlt
      all_goals simp only [upd_get, reduceCtorEq, ↓reduceIte, q0, Nat.reduceEqDiff, q35, q36]
    · have hD : (srtT T).take i = dueT T N := by
        symm
        refine tw_at (by omega) hall (fun y hy => ?_)
        rw [hx] at hy
        cases hy
        simp at hlt
        simp
        omega
      have hDl : (dueT T N).length = i := by rw [← hD, List.length_take]; omega
      simp only [l9_11, runR_seq, r9_6, aops_cons, aop, aBin, ev_t, q37, q36, BinOp.isShift, Bool.false_eq_true, or_true, ↓reduceIte, aInt_lss, c2, decide_true, withH_some', thenOps_some, put_some, aops_nil, regR_some, runR_cond', upd_get, condR_b, runR_skip, runR_block, r9_7, Nat.reduceEqDiff, q35, and_self, Int.toNat_natCast, Nat.mul_one, aload, hr', apart, hel, r9_8, reduceCtorEq, q0, Nat.zero_add, he4, List.getElem?_cons_succ, List.getElem?_cons_zero, lk_mp, hm4, lkO_1, hg, hg0, Nat.add_zero, aInt_gtr, GT.gt, hlt, runR_exit', aexit_code, aexit_inBlock, Nat.succ_ne_self, aexit_inLoop, exitR_some]
      refine tl (dueT T N) v5 _ H' rfl (by omega) k4 (by rw [hDl, ← hD]; exact hw) hb (f3.trans kk.fm) ?_ ?_
      all_goals simp only [upd_get, reduceCtorEq, ↓reduceIte, q0, Nat.reduceEqDiff, hv5]
  · rintro t' H' ⟨q0, q35, q36, q37, kk, hw, hb, hall⟩
    have c1 : decide (((srtT T).length : Int) < (T.length : Int)) = false := by simp; omega
    have hD : (srtT T).take (srtT T).length = dueT T N := by
      symm
      refine tw_at (Nat.le_refl _) hall (fun y hy => ?_)
      rw [List.getElem?_eq_none (Nat.le_refl _)] at hy
      cases hy
    have hDl : (dueT T N).length = (srtT T).length := by rw [← hD, List.length_take]; omega
    obtain ⟨v5, hv5⟩ : ∃ v5, t' 5 = v5 := ⟨_, rfl⟩
    rw [hv5] at hw hb
    simp only [l9_11, runR_seq, r9_6, aops_cons, aop, aBin, ev_t, q37, q36, BinOp.isShift, Bool.false_eq_true, or_true, ↓reduceIte, aInt_lss, c1, withH_some', thenOps_some, put_some, aops_nil, regR_some, runR_cond', upd_get, condR_b, runR_exit', aexit_code, aexit_inLoop, aexit_inBlock, exitR_some]
    refine tl (dueT T N) v5 _ H' rfl (by omega) (k3.keeps kk) (by rw [hDl, ← hD]; exact hw) hb (f3.trans kk.fm) ?_ ?_
    all_goals simp only [upd_get, reduceCtorEq, ↓reduceIte, q0, Nat.reduceEqDiff, hv5]
  case refine_7 => simp only [upd_get, Nat.reduceEqDiff, ↓reduceIte, List.take_zero, List.map_nil]; exact Wr.nil
  case refine_8 => simp only [upd_get, Nat.reduceEqDiff, ↓reduceIte]; intro b hb; cases hb
  all_goals simp only [upd_get, Nat.reduceEqDiff, ↓reduceIte, cast_of, reduceCtorEq, ainit_get, List.getD_cons_zero]
end Go.Proofs.Ytaolkpkaiidmeaa.Abs
