/- SortedFunc over the keys of a map, and the least value of a map: what they come to, however is chosen. No condition of its own. -/
import Derived.Test.YtaolkpkaiidmeaaCollect
namespace Go.Proofs.Ytaolkpkaiidmeaa.Abs
open Go.Sort
set_option linter.unusedSimpArgs false
set_option linter.unusedVariables false
set_option maxRecDepth 100000
set_option maxHeartbeats 8000000
/-- Gathered. -/
def GR (H : AH) (T : List P2) (w : AV) (H1 : AH) : Prop := Keeps H H1 ∧ ∃ d : List P2, d.Perm T ∧ Sli H1 w 1 d.length (d.flatMap cell1) ∧ ∀ b, blk w = some b → H.n ≤ b ∧ d ≠ []
theorem append_seq_ev {H : AH} {c m cl : Nat} {all : List Nat} {T : List P2} {ro : Bool} (hc : H.o c = some (.row ro [.mp (some m)])) (hcl : c < H.n) (hm : H.o m = some (.mapo (mE (T.map kv)) (all, cl))) (hml : m < H.n) (hlen : all.length = T.length) (hT : T.length ≤ 100000) :
    Ev (tblP q0) tblE (.c 34 [.sl none 0 0 true 0, .fn (.func 30) [] [.p (some (c, 0))]] H) (fun o => ∃ w H1, o = .v w H1 ∧ GR H T w H1) := by
  refine .call (g := a34) rfl (Nat.le_of_ble_eq_true rfl) ?_
  rw [b34]
  refine .seq (.r ?_)
  simp only [d34_0, aops_cons, aop, ev_t, ainit_get, List.getD_cons_zero, AV.cells, thenOps_some, put_some, ev_c, aops_nil, evR_some]
  obtain ⟨H1, hH1⟩ : ∃ H1, H1 = H.new (.row false [.sl none 0 0 true 0]) := ⟨_, rfl⟩
  have n1 : H1.n = H.n + 1 := by rw [hH1]; rfl
  have k1' : Keeps H H1 := by rw [hH1]; exact (Keeps.refl _).new
  rw [← hH1]
  refine .seq (.seq (.r ?_))
  simp only [d34_1, aops_cons, aop, ev_t, upd_get, Nat.reduceEqDiff, ↓reduceIte, ainit_get, List.getD_cons_succ, List.getD_cons_zero, thenOps_some, put_some, aops_nil, evR_some]
  have key : ∀ t0 : Nat → AV, t0 2 = .p (some (H.n, 0)) → t0 6 = .fn (.func 30) [] [.p (some (c, 0))] → Ev (tblP q0) tblE (.k false a34 [.code (.block 0 (.rf (.t 6) [7] f34_4a f34_4b)), .code (.seq (.reg d34_5) .ret)] t0 H1) (fun o => ∃ w H1, o = .v w H1 ∧ GR H T w H1) := by
    intro t0 z2 z6
    obtain ⟨H2, hH2⟩ : ∃ H2, H2 = H1.new (.lp true 13 t0 [7] f34_4a f34_4b) := ⟨_, rfl⟩
    have k2 : Keeps H H2 := by rw [hH2]; exact k1'.new
    have n2 : H2.n = H.n + 2 := by rw [hH2, AH_new_n, n1]
    have ci2 : CI H t0 true [] H2 := by
      refine ⟨by omega, ⟨.sl none 0 0 true 0, ?_, Sli.nil, fun b hb => by cases hb⟩, ?_, fun b hb => k2.o hb⟩
      · rw [hH2, AH_new_o, if_neg (by omega), hH1, AH_new_o, if_pos rfl]
      · rw [hH2, AH_new_o, n1, if_pos rfl]
    obtain ⟨H3, hH3⟩ : ∃ H3, H3 = H2.new (.it (some m) cl all all none) := ⟨_, rfl⟩
    have k3 : Keeps H2 H3 := by rw [hH3]; exact (Keeps.refl _).new
    have n3 : H3.n = H.n + 3 := by rw [hH3, AH_new_n, n2]
    have ci3 : CI H t0 true [] H3 := by
      obtain ⟨w, w1, w2, w3⟩ := ci2.s
      exact ⟨by omega, ⟨w, (k3.o (by omega)).trans w1, w2.keeps k3, w3⟩, (k3.o (by omega)).trans ci2.p, fun b hb => (k3.o (by omega)).trans (ci2.o b hb)⟩
    have hc2 : H2.o c = some (.row ro [.mp (some m)]) := (k2.o hcl).trans hc
    have hm2 : H2.o m = some (.mapo (mE (T.map kv)) (all, cl)) := (k2.o hml).trans hm
    have hrng : arng (.mp (some m)) H2 = some (.p (some (H2.n, 0)), H3) := by
      unfold arng
      simp only [hm2]
      rw [hH3]
    have hit : H3.o (H.n + 2) = some (.it (some m) cl all all none) := by rw [hH3, AH_new_o, n2, if_pos rfl]
    have h30 : Ev (tblP q0) tblE (.c 30 ([] ++ [.fn (.yield H1.n) [] []] ++ [.p (some (c, 0))]) H2) (fun o => ∃ Hd d, o = .v (.tup []) Hd ∧ CI H t0 true d Hd ∧ d.Perm T) := by
      refine .call (g := a30) rfl (Nat.le_of_ble_eq_true rfl) ?_
      rw [b30]
      refine .seq (.r ?_)
      simp only [d30_0, List.nil_append, List.cons_append, aops_cons, aop, aload, ev_t, ainit_get, List.getD_cons_succ, List.getD_cons_zero, hc2, apart, List.getElem?_cons_zero, withH_some', thenOps_some, put_some, upd_get, ↓reduceIte, hrng, aops_nil, evR_some]
      refine .block (.loop (collect_loop hm hml z2 hT (Nat.le_refl _) ((restOf all T all).length + 1) all none [] H3 (Nat.lt_succ_self _) ci3 (by omega) hit ?_ _ ?_ ?_))
      · rw [rest_all hlen]; exact List.Perm.refl _
      · simp only [n1, upd_get, reduceCtorEq, ↓reduceIte, ainit_get, List.getD_cons_zero]
      · simp only [n2, upd_get, ↓reduceIte]
    refine .block (.rf (g := 30) (first := []) (caps := [.p (some (c, 0))]) z6 (by rw [hH2] at h30; exact h30) ?_ ?_)
    · rintro v Hd ⟨Hd', d, e, hd, _⟩
      cases e
      rw [n1]
      exact hd.p
    · rintro v Hd ⟨Hd', d, e, hd, hp⟩
      cases e
      obtain ⟨w, w1, w2, w3⟩ := hd.s
      obtain ⟨aw, low, exw, szw, hwe⟩ := w2.len
      have w1' := w1
      rw [hwe] at w1'
      rw [n1]
      have hne : H.n ≠ H.n + 1 := by omega
      refine .inBlock (.seq (.r ?_))
      simp only [d34_5, aops_cons, aop, aload, ev_t, z2, AH_drop_o, hne, ↓reduceIte, w1', apart, List.getElem?_cons_zero, withH_some', thenOps_some, put_some, upd_get, aops_nil, evR_some]
      refine .q ?_
      simp only [afinish_def, s34, aresults, aresult, upd_get, ↓reduceIte, aback, evF_some]
      refine ⟨_, _, rfl, ⟨?_, fun b hb => ?_⟩, d, hp, ?_, fun b hb => ?_⟩
      · have := hd.n; simp only [AH_drop_n]; omega
      · rw [AH_drop_o, if_neg (by omega)]; exact hd.o b hb
      · rw [← hwe]
        exact w2.keep (Nat.le_refl _) (fun b hb _ => by have := w3 b hb; rw [AH_drop_o, if_neg (by omega)])
      · have := w3 b (by rw [hwe]; exact hb); exact ⟨by omega, this.2⟩
  refine key _ ?_ ?_ <;> simp only [upd_get, Nat.reduceEqDiff, ↓reduceIte]
theorem collect_ev {H : AH} {c m cl : Nat} {all : List Nat} {T : List P2} {ro : Bool} (hc : H.o c = some (.row ro [.mp (some m)])) (hcl : c < H.n) (hm : H.o m = some (.mapo (mE (T.map kv)) (all, cl))) (hml : m < H.n) (hlen : all.length = T.length) (hT : T.length ≤ 100000) :
    Ev (tblP q0) tblE (.c 28 [.fn (.func 30) [] [.p (some (c, 0))]] H) (fun o => ∃ w H1, o = .v w H1 ∧ GR H T w H1) := by
  refine .call (g := a28) rfl (Nat.le_of_ble_eq_true rfl) ?_
  rw [b28]
  refine .seq (.r ?_)
  simp only [d28_0, aops_cons, aop, ev_c, thenOps_some, put_some, aops_nil, evR_some]
  refine .seq (.reg (R1 := fun o => ∃ t' w H1, o = .s t' H1 ∧ t' 2 = w ∧ GR H T w H1) (.p 1 ?_) ?_)
  · simp only [d28_1, List.drop_succ_cons, List.drop_zero, List.take_succ_cons, List.take_zero, aops_cons, aop, ev_t, upd_get, reduceCtorEq, ↓reduceIte, ainit_get, List.getD_cons_zero, thenOps_some, put_some, aops_nil, evO_some]
    refine .ocall (R1 := fun o => ∃ w H1, o = .v w H1 ∧ GR H T w H1) rfl rfl ?_ ?_
    · simp only [asX_cons, ev_c, ev_t, upd_get, ↓reduceIte, asX_nil]
      exact append_seq_ev hc hcl hm hml hlen hT
    · rintro v H3 ⟨w, H1, e, g⟩
      cases e
      refine .oop rfl (v := v) (H' := H3) (by simp only [aop, put_some, ev_t, upd_get, ↓reduceIte]) (.onil ⟨_, v, H3, rfl, ?_, g⟩)
      simp only [put_some, upd_get, ↓reduceIte]
  · rintro t1 H3 ⟨t', w, H1, e, e2, g⟩
    cases e
    refine .q ?_
    simp only [afinish_def, s28, aresults, aresult, e2, aback, evF_some]
    exact ⟨_, _, rfl, g⟩
/-- The threads, by their alarms. -/
def srtT (T : List P2) : List Int := (T.map (·.1)).mergeSort fun x y => !ltc (cfT T) y x
theorem ltT (T : List P2) (x y : Int) : ltc (cfT T) x y = decide (at0 T x < at0 T y ∨ (at0 T x = at0 T y ∧ x < y)) := by
  unfold ltc cfT cmpI
  rw [decide_eq_decide]
  repeat' split
  all_goals omega
theorem swoT (T : List P2) : SWO (ltc (cfT T)) where
  irrefl x := by rw [ltT]; simp
  trans x y z h1 h2 := by rw [ltT] at *; simp at *; omega
  ntrans x y z h1 h2 := by rw [ltT] at *; simp at *; omega
theorem totT (T : List P2) (x y : Int) (h1 : ltc (cfT T) x y = false) (h2 : ltc (cfT T) y x = false) : x = y := by
  rw [ltT] at h1 h2
  simp at h1 h2
  omega
theorem pdq_srt {T : List P2} {l : List Int} (hp : l.Perm (T.map (·.1))) (k : Nat) : (pdq (ltc (cfT T)) l.toArray 0 l.length k true true).toList = srtT T := by
  have hs := pdq_sorts (ltc (cfT T)) (swoT T) l.toArray 0 l.length k true true (Nat.zero_le _) (by simp) (Or.inl rfl)
  have hu := sorted_unique_holds (swoT T) (totT T) l.toArray _ (by simpa using hs.1) (by simpa using hs.2)
  rw [hu]
  unfold srtT
  have tr : ∀ a b c : Int, (!ltc (cfT T) b a) = true → (!ltc (cfT T) c b) = true → (!ltc (cfT T) c a) = true := by
    intro a b c h1 h2
    rw [ltT] at *
    simp at *
    omega
  have tt : ∀ a b : Int, ((!ltc (cfT T) b a) || (!ltc (cfT T) a b)) = true := by
    intro a b
    rw [ltT, ltT]
    simp
    omega
  refine List.Perm.eq_of_pairwise (le := fun a b => (!ltc (cfT T) b a) = true) (fun a b _ _ h1 h2 => totT T a b (by simpa using h2) (by simpa using h1)) (List.pairwise_mergeSort tr tt _) (List.pairwise_mergeSort tr tt _) ?_
  exact ((List.mergeSort_perm _ _).trans hp).trans (List.mergeSort_perm _ _).symm
theorem sort_nil {H : AH} {F : AV} : callR (tblP q0) 29 [.sl none 0 0 true 0, F] H = some (.tup [], H) := by
  have e1 : callR (tblP q0) 36 [.i .u64 0] H = some (.i .i64 0, H) := len_spec (q := q0) (H := H) (x := 0) (by omega)
  have w0 : IntKind.i64.wrap ((0 : Int) - 0) = 0 := by decide
  have w1 : IntKind.i64.wrap ((0 : Int) + 1) = 1 := by decide
  have w2 : IntKind.u64.wrap (0 : Int) = 0 := by decide
  have c1 : decide ((0 : Int) ≤ 12) = true := by decide
  have c2 : decide ((1 : Int) < 0) = false := by decide
  have e2 : callR (tblP q0) 39 [.sl none 0 0 true 0, .i .i64 0, .i .i64 0, F] H = some (.tup [], H) := by
    simp only [c39, b39, runR_seq, r39_0, aops_cons, aop, ev_t, ainit_get, List.getD_cons_succ, List.getD_cons_zero, thenOps_some, put_some, aBin, upd_get, ↓reduceIte, ev_c, BinOp.isShift, Bool.false_eq_true, or_true, aInt_add, Int.reduceAdd, Int.reduceNeg, Int.reduceLE, and_self, wrap_i64, withH_some', aops_nil, regR_some, runR_block, runR_loop']
    rw [runR_inLoop]
    simp only [l39_8, runR_seq, r39_1, aops_cons, aop, ev_t, upd_get, ↓reduceIte, thenOps_some, put_some, Nat.reduceEqDiff, ainit_get, List.getD_cons_succ, List.getD_cons_zero, aBin, BinOp.isShift, Bool.false_eq_true, or_true, aInt_lss, Int.reduceLT, decide_false, withH_some', aops_nil, regR_some, runR_cond', condR_b, runR_exit', aexit_code, aexit_inLoop, aexit_inBlock, exitR_some, runR_nil, afinish_def, s39, aresults, aback]
  have e3 : callR (tblP q0) 35 [.sl none 0 0 true 0, .i .i64 0, .i .i64 0, .i .i64 0, F] H = some (.tup [], H) := by
    simp only [c35, b35, runR_seq, r35_0, aops_cons, aop, ev_c, thenOps_some, put_some, aops_nil, regR_some, r35_1, runR_block, runR_loop']
    rw [runR_inLoop]
    simp only [l35_31, runR_block, runR_seq, r35_2, aops_cons, aop, ev_t, upd_get, Nat.reduceEqDiff, ↓reduceIte, ainit_get, List.getD_cons_succ, List.getD_cons_zero, thenOps_some, put_some, aBin, BinOp.isShift, Bool.false_eq_true, or_true, aInt_sub, Int.reduceSub, Int.reduceNeg, Int.reduceLE, and_self, wrap_i64, withH_some', aops_nil, regR_some, r35_3, ev_c, aInt_leq, decide_true, runR_cond', condR_b, r35_4, reduceCtorEq, asX_cons, asX_nil, e2, runR_ret, afinish_def, s35, aresults, aback]
  simp only [c29, b29, runR_seq, r29_0, aops_cons, aop, ev_t, ainit_get, List.getD_cons_zero, thenOps_some, put_some, upd_get, ↓reduceIte, cast_of, aops_nil, regR_some, r29_1, reduceCtorEq, Nat.reduceEqDiff, w2, asX_cons, asX_nil, e1, List.getD_cons_succ, ev_c, e3, runR_nil, afinish_def, s29, aresults, aback]
/-- What it comes to. -/
def SRes (H : AH) (T : List P2) (v2 : AV) (H2 : AH) : Prop := Keeps H H2 ∧ ((T = [] ∧ v2 = .sl none 0 0 true 0) ∨ (0 < T.length ∧ ∃ b ex, v2 = .sl (some (b, 0)) T.length T.length ex 1 ∧ H.n ≤ b ∧ H2.o b = some (.row false ((srtT T).map (AV.i .i64)))))
theorem srtT_len (T : List P2) : (srtT T).length = T.length := by unfold srtT; simp [List.length_mergeSort]
theorem cell1_map (d : List P2) : d.flatMap cell1 = (d.map (·.1)).map (AV.i .i64) := by
  induction d with
  | nil => rfl
  | cons x d ih => rw [List.flatMap_cons, ih]; rfl
theorem sorted_ev {H : AH} {c e m cl : Nat} {now : Int} {all : List Nat} {T : List P2} {ro : Bool} (hk : Ck H e m now T) (hc : H.o c = some (.row ro [.mp (some m)])) (hcl : c < H.n) (hm : H.o m = some (.mapo (mE (T.map kv)) (all, cl))) (hlen : all.length = T.length) :
    Ev (tblP q0) tblE (.c 24 [.fn (.func 30) [] [.p (some (c, 0))], .fn (.func 26) [.p (some (e, 0))] []] H) (fun o => ∃ v2 H2, o = .v v2 H2 ∧ SRes H T v2 H2) := by
  have hml := hk.lt.2
  have hT : T.length ≤ 256 := hk.len
  refine .call (g := a24) rfl (Nat.le_of_ble_eq_true rfl) ?_
  rw [b24]
  refine .seq (.r ?_)
  simp only [d24_0, aops_cons, aop, ev_c, thenOps_some, put_some, aops_nil, evR_some]
  refine .seq (.reg (R1 := fun o => ∃ t' w H1, o = .s t' H1 ∧ t' 5 = w ∧ t' 1 = .fn (.func 26) [.p (some (e, 0))] [] ∧ GR H T w H1) (.p 1 ?_) ?_)
  · simp only [d24_1, List.drop_succ_cons, List.drop_zero, List.take_succ_cons, List.take_zero, aops_cons, aop, ev_t, upd_get, reduceCtorEq, ↓reduceIte, ainit_get, List.getD_cons_zero, thenOps_some, put_some, aops_nil, evO_some]
    refine .ocall (R1 := fun o => ∃ w H1, o = .v w H1 ∧ GR H T w H1) rfl rfl ?_ ?_
    · simp only [asX_cons, ev_t, upd_get, ↓reduceIte, asX_nil]
      exact collect_ev hc hcl hm hml hlen (by omega)
    · rintro v H3 ⟨w, H1, e, g⟩
      cases e
      refine .oop rfl (v := v) (H' := H3) (by simp only [aop, put_some, ev_t, upd_get, ↓reduceIte]) (.onil ⟨_, v, H3, rfl, ?_, ?_, g⟩) <;> simp only [put_some, upd_get, ↓reduceIte, Nat.reduceEqDiff, ainit_get, List.getD_cons_succ, List.getD_cons_zero]
  · rintro t1 H3 ⟨t', w, H1, e', z5, z1, k, d, hp, hs, hf⟩
    cases e'
    have hdl := hp.length_eq
    rcases hs.2 with ⟨rfl, h0⟩ | ⟨b, ex, rfl, hb, hr⟩
    · have hd0 : d = [] := List.length_eq_zero_iff.1 h0
      have hT0 : T = [] := List.length_eq_zero_iff.1 (by omega)
      have e1 := sort_nil (H := H3) (F := .fn (.func 26) [.p (some (e, 0))] [])
      refine .seq (.r ?_)
      simp only [d24_2, aops_cons, aop, ev_t, z5, thenOps_some, put_some, upd_get, Nat.reduceEqDiff, ↓reduceIte, z1, asX_cons, asX_nil, e1, aops_nil, evR_some]
      refine .seq (.r ?_)
      simp only [d24_3, aops_cons, aop, ev_t, upd_get, Nat.reduceEqDiff, ↓reduceIte, z5, thenOps_some, put_some, aops_nil, evR_some]
      refine .q ?_
      simp only [afinish_def, s24, aresults, aresult, upd_get, ↓reduceIte, aback, evF_some]
      exact ⟨_, _, rfl, k, Or.inl ⟨hT0, rfl⟩⟩
    · have hbn := (hf b rfl).1
      have h0 : d.length ≠ 0 := fun h => (hf b rfl).2 (List.length_eq_zero_iff.1 h)
      have hk3 := hk.keeps k
      have hlt := hk.lt
      obtain ⟨l, hl⟩ : ∃ l, l = d.map (·.1) := ⟨_, rfl⟩
      have hll : l.length = d.length := by rw [hl, List.length_map]
      rw [cell1_map, ← hl] at hr
      have hS : SS b d.length H3 H3 l.toArray := ⟨hr, Fb.refl, by simp [hll], hb⟩
      obtain ⟨H4, e4, S4⟩ := sortf_spec (q := q0) (lo := d.length) (ex := ex) (cm_spec (q := q0) hk3 (b := b) (by omega) (by omega)) (by omega) (swoT T) hS
      have hps := pdq_srt (T := T) (l := l) (by rw [hl]; exact hp.map _) (bitsLen d.length)
      rw [hll] at hps
      have hr4 := S4.r
      unfold rw1 at hr4
      rw [hps] at hr4
      refine .seq (.r ?_)
      simp only [d24_2, aops_cons, aop, ev_t, z5, thenOps_some, put_some, upd_get, Nat.reduceEqDiff, ↓reduceIte, z1, asX_cons, asX_nil, e4, aops_nil, evR_some]
      refine .seq (.r ?_)
      simp only [d24_3, aops_cons, aop, ev_t, upd_get, Nat.reduceEqDiff, ↓reduceIte, z5, thenOps_some, put_some, aops_nil, evR_some]
      refine .q ?_
      simp only [afinish_def, s24, aresults, aresult, upd_get, ↓reduceIte, aback, evF_some]
      refine ⟨_, _, rfl, ⟨Nat.le_trans k.1 S4.f.1, fun c hc => ?_⟩, Or.inr ⟨by omega, b, ex, by rw [hdl], hbn, hr4⟩⟩
      rw [S4.f.2 c (k.lt hc) (by omega), k.o hc]
/-- The least alarm. -/
def minT (T : List P2) (x : Int) : Int := T.foldl (fun a p => if p.2 < a then p.2 else a) x
theorem minT_le (T : List P2) (x : Int) : minT T x ≤ x ∧ (∀ p ∈ T, minT T x ≤ p.2) ∧ (minT T x = x ∨ ∃ p ∈ T, minT T x = p.2) := by
  induction T generalizing x with
  | nil => exact ⟨Int.le_refl _, (fun p hp => by cases hp), Or.inl rfl⟩
  | cons y T ih =>
    have h := ih (if y.2 < x then y.2 else x)
    have e : minT (y :: T) x = minT T (if y.2 < x then y.2 else x) := rfl
    rw [← e] at h
    obtain ⟨h1, h2, h3⟩ := h
    refine ⟨?_, fun p hp => ?_, ?_⟩
    · split at h1 <;> omega
    · rcases List.mem_cons.1 hp with rfl | hp
      · split at h1 <;> omega
      · exact h2 p hp
    · rcases h3 with h3 | ⟨p, hp, h3⟩
      · split at h3
        · exact Or.inr ⟨y, List.mem_cons_self .., h3⟩
        · exact Or.inl h3
      · exact Or.inr ⟨p, List.mem_cons_of_mem _ hp, h3⟩
theorem minT_perm {T T' : List P2} (h : T.Perm T') (x : Int) : minT T x = minT T' x := by
  obtain ⟨a1, a2, a3⟩ := minT_le T x
  obtain ⟨b1, b2, b3⟩ := minT_le T' x
  have h1 : minT T' x ≤ minT T x := by
    rcases a3 with e | ⟨p, hp, e⟩
    · omega
    · have := b2 p (h.mem_iff.1 hp); omega
  have h2 : minT T x ≤ minT T' x := by
    rcases b3 with e | ⟨p, hp, e⟩
    · omega
    · have := a2 p (h.mem_iff.2 hp); omega
  omega
theorem minT_snoc (T : List P2) (x : Int) (p : P2) : minT (T ++ [p]) x = if p.2 < minT T x then p.2 else minT T x := by
  unfold minT
  rw [List.foldl_append]
  rfl
theorem next_loop {H : AH} {m cl : Nat} {all : List Nat} {T : List P2} (hm : H.o m = some (.mapo (mE (T.map kv)) (all, cl))) (hml : m < H.n) {i : Nat} (hi : H.n ≤ i) : ∀ (k : Nat) (left : List Nat) (cur : Option Nat) (done : List P2) (Hc : AH), (restOf all T left).length < k → Keeps H Hc → i < Hc.n → Hc.o i = some (.it (some m) cl all left cur) → (done ++ restOf all T left).Perm T →
    ∀ t : Nat → AV, t 14 = .p (some (i, 0)) → t 4 = .i .i64 (minT done 1099511627776) → Ev (tblP q0) tblE (.k false a11 [.code l11_8, .inLoop l11_8, .inBlock 0, .code (.seq (.reg d11_9) .ret)] t Hc) (fun o => ∃ Hd, o = .v (.tup [.i .i64 (minT T 1099511627776), .b true]) Hd ∧ Keeps H Hd) := by
  intro k
  induction k with
  | zero => intro left cur done Hc hk; exact absurd hk (Nat.not_lt_zero _)
  | succ k ih =>
    intro left cur done Hc hk hci hil hit hperm t z14 z4
    have hmc : Hc.o m = some (.mapo (mE (T.map kv)) (all, cl)) := (hci.o hml).trans hm
    unfold l11_8
    refine .seq (.reg (R1 := fun o => (∃ t', o = .s t' Hc ∧ t' 16 = .b false ∧ t' 4 = .i .i64 (minT done 1099511627776) ∧ ∀ n ∈ all, n ∉ left) ∨ ∃ (j n : Nat) (x : P2) (t' : Nat → AV), o = .s t' (Hc.set i (.it (some m) cl all (left.filter (· != n)) (some n))) ∧ t' 16 = .b true ∧ t' 4 = .i .i64 (minT done 1099511627776) ∧ t' 14 = .p (some (i, 0)) ∧ all.Nodup ∧ all[j]? = some n ∧ n ∈ left ∧ T[j]? = some x) ?_ ?_)
    · unfold d11_5
      refine .onxt rfl rfl (by simp only [ev_t, z14]) hit hmc (fun hno => ?_) (fun hnd j n e a1 a2 a3 => ?_)
      · refine .oop rfl (v := .b false) (H' := Hc) (by simp only [aop, put_some, ev_t, upd_get, ↓reduceIte, List.getElem?_cons_zero, withH_some']) (.onil (Or.inl ⟨_, rfl, ?_, ?_, hno⟩))
        all_goals simp only [put_some, upd_get, ↓reduceIte, Nat.reduceEqDiff, z4]
      · have hx : ∃ x, T[j]? = some x := by
          unfold mE at a3
          rw [List.getElem?_map, List.getElem?_map] at a3
          cases hq : T[j]? with
          | none => rw [hq] at a3; cases a3
          | some x => exact ⟨x, rfl⟩
        obtain ⟨x, hx⟩ := hx
        refine .oop rfl (v := .b true) (H' := Hc.set i (.it (some m) cl all (left.filter (· != n)) (some n))) (by simp only [aop, put_some, ev_t, upd_get, ↓reduceIte, List.getElem?_cons_zero, withH_some']) (.onil (Or.inr ⟨j, n, x, _, rfl, ?_, ?_, ?_, hnd, a1, a2, hx⟩))
        all_goals simp only [put_some, upd_get, ↓reduceIte, Nat.reduceEqDiff, z14, z4]
    · rintro t1 H1 (⟨t', e, q16, q4, hno⟩ | ⟨j, n, x, t', e, q16, q4, q14, hnd, a1, a2, hx⟩)
      · cases e
        rw [rest_none hno, List.append_nil] at hperm
        rw [minT_perm hperm] at q4
        refine .seq (.no (by simp only [ev_t, q16]) (.exit (k' := [.code (.seq (.reg d11_9) .ret)]) (by rfl) (.seq (.r ?_))))
        simp only [d11_9, aops_cons, aop, ev_t, q4, thenOps_some, put_some, upd_get, ↓reduceIte, ev_c, aops_nil, evR_some]
        refine .q ?_
        simp only [afinish_def, s11, aresults, aresult, upd_get, Nat.reduceEqDiff, ↓reduceIte, aback, evF_some]
        exact ⟨_, rfl, hci⟩
      · cases e
        have hst := rest_step hnd a1 hx a2
        have hlen := hst.length_eq
        rw [List.length_cons] at hlen
        obtain ⟨He, hHe⟩ : ∃ He, He = Hc.set i (.it (some m) cl all (left.filter (· != n)) (some n)) := ⟨_, rfl⟩
        have kE : Keeps H He := by rw [hHe]; exact hci.set hi
        rw [← hHe]
        have hile : i < He.n := by rw [hHe]; exact hil
        have hite : He.o i = some (.it (some m) cl all (left.filter (· != n)) (some n)) := by rw [hHe, AH_set_o, if_pos rfl]
        have hme : He.o m = some (.mapo (mE (T.map kv)) (all, cl)) := (kE.o hml).trans hm
        have hfi : all.findIdx? (· == n) = some j := by
          rw [List.findIdx?_eq_some_iff_getElem]
          obtain ⟨hj, hj2⟩ := List.getElem?_eq_some_iff.1 a1
          refine ⟨hj, by simpa using hj2, fun l hl => ?_⟩
          have : all[l]'(by omega) ≠ n := fun e => by
            have := (List.getElem_inj (i := l) (j := j) (h₀ := by omega) (h₁ := hj) hnd).1 (by rw [e, hj2])
            omega
          simpa using this
        have hej : (mE (T.map kv))[j]? = some (.i .i64 x.1, .i .i64 x.2) := by
          unfold mE
          rw [List.getElem?_map, List.getElem?_map, hx]
          rfl
        have hent : aent (.p (some (i, 0))) He = some (.tup [.i .i64 x.1, .i .i64 x.2]) := by
          simp only [aent, hite, hme, if_true, hfi, hej]
        have hsn := minT_snoc done 1099511627776 x
        refine .seq (.yes (by simp only [ev_t, q16]) (.skip (.block (.seq (.r ?_)))))
        simp only [d11_6, aops_cons, aop, ev_t, q14, hent, withH_some', thenOps_some, put_some, upd_get, ↓reduceIte, List.getElem?_cons_succ, List.getElem?_cons_zero, aops_nil, evR_some]
        refine .r ?_
        simp only [d11_7, aops_cons, aop, ev_t, upd_get, Nat.reduceEqDiff, ↓reduceIte, q4, thenOps_some, put_some, asX_cons, asX_nil, aminmax, Bool.false_eq_true, withH_some', aops_nil, evR_some]
        refine .inBlock (.inLoop ?_)
        refine ih (left.filter (· != n)) (some n) (done ++ [x]) He (by omega) kE hile hite ?_ _ ?_ ?_
        · rw [List.append_assoc]
          exact (List.Perm.append_left done hst.symm).trans hperm
        · simp only [upd_get, Nat.reduceEqDiff, ↓reduceIte, q14]
        · rw [hsn]; simp only [upd_get, ↓reduceIte]
theorem next_ev {H : AH} {e m cl : Nat} {now : Int} {all : List Nat} {T : List P2} (hk : Ck H e m now T) (hm : H.o m = some (.mapo (mE (T.map kv)) (all, cl))) (hlen : all.length = T.length) :
    Ev (tblP q0) tblE (.c 11 [.p (some (e, 0))] H) (fun o => ∃ H2, o = .v (if T = [] then .tup [.i .i64 0, .b false] else .tup [.i .i64 (minT T 1099511627776), .b true]) H2 ∧ Keeps H H2) := by
  have hml := hk.lt.2
  have he := hk.he
  have e1 := len_spec' (q := q0) hk
  refine .call (g := a11) rfl (Nat.le_of_ble_eq_true rfl) ?_
  rw [b11]
  refine .seq (.r ?_)
  simp only [d11_0, aops_cons, aop, ev_c, thenOps_some, put_some, aops_nil, evR_some]
  refine .seq (.seq (.r ?_))
  by_cases hT : T = []
  · have c1 : ((T.length : Int) == 0) = true := by rw [hT]; rfl
    rw [if_pos hT]
    simp only [d11_1, aops_cons, aop, ev_t, upd_get, reduceCtorEq, ↓reduceIte, ainit_get, List.getD_cons_zero, thenOps_some, put_some, asX_cons, asX_nil, e1, aBin, ev_c, BinOp.isShift, Bool.false_eq_true, or_true, aInt_eql, c1, withH_some', aops_nil, evR_some]
    refine .yes (by simp only [ev_t, upd_get, ↓reduceIte]) (.seq (.r ?_))
    simp only [d11_2, aops_cons, aop, ev_c, thenOps_some, put_some, aops_nil, evR_some]
    refine .q ?_
    simp only [afinish_def, s11, aresults, aresult, upd_get, Nat.reduceEqDiff, ↓reduceIte, aback, evF_some]
    exact ⟨_, rfl, Keeps.refl _⟩
  · have c1 : ((T.length : Int) == 0) = false := by
      cases T with
      | nil => exact absurd rfl hT
      | cons x T => simp; omega
    rw [if_neg hT]
    simp only [d11_1, aops_cons, aop, ev_t, upd_get, reduceCtorEq, ↓reduceIte, ainit_get, List.getD_cons_zero, thenOps_some, put_some, asX_cons, asX_nil, e1, aBin, ev_c, BinOp.isShift, Bool.false_eq_true, or_true, aInt_eql, c1, withH_some', aops_nil, evR_some]
    refine .no (by simp only [ev_t, upd_get, ↓reduceIte]) (.skip (.seq (.r ?_)))
    simp only [d11_3, aops_cons, aop, ev_c, thenOps_some, put_some, aops_nil, evR_some]
    obtain ⟨H3, hH3⟩ : ∃ H3, H3 = H.new (.it (some m) cl all all none) := ⟨_, rfl⟩
    have k3 : Keeps H H3 := by rw [hH3]; exact (Keeps.refl _).new
    have hrng : arng (.mp (some m)) H = some (.p (some (H.n, 0)), H3) := by
      unfold arng
      simp only [hm]
      rw [hH3]
    have hit : H3.o H.n = some (.it (some m) cl all all none) := by rw [hH3, AH_new_o, if_pos rfl]
    refine .seq (.seq (.r ?_))
    simp only [d11_4, aops_cons, aop, ev_t, upd_get, reduceCtorEq, ↓reduceIte, ainit_get, List.getD_cons_zero, thenOps_some, put_some, Nat.zero_add, aload, he, apart, List.getElem?_cons_succ, List.getElem?_cons_zero, withH_some', hrng, aops_nil, evR_some]
    refine .block (.loop (Ev.mono (next_loop hm hml (Nat.le_refl _) ((restOf all T all).length + 1) all none [] H3 (Nat.lt_succ_self _) k3 (by rw [hH3]; exact Nat.lt_succ_self _) hit ?_ _ ?_ ?_) (fun o h => h)))
    · rw [rest_all hlen]; exact List.Perm.refl _
    · simp only [upd_get, ↓reduceIte]
    · simp only [upd_get, Nat.reduceEqDiff, ↓reduceIte]; rfl
end Go.Proofs.Ytaolkpkaiidmeaa.Abs
