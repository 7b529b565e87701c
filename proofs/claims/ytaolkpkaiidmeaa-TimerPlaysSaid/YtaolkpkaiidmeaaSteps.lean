/- What is due, by what it is; steps that came in; two alarms. No condition of its own. -/
import Derived.Test.YtaolkpkaiidmeaaTick
namespace Go.Proofs.Ytaolkpkaiidmeaa.Abs
open Go.Sort
set_option linter.unusedSimpArgs false
set_option linter.unusedVariables false
set_option maxRecDepth 100000
set_option maxHeartbeats 8000000
theorem srtT_perm (T : List P2) : (srtT T).Perm (T.map (·.1)) := List.mergeSort_perm _ _
theorem srtT_sorted (T : List P2) : (srtT T).Pairwise fun a b => at0 T a < at0 T b ∨ (at0 T a = at0 T b ∧ a ≤ b) := by
  have tr : ∀ a b c : Int, (!ltc (cfT T) b a) = true → (!ltc (cfT T) c b) = true → (!ltc (cfT T) c a) = true := by
    intro a b c h1 h2
    rw [ltT] at *
    simp at *
    omega
  have tt : ∀ a b : Int, ((!ltc (cfT T) b a) || (!ltc (cfT T) a b)) = true := by
    intro a b
    rw [ltT, ltT]
    simp
    omega
  refine (List.pairwise_mergeSort tr tt (T.map (·.1))).imp ?_
  intro a b h
  rw [ltT] at h
  simp at h
  omega
theorem srtT_eq {T : List P2} {l : List Int} (hp : l.Perm (T.map (·.1))) (hs : l.Pairwise fun a b => at0 T a < at0 T b ∨ (at0 T a = at0 T b ∧ a ≤ b)) : srtT T = l := by
  refine List.Perm.eq_of_pairwise (le := fun a b => at0 T a < at0 T b ∨ (at0 T a = at0 T b ∧ a ≤ b)) (fun a b _ _ h1 h2 => by omega) (srtT_sorted T) hs ((srtT_perm T).trans hp.symm)
theorem tw_filter {T : List P2} {N : Int} : ∀ {l : List Int}, (l.Pairwise fun a b => at0 T a < at0 T b ∨ (at0 T a = at0 T b ∧ a ≤ b)) → l.takeWhile (fun t => decide (at0 T t ≤ N)) = l.filter fun t => decide (at0 T t ≤ N)
  | [], _ => rfl
  | x :: l, h => by
    rw [List.pairwise_cons] at h
    rw [List.takeWhile_cons, List.filter_cons]
    by_cases c : at0 T x ≤ N
    · rw [decide_eq_true c]
      simp only [if_true]
      rw [tw_filter h.2]
    · rw [decide_eq_false c]
      simp only [Bool.false_eq_true, if_false]
      symm
      rw [List.filter_eq_nil_iff]
      intro y hy
      have := h.1 y hy
      simp
      omega
theorem dueT_filter (T : List P2) (N : Int) : dueT T N = (srtT T).filter fun t => decide (at0 T t ≤ N) := tw_filter (srtT_sorted T)
theorem key_lk {T : List P2} (hnd : (T.map (·.1)).Nodup) {x : Int} : x ∈ T.map (·.1) ↔ (lk T x).isSome = true := by
  constructor
  · intro h
    obtain ⟨p, hp, rfl⟩ := List.mem_map.1 h
    rw [lk_mem hp hnd]
    rfl
  · intro h
    cases e : lk T x with
    | none => rw [e] at h; cases h
    | some p =>
      obtain ⟨hp, rfl⟩ := lk_of e
      exact List.mem_map_of_mem hp
theorem due_mem {T : List P2} (hnd : (T.map (·.1)).Nodup) {N x : Int} : x ∈ dueT T N ↔ (lk T x).isSome = true ∧ at0 T x ≤ N := by
  rw [dueT_filter, List.mem_filter, (srtT_perm T).mem_iff, key_lk hnd]
  simp
theorem due_nd {T : List P2} (hnd : (T.map (·.1)).Nodup) (N : Int) : (dueT T N).Nodup := by
  rw [dueT_filter]
  exact ((srtT_perm T).symm.nodup hnd).filter _
theorem lk_dels : ∀ (D : List Int) (T : List P2) (x : Int), lk (D.foldl delT T) x = if x ∈ D then none else lk T x
  | [], T, x => by simp
  | y :: D, T, x => by
    rw [List.foldl_cons, lk_dels D, lk_del]
    by_cases h : x ∈ D
    · rw [if_pos h, if_pos (List.mem_cons_of_mem _ h)]
    · rw [if_neg h]
      by_cases e : x = y
      · rw [if_pos e, if_pos (by rw [e]; exact List.mem_cons_self ..)]
      · rw [if_neg e, if_neg (by rw [List.mem_cons]; rintro (h1 | h1); exact e h1; exact h h1)]
theorem at_pos {H : AH} {e m : Nat} {now : Int} {T : List P2} (hk : Ck H e m now T) (x : Int) : (lk T x).isSome = decide (1 ≤ at0 T x) ∧ 0 ≤ at0 T x ∧ at0 T x ≤ 1099511627776 ∧ ((lk T x).isSome = true → 0 ≤ x ∧ x < 256) := by
  unfold at0
  cases h : lk T x with
  | none => simp
  | some p =>
    obtain ⟨hp, rfl⟩ := lk_of h
    have := hk.rg p hp
    unfold okP at this
    refine ⟨?_, ?_, ?_, fun _ => ⟨this.1, this.2.1⟩⟩
    · simp; omega
    · simp; omega
    · simp; omega
abbrev St3 := Int × Int × Int
def stepF (x : St3) : List AV := [.i .u8 x.1] ++ [.i .i64 x.2.1] ++ [.i .i64 x.2.2]
theorem stepF_len (l : List St3) : (l.flatMap stepF).length = l.length * 3 := flat_length (sz := 3) (fun _ => rfl) l
theorem short_spec {q : Prm} {H : AH} {x : AV} {l : List St3} (h : Ro H x 3 l.length (l.flatMap stepF)) : ∃ v', (∀ H' : AH, callR (tblP q) 8 [x] H' = some (v', H')) ∧ Ro H v' 3 (l.take 200).length ((l.take 200).flatMap stepF) := by
  have hcut : ∀ n, n ≤ l.length → (l.flatMap stepF).take (n * 3) = (l.take n).flatMap stepF := by
    intro n hn
    conv => lhs; rw [← List.take_append_drop n l, List.flatMap_append]
    rw [List.take_left' (by rw [stepF_len, List.length_take, Nat.min_eq_left hn])]
  obtain ⟨a, lo, ex, sz, hx⟩ := h.len
  by_cases hb : l.length ≤ 200
  · obtain ⟨v', e, h2, _⟩ := h.to (k := .i64) (h' := l.length) (Nat.le_refl _)
    rw [hcut _ (Nat.le_refl _), List.take_length] at h2
    rw [List.take_of_length_le hb]
    refine ⟨v', fun H' => ?_, h2⟩
    have c1 : ¬ ((200 : Int) < (l.length : Int)) := by omega
    subst hx
    simp only [c8, b8, runR_seq, r8_0, aops_cons, aop, ev_c, thenOps_some, put_some, aops_nil, regR_some, r8_1, ev_t, upd_get, reduceCtorEq, ↓reduceIte, ainit_get, List.getD_cons_zero, asX_cons, asX_nil, aminmax, Bool.false_eq_true, c1, withH_some', Nat.reduceEqDiff, optX, e, runR_ret, afinish_def, s8, aresults, aresult, aback]
  · obtain ⟨v', e, h2, _⟩ := h.to (k := .i64) (h' := 200) (by omega)
    rw [hcut _ (by omega)] at h2
    rw [List.length_take, Nat.min_eq_left (by omega)]
    refine ⟨v', fun H' => ?_, h2⟩
    have c1 : (200 : Int) < (l.length : Int) := by omega
    subst hx
    have e' : aslice 3 (.sl a l.length lo ex sz) none (some (.i .i64 200)) none = some v' := e
    simp only [c8, b8, runR_seq, r8_0, aops_cons, aop, ev_c, thenOps_some, put_some, aops_nil, regR_some, r8_1, ev_t, upd_get, reduceCtorEq, ↓reduceIte, ainit_get, List.getD_cons_zero, asX_cons, asX_nil, aminmax, Bool.false_eq_true, c1, withH_some', Nat.reduceEqDiff, optX, e', runR_ret, afinish_def, s8, aresults, aresult, aback]
theorem alive_spec {H : AH} : ∃ H', callR tbl 13 [] H = some (.b true, H') := by
  obtain ⟨H1, e1, k1, _⟩ := new_spec (q := qS SSo) (H := H)
  obtain ⟨H2, e2, k2, _⟩ := set_spec (q := qS SSo) k1 1 5
  have a2 : setE 1 5 = 0 := by decide
  have t2 : setC [] 0 1 5 = [(1, 5)] := by decide
  rw [a2] at e2; rw [t2] at k2
  obtain ⟨H3, e3, k3, _⟩ := set_spec (q := qS SSo) k2 2 3
  have a3 : setE 2 3 = 0 := by decide
  have t3 : setC [(1, 5)] 0 2 3 = [(1, 5), (2, 3)] := by decide
  rw [a3] at e3; rw [t3] at k3
  have e4 := next_spec' k3
  have n4 : nextV [(1, 5), (2, 3)] = .tup [.i .i64 3, .b true] := by
    unfold nextV
    rw [if_neg (by simp)]
    have : minT [(1, 5), (2, 3)] 1099511627776 = 3 := by decide
    rw [this]
  rw [n4] at e4
  obtain ⟨v, H5, e5, k5, v5, _, _⟩ := tick_spec k3 5
  have t5 : tickN 0 5 = 5 := by decide
  have s5 : srtT [(1, 5), (2, 3)] = [2, 1] := by
    refine srtT_eq (List.Perm.swap 1 2 []) ?_
    have h1 : at0 [(1, 5), (2, 3)] 1 = 5 := by decide
    have h2 : at0 [(1, 5), (2, 3)] 2 = 3 := by decide
    rw [List.pairwise_cons]
    refine ⟨fun b hb => ?_, List.pairwise_singleton _ _⟩
    rw [List.mem_singleton] at hb
    subst hb
    omega
  have d5 : dueT [(1, 5), (2, 3)] 5 = [2, 1] := by
    rw [dueT_filter, s5]
    decide
  rw [t5, d5] at k5 v5
  have f5 : ([2, 1] : List Int).foldl delT [(1, 5), (2, 3)] = [] := by decide
  rw [f5] at k5
  have e6 := len_spec' (q := qS SSo) k5
  have e7 := now_spec (q := qS SSo) k5
  obtain ⟨b, o, lo, ex, sz, ro, full, e', hbn, hr, hel⟩ := v5.rs.elf (by simp)
  subst e'
  have x0 : full[o]? = some (AV.i .i64 2) := hel 0 2 rfl
  have x1 := hel 1 1 rfl
  have e6' : callR tbl 21 [.p (some (H.n + 1, 0))] H5 = some (.i .i64 0, H5) := e6
  have b0 : (0 : Int) ≤ 0 ∧ (0 : Int) < (([2, 1] : List Int).length : Int) := by decide
  have b1 : (0 : Int) ≤ 1 ∧ (1 : Int) < (([2, 1] : List Int).length : Int) := by decide
  have l2 : ((([2, 1] : List Int).length : Int) == 2) = true := by decide
  have tn : Int.toNat 1 = 1 := rfl
  refine ⟨H5, ?_⟩
  simp only [List.length_cons, List.length_nil] at e5 b0 b1 l2
  simp only [c13, b13, runR_seq, r13_0, aops_cons, aop, ev_c, thenOps_some, put_some, aops_nil, regR_some, r13_1, asX_nil, e1, ev_t, upd_get, ↓reduceIte, r13_2, aEqN, bne_self_eq_false, aops_g, gOps_b, Nat.reduceEqDiff, asX_cons, e2, aBin, BinOp.isShift, Bool.false_eq_true, or_true, aInt_neq, withH_some', e3, runR_cond', condR_b, runR_skip, r13_4, e4, List.getElem?_cons_zero, List.getElem?_cons_succ, r13_5, e5, Nat.zero_add, Nat.reduceAdd, r13_6, aInt_eql, beq_self_eq_true, cast_of, Int.reduceLE, Int.reduceLT, and_self, Int.toNat_zero, Nat.mul_one, Nat.add_zero, aload, hr, apart, x0, tn, x1, e6', e7, runR_ret, afinish_def, s13, aresults, aresult, aback]
end Go.Proofs.Ytaolkpkaiidmeaa.Abs
