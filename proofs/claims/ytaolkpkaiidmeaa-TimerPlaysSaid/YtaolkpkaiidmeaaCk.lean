/- A clock: its alarms lie in a map. No condition of its own. -/
import Derived.Test.YtaolkpkaiidmeaaMp
import Derived.Test.YtaolkpkaiidmeaaSrt7
namespace Go.Proofs.Ytaolkpkaiidmeaa.Abs
open Go.Sort
set_option linter.unusedSimpArgs false
set_option linter.unusedVariables false
set_option maxRecDepth 100000
set_option maxHeartbeats 8000000
abbrev P2 := Int × Int
def kv (p : P2) : Int × AV := (p.1, .i .i64 p.2)
def lk (T : List P2) (x : Int) : Option P2 := T.find? fun p => decide (x = p.1)
def at0 (T : List P2) (x : Int) : Int := ((lk T x).map (·.2)).getD 0
def setT : List P2 → Int → Int → List P2
  | [], x, v => [(x, v)]
  | p :: T, x, v => if x = p.1 then (p.1, v) :: T else p :: setT T x v
def delT (T : List P2) (x : Int) : List P2 := T.filter fun p => p.1 != x
theorem mget_kv (T : List P2) (x : Int) : mget (T.map kv) x = (lk T x).map fun p => .i .i64 p.2 := by
  induction T with
  | nil => rfl
  | cons p T ih =>
    rw [List.map_cons, lk, List.find?_cons]
    show mget ((p.1, _) :: _) x = _
    unfold mget
    by_cases e : x = p.1
    · rw [if_pos e, decide_eq_true e]; rfl
    · rw [if_neg e, decide_eq_false e]; exact ih
theorem mput_kv (T : List P2) (x v : Int) : mput (T.map kv) x (.i .i64 v) = (setT T x v).map kv := by
  induction T with
  | nil => rfl
  | cons p T ih =>
    rw [List.map_cons]
    show mput ((p.1, _) :: _) x _ = _
    unfold mput setT
    by_cases e : x = p.1
    · rw [if_pos e, if_pos e]; rfl
    · rw [if_neg e, if_neg e, ih]; rfl
theorem mdel_kv : ∀ {T : List P2} {x : Int}, (T.map (·.1)).Nodup → mdel (T.map kv) x = (delT T x).map kv
  | [], x, _ => rfl
  | p :: T, x, hn => by
    rw [List.map_cons, List.nodup_cons] at hn
    unfold delT
    rw [List.map_cons, List.filter_cons]
    show mdel ((p.1, _) :: _) x = _
    unfold mdel
    by_cases e : x = p.1
    · subst e
      rw [if_pos rfl, if_neg (by simp)]
      congr 1
      symm
      rw [List.filter_eq_self]
      intro y hy
      have : y.1 ≠ p.1 := fun e => hn.1 (e ▸ List.mem_map_of_mem (f := (·.1)) hy)
      simpa using this
    · rw [if_neg e, if_pos (by simpa using Ne.symm e), mdel_kv hn.2]
      rfl
theorem lk_set (T : List P2) (x v y : Int) : lk (setT T x v) y = if y = x then some (x, v) else lk T y := by
  induction T with
  | nil =>
    unfold setT lk
    by_cases e : y = x <;> simp [e]
  | cons p T ih =>
    unfold setT
    by_cases e : x = p.1
    · rw [if_pos e]
      unfold lk
      rw [List.find?_cons, List.find?_cons]
      by_cases e2 : y = x
      · rw [if_pos e2]; simp [e2, e]
      · have e3 : ¬ y = p.1 := by rw [← e]; exact e2
        rw [if_neg e2]; simp [e3]
    · rw [if_neg e]
      unfold lk at ih ⊢
      rw [List.find?_cons, List.find?_cons, ih]
      by_cases e2 : y = p.1
      · have e3 : ¬ y = x := fun h => e (h ▸ e2)
        simp [e2, e3]
        intro h; exact absurd h.symm e
      · simp [e2]
theorem lk_del (T : List P2) (x y : Int) : lk (delT T x) y = if y = x then none else lk T y := by
  unfold lk delT
  rw [List.find?_filter]
  by_cases e : y = x
  · subst e
    rw [if_pos rfl, List.find?_eq_none]
    intro p hp
    simp
    intro h; exact fun h2 => h h2.symm
  · rw [if_neg e]
    congr 1
    funext p
    by_cases e2 : y = p.1
    · subst e2; simp [e]
    · simp [e2]
theorem lk_of {T : List P2} {x : Int} {p : P2} (h : lk T x = some p) : p ∈ T ∧ p.1 = x := by
  unfold lk at h
  exact ⟨List.mem_of_find?_eq_some h, by have := List.find?_some h; simp at this; exact this.symm⟩
theorem lk_mem {T : List P2} {p : P2} (hp : p ∈ T) (hnd : (T.map (·.1)).Nodup) : lk T p.1 = some p := by
  induction T with
  | nil => cases hp
  | cons y T ih =>
    rw [List.map_cons, List.nodup_cons] at hnd
    unfold lk
    rw [List.find?_cons]
    by_cases e : p.1 = y.1
    · rw [decide_eq_true e]
      rcases List.mem_cons.1 hp with rfl | h
      · rfl
      · exact absurd (e ▸ List.mem_map_of_mem (f := (·.1)) h) hnd.1
    · rw [decide_eq_false e]
      rcases List.mem_cons.1 hp with rfl | h
      · exact absurd rfl e
      · exact ih h hnd.2
theorem set_mem {T : List P2} {x v : Int} {p : P2} (hp : p ∈ setT T x v) : p ∈ T ∨ p = (x, v) := by
  induction T with
  | nil => unfold setT at hp; exact Or.inr (by simpa using hp)
  | cons y T ih =>
    unfold setT at hp
    split at hp
    · rename_i e
      rcases List.mem_cons.1 hp with h | h
      · exact Or.inr (by rw [h, e])
      · exact Or.inl (List.mem_cons_of_mem _ h)
    · rcases List.mem_cons.1 hp with h | h
      · exact Or.inl (by rw [h]; exact List.mem_cons_self ..)
      · rcases ih h with h | h
        · exact Or.inl (List.mem_cons_of_mem _ h)
        · exact Or.inr h
theorem set_keys (T : List P2) (x v : Int) : (setT T x v).map (·.1) = if x ∈ T.map (·.1) then T.map (·.1) else T.map (·.1) ++ [x] := by
  induction T with
  | nil => rfl
  | cons y T ih =>
    unfold setT
    by_cases e : x = y.1
    · rw [if_pos e, if_pos (by simp [e])]; rfl
    · rw [if_neg e, List.map_cons, ih]
      by_cases h : x ∈ T.map (·.1)
      · rw [if_pos h, if_pos (by rw [List.map_cons]; exact List.mem_cons_of_mem _ h)]; rfl
      · rw [if_neg h, if_neg (by rw [List.map_cons, List.mem_cons]; rintro (h1 | h1); exact e h1; exact h h1)]; rfl
theorem set_nd {T : List P2} {x v : Int} (hnd : (T.map (·.1)).Nodup) : ((setT T x v).map (·.1)).Nodup := by
  rw [set_keys]
  split
  · exact hnd
  · rename_i h
    exact List.nodup_append.2 ⟨hnd, by simp, fun a ha b hb e => by simp at hb; subst hb; subst e; exact h ha⟩
def okP (p : P2) : Prop := 0 ≤ p.1 ∧ p.1 < 256 ∧ 1 ≤ p.2 ∧ p.2 ≤ 1099511627776
structure Ck (H : AH) (e m : Nat) (now : Int) (T : List P2) : Prop where
  he : H.o e = some (.row false [.i .i64 now, .mp (some m)])
  hm : ∃ bc, H.o m = some (.mapo (mE (T.map kv)) bc) ∧ BOk (T.map kv) bc
  ne : e ≠ m
  lt : e < H.n ∧ m < H.n
  nd : (T.map (·.1)).Nodup
  rg : ∀ p ∈ T, okP p
  tm : 0 ≤ now ∧ now ≤ 1099511627776
theorem Ck.eqs {H H' : AH} {e m : Nat} {now : Int} {T : List P2} (h : Ck H e m now T) (hn : H.n ≤ H'.n) (g0 : H'.o e = H.o e) (g1 : H'.o m = H.o m) : Ck H' e m now T := by
  obtain ⟨he, ⟨b1, h1, hb⟩, hne, hl, r1, r2, r3⟩ := h
  exact ⟨g0.trans he, ⟨b1, g1.trans h1, hb⟩, hne, by omega, r1, r2, r3⟩
theorem Ck.keeps {H H' : AH} {e m : Nat} {now : Int} {T : List P2} (h : Ck H e m now T) (k : Keeps H H') : Ck H' e m now T := h.eqs k.1 (k.o h.lt.1) (k.o h.lt.2)
theorem nodup_le : ∀ (n : Nat) (l : List Int), l.Nodup → (∀ x ∈ l, 0 ≤ x ∧ x < n) → l.length ≤ n := by
  intro n
  induction n with
  | zero =>
    intro l _ h
    cases l with
    | nil => exact Nat.le_refl _
    | cons x l => have := h x (List.mem_cons_self ..); omega
  | succ n ih =>
    intro l hn h
    have h1 : (l.filter (· != (n : Int))).length ≤ n := by
      refine ih _ (hn.filter _) fun x hx => ?_
      rw [List.mem_filter] at hx
      have := h x hx.1
      have h2 : x ≠ (n : Int) := by simpa using hx.2
      omega
    have h2 : l.length ≤ (l.filter (· != (n : Int))).length + 1 := by
      clear h h1
      induction l with
      | nil => simp
      | cons x l ih2 =>
        rw [List.nodup_cons] at hn
        rw [List.filter_cons]
        by_cases e : x = (n : Int)
        · have hl : l.filter (· != (n : Int)) = l := by
            rw [List.filter_eq_self]
            intro y hy
            have : y ≠ (n : Int) := fun e2 => hn.1 (by rw [e, ← e2]; exact hy)
            simpa using this
          have hf : (x != (n : Int)) = false := by simpa using e
          simp only [hf, Bool.false_eq_true, if_false, hl, List.length_cons, Nat.le_refl]
        · have hf : (x != (n : Int)) = true := by simpa using e
          have := ih2 hn.2
          simp only [hf, if_true, List.length_cons]
          omega
    omega
theorem Ck.len {H : AH} {e m : Nat} {now : Int} {T : List P2} (h : Ck H e m now T) : T.length ≤ 256 := by
  have := nodup_le 256 (T.map (·.1)) h.nd (fun x hx => by
    obtain ⟨p, hp, rfl⟩ := List.mem_map.1 hx
    have := h.rg p hp
    unfold okP at this
    omega)
  simpa using this
section
variable {q : Prm}
theorem new_spec {H : AH} : ∃ H', callR (tblP q) 7 [] H = some (.p (some (H.n + 1, 0)), H') ∧ Ck H' (H.n + 1) H.n 0 [] ∧ Keeps H H' := by
  refine ⟨(H.new (.mapo (mE []) ([], 0))).new (.row false [.i .i64 0, .mp (some H.n)]), ?_, ⟨?_, ⟨([], 0), ?_, BOk.nil⟩, by omega, ?_, List.nodup_nil, (fun p hp => by cases hp), by omega⟩, (Keeps.refl _).new.new⟩
  · simp only [c7, b7, runR_seq, r7_0, aops_cons, aop, ev_c, thenOps_some, put_some, aops_nil, regR_some, r7_1, mapo_nil, afill, ev_t, upd_get, ↓reduceIte, AV.cells, List.length_cons, List.length_nil, Nat.zero_add, Nat.reduceAdd, Nat.reduceLeDiff, and_self, setR_s, setR_z, setR_e, hn_n, runR_ret, afinish_def, s7, aresults, aresult, aback]
  · simp only [hn_o, hn_n, ↓reduceIte]
  · simp only [hn_o, hn_n, Nat.left_eq_add, Nat.succ_ne_self, ↓reduceIte, Option.some.injEq]; rfl
  · simp only [AH_new_n]; omega
variable {H : AH} {e m : Nat} {now : Int} {T : List P2}
theorem ok_spec (h : Ck H e m now T) : callR (tblP q) 23 [.p (some (e, 0))] H = some (.b true, H) := by
  have he := h.he
  simp only [c23, b23, runR_seq, r23_0, aops_cons, aop, ev_c, thenOps_some, put_some, aops_nil, regR_some, r23_1, ev_t, upd_get, reduceCtorEq, ↓reduceIte, ainit_get, List.getD_cons_zero, aEqN, Bool.bne_true, Bool.not_false, aops_g, gOps_b, Nat.reduceEqDiff, Nat.zero_add, aload, he, apart, List.getElem?_cons_succ, List.getElem?_cons_zero, withH_some', runR_ret, afinish_def, s23, aresults, aresult, aback]
theorem at_spec (h : Ck H e m now T) (x : Int) : callR (tblP q) 19 [.p (some (e, 0)), .i .i64 x] H = some (.tup [.i .i64 (at0 T x), .b (lk T x).isSome], H) := by
  have h0 := ok_spec (q := q) h
  have he := h.he
  obtain ⟨bc, h1, _⟩ := h.hm
  have hg := mget_kv T x
  unfold at0
  cases ha : lk T x with
  | none => rw [ha] at hg; simp only [c19, b19, runR_seq, r19_0, aops_cons, aop, ev_c, thenOps_some, put_some, aops_nil, regR_some, r19_1, ev_t, upd_get, reduceCtorEq, ↓reduceIte, ainit_get, List.getD_cons_zero, asX_cons, asX_nil, h0, aUn_not, Bool.not_true, withH_some', runR_cond', condR_b, Bool.false_eq_true, runR_skip, r19_3, Nat.zero_add, aload, he, apart, List.getElem?_cons_succ, List.getElem?_cons_zero, Nat.reduceEqDiff, List.getD_cons_succ, lk_mp, h1, lkO_2, hg, Option.map_none, Option.getD_none, Option.isSome_none, r19_4, runR_ret, afinish_def, s19, aresults, aresult, aback]
  | some p => rw [ha] at hg; simp only [c19, b19, runR_seq, r19_0, aops_cons, aop, ev_c, thenOps_some, put_some, aops_nil, regR_some, r19_1, ev_t, upd_get, reduceCtorEq, ↓reduceIte, ainit_get, List.getD_cons_zero, asX_cons, asX_nil, h0, aUn_not, Bool.not_true, withH_some', runR_cond', condR_b, Bool.false_eq_true, runR_skip, r19_3, Nat.zero_add, aload, he, apart, List.getElem?_cons_succ, List.getElem?_cons_zero, Nat.reduceEqDiff, List.getD_cons_succ, lk_mp, h1, lkO_2, hg, Option.map_some, Option.getD_some, Option.isSome_some, r19_4, runR_ret, afinish_def, s19, aresults, aresult, aback]
theorem now_spec (h : Ck H e m now T) : callR (tblP q) 12 [.p (some (e, 0))] H = some (.i .i64 now, H) := by
  have h0 := ok_spec (q := q) h
  have he := h.he
  simp only [c12, b12, runR_seq, r12_0, aops_cons, aop, ev_c, thenOps_some, put_some, aops_nil, regR_some, r12_1, ev_t, upd_get, reduceCtorEq, ↓reduceIte, ainit_get, List.getD_cons_zero, asX_cons, asX_nil, h0, aUn_not, Bool.not_true, withH_some', runR_cond', condR_b, Bool.false_eq_true, runR_skip, r12_3, Nat.add_zero, aload, he, apart, List.getElem?_cons_zero, runR_ret, afinish_def, s12, aresults, aresult, aback]
theorem len_spec' (h : Ck H e m now T) : callR (tblP q) 21 [.p (some (e, 0))] H = some (.i .i64 T.length, H) := by
  have h0 := ok_spec (q := q) h
  have he := h.he
  obtain ⟨bc, h1, _⟩ := h.hm
  simp only [c21, b21, runR_seq, r21_0, aops_cons, aop, ev_c, thenOps_some, put_some, aops_nil, regR_some, r21_1, ev_t, upd_get, reduceCtorEq, ↓reduceIte, ainit_get, List.getD_cons_zero, asX_cons, asX_nil, h0, aUn_not, Bool.not_true, withH_some', runR_cond', condR_b, Bool.false_eq_true, runR_skip, r21_3, Nat.zero_add, aload, he, apart, List.getElem?_cons_succ, List.getElem?_cons_zero, en_mp, h1, enO_E, len_mE, List.length_map, runR_ret, afinish_def, s21, aresults, aresult, aback]
def setE (th n : Int) : Int := if 0 ≤ th ∧ th < 256 ∧ 1 ≤ n then 0 else 1
def dueAt (now n : Int) : Int := now + (if 1099511627776 - now < n then 1099511627776 - now else n)
def setC (T : List P2) (now th n : Int) : List P2 := if 0 ≤ th ∧ th < 256 ∧ 1 ≤ n then setT T th (dueAt now n) else T
theorem set_spec (h : Ck H e m now T) (th n : Int) : ∃ H', callR (tblP q) 10 [.p (some (e, 0)), .i .i64 th, .i .i64 n] H = some (.i .i64 (setE th n), H') ∧ Ck H' e m now (setC T now th n) ∧ Fb m H H' := by
  have h0 := ok_spec (q := q) h
  have he := h.he
  obtain ⟨bc, h1, hb⟩ := h.hm
  have htm := h.tm
  unfold setE setC
  have bad : ¬ (0 ≤ th ∧ th < 256 ∧ 1 ≤ n) → callR (tblP q) 10 [.p (some (e, 0)), .i .i64 th, .i .i64 n] H = some (.i .i64 1, H) → ∃ H', callR (tblP q) 10 [.p (some (e, 0)), .i .i64 th, .i .i64 n] H = some (.i .i64 (if 0 ≤ th ∧ th < 256 ∧ 1 ≤ n then 0 else 1), H') ∧ Ck H' e m now (if 0 ≤ th ∧ th < 256 ∧ 1 ≤ n then setT T th (dueAt now n) else T) ∧ Fb m H H' := by
    intro hn hc
    rw [if_neg hn, if_neg hn]
    exact ⟨H, hc, h, Fb.refl⟩
  cases c1 : decide (th < 0)
  · cases c2 : decide (256 ≤ th)
    · cases c3 : decide (n < 1)
      · simp at c1 c2 c3
        have hc : 0 ≤ th ∧ th < 256 ∧ 1 ≤ n := by omega
        have c1' : decide (th < 0) = false := by simp; omega
        have c2' : decide (256 ≤ th) = false := by simp; omega
        have c3' : decide (n < 1) = false := by simp; omega
        rw [if_pos hc, if_pos hc]
        have w1 : IntKind.i64.wrap (1099511627776 - now) = 1099511627776 - now := wrap_i64 (by omega)
        have hd : 1 ≤ dueAt now n ∧ dueAt now n ≤ 1099511627776 := by
          unfold dueAt
          split <;> omega
        have w2 : IntKind.i64.wrap (now + if 1099511627776 - now < n then 1099511627776 - now else n) = dueAt now n := by
          have : (now + if 1099511627776 - now < n then 1099511627776 - now else n) = dueAt now n := rfl
          rw [this]
          exact wrap_i64 (by omega)
        obtain ⟨HX, hX⟩ : ∃ HX, HX = H.set m (.mapo (mE ((setT T th (dueAt now n)).map kv)) (bput (T.map kv) th bc)) := ⟨_, rfl⟩
        refine ⟨HX, ?_, ⟨?_, ⟨bput (T.map kv) th bc, ?_, ?_⟩, h.ne, ?_, set_nd h.nd, fun p hp => ?_, htm⟩, ?_⟩
        · rw [hX, ← mput_kv]
          simp only [c10, b10, runR_seq, r10_0, aops_cons, aop, ev_c, thenOps_some, put_some, aops_nil, regR_some, runR_block, r10_1, ev_t, upd_get, reduceCtorEq, ↓reduceIte, ainit_get, List.getD_cons_zero, asX_cons, asX_nil, h0, aUn_not, Bool.not_true, withH_some', runR_cond', condR_b, Bool.false_eq_true, r10_3, Nat.reduceEqDiff, List.getD_cons_succ, aBin, BinOp.isShift, or_true, aInt_lss, c1', aops_g, gOps_b, aInt_geq, GE.ge, c2', c3', runR_skip, runR_inBlock, r10_5, Nat.zero_add, aload, he, apart, List.getElem?_cons_succ, List.getElem?_cons_zero, Nat.add_zero, aInt_sub, w1, aminmax, aInt_add, w2, mu_i, h1, muO_E, withU_some', put_none, r10_6, runR_ret, afinish_def, s10, aresults, aresult, aback]
        · rw [hX, AH_set_o, if_neg h.ne]; exact he
        · rw [hX, AH_set_o, if_pos rfl]
        · have := hb.put (n := th) (v := .i .i64 (dueAt now n))
          rw [mput_kv] at this
          exact this
        · rw [hX]; exact h.lt
        · rcases set_mem hp with hp | rfl
          · exact h.rg p hp
          · unfold okP; simp only; omega
        · rw [hX]; exact Fb.refl.set
      · refine bad (by simp at c3; omega) ?_
        simp only [c10, b10, runR_seq, r10_0, aops_cons, aop, ev_c, thenOps_some, put_some, aops_nil, regR_some, runR_block, r10_1, ev_t, upd_get, reduceCtorEq, ↓reduceIte, ainit_get, List.getD_cons_zero, asX_cons, asX_nil, h0, aUn_not, Bool.not_true, withH_some', runR_cond', condR_b, Bool.false_eq_true, r10_3, Nat.reduceEqDiff, List.getD_cons_succ, aBin, BinOp.isShift, or_true, aInt_lss, c1, aops_g, gOps_b, aInt_geq, GE.ge, c2, c3, r10_4, runR_ret, afinish_def, s10, aresults, aresult, aback]
    · refine bad (by simp at c2; omega) ?_
      simp only [c10, b10, runR_seq, r10_0, aops_cons, aop, ev_c, thenOps_some, put_some, aops_nil, regR_some, runR_block, r10_1, ev_t, upd_get, reduceCtorEq, ↓reduceIte, ainit_get, List.getD_cons_zero, asX_cons, asX_nil, h0, aUn_not, Bool.not_true, withH_some', runR_cond', condR_b, Bool.false_eq_true, r10_3, Nat.reduceEqDiff, List.getD_cons_succ, aBin, BinOp.isShift, or_true, aInt_lss, c1, aops_g, gOps_b, aInt_geq, GE.ge, c2, Bool.true_eq_false, r10_4, runR_ret, afinish_def, s10, aresults, aresult, aback]
  · refine bad (by simp at c1; omega) ?_
    simp only [c10, b10, runR_seq, r10_0, aops_cons, aop, ev_c, thenOps_some, put_some, aops_nil, regR_some, runR_block, r10_1, ev_t, upd_get, reduceCtorEq, ↓reduceIte, ainit_get, List.getD_cons_zero, asX_cons, asX_nil, h0, aUn_not, Bool.not_true, withH_some', runR_cond', condR_b, Bool.false_eq_true, r10_3, Nat.reduceEqDiff, List.getD_cons_succ, aBin, BinOp.isShift, or_true, aInt_lss, c1, aops_g, gOps_b, Bool.true_eq_false, r10_4, runR_ret, afinish_def, s10, aresults, aresult, aback]
theorem delT_none {x : Int} (h : lk T x = none) : delT T x = T := by
  unfold delT
  rw [List.filter_eq_self]
  intro p hp
  unfold lk at h
  rw [List.find?_eq_none] at h
  have := h p hp
  simp at this
  simpa using fun e => this e.symm
theorem Ck.del {H' : AH} {x : Int} (h : Ck H e m now T) {bc : List Nat × Nat} (h1 : H.o m = some (.mapo (mE (T.map kv)) bc)) (hb : BOk (T.map kv) bc) (hn : H.n ≤ H'.n) (g0 : H'.o e = H.o e) (g1 : H'.o m = some (.mapo (mE (mdel (T.map kv) x)) (bdel (T.map kv) x bc))) : Ck H' e m now (delT T x) := by
  have hsub : (delT T x).Sublist T := List.filter_sublist
  have e1 := mdel_kv (x := x) h.nd
  refine ⟨g0.trans h.he, ⟨bdel (T.map kv) x bc, by rw [g1, e1], ?_⟩, h.ne, by have := h.lt; omega, h.nd.sublist (hsub.map _), fun p hp => h.rg p (hsub.subset hp), h.tm⟩
  have := hb.del (n := x)
  rw [e1] at this
  exact this
theorem clear_spec (h : Ck H e m now T) (x : Int) : ∃ H', callR (tblP q) 14 [.p (some (e, 0)), .i .i64 x] H = some (.b (lk T x).isSome, H') ∧ Ck H' e m now (delT T x) ∧ Fb m H H' := by
  have ha := at_spec (q := q) h x
  have he := h.he
  obtain ⟨bc, h1, hb⟩ := h.hm
  cases hl : lk T x with
  | none =>
    rw [hl, Option.isSome_none] at ha
    refine ⟨H, ?_, by rw [delT_none hl]; exact h, Fb.refl⟩
    simp only [c14, b14, runR_seq, r14_0, aops_cons, aop, ev_c, thenOps_some, put_some, aops_nil, regR_some, r14_1, ev_t, upd_get, reduceCtorEq, ↓reduceIte, ainit_get, List.getD_cons_zero, Nat.reduceEqDiff, List.getD_cons_succ, asX_cons, asX_nil, ha, List.getElem?_cons_zero, withH_some', List.getElem?_cons_succ, r14_2, runR_cond', condR_b, Bool.false_eq_true, runR_skip, r14_4, runR_ret, afinish_def, s14, aresults, aresult, aback, Option.isSome_none]
  | some p =>
    rw [hl, Option.isSome_some] at ha
    refine ⟨H.set m (.mapo (mE (mdel (T.map kv) x)) (bdel (T.map kv) x bc)), ?_, ?_, Fb.refl.set⟩
    · simp only [c14, b14, runR_seq, r14_0, aops_cons, aop, ev_c, thenOps_some, put_some, aops_nil, regR_some, r14_1, ev_t, upd_get, reduceCtorEq, ↓reduceIte, ainit_get, List.getD_cons_zero, Nat.reduceEqDiff, List.getD_cons_succ, asX_cons, asX_nil, ha, List.getElem?_cons_zero, withH_some', List.getElem?_cons_succ, r14_2, runR_cond', condR_b, r14_3, Nat.zero_add, aload, he, apart, dl_mp, h1, dlO_E, withU_some', put_none, r14_4, runR_ret, afinish_def, s14, aresults, aresult, aback, Option.isSome_some]
    · refine h.del h1 hb (Nat.le_refl _) ?_ ?_
      · rw [AH_set_o, if_neg h.ne]
      · rw [AH_set_o, if_pos rfl]
/-- The order of alarms. -/
def cmpI (x y : Int) : Int := if x < y then -1 else if y < x then 1 else 0
def cfT (T : List P2) (x y : Int) : Int := if cmpI (at0 T x) (at0 T y) = 0 then cmpI x y else cmpI (at0 T x) (at0 T y)
theorem cmp32 {H : AH} (x y : Int) : callR (tblP q) 32 [.i .i64 x, .i .i64 y] H = some (.i .i64 (cmpI x y), H) := by
  have n1 : (x != x) = false := by simp
  have n2 : (y != y) = false := by simp
  have i1 : callR (tblP q) 37 [.i .i64 x] H = some (.b false, H) := by simp only [c37, b37, runR_seq, r37_0, aops_cons, aop, ev_c, thenOps_some, put_some, aops_nil, regR_some, r37_1, ev_t, upd_get, reduceCtorEq, ↓reduceIte, ainit_get, List.getD_cons_zero, aBin, Nat.reduceEqDiff, BinOp.isShift, Bool.false_eq_true, or_true, aInt_neq, bne_self_eq_false, withH_some', runR_ret, afinish_def, s37, aresults, aresult, aback]
  have i2 : callR (tblP q) 37 [.i .i64 y] H = some (.b false, H) := by simp only [c37, b37, runR_seq, r37_0, aops_cons, aop, ev_c, thenOps_some, put_some, aops_nil, regR_some, r37_1, ev_t, upd_get, reduceCtorEq, ↓reduceIte, ainit_get, List.getD_cons_zero, aBin, Nat.reduceEqDiff, BinOp.isShift, Bool.false_eq_true, or_true, aInt_neq, bne_self_eq_false, withH_some', runR_ret, afinish_def, s37, aresults, aresult, aback]
  unfold cmpI
  by_cases h1 : x < y
  · have c1 : decide (x < y) = true := by simpa using h1
    rw [if_pos h1]
    simp only [c32, b32, runR_seq, r32_0, aops_cons, aop, ev_c, thenOps_some, put_some, aops_nil, regR_some, r32_1, ev_t, upd_get, reduceCtorEq, ↓reduceIte, ainit_get, List.getD_cons_zero, asX_cons, asX_nil, i1, r32_2, Nat.reduceEqDiff, List.getD_cons_succ, i2, r32_3, runR_cond', condR_b, Bool.false_eq_true, runR_skip, r32_7, r32_9, aBin, BinOp.isShift, or_true, aInt_lss, c1, withH_some', r32_10, Int.reduceNeg, runR_ret, afinish_def, s32, aresults, aresult, aback]
  · have c1 : decide (x < y) = false := by simpa using h1
    rw [if_neg h1]
    by_cases h2 : y < x
    · have c2 : decide (y < x) = true := by simpa using h2
      rw [if_pos h2]
      simp only [c32, b32, runR_seq, r32_0, aops_cons, aop, ev_c, thenOps_some, put_some, aops_nil, regR_some, r32_1, ev_t, upd_get, reduceCtorEq, ↓reduceIte, ainit_get, List.getD_cons_zero, asX_cons, asX_nil, i1, r32_2, Nat.reduceEqDiff, List.getD_cons_succ, i2, r32_3, runR_cond', condR_b, Bool.false_eq_true, runR_skip, r32_7, r32_9, aBin, BinOp.isShift, or_true, aInt_lss, c1, withH_some', r32_11, aInt_gtr, GT.gt, c2, r32_12, runR_ret, afinish_def, s32, aresults, aresult, aback]
    · have c2 : decide (y < x) = false := by simpa using h2
      rw [if_neg h2]
      simp only [c32, b32, runR_seq, r32_0, aops_cons, aop, ev_c, thenOps_some, put_some, aops_nil, regR_some, r32_1, ev_t, upd_get, reduceCtorEq, ↓reduceIte, ainit_get, List.getD_cons_zero, asX_cons, asX_nil, i1, r32_2, Nat.reduceEqDiff, List.getD_cons_succ, i2, r32_3, runR_cond', condR_b, Bool.false_eq_true, runR_skip, r32_7, r32_9, aBin, BinOp.isShift, or_true, aInt_lss, c1, withH_some', r32_11, aInt_gtr, GT.gt, c2, r32_13, runR_ret, afinish_def, s32, aresults, aresult, aback]
theorem cmp33 {H : AH} (x y : Int) : callR (tblP q) 33 [.i .i64 x, .i .i64 y] H = some (.i .i64 (cmpI x y), H) := by
  have n1 : (x != x) = false := by simp
  have n2 : (y != y) = false := by simp
  have i1 : callR (tblP q) 38 [.i .i64 x] H = some (.b false, H) := by simp only [c38, b38, runR_seq, r38_0, aops_cons, aop, ev_c, thenOps_some, put_some, aops_nil, regR_some, r38_1, ev_t, upd_get, reduceCtorEq, ↓reduceIte, ainit_get, List.getD_cons_zero, aBin, Nat.reduceEqDiff, BinOp.isShift, Bool.false_eq_true, or_true, aInt_neq, bne_self_eq_false, withH_some', runR_ret, afinish_def, s38, aresults, aresult, aback]
  have i2 : callR (tblP q) 38 [.i .i64 y] H = some (.b false, H) := by simp only [c38, b38, runR_seq, r38_0, aops_cons, aop, ev_c, thenOps_some, put_some, aops_nil, regR_some, r38_1, ev_t, upd_get, reduceCtorEq, ↓reduceIte, ainit_get, List.getD_cons_zero, aBin, Nat.reduceEqDiff, BinOp.isShift, Bool.false_eq_true, or_true, aInt_neq, bne_self_eq_false, withH_some', runR_ret, afinish_def, s38, aresults, aresult, aback]
  unfold cmpI
  by_cases h1 : x < y
  · have c1 : decide (x < y) = true := by simpa using h1
    rw [if_pos h1]
    simp only [c33, b33, runR_seq, r33_0, aops_cons, aop, ev_c, thenOps_some, put_some, aops_nil, regR_some, r33_1, ev_t, upd_get, reduceCtorEq, ↓reduceIte, ainit_get, List.getD_cons_zero, asX_cons, asX_nil, i1, r33_2, Nat.reduceEqDiff, List.getD_cons_succ, i2, r33_3, runR_cond', condR_b, Bool.false_eq_true, runR_skip, r33_7, r33_9, aBin, BinOp.isShift, or_true, aInt_lss, c1, withH_some', r33_10, Int.reduceNeg, runR_ret, afinish_def, s33, aresults, aresult, aback]
  · have c1 : decide (x < y) = false := by simpa using h1
    rw [if_neg h1]
    by_cases h2 : y < x
    · have c2 : decide (y < x) = true := by simpa using h2
      rw [if_pos h2]
      simp only [c33, b33, runR_seq, r33_0, aops_cons, aop, ev_c, thenOps_some, put_some, aops_nil, regR_some, r33_1, ev_t, upd_get, reduceCtorEq, ↓reduceIte, ainit_get, List.getD_cons_zero, asX_cons, asX_nil, i1, r33_2, Nat.reduceEqDiff, List.getD_cons_succ, i2, r33_3, runR_cond', condR_b, Bool.false_eq_true, runR_skip, r33_7, r33_9, aBin, BinOp.isShift, or_true, aInt_lss, c1, withH_some', r33_11, aInt_gtr, GT.gt, c2, r33_12, runR_ret, afinish_def, s33, aresults, aresult, aback]
    · have c2 : decide (y < x) = false := by simpa using h2
      rw [if_neg h2]
      simp only [c33, b33, runR_seq, r33_0, aops_cons, aop, ev_c, thenOps_some, put_some, aops_nil, regR_some, r33_1, ev_t, upd_get, reduceCtorEq, ↓reduceIte, ainit_get, List.getD_cons_zero, asX_cons, asX_nil, i1, r33_2, Nat.reduceEqDiff, List.getD_cons_succ, i2, r33_3, runR_cond', condR_b, Bool.false_eq_true, runR_skip, r33_7, r33_9, aBin, BinOp.isShift, or_true, aInt_lss, c1, withH_some', r33_11, aInt_gtr, GT.gt, c2, r33_13, runR_ret, afinish_def, s33, aresults, aresult, aback]
theorem or31 {H : AH} {b : Nat} {ex : Bool} {u v : Int} (hb : H.o b = some (.row false [.i .i64 u, .i .i64 v])) : callR (tblP q) 31 [.sl (some (b, 0)) 2 2 ex 1] H = some (.i .i64 (if u = 0 then v else u), H) := by
  have w1 : IntKind.i64.wrap ((0 : Int) + 1) = 1 := by decide
  have w2 : IntKind.i64.wrap ((1 : Int) + 1) = 2 := by decide
  have c0 : decide ((0 : Int) < ((2 : Nat) : Int)) = true := by decide
  have c1 : decide ((1 : Int) < ((2 : Nat) : Int)) = true := by decide
  have c2 : decide ((2 : Int) < ((2 : Nat) : Int)) = false := by decide
  have d0 : (0 : Int) ≤ 0 ∧ (0 : Int) < ((2 : Nat) : Int) := by decide
  have d1 : (0 : Int) ≤ 1 ∧ (1 : Int) < ((2 : Nat) : Int) := by decide
  have t1 : Int.toNat 1 = 1 := rfl
  simp only [c31, b31, runR_seq, r31_0, aops_cons, aop, ev_c, thenOps_some, put_some, aops_nil, regR_some, r31_1, r31_2, ev_t, upd_get, reduceCtorEq, ↓reduceIte, ainit_get, List.getD_cons_zero, cast_of, runR_block, runR_loop']
  rw [runR_inLoop]
  by_cases h : u = 0
  · have e1 : (u != 0) = false := by simp [h]
    rw [if_pos h]
    simp only [l31_8, runR_seq, r31_3, aops_cons, aop, aBin, ev_t, upd_get, ↓reduceIte, Nat.reduceEqDiff, BinOp.isShift, Bool.false_eq_true, or_true, aInt_lss, Int.reduceLT, decide_true, withH_some', thenOps_some, put_some, aops_nil, regR_some, runR_cond', condR_b, runR_skip, runR_block, r31_4, d0, cast_of, and_self, Int.toNat_zero, Nat.mul_one, Nat.add_zero, aload, hb, apart, List.getElem?_cons_zero, r31_5, aInt_neq, e1, runR_inBlock, r31_7, ev_c, aInt_add, Int.reduceAdd, Int.reduceNeg, Int.reduceLE, wrap_i64]
    rw [runR_inLoop]
    by_cases h2 : v = 0
    · have e2 : (v != 0) = false := by simp [h2]
      simp only [runR_seq, r31_3, aops_cons, aop, aBin, ev_t, upd_get, ↓reduceIte, Nat.reduceEqDiff, BinOp.isShift, Bool.false_eq_true, or_true, aInt_lss, Int.reduceLT, decide_true, withH_some', thenOps_some, put_some, aops_nil, regR_some, runR_cond', condR_b, runR_skip, runR_block, r31_4, Nat.succ_ne_self, d1, cast_of, and_self, t1, Nat.mul_one, Nat.zero_add, aload, hb, apart, List.getElem?_cons_succ, List.getElem?_cons_zero, r31_5, aInt_neq, e2, runR_inBlock, r31_7, ev_c, aInt_add, Int.reduceAdd, Int.reduceNeg, Int.reduceLE, wrap_i64]
      rw [runR_inLoop]
      simp only [h2, runR_seq, r31_3, aops_cons, aop, aBin, ev_t, upd_get, ↓reduceIte, Nat.reduceEqDiff, BinOp.isShift, Bool.false_eq_true, or_true, aInt_lss, Int.reduceLT, decide_false, withH_some', thenOps_some, put_some, aops_nil, regR_some, runR_cond', condR_b, runR_exit', aexit_code, aexit_inLoop, aexit_inBlock, exitR_some, r31_9, runR_ret, afinish_def, s31, aresults, aresult, aback]
    · have e2 : (v != 0) = true := by simpa using h2
      simp only [runR_seq, r31_3, aops_cons, aop, aBin, ev_t, upd_get, ↓reduceIte, Nat.reduceEqDiff, BinOp.isShift, Bool.false_eq_true, or_true, aInt_lss, Int.reduceLT, decide_true, withH_some', thenOps_some, put_some, aops_nil, regR_some, runR_cond', condR_b, runR_skip, runR_block, r31_4, Nat.succ_ne_self, d1, cast_of, and_self, t1, Nat.mul_one, Nat.zero_add, aload, hb, apart, List.getElem?_cons_succ, List.getElem?_cons_zero, r31_5, aInt_neq, e2, r31_6, runR_ret, afinish_def, s31, aresults, aresult, aback]
  · have e1 : (u != 0) = true := by simpa using h
    rw [if_neg h]
    simp only [l31_8, runR_seq, r31_3, aops_cons, aop, aBin, ev_t, upd_get, ↓reduceIte, Nat.reduceEqDiff, BinOp.isShift, Bool.false_eq_true, or_true, aInt_lss, Int.reduceLT, decide_true, withH_some', thenOps_some, put_some, aops_nil, regR_some, runR_cond', condR_b, runR_skip, runR_block, r31_4, d0, cast_of, and_self, Int.toNat_zero, Nat.mul_one, Nat.add_zero, aload, hb, apart, List.getElem?_cons_zero, r31_5, aInt_neq, e1, r31_6, runR_ret, afinish_def, s31, aresults, aresult, aback]
theorem cm_spec (h : Ck H e m now T) {b : Nat} (be : e ≠ b) (bm : m ≠ b) : Cm q e b H (cfT T) := by
  intro H1 x y f
  have h1 := h.eqs f.1 (f.2 e h.lt.1 be) (f.2 m h.lt.2 bm)
  have he := h1.he
  obtain ⟨bc, hm, _⟩ := h1.hm
  have gx := mget_kv T x
  have gy := mget_kv T y
  have ex' : ((lk T x).map fun p => AV.i .i64 p.2).getD (.i .i64 0) = .i .i64 (at0 T x) := by unfold at0; cases lk T x <;> rfl
  have ey' : ((lk T y).map fun p => AV.i .i64 p.2).getD (.i .i64 0) = .i .i64 (at0 T y) := by unfold at0; cases lk T y <;> rfl
  have c1 := cmp32 (q := q) (H := H1) (at0 T x) (at0 T y)
  have c2 := cmp33 (q := q) (H := H1) x y
  obtain ⟨H2, hH2⟩ : ∃ H2, H2 = H1.new (.row false [.i .i64 (cmpI (at0 T x) (at0 T y)), .i .i64 (cmpI x y)]) := ⟨_, rfl⟩
  have o2 : H2.o H1.n = some (.row false [.i .i64 (cmpI (at0 T x) (at0 T y)), .i .i64 (cmpI x y)]) := by rw [hH2, AH_new_o, if_pos rfl]
  have c3 := fun ex => or31 (q := q) (ex := ex) o2
  refine ⟨H2, ?_, by rw [hH2]; exact (Keeps.refl _).new⟩
  unfold cfT
  simp only [c26, b26, runR_seq, r26_0, aops_cons, aop, ev_c, thenOps_some, put_some, aops_nil, regR_some, r26_1, ev_t, upd_get, reduceCtorEq, ↓reduceIte, ainit_get, List.getD_cons_zero, Nat.zero_add, aload, he, apart, List.getElem?_cons_succ, List.getElem?_cons_zero, withH_some', Nat.reduceEqDiff, List.getD_cons_succ, lk_mp, hm, lkO_1, gx, ex', gy, ey', asX_cons, asX_nil, c1, c2, afill, AV.cells, List.length_cons, List.length_nil, zerosA, List.append_nil, List.cons_append, List.nil_append, Nat.reduceAdd, Nat.reduceLeDiff, and_self, setR_z, setR_e, setR_s, ← hH2, c3, runR_ret, afinish_def, s26, aresults, aresult, aback]
end
end Go.Proofs.Ytaolkpkaiidmeaa.Abs
