/- The document's clock. No condition of its own. -/
import Derived.Test.YtaolkpkaiidmeaaArr2
namespace Go.Proofs.Ytaolkpkaiidmeaa.Abs
set_option linter.unusedSimpArgs false
set_option linter.unusedVariables false
set_option maxRecDepth 100000
set_option maxHeartbeats 8000000
/-- Alarms as they may be. -/
structure Tk (T : List P2) : Prop where
  nd : (T.map (·.1)).Nodup
  rg : ∀ p ∈ T, okP p
theorem Ck.tk {H : AH} {e m : Nat} {now : Int} {T : List P2} (h : Ck H e m now T) : Tk T := ⟨h.nd, h.rg⟩
theorem Tk.del {T : List P2} (h : Tk T) (x : Int) : Tk (delT T x) := by
  have hsub : (delT T x).Sublist T := List.filter_sublist
  exact ⟨h.nd.sublist (hsub.map _), fun p hp => h.rg p (hsub.subset hp)⟩
theorem Tk.dels {D : List Int} : ∀ {T : List P2}, Tk T → Tk (D.foldl delT T) := by
  induction D with
  | nil => exact fun h => h
  | cons x D ih => exact fun h => ih (h.del x)
theorem Tk.pos {T : List P2} (h : Tk T) (x : Int) : (lk T x).isSome = decide (1 ≤ at0 T x) ∧ 0 ≤ at0 T x ∧ at0 T x ≤ 1099511627776 ∧ ((lk T x).isSome = true → 0 ≤ x ∧ x < 256) := by
  unfold at0
  cases e : lk T x with
  | none => simp
  | some p =>
    obtain ⟨hp, rfl⟩ := lk_of e
    have := h.rg p hp
    unfold okP at this
    refine ⟨?_, ?_, ?_, fun _ => ⟨this.1, this.2.1⟩⟩
    · simp; omega
    · simp; omega
    · simp; omega
theorem Tk.key {T : List P2} (h : Tk T) {x : Int} : x ∈ T.map (·.1) ↔ 1 ≤ at0 T x := by
  rw [key_lk h.nd, (h.pos x).1]
  simp
theorem Tk.ne {T : List P2} (h : Tk T) {x : Int} (hx : at0 T x ≠ 0) : x ∈ T.map (·.1) := by
  rw [h.key]
  have := (h.pos x).2.1
  omega
/-- Those of all threads of which something holds. -/
def fil (p : Nat → Bool) : List Int := ((List.range 256).filter p).map fun (i : Nat) => (i : Int)
theorem fil_nd (p : Nat → Bool) : (fil p).Nodup := by
  unfold fil
  refine List.Pairwise.map _ (fun a b hab => ?_) ((List.nodup_range).filter p)
  omega
theorem fil_mem {p : Nat → Bool} {x : Int} : x ∈ fil p ↔ 0 ≤ x ∧ x < 256 ∧ p x.toNat = true := by
  unfold fil
  rw [List.mem_map]
  constructor
  · rintro ⟨i, hi, rfl⟩
    rw [List.mem_filter, List.mem_range] at hi
    rw [Int.toNat_natCast]
    exact ⟨by omega, by omega, hi.2⟩
  · rintro ⟨h1, h2, h3⟩
    exact ⟨x.toNat, by rw [List.mem_filter, List.mem_range]; exact ⟨by omega, h3⟩, by omega⟩
theorem fil_up (p : Nat → Bool) : (fil p).Pairwise (· < ·) := by
  unfold fil
  refine List.Pairwise.map _ (fun a b hab => ?_) ((List.pairwise_lt_range (n := 256)).filter p)
  omega
theorem keys_fil {T : List P2} (h : Tk T) : (fil fun i => at0 T (i : Int) != 0).Perm (T.map (·.1)) := by
  rw [List.perm_ext_iff_of_nodup (fil_nd _) h.nd]
  intro x
  rw [fil_mem, h.key]
  have hp := h.pos x
  constructor
  · rintro ⟨h1, h2, h3⟩
    have e : ((x.toNat : Nat) : Int) = x := by omega
    rw [e] at h3
    have : at0 T x ≠ 0 := by simpa using h3
    omega
  · intro h1
    have := hp.2.2.2 (by rw [hp.1]; simpa using h1)
    have e : ((x.toNat : Nat) : Int) = x := by omega
    refine ⟨this.1, this.2, ?_⟩
    rw [e]
    have : at0 T x ≠ 0 := by omega
    simpa using this
/-- How many of the first threads have an alarm. -/
def cnt (T : List P2) (n : Nat) : Nat := ((List.range n).filter fun (i : Nat) => at0 T (i : Int) != 0).length
theorem cnt_succ (T : List P2) (n : Nat) : cnt T (n + 1) = if at0 T (n : Int) = 0 then cnt T n else cnt T n + 1 := by
  unfold cnt
  rw [List.range_succ, List.filter_append, List.length_append]
  by_cases h : at0 T (n : Int) = 0
  · simp [h]
  · simp [h]
theorem cnt_le (T : List P2) (n : Nat) : cnt T n ≤ n := by
  unfold cnt
  have := List.length_filter_le (fun i : Nat => at0 T (i : Int) != 0) (List.range n)
  rw [List.length_range] at this
  exact this
theorem cnt_all {T : List P2} (h : Tk T) : cnt T 256 = T.length := by
  have := (keys_fil h).length_eq
  unfold fil at this
  rw [List.length_map, List.length_map] at this
  exact this
/-- The least alarm of the first threads; 0: there is none. -/
def bst (T : List P2) : Nat → Int
  | 0 => 0
  | n + 1 => if at0 T (n : Int) ≠ 0 ∧ (bst T n = 0 ∨ at0 T (n : Int) < bst T n) then at0 T (n : Int) else bst T n
theorem bst_in {T : List P2} (h : Tk T) : ∀ n, (bst T n = 0 ∧ ∀ j : Nat, j < n → at0 T (j : Int) = 0) ∨ (bst T n ≠ 0 ∧ (∃ j : Nat, j < n ∧ bst T n = at0 T (j : Int)) ∧ ∀ j : Nat, j < n → at0 T (j : Int) ≠ 0 → bst T n ≤ at0 T (j : Int))
  | 0 => Or.inl ⟨rfl, fun j hj => by omega⟩
  | n + 1 => by
    have ih := bst_in h n
    unfold bst
    by_cases hz : at0 T (n : Int) = 0
    · rw [if_neg (fun hh => hh.1 hz)]
      rcases ih with ⟨a, b⟩ | ⟨a, ⟨j, c, d⟩, b⟩
      · refine Or.inl ⟨a, fun j hj => ?_⟩
        by_cases e : j = n
        · rw [e]; exact hz
        · exact b j (by omega)
      · refine Or.inr ⟨a, ⟨j, by omega, d⟩, fun j hj hne => ?_⟩
        by_cases e : j = n
        · rw [e] at hne; exact absurd hz hne
        · exact b j (by omega) hne
    · rcases ih with ⟨a, b⟩ | ⟨a, ⟨j, c, d⟩, b⟩
      · rw [if_pos ⟨hz, Or.inl a⟩]
        refine Or.inr ⟨hz, ⟨n, by omega, rfl⟩, fun j hj hne => ?_⟩
        by_cases e : j = n
        · rw [e]; exact Int.le_refl _
        · exact absurd (b j (by omega)) hne
      · by_cases hlt : at0 T (n : Int) < bst T n
        · rw [if_pos ⟨hz, Or.inr hlt⟩]
          refine Or.inr ⟨hz, ⟨n, by omega, rfl⟩, fun j hj hne => ?_⟩
          by_cases e : j = n
          · rw [e]; exact Int.le_refl _
          · have := b j (by omega) hne; omega
        · rw [if_neg (fun hh => hh.2.elim a hlt)]
          refine Or.inr ⟨a, ⟨j, by omega, d⟩, fun j hj hne => ?_⟩
          by_cases e : j = n
          · rw [e]; omega
          · exact b j (by omega) hne
theorem at0_memT {T : List P2} (h : Tk T) {p : P2} (hp : p ∈ T) : at0 T p.1 = p.2 := by
  unfold at0
  rw [lk_mem hp h.nd]
  rfl
theorem min_atT {T : List P2} (h : Tk T) (hT : T ≠ []) : ∃ p ∈ T, minT T 1099511627776 = p.2 ∧ ∀ p ∈ T, minT T 1099511627776 ≤ p.2 := by
  obtain ⟨h1, h2, h3⟩ := minT_le T 1099511627776
  rcases h3 with h3 | ⟨p, hp, h3⟩
  · cases T with
    | nil => exact absurd rfl hT
    | cons y T =>
      have a := h2 y (List.mem_cons_self ..)
      have b := h.rg y (List.mem_cons_self ..)
      unfold okP at b
      exact ⟨y, List.mem_cons_self .., by omega, h2⟩
  · exact ⟨p, hp, h3, h2⟩
theorem bst_all {T : List P2} (h : Tk T) : bst T 256 = if T = [] then 0 else minT T 1099511627776 := by
  have hb := bst_in h 256
  by_cases hT : T = []
  · rw [if_pos hT]
    rcases hb with ⟨a, _⟩ | ⟨a, ⟨j, c, d⟩, _⟩
    · exact a
    · rw [hT] at d
      rw [hT]
      exact d
  · rw [if_neg hT]
    obtain ⟨p, hp, e, hall⟩ := min_atT h hT
    have hok := h.rg p hp
    unfold okP at hok
    have ha := at0_memT h hp
    have hpn : ((p.1.toNat : Nat) : Int) = p.1 := by omega
    rcases hb with ⟨a, b⟩ | ⟨a, ⟨j, c, d⟩, b⟩
    · have := b p.1.toNat (by omega)
      rw [hpn, ha] at this
      omega
    · have h1 := b p.1.toNat (by omega) (by rw [hpn, ha]; omega)
      rw [hpn, ha] at h1
      have hj := h.ne (x := (j : Int)) (by rw [← d]; exact a)
      obtain ⟨z, hz, hz1⟩ := List.mem_map.1 hj
      have h2 := hall z hz
      have h3 := at0_memT h hz
      rw [hz1] at h3
      omega
/-- Those of one time. -/
def eqs (T : List P2) (a : Int) : List Int := fil fun i => at0 T (i : Int) == a
theorem eqs_mem {T : List P2} (h : Tk T) {a x : Int} (ha : a ≠ 0) : x ∈ eqs T a ↔ at0 T x = a := by
  unfold eqs
  rw [fil_mem]
  constructor
  · rintro ⟨h1, h2, h3⟩
    have e : ((x.toNat : Nat) : Int) = x := by omega
    rw [e] at h3
    simpa using h3
  · intro h1
    have hp := h.pos x
    have hk := h.ne (x := x) (by omega)
    rw [h.key] at hk
    have := hp.2.2.2 (by rw [hp.1]; simpa using hk)
    have e : ((x.toNat : Nat) : Int) = x := by omega
    refine ⟨this.1, this.2, ?_⟩
    rw [e]
    simpa using h1
theorem srt_round {T : List P2} (h : Tk T) (hT : T ≠ []) : srtT T = eqs T (minT T 1099511627776) ++ srtT ((eqs T (minT T 1099511627776)).foldl delT T) := by
  obtain ⟨p, hp, e, hall⟩ := min_atT h hT
  have hok := h.rg p hp
  unfold okP at hok
  obtain ⟨a, ha⟩ : ∃ a, a = minT T 1099511627776 := ⟨_, rfl⟩
  rw [← ha] at e hall ⊢
  have ha0 : a ≠ 0 := by omega
  have hd : Tk ((eqs T a).foldl delT T) := h.dels
  have hkey : ∀ x, x ∈ ((eqs T a).foldl delT T).map (·.1) ↔ (1 ≤ at0 T x ∧ at0 T x ≠ a) := by
    intro x
    rw [hd.key, at0_dels]
    by_cases hx : x ∈ eqs T a
    · rw [if_pos hx]
      rw [eqs_mem h ha0] at hx
      omega
    · rw [if_neg hx]
      rw [eqs_mem h ha0] at hx
      omega
  have hge : ∀ x, 1 ≤ at0 T x → a ≤ at0 T x := by
    intro x hx
    have := h.key.2 hx
    obtain ⟨z, hz, hz1⟩ := List.mem_map.1 this
    have h2 := hall z hz
    have h3 := at0_memT h hz
    rw [hz1] at h3
    omega
  have hmem : ∀ x, x ∈ srtT ((eqs T a).foldl delT T) ↔ (1 ≤ at0 T x ∧ at0 T x ≠ a) := fun x => by rw [(srtT_perm _).mem_iff, hkey]
  refine srtT_eq ?_ ?_
  · rw [List.perm_ext_iff_of_nodup ?_ h.nd]
    · intro x
      rw [List.mem_append, eqs_mem h ha0, hmem, h.key]
      omega
    · rw [List.nodup_append]
      refine ⟨fil_nd _, (srtT_perm _).symm.nodup hd.nd, fun x hx y hy e => ?_⟩
      subst e
      rw [eqs_mem h ha0] at hx
      rw [hmem] at hy
      omega
  · rw [List.pairwise_append]
    refine ⟨?_, ?_, fun x hx y hy => ?_⟩
    · refine List.Pairwise.imp_of_mem ?_ (fil_up _)
      intro x y hx hy hxy
      have h1 := (eqs_mem h ha0).1 hx
      have h2 := (eqs_mem h ha0).1 hy
      omega
    · refine List.Pairwise.imp_of_mem ?_ (srtT_sorted _)
      intro x y hx hy hxy
      rw [hmem] at hx hy
      have n1 : x ∉ eqs T a := by rw [eqs_mem h ha0]; exact hx.2
      have n2 : y ∉ eqs T a := by rw [eqs_mem h ha0]; exact hy.2
      rw [at0_dels, at0_dels, if_neg n1, if_neg n2] at hxy
      exact hxy
    · rw [eqs_mem h ha0] at hx
      rw [hmem] at hy
      have := hge y hy.1
      omega
theorem due_round {T : List P2} (h : Tk T) (hT : T ≠ []) {N : Int} (hN : minT T 1099511627776 ≤ N) : dueT T N = eqs T (minT T 1099511627776) ++ dueT ((eqs T (minT T 1099511627776)).foldl delT T) N := by
  obtain ⟨p, hp, e, hall⟩ := min_atT h hT
  have hok := h.rg p hp
  unfold okP at hok
  rw [dueT_filter, srt_round h hT, List.filter_append, dueT_filter]
  obtain ⟨a, ha⟩ : ∃ a, a = minT T 1099511627776 := ⟨_, rfl⟩
  rw [← ha] at e hN ⊢
  have ha0 : a ≠ 0 := by omega
  congr 1
  · rw [List.filter_eq_self]
    intro x hx
    rw [eqs_mem h ha0] at hx
    simp
    omega
  · apply List.filter_congr
    intro x hx
    have hx2 : x ∉ eqs T a := by
      have := (srtT_perm _).mem_iff.1 hx
      rw [(h.dels (D := eqs T a)).key, at0_dels] at this
      intro hm
      rw [if_pos hm] at this
      omega
    rw [at0_dels, if_neg hx2]
theorem due_none {T : List P2} (h : Tk T) {N : Int} (hN : T = [] ∨ N < minT T 1099511627776) : dueT T N = [] := by
  rw [dueT_filter, List.filter_eq_nil_iff]
  intro y hy
  have hy' := (srtT_perm T).mem_iff.1 hy
  rcases hN with hT | hN
  · rw [hT] at hy'; cases hy'
  · obtain ⟨z, hz, hz1⟩ := List.mem_map.1 hy'
    have hT : T ≠ [] := fun e => by rw [e] at hz; cases hz
    obtain ⟨_, _, _, hall⟩ := min_atT h hT
    have h2 := hall z hz
    have h3 := at0_memT h hz
    rw [hz1] at h3
    simp
    omega
theorem dels_len {T : List P2} (h : Tk T) (hT : T ≠ []) : ((eqs T (minT T 1099511627776)).foldl delT T).length < T.length := by
  have h1 := (srtT_len T)
  have h2 := srt_round h hT
  have h3 := srtT_len ((eqs T (minT T 1099511627776)).foldl delT T)
  have h4 : 0 < (eqs T (minT T 1099511627776)).length := by
    obtain ⟨p, hp, e, hall⟩ := min_atT h hT
    have hok := h.rg p hp
    unfold okP at hok
    apply List.length_pos_of_mem (a := p.1)
    rw [eqs_mem h (by omega), at0_memT h hp]
    exact e.symm
  have h5 := congrArg List.length h2
  rw [List.length_append] at h5
  omega
/-- The document's clock. -/
structure RC (H : AH) (r : Nat) (now : Int) (T : List P2) : Prop where
  o : H.o r = some (.row false (.i .i64 now :: arr T))
  lt : r < H.n
  tk : Tk T
  tm : 0 ≤ now ∧ now ≤ 1099511627776
section
variable {q : Prm} {H : AH} {r : Nat} {now : Int} {T : List P2}
theorem RC.eq {H' : AH} (h : RC H r now T) (hn : H.n ≤ H'.n) (ho : H'.o r = H.o r) : RC H' r now T := ⟨ho.trans h.o, Nat.lt_of_lt_of_le h.lt hn, h.tk, h.tm⟩
theorem RC.keeps {H' : AH} (h : RC H r now T) (k : Keeps H H') : RC H' r now T := h.eq k.1 (k.o h.lt)
theorem row_get {v : AV} {x : Int} (h : 0 ≤ x ∧ x < 256) : (v :: arr T)[1 + x.toNat]? = some (.i .i64 (at0 T x)) := by
  rw [Nat.add_comm, List.getElem?_cons_succ]
  exact arrT_get h
theorem row_put {v w : AV} {k : Nat} : setR (v :: arr T) (1 + k) [w] = v :: setR (arr T) k [w] := by
  rw [Nat.add_comm, setR_s]
theorem is_spec (x : Int) : callR (tblP q) 27 [.i .i64 x] H = some (.b (decide (0 ≤ x) && decide (x < 256)), H) := by
  cases d : decide (0 ≤ x)
  · simp only [c27, b27, runR_seq, r27_0, aops_cons, aop, ev_c, thenOps_some, put_some, aops_nil, regR_some, r27_1, ev_t, upd_get, reduceCtorEq, ↓reduceIte, ainit_get, List.getD_cons_zero, aBin, BinOp.isShift, Bool.false_eq_true, or_true, aInt_geq, GE.ge, d, withH_some', aops_g, gOps_b, Nat.reduceEqDiff, runR_ret, afinish_def, s27, aresults, aresult, aback, Bool.false_and]
  · simp only [c27, b27, runR_seq, r27_0, aops_cons, aop, ev_c, thenOps_some, put_some, aops_nil, regR_some, r27_1, ev_t, upd_get, reduceCtorEq, ↓reduceIte, ainit_get, List.getD_cons_zero, aBin, BinOp.isShift, Bool.false_eq_true, or_true, aInt_geq, GE.ge, d, withH_some', aops_g, gOps_b, Nat.reduceEqDiff, aInt_lss, runR_ret, afinish_def, s27, aresults, aresult, aback, Bool.true_and]
theorem rnext_spec (h : RC H r now T) : callR (tblP q) 20 [.p (some (r, 0))] H = some (.tup [.i .i64 (bst T 256), .b (bst T 256 != 0)], H) := by
  have ho := h.o
  simp only [c20, b20, runR_seq, r20_0, aops_cons, aop, ev_c, thenOps_some, put_some, aops_nil, regR_some, r20_1, r20_2, runR_block, runR_loop']
  refine loop_law 256 (fun i t' H' => H' = H ∧ t' 0 = .p (some (r, 0)) ∧ t' 4 = .i .i64 (bst T i) ∧ t' 5 = .i .i64 i) (fun z => z = some (.tup [.i .i64 (bst T 256), .b (bst T 256 != 0)], H)) ?_ ?_ 0 _ H (Nat.zero_le _) ⟨rfl, ?_, ?_, ?_⟩
  · rintro i t' H' hi ⟨rfl, q0, q4, q5⟩ ih
    have c1 : decide ((i : Int) < 256) = true := by simp; omega
    have c2 : 0 ≤ (i : Int) ∧ (i : Int) < 256 := by omega
    have hwi := wr1 (i := i) (by omega)
    have hg := row_get (T := T) (v := .i .i64 now) (x := (i : Int)) (by omega)
    rw [Int.toNat_natCast] at hg
    have hb : bst T (i + 1) = if at0 T (i : Int) ≠ 0 ∧ (bst T i = 0 ∨ at0 T (i : Int) < bst T i) then at0 T (i : Int) else bst T i := rfl
    by_cases hz : at0 T (i : Int) = 0
    · rw [if_neg (fun hh => hh.1 hz)] at hb
      have x1 : (at0 T (i : Int) != 0) = false := by simp [hz]
      simp only [l20_7, runR_seq, r20_3, aops_cons, aop, ev_t, q5, thenOps_some, put_some, aBin, upd_get, ↓reduceIte, ev_c, BinOp.isShift, Bool.false_eq_true, or_true, aInt_lss, c2, decide_true, withH_some', aops_nil, regR_some, runR_cond', condR_b, runR_skip, runR_block, r20_4, reduceCtorEq, q0, Nat.reduceEqDiff, Nat.zero_add, cast_of, and_self, Int.toNat_natCast, Nat.mul_one, aload, ho, apart, hg, aInt_neq, x1, aops_g, gOps_b, gOps_u, runR_inBlock, r20_6, aInt_add, hwi]
      refine ih _ _ ⟨rfl, ?_, ?_, ?_⟩
      case refine_2 => rw [hb]; simp only [upd_get, Nat.reduceEqDiff, ↓reduceIte, q4]
      all_goals simp only [upd_get, reduceCtorEq, ↓reduceIte, q0]
    · have x1 : (at0 T (i : Int) != 0) = true := by simpa using hz
      by_cases hbz : bst T i = 0
      · rw [if_pos ⟨hz, Or.inl hbz⟩] at hb
        have x2 : (bst T i == 0) = true := by simpa using hbz
        simp only [l20_7, runR_seq, r20_3, aops_cons, aop, ev_t, q5, thenOps_some, put_some, aBin, upd_get, ↓reduceIte, ev_c, BinOp.isShift, Bool.false_eq_true, or_true, aInt_lss, c2, decide_true, withH_some', aops_nil, regR_some, runR_cond', condR_b, runR_skip, runR_block, r20_4, reduceCtorEq, q0, Nat.reduceEqDiff, Nat.zero_add, cast_of, and_self, Int.toNat_natCast, Nat.mul_one, aload, ho, apart, hg, aInt_neq, x1, aops_g, gOps_b, q4, aInt_eql, x2, Bool.true_eq_false, r20_5, runR_inBlock, r20_6, Nat.succ_ne_self, aInt_add, hwi]
        refine ih _ _ ⟨rfl, ?_, ?_, ?_⟩
        case refine_2 => rw [hb]; simp only [upd_get, Nat.reduceEqDiff, ↓reduceIte]
        all_goals simp only [upd_get, reduceCtorEq, ↓reduceIte, q0]
      · have x2 : (bst T i == 0) = false := by simpa using hbz
        by_cases hlt : at0 T (i : Int) < bst T i
        · rw [if_pos ⟨hz, Or.inr hlt⟩] at hb
          have x3 : decide (at0 T (i : Int) < bst T i) = true := by simpa using hlt
          simp only [l20_7, runR_seq, r20_3, aops_cons, aop, ev_t, q5, thenOps_some, put_some, aBin, upd_get, ↓reduceIte, ev_c, BinOp.isShift, Bool.false_eq_true, or_true, aInt_lss, c2, decide_true, withH_some', aops_nil, regR_some, runR_cond', condR_b, runR_skip, runR_block, r20_4, reduceCtorEq, q0, Nat.reduceEqDiff, Nat.zero_add, cast_of, and_self, Int.toNat_natCast, Nat.mul_one, aload, ho, apart, hg, aInt_neq, x1, aops_g, gOps_b, q4, aInt_eql, x2, x3, r20_5, runR_inBlock, r20_6, Nat.succ_ne_self, aInt_add, hwi]
          refine ih _ _ ⟨rfl, ?_, ?_, ?_⟩
          case refine_2 => rw [hb]; simp only [upd_get, Nat.reduceEqDiff, ↓reduceIte]
          all_goals simp only [upd_get, reduceCtorEq, ↓reduceIte, q0]
        · rw [if_neg (fun hh => hh.2.elim hbz hlt)] at hb
          have x3 : decide (at0 T (i : Int) < bst T i) = false := by simpa using hlt
          simp only [l20_7, runR_seq, r20_3, aops_cons, aop, ev_t, q5, thenOps_some, put_some, aBin, upd_get, ↓reduceIte, ev_c, BinOp.isShift, Bool.false_eq_true, or_true, aInt_lss, c2, decide_true, withH_some', aops_nil, regR_some, runR_cond', condR_b, runR_skip, runR_block, r20_4, reduceCtorEq, q0, Nat.reduceEqDiff, Nat.zero_add, cast_of, and_self, Int.toNat_natCast, Nat.mul_one, aload, ho, apart, hg, aInt_neq, x1, aops_g, gOps_b, q4, aInt_eql, x2, x3, runR_inBlock, r20_6, aInt_add, hwi]
          refine ih _ _ ⟨rfl, ?_, ?_, ?_⟩
          case refine_2 => rw [hb]; simp only [upd_get, Nat.reduceEqDiff, ↓reduceIte, q4]
          all_goals simp only [upd_get, reduceCtorEq, ↓reduceIte, q0]
  · rintro t' H' ⟨rfl, q0, q4, q5⟩
    have c1 : decide ((256 : Int) < 256) = false := by decide
    simp only [l20_7, runR_seq, r20_3, aops_cons, aop, ev_t, q5, show ((256 : Nat) : Int) = 256 from rfl, thenOps_some, put_some, aBin, upd_get, ↓reduceIte, ev_c, BinOp.isShift, Bool.false_eq_true, or_true, aInt_lss, Int.reduceLT, decide_false, withH_some', aops_nil, regR_some, runR_cond', condR_b, runR_exit', aexit_code, aexit_inLoop, aexit_inBlock, exitR_some, r20_8, Nat.reduceEqDiff, q4, aInt_neq, runR_ret, afinish_def, s20, aresults, aresult, aback]
  case refine_4 => simp only [upd_get, Nat.reduceEqDiff, ↓reduceIte]; rfl
  all_goals simp only [upd_get, reduceCtorEq, ↓reduceIte, ainit_get, List.getD_cons_zero, cast_of]
theorem rlen_spec (h : RC H r now T) : callR (tblP q) 22 [.p (some (r, 0))] H = some (.i .i64 (T.length : Nat), H) := by
  have ho := h.o
  have hc := cnt_all h.tk
  simp only [c22, b22, runR_seq, r22_0, aops_cons, aop, ev_c, thenOps_some, put_some, aops_nil, regR_some, r22_1, r22_2, runR_block, runR_loop']
  refine loop_law 256 (fun i t' H' => H' = H ∧ t' 0 = .p (some (r, 0)) ∧ t' 3 = .i .i64 (cnt T i : Nat) ∧ t' 4 = .i .i64 i) (fun z => z = some (.i .i64 (T.length : Nat), H)) ?_ ?_ 0 _ H (Nat.zero_le _) ⟨rfl, ?_, ?_, ?_⟩
  · rintro i t' H' hi ⟨rfl, q0, q3, q4⟩ ih
    have c1 : decide ((i : Int) < 256) = true := by simp; omega
    have c2 : 0 ≤ (i : Int) ∧ (i : Int) < 256 := by omega
    have hwi := wr1 (i := i) (by omega)
    have hg := row_get (T := T) (v := .i .i64 now) (x := (i : Int)) (by omega)
    rw [Int.toNat_natCast] at hg
    have hb := cnt_succ T i
    have hle := cnt_le T i
    have hwc := wr1 (i := cnt T i) (by omega)
    by_cases hz : at0 T (i : Int) = 0
    · rw [if_pos hz] at hb
      have x1 : (at0 T (i : Int) != 0) = false := by simp [hz]
      simp only [l22_7, runR_seq, r22_3, aops_cons, aop, ev_t, q4, thenOps_some, put_some, aBin, upd_get, ↓reduceIte, ev_c, BinOp.isShift, Bool.false_eq_true, or_true, aInt_lss, c2, decide_true, withH_some', aops_nil, regR_some, runR_cond', condR_b, runR_skip, runR_block, r22_4, reduceCtorEq, q0, Nat.reduceEqDiff, Nat.zero_add, cast_of, and_self, Int.toNat_natCast, Nat.mul_one, aload, ho, apart, hg, aInt_neq, x1, runR_inBlock, r22_6, aInt_add, hwi]
      refine ih _ _ ⟨rfl, ?_, ?_, ?_⟩
      case refine_2 => rw [hb]; simp only [upd_get, Nat.reduceEqDiff, ↓reduceIte, q3]
      all_goals simp only [upd_get, reduceCtorEq, ↓reduceIte, q0]
    · rw [if_neg hz] at hb
      have x1 : (at0 T (i : Int) != 0) = true := by simpa using hz
      simp only [l22_7, runR_seq, r22_3, aops_cons, aop, ev_t, q4, thenOps_some, put_some, aBin, upd_get, ↓reduceIte, ev_c, BinOp.isShift, Bool.false_eq_true, or_true, aInt_lss, c2, decide_true, withH_some', aops_nil, regR_some, runR_cond', condR_b, runR_skip, runR_block, r22_4, reduceCtorEq, q0, Nat.reduceEqDiff, Nat.zero_add, cast_of, and_self, Int.toNat_natCast, Nat.mul_one, aload, ho, apart, hg, aInt_neq, x1, r22_5, q3, aInt_add, hwc, runR_inBlock, r22_6, Nat.succ_ne_self, hwi]
      refine ih _ _ ⟨rfl, ?_, ?_, ?_⟩
      case refine_2 => rw [hb]; simp only [upd_get, Nat.reduceEqDiff, ↓reduceIte]
      all_goals simp only [upd_get, reduceCtorEq, ↓reduceIte, q0]
  · rintro t' H' ⟨rfl, q0, q3, q4⟩
    have c1 : decide ((256 : Int) < 256) = false := by decide
    rw [hc] at q3
    simp only [l22_7, runR_seq, r22_3, aops_cons, aop, ev_t, q4, show ((256 : Nat) : Int) = 256 from rfl, thenOps_some, put_some, aBin, upd_get, ↓reduceIte, ev_c, BinOp.isShift, Bool.false_eq_true, or_true, aInt_lss, Int.reduceLT, decide_false, withH_some', aops_nil, regR_some, runR_cond', condR_b, runR_exit', aexit_code, aexit_inLoop, aexit_inBlock, exitR_some, r22_8, Nat.reduceEqDiff, q3, runR_ret, afinish_def, s22, aresults, aresult, aback]
  case refine_4 => simp only [upd_get, Nat.reduceEqDiff, ↓reduceIte]; rfl
  all_goals simp only [upd_get, reduceCtorEq, ↓reduceIte, ainit_get, List.getD_cons_zero, cast_of]
theorem set_len1 {v w : AV} {k : Nat} : (v :: setR (arr T) k [w]).length = (setR (arr T) k [w]).length + 1 := rfl
theorem Tk.set (h : Tk T) {x v : Int} (hx : 0 ≤ x ∧ x < 256) (hv : 1 ≤ v ∧ v ≤ 1099511627776) : Tk (setT T x v) := by
  refine ⟨set_nd h.nd, fun p hp => ?_⟩
  rcases set_mem hp with hp | rfl
  · exact h.rg p hp
  · unfold okP; simp only; omega
theorem setT_two (T : List P2) (x u v : Int) (y : Int) : at0 (setT (setT T x u) x v) y = at0 (setT T x v) y := by
  rw [at0_set, at0_set, at0_set]
  split <;> rfl
theorem arr_ext {T T' : List P2} (h : ∀ y, at0 T y = at0 T' y) : arr T = arr T' := by
  unfold arr arrL
  congr 1
  apply List.map_congr_left
  intro i _
  exact h i
theorem rset_spec (h : RC H r now T) (th n : Int) : ∃ H', callR (tblP q) 18 [.p (some (r, 0)), .i .i64 th, .i .i64 n] H = some (.i .i64 (setE th n), H') ∧ RC H' r now (setC T now th n) ∧ Fb r H H' := by
  have ho := h.o
  have htm := h.tm
  have e27 := is_spec (q := q) (H := H) th
  unfold setE setC
  have bad : ¬ (0 ≤ th ∧ th < 256 ∧ 1 ≤ n) → callR (tblP q) 18 [.p (some (r, 0)), .i .i64 th, .i .i64 n] H = some (.i .i64 1, H) → ∃ H', callR (tblP q) 18 [.p (some (r, 0)), .i .i64 th, .i .i64 n] H = some (.i .i64 (if 0 ≤ th ∧ th < 256 ∧ 1 ≤ n then 0 else 1), H') ∧ RC H' r now (if 0 ≤ th ∧ th < 256 ∧ 1 ≤ n then setT T th (dueAt now n) else T) ∧ Fb r H H' := by
    intro hn hc
    rw [if_neg hn, if_neg hn]
    exact ⟨H, hc, h, Fb.refl⟩
  cases c1 : (decide (0 ≤ th) && decide (th < 256))
  · rw [c1] at e27
    refine bad (fun hh => by simp at c1; omega) ?_
    simp only [c18, b18, runR_seq, r18_0, aops_cons, aop, ev_c, thenOps_some, put_some, aops_nil, regR_some, r18_1, ev_t, upd_get, Nat.reduceEqDiff, ↓reduceIte, ainit_get, List.getD_cons_succ, List.getD_cons_zero, asX_cons, asX_nil, e27, aUn_not, Bool.not_false, withH_some', aops_g, gOps_b, Bool.true_eq_false, runR_cond', condR_b, r18_2, runR_ret, afinish_def, s18, aresults, aresult, aback]
  · rw [c1] at e27
    have hb : 0 ≤ th ∧ th < 256 := by simpa using c1
    cases c3 : decide (n < 1)
    · have hc : 0 ≤ th ∧ th < 256 ∧ 1 ≤ n := by simp at c3; omega
      rw [if_pos hc, if_pos hc]
      have w1 : IntKind.i64.wrap (1099511627776 - now) = 1099511627776 - now := wrap_i64 (by omega)
      have hlen : 1 + (th.toNat + 1) ≤ (arr T).length + 1 := by rw [arr_len]; omega
      obtain ⟨H1, hH1⟩ : ∃ H1, H1 = H.set r (.row false (.i .i64 now :: setR (arr T) th.toNat [.i .i64 1099511627776])) := ⟨_, rfl⟩
      have hp1 := row_put (T := T) (v := .i .i64 now) (w := .i .i64 1099511627776) (k := th.toNat)
      have o1 : H1.o r = some (.row false (.i .i64 now :: arr (setT T th 1099511627776))) := by rw [hH1, AH_set_o, if_pos rfl, arr_set hb]
      have k1 : Tk (setT T th 1099511627776) := h.tk.set hb (by omega)
      cases c4 : decide (n < 1099511627776 - now)
      · have hd : dueAt now n = 1099511627776 := by unfold dueAt; simp at c4; split <;> omega
        rw [hd]
        refine ⟨H1, ?_, ⟨o1, by rw [hH1]; exact h.lt, k1, htm⟩, by rw [hH1]; exact Fb.refl.set⟩
        simp only [c18, b18, runR_seq, r18_0, aops_cons, aop, ev_c, thenOps_some, put_some, aops_nil, regR_some, r18_1, ev_t, upd_get, Nat.reduceEqDiff, ↓reduceIte, ainit_get, List.getD_cons_succ, List.getD_cons_zero, asX_cons, asX_nil, e27, aUn_not, Bool.not_true, withH_some', aops_g, gOps_b, aBin, BinOp.isShift, Bool.false_eq_true, or_true, aInt_lss, c3, runR_cond', condR_b, runR_skip, r18_3, reduceCtorEq, Nat.zero_add, hb, cast_of, and_self, Nat.mul_one, astore, ho, AV.cells, List.length_cons, List.length_nil, Nat.add_assoc, hlen, hp1, ← hH1, withU_some', put_none, r18_4, Nat.add_zero, aload, o1, apart, List.getElem?_cons_zero, aInt_sub, w1, c4, r18_6, runR_ret, afinish_def, s18, aresults, aresult, aback]
      · have hd : dueAt now n = now + n := by unfold dueAt; simp at c4; rw [if_neg (by omega)]
        simp at c4
        have c4' : decide (n < 1099511627776 - now) = true := by simpa using c4
        have hc3 : 1 ≤ n := hc.2.2
        have w2 : IntKind.i64.wrap (now + n) = now + n := wrap_i64 (by omega)
        have hlen2 : 1 + (th.toNat + 1) ≤ (arr (setT T th 1099511627776)).length + 1 := by rw [arr_len]; omega
        obtain ⟨H2, hH2⟩ : ∃ H2, H2 = H1.set r (.row false (.i .i64 now :: setR (arr (setT T th 1099511627776)) th.toNat [.i .i64 (now + n)])) := ⟨_, rfl⟩
        have hp2 := row_put (T := setT T th 1099511627776) (v := .i .i64 now) (w := .i .i64 (now + n)) (k := th.toNat)
        refine ⟨H2, ?_, ⟨?_, by rw [hH2, hH1]; exact h.lt, h.tk.set hb (by rw [hd]; omega), htm⟩, by rw [hH2, hH1]; exact Fb.refl.set.set⟩
        · simp only [c18, b18, runR_seq, r18_0, aops_cons, aop, ev_c, thenOps_some, put_some, aops_nil, regR_some, r18_1, ev_t, upd_get, Nat.reduceEqDiff, ↓reduceIte, ainit_get, List.getD_cons_succ, List.getD_cons_zero, asX_cons, asX_nil, e27, aUn_not, Bool.not_true, withH_some', aops_g, gOps_b, aBin, BinOp.isShift, Bool.false_eq_true, or_true, aInt_lss, c3, runR_cond', condR_b, runR_skip, r18_3, reduceCtorEq, Nat.zero_add, hb, cast_of, and_self, Nat.mul_one, astore, ho, AV.cells, List.length_cons, List.length_nil, Nat.add_assoc, hlen, hp1, ← hH1, withU_some', put_none, r18_4, Nat.add_zero, aload, o1, apart, List.getElem?_cons_zero, aInt_sub, w1, c4', r18_5, aInt_add, w2, hlen2, hp2, ← hH2, r18_6, runR_ret, afinish_def, s18, aresults, aresult, aback]
        · rw [hH2, AH_set_o, if_pos rfl, arr_set hb, hd, arr_ext (setT_two T th 1099511627776 (now + n))]
    · refine bad (by simp at c3; omega) ?_
      simp only [c18, b18, runR_seq, r18_0, aops_cons, aop, ev_c, thenOps_some, put_some, aops_nil, regR_some, r18_1, ev_t, upd_get, Nat.reduceEqDiff, ↓reduceIte, ainit_get, List.getD_cons_succ, List.getD_cons_zero, asX_cons, asX_nil, e27, aUn_not, Bool.not_true, withH_some', aops_g, gOps_b, aBin, BinOp.isShift, Bool.false_eq_true, or_true, aInt_lss, c3, runR_cond', condR_b, r18_2, runR_ret, afinish_def, s18, aresults, aresult, aback]
theorem rclear_spec (h : RC H r now T) (x : Int) : ∃ H', callR (tblP q) 15 [.p (some (r, 0)), .i .i64 x] H = some (.b (lk T x).isSome, H') ∧ RC H' r now (delT T x) ∧ Fb r H H' := by
  have ho := h.o
  have e27 := is_spec (q := q) (H := H) x
  have hp := h.tk.pos x
  cases c1 : (decide (0 ≤ x) && decide (x < 256))
  · rw [c1] at e27
    have hn : (lk T x).isSome = false := by
      cases e : (lk T x).isSome
      · rfl
      · have := hp.2.2.2 e
        simp at c1
        omega
    have hn2 : lk T x = none := by simpa using hn
    rw [hn, delT_none hn2]
    refine ⟨H, ?_, h, Fb.refl⟩
    simp only [c15, b15, runR_seq, r15_0, aops_cons, aop, ev_c, thenOps_some, put_some, aops_nil, regR_some, r15_1, ev_t, upd_get, Nat.reduceEqDiff, ↓reduceIte, ainit_get, List.getD_cons_succ, List.getD_cons_zero, asX_cons, asX_nil, e27, aUn_not, Bool.not_false, withH_some', aops_g, gOps_b, Bool.true_eq_false, runR_cond', condR_b, r15_2, runR_ret, afinish_def, s15, aresults, aresult, aback]
  · rw [c1] at e27
    have hb : 0 ≤ x ∧ x < 256 := by simpa using c1
    have hg := row_get (T := T) (v := .i .i64 now) hb
    by_cases hz : at0 T x = 0
    · have x1 : (at0 T x == 0) = true := by simpa using hz
      have hn : (lk T x).isSome = false := by rw [hp.1]; simp; omega
      have hn2 : lk T x = none := by simpa using hn
      rw [hn, delT_none hn2]
      refine ⟨H, ?_, h, Fb.refl⟩
      simp only [c15, b15, runR_seq, r15_0, aops_cons, aop, ev_c, thenOps_some, put_some, aops_nil, regR_some, r15_1, ev_t, upd_get, Nat.reduceEqDiff, ↓reduceIte, ainit_get, List.getD_cons_succ, List.getD_cons_zero, asX_cons, asX_nil, e27, aUn_not, Bool.not_true, withH_some', aops_g, gOps_b, reduceCtorEq, Nat.zero_add, hb, cast_of, and_self, Nat.mul_one, aload, ho, apart, hg, aBin, BinOp.isShift, Bool.false_eq_true, or_true, aInt_eql, x1, runR_cond', condR_b, r15_2, runR_ret, afinish_def, s15, aresults, aresult, aback]
    · have x1 : (at0 T x == 0) = false := by simpa using hz
      have hn : (lk T x).isSome = true := by rw [hp.1]; simp; omega
      have hlen : 1 + (x.toNat + 1) ≤ (arr T).length + 1 := by rw [arr_len]; omega
      have hp1 := row_put (T := T) (v := .i .i64 now) (w := .i .i64 0) (k := x.toNat)
      rw [hn]
      refine ⟨H.set r (.row false (.i .i64 now :: setR (arr T) x.toNat [.i .i64 0])), ?_, ⟨?_, h.lt, h.tk.del x, h.tm⟩, Fb.refl.set⟩
      · simp only [c15, b15, runR_seq, r15_0, aops_cons, aop, ev_c, thenOps_some, put_some, aops_nil, regR_some, r15_1, ev_t, upd_get, Nat.reduceEqDiff, ↓reduceIte, ainit_get, List.getD_cons_succ, List.getD_cons_zero, asX_cons, asX_nil, e27, aUn_not, Bool.not_true, withH_some', aops_g, gOps_b, reduceCtorEq, Nat.zero_add, hb, cast_of, and_self, Nat.mul_one, aload, ho, apart, hg, aBin, BinOp.isShift, Bool.false_eq_true, or_true, aInt_eql, x1, runR_cond', condR_b, runR_skip, r15_3, astore, AV.cells, List.length_cons, List.length_nil, Nat.add_assoc, hlen, hp1, withU_some', put_none, r15_4, runR_ret, afinish_def, s15, aresults, aresult, aback]
      · rw [AH_set_o, if_pos rfl, arr_del hb]
end
def eqsN (T : List P2) (a : Int) (j : Nat) : List Int := ((List.range j).filter fun (i : Nat) => at0 T (i : Int) == a).map fun (i : Nat) => (i : Int)
theorem eqsN_succ (T : List P2) (a : Int) (j : Nat) : eqsN T a (j + 1) = if at0 T (j : Int) = a then eqsN T a j ++ [(j : Int)] else eqsN T a j := by
  unfold eqsN
  rw [List.range_succ, List.filter_append, List.map_append]
  by_cases h : at0 T (j : Int) = a
  · simp [h]
  · simp [h]
theorem eqsN_lt {T : List P2} {a : Int} {j : Nat} {x : Int} (h : x ∈ eqsN T a j) : x < j := by
  unfold eqsN at h
  obtain ⟨i, hi, rfl⟩ := List.mem_map.1 h
  rw [List.mem_filter, List.mem_range] at hi
  omega
theorem eqsN_len (T : List P2) (a : Int) (j : Nat) : (eqsN T a j).length ≤ j := by
  unfold eqsN
  rw [List.length_map]
  have := List.length_filter_le (fun i : Nat => at0 T (i : Int) == a) (List.range j)
  rw [List.length_range] at this
  exact this
section
variable {q : Prm}
theorem rt_inner {H0 : AH} {r : Nat} {N a : Int} {T : List P2} {O : List Int} {K : List AItem} {Q : AV → AH → Prop} {v6 : AV} (hk : Tk T) (hN : 0 ≤ N ∧ N ≤ 1099511627776) (ha : a ≠ 0) (hO : O.length ≤ 1000) (hr0 : r < H0.n)
    (hQ : ∀ (t' : Nat → AV) (H' : AH), RC H' r N ((eqs T a).foldl delT T) → Wr H' (t' 5) 1 (O ++ eqs T a).length ((O ++ eqs T a).map (AV.i .i64)) → (∀ b, blk (t' 5) = some b → H0.n ≤ b) → Fb r H0 H' → t' 0 = .p (some (r, 0)) → t' 6 = v6 → Sp (runR (tblP q) a17 K t' H') Q) :
    ∀ (k j : Nat) (H : AH) (t : Nat → AV), j + k = 256 → RC H r N ((eqsN T a j).foldl delT T) → Wr H (t 5) 1 (O ++ eqsN T a j).length ((O ++ eqsN T a j).map (AV.i .i64)) → (∀ b, blk (t 5) = some b → H0.n ≤ b) → Fb r H0 H → t 0 = .p (some (r, 0)) → t 6 = v6 → t 7 = .i .i64 a → t 9 = .i .i64 j →
      Sp (runR (tblP q) a17 (.inLoop l17_17 :: .inBlock 2 :: K) t H) Q := by
  intro k
  induction k with
  | zero =>
    intro j H t hj hR hw hb f q0 q6 q7 q9
    have hj' : j = 256 := by omega
    subst hj'
    have c1 : decide (((256 : Nat) : Int) < 256) = false := by decide
    rw [runR_inLoop]
    simp only [l17_17, runR_seq, r17_12, aops_cons, aop, ev_t, q9, cast_of, thenOps_some, put_some, aBin, upd_get, ↓reduceIte, ev_c, BinOp.isShift, Bool.false_eq_true, or_true, aInt_lss, Int.reduceLT, decide_false, withH_some', aops_nil, regR_some, runR_cond', condR_b, runR_exit', aexit_code, aexit_inLoop, aexit_inBlock, exitR_some]
    refine hQ _ H hR ?_ ?_ f ?_ ?_
    · simp only [upd_get, Nat.reduceEqDiff, ↓reduceIte]; exact hw
    · simp only [upd_get, Nat.reduceEqDiff, ↓reduceIte]; exact hb
    all_goals simp only [upd_get, reduceCtorEq, ↓reduceIte, q0, Nat.reduceEqDiff, q6]
  | succ k ih =>
    intro j H t hj hR hw hb f q0 q6 q7 q9
    have c1 : decide ((j : Int) < 256) = true := by simp; omega
    have c2 : 0 ≤ (j : Int) ∧ (j : Int) < 256 := by omega
    have hwj := wr1 (i := j) (by omega)
    have ho := hR.o
    have hg := row_get (T := (eqsN T a j).foldl delT T) (v := .i .i64 N) (x := (j : Int)) (by omega)
    have hnj : (j : Int) ∉ eqsN T a j := fun h => by have := eqsN_lt h; omega
    rw [at0_dels, if_neg hnj] at hg
    rw [Int.toNat_natCast] at hg
    have hs := eqsN_succ T a j
    have hel := eqsN_len T a j
    obtain ⟨v5, hv5⟩ : ∃ v5, t 5 = v5 := ⟨_, rfl⟩
    rw [hv5] at hw hb
    by_cases he : at0 T (j : Int) = a
    · rw [if_pos he] at hs
      have x1 : (at0 T (j : Int) == a) = true := by simpa using he
      rw [runR_inLoop]
      simp only [l17_17, runR_seq, r17_12, aops_cons, aop, ev_t, q9, thenOps_some, put_some, aBin, upd_get, ↓reduceIte, ev_c, BinOp.isShift, Bool.false_eq_true, or_true, aInt_lss, c2, decide_true, withH_some', aops_nil, regR_some, runR_cond', condR_b, runR_skip, runR_block, r17_13, reduceCtorEq, q0, Nat.reduceEqDiff, Nat.zero_add, cast_of, and_self, Int.toNat_natCast, Nat.mul_one, aload, ho, apart, hg, q7, aInt_eql, x1, r17_14, hv5, afill, AV.cells, List.length_cons, List.length_nil, zerosA, List.append_nil, Nat.reduceLeDiff, setR_z, setR_e]
      refine Sp.c2 (Wr.one (sz := 1) (y := 8) rfl hw (xs := [AV.i .i64 (j : Int)]) rfl (by rw [List.length_append]; omega)) ?_
      rintro w H2 ⟨w2, n2, o2, b2⟩
      have hfn := f.1
      have hrl := hR.lt
      have hbr : ∀ b, blk v5 = some b → b ≠ r := fun b h => by have := hb b h; omega
      have or2 : H2.o r = some (.row false (.i .i64 N :: arr ((eqsN T a j).foldl delT T))) := (o2 r hrl (fun e => hbr r e rfl)).trans ho
      have hlen : 1 + (j + 1) ≤ (arr ((eqsN T a j).foldl delT T)).length + 1 := by rw [arr_len]; omega
      have hp1 := row_put (T := (eqsN T a j).foldl delT T) (v := .i .i64 N) (w := .i .i64 0) (k := j)
      obtain ⟨H3, hH3⟩ : ∃ H3, H3 = H2.set r (.row false (.i .i64 N :: setR (arr ((eqsN T a j).foldl delT T)) j [.i .i64 0])) := ⟨_, rfl⟩
      have hfold : (eqsN T a (j + 1)).foldl delT T = delT ((eqsN T a j).foldl delT T) (j : Int) := by rw [hs, List.foldl_append]; rfl
      have hput := arr_del (T := (eqsN T a j).foldl delT T) (x := (j : Int)) (by omega)
      rw [Int.toNat_natCast] at hput
      simp only [put_some, aops_cons, aop, ev_t, upd_get, ↓reduceIte, thenOps_some, aops_nil, regR_some, r17_15, reduceCtorEq, q0, Nat.reduceEqDiff, q9, Nat.zero_add, c2, cast_of, and_self, Int.toNat_natCast, Nat.mul_one, astore, ev_c, or2, AV.cells, List.length_cons, List.length_nil, Nat.add_assoc, hlen, hp1, ← hH3, withU_some', put_none, runR_inBlock, r17_16, aBin, BinOp.isShift, Bool.false_eq_true, or_true, aInt_add, hwj, withH_some']
      refine ih (j + 1) H3 _ (by omega) ⟨?_, ?_, ?_, hR.tm⟩ ?_ ?_ ⟨?_, fun c hc hcr => ?_⟩ ?_ ?_ ?_ ?_
      · rw [hH3, AH_set_o, if_pos rfl, hput, hfold]
      · rw [hH3]; simp only [AH_set_n]; omega
      · rw [hfold]; exact hR.tk.del _
      · simp only [upd_get, Nat.reduceEqDiff, ↓reduceIte]
        have e4 : (O ++ eqsN T a (j + 1)).length = (O ++ eqsN T a j).length + 1 := by rw [hs]; simp; omega
        have e5 : (O ++ eqsN T a (j + 1)).map (AV.i .i64) = (O ++ eqsN T a j).map (AV.i .i64) ++ [AV.i .i64 (j : Int)] := by rw [hs]; simp
        rw [e4, e5, hH3]
        exact Wr.off w2 (fun e => by rcases b2 _ e with h1 | h1; exact hbr r h1 rfl; omega)
      · simp only [upd_get, Nat.reduceEqDiff, ↓reduceIte]
        intro b hb'
        rcases b2 b hb' with h1 | h1
        · exact hb b h1
        · omega
      · rw [hH3]; simp only [AH_set_n]; omega
      · rw [hH3, AH_set_o, if_neg hcr, o2 c (by omega) (fun e => by have := hb c e; omega)]
        exact f.2 c hc hcr
      all_goals simp only [upd_get, reduceCtorEq, ↓reduceIte, q0, Nat.reduceEqDiff, Nat.succ_ne_self, q6, q7]
    · rw [if_neg he] at hs
      have x1 : (at0 T (j : Int) == a) = false := by simpa using he
      rw [runR_inLoop]
      simp only [l17_17, runR_seq, r17_12, aops_cons, aop, ev_t, q9, thenOps_some, put_some, aBin, upd_get, ↓reduceIte, ev_c, BinOp.isShift, Bool.false_eq_true, or_true, aInt_lss, c2, decide_true, withH_some', aops_nil, regR_some, runR_cond', condR_b, runR_skip, runR_block, r17_13, reduceCtorEq, q0, Nat.reduceEqDiff, Nat.zero_add, cast_of, and_self, Int.toNat_natCast, Nat.mul_one, aload, ho, apart, hg, q7, aInt_eql, x1, runR_inBlock, r17_16, aInt_add, hwj]
      refine ih (j + 1) H _ (by omega) (by rw [hs]; exact hR) ?_ ?_ f ?_ ?_ ?_ ?_
      · rw [hs]; simp only [upd_get, Nat.reduceEqDiff, ↓reduceIte, hv5]; exact hw
      · simp only [upd_get, Nat.reduceEqDiff, ↓reduceIte, hv5]; exact hb
      all_goals simp only [upd_get, reduceCtorEq, ↓reduceIte, q0, Nat.reduceEqDiff, q6, q7]
theorem rtick_spec {H : AH} {r : Nat} {now : Int} {T : List P2} (h : RC H r now T) (n : Int) : ∃ v H', callR (tblP q) 17 [.p (some (r, 0)), .i .i64 n] H = some (v, H') ∧ RC H' r (tickN now n) ((dueT T (tickN now n)).foldl delT T) ∧ Wr H' v 1 (dueT T (tickN now n)).length ((dueT T (tickN now n)).map (AV.i .i64)) ∧ Fb r H H' := by
  refine Sp.two (f := fun v : AV => v) fun Q hQ => ?_
  have ho := h.o
  have htm := h.tm
  have hin := tickN_in (n := n) htm
  have hdl0 : (dueT T (tickN now n)).length ≤ 256 := by
    have h1 : (dueT T (tickN now n)).length ≤ (srtT T).length := by rw [dueT_filter]; exact List.length_filter_le _ _
    rw [srtT_len] at h1
    have h2 := cnt_all h.tk
    have h3 := cnt_le T 256
    omega
  have hTl : T.length ≤ 256 := by have h2 := cnt_all h.tk; have h3 := cnt_le T 256; omega
  -- all rounds
  have rounds : ∀ (N : Int), N = tickN now n → ∀ (k i : Nat) (O : List Int) (H1 : AH) (t : Nat → AV), i + k = 256 → (O.foldl delT T).length ≤ k → O ++ dueT (O.foldl delT T) N = dueT T N → RC H1 r N (O.foldl delT T) → Wr H1 (t 5) 1 O.length (O.map (AV.i .i64)) → (∀ b, blk (t 5) = some b → H.n ≤ b) → Fb r H H1 → t 0 = .p (some (r, 0)) → t 6 = .i .i64 i →
      Sp (runR (tblP q) a17 [.inLoop l17_19, .inBlock 0, .code (.seq (.reg d17_20) .ret)] t H1) Q := by
    intro N hN k
    rw [← hN] at hQ hin hdl0
    induction k with
    | zero =>
      intro i O H1 t hi hl hO hR hw hb f q0 q6
      have hi' : i = 256 := by omega
      subst hi'
      have c1 : decide (((256 : Nat) : Int) < 256) = false := by decide
      have hT0 : O.foldl delT T = [] := List.length_eq_zero_iff.1 (by omega)
      rw [due_none hR.tk (Or.inl hT0), List.append_nil] at hO
      rw [← hO] at hQ
      obtain ⟨v5, hv5⟩ : ∃ v5, t 5 = v5 := ⟨_, rfl⟩
      rw [hv5] at hw
      rw [runR_inLoop]
      simp only [l17_19, runR_seq, r17_7, aops_cons, aop, ev_t, q6, cast_of, thenOps_some, put_some, aBin, upd_get, ↓reduceIte, ev_c, BinOp.isShift, Bool.false_eq_true, or_true, aInt_lss, Int.reduceLT, decide_false, withH_some', aops_nil, regR_some, runR_cond', condR_b, runR_exit', aexit_code, aexit_inLoop, aexit_inBlock, exitR_some, r17_20, Nat.reduceEqDiff, hv5, runR_ret, afinish_def, s17, aresults, aresult, aback]
      exact Sp.ret (hQ _ _ ⟨hR, hw, f⟩)
    | succ k ih =>
      intro i O H1 t hi hl hO hR hw hb f q0 q6
      have c1 : decide ((i : Int) < 256) = true := by simp; omega
      have hwi := wr1 (i := i) (by omega)
      have e20 := rnext_spec (q := q) hR
      rw [bst_all hR.tk] at e20
      obtain ⟨v5, hv5⟩ : ∃ v5, t 5 = v5 := ⟨_, rfl⟩
      have or1 := hR.o
      by_cases hT0 : O.foldl delT T = []
      · rw [due_none hR.tk (Or.inl hT0), List.append_nil] at hO
        rw [← hO] at hQ
        rw [hv5] at hw
        rw [if_pos hT0] at e20
        have x1 : ((0 : Int) != 0) = false := by decide
        rw [runR_inLoop]
        simp only [l17_19, runR_seq, r17_7, aops_cons, aop, ev_t, q6, thenOps_some, put_some, aBin, upd_get, ↓reduceIte, ev_c, BinOp.isShift, Bool.false_eq_true, or_true, aInt_lss, c1, withH_some', aops_nil, regR_some, runR_cond', condR_b, runR_skip, runR_block, r17_8, reduceCtorEq, q0, asX_cons, asX_nil, e20, bne_self_eq_false, List.getElem?_cons_zero, Nat.reduceEqDiff, List.getElem?_cons_succ, r17_9, aUn_not, Bool.not_false, aops_g, gOps_b, Bool.true_eq_false, r17_10, hv5, runR_ret, afinish_def, s17, aresults, aresult, aback]
        exact Sp.ret (hQ _ _ ⟨hR, hw, f⟩)
      · rw [if_neg hT0] at e20
        obtain ⟨p, hp, e, hall⟩ := min_atT hR.tk hT0
        have hok := hR.tk.rg p hp
        unfold okP at hok
        have hdr := fun hle => due_round hR.tk hT0 (N := N) hle
        have hdn := fun hlt => due_none hR.tk (N := N) (Or.inr hlt)
        have hdlen := dels_len hR.tk hT0
        generalize minT (O.foldl delT T) 1099511627776 = M at e20 e hdr hdn hdlen
        have x1 : (M != 0) = true := by simp; omega
        by_cases hMN : N < M
        · rw [hdn hMN, List.append_nil] at hO
          rw [← hO] at hQ
          rw [hv5] at hw
          have x2 : decide (N < M) = true := by simpa using hMN
          rw [runR_inLoop]
          simp only [l17_19, runR_seq, r17_7, aops_cons, aop, ev_t, q6, thenOps_some, put_some, aBin, upd_get, ↓reduceIte, ev_c, BinOp.isShift, Bool.false_eq_true, or_true, aInt_lss, c1, withH_some', aops_nil, regR_some, runR_cond', condR_b, runR_skip, runR_block, r17_8, reduceCtorEq, q0, asX_cons, asX_nil, e20, x1, List.getElem?_cons_zero, Nat.reduceEqDiff, List.getElem?_cons_succ, r17_9, aUn_not, Bool.not_true, aops_g, gOps_b, Nat.add_zero, aload, or1, apart, aInt_gtr, GT.gt, x2, r17_10, hv5, runR_ret, afinish_def, s17, aresults, aresult, aback]
          exact Sp.ret (hQ _ _ ⟨hR, hw, f⟩)
        · have x2 : decide (N < M) = false := by simpa using hMN
          have hd := hdr (by omega)
          have hfo : ((O ++ eqs (O.foldl delT T) M).foldl delT T) = (eqs (O.foldl delT T) M).foldl delT (O.foldl delT T) := List.foldl_append ..
          have hOl : O.length ≤ 256 := by
            have := congrArg List.length hO
            rw [List.length_append] at this
            omega
          rw [runR_inLoop]
          simp only [l17_19, runR_seq, r17_7, aops_cons, aop, ev_t, q6, thenOps_some, put_some, aBin, upd_get, ↓reduceIte, ev_c, BinOp.isShift, Bool.false_eq_true, or_true, aInt_lss, c1, withH_some', aops_nil, regR_some, runR_cond', condR_b, runR_skip, runR_block, r17_8, reduceCtorEq, q0, asX_cons, asX_nil, e20, x1, List.getElem?_cons_zero, Nat.reduceEqDiff, List.getElem?_cons_succ, r17_9, aUn_not, Bool.not_true, aops_g, gOps_b, Nat.add_zero, aload, or1, apart, aInt_gtr, GT.gt, x2, r17_11, runR_loop']
          refine rt_inner (H0 := H) (T := O.foldl delT T) (a := M) (O := O) (v6 := .i .i64 i) hR.tk hR.tm (by omega) (by omega) h.lt ?_ 256 0 H1 _ rfl hR ?_ ?_ f ?_ ?_ ?_ ?_
          · intro t2 H2 R2 w2 b2 f2 z0 z6
            simp only [runR_inBlock, r17_18, aops_cons, aop, ev_t, z6, thenOps_some, put_some, aBin, upd_get, ↓reduceIte, ev_c, BinOp.isShift, Bool.false_eq_true, or_true, aInt_add, hwi, withH_some', aops_nil, regR_some]
            refine ih (i + 1) (O ++ eqs (O.foldl delT T) M) H2 _ (by omega) (by rw [hfo]; omega) ?_ (by rw [hfo]; exact R2) ?_ ?_ f2 ?_ ?_
            · rw [hfo, List.append_assoc, ← hd]; exact hO
            · simp only [upd_get, Nat.reduceEqDiff, ↓reduceIte]; exact w2
            · simp only [upd_get, Nat.reduceEqDiff, ↓reduceIte]; exact b2
            all_goals simp only [upd_get, ↓reduceIte, reduceCtorEq, z0]
          · simp only [upd_get, Nat.reduceEqDiff, ↓reduceIte]
            have e0 : eqsN (O.foldl delT T) M 0 = [] := rfl
            rw [e0, List.append_nil]
            exact hw
          · simp only [upd_get, Nat.reduceEqDiff, ↓reduceIte]; exact hb
          all_goals simp only [upd_get, reduceCtorEq, ↓reduceIte, q0, Nat.reduceEqDiff, q6, cast_of]
  -- the beginning
  have hlt := h.lt
  have w1 : IntKind.i64.wrap (1099511627776 - now) = 1099511627776 - now := wrap_i64 (by omega)
  have start : ∀ (N : Int) (H1 : AH) (t : Nat → AV), N = tickN now n → H1.o r = some (.row false (.i .i64 N :: arr T)) → Fb r H H1 → t 0 = .p (some (r, 0)) →
      Sp (runR (tblP q) a17 [.code (.reg d17_5), .code (.seq (.seq (.reg d17_6) (.block 0 (.loop l17_19))) (.seq (.reg d17_20) .ret))] t H1) Q := by
    intro N H1 t hN o1 f1 q0
    have hfn := f1.1
    simp only [r17_5, aops_cons, aop, ev_c, thenOps_some, put_some, aops_nil, regR_some, runR_seq, r17_6, runR_block, runR_loop']
    refine rounds N hN 256 0 [] H1 _ rfl hTl rfl ⟨o1, by omega, h.tk, by rw [hN]; omega⟩ ?_ ?_ f1 ?_ ?_
    · simp only [upd_get, Nat.reduceEqDiff, ↓reduceIte, List.length_nil]; exact Wr.nil
    · simp only [upd_get, Nat.reduceEqDiff, ↓reduceIte]; intro b hb; cases hb
    all_goals simp only [upd_get, reduceCtorEq, ↓reduceIte, q0, cast_of]
  have hlen : 1 ≤ (arr T).length + 1 := by omega
  cases d1 : decide (1099511627776 - now < n)
  · cases d2 : decide (0 < n)
    · have hN : now = tickN now n := by unfold tickN; simp at d1 d2; repeat' split; all_goals omega
      simp only [c17, b17, runR_seq, r17_0, aops_cons, aop, ev_c, thenOps_some, put_some, aops_nil, regR_some, r17_1, ev_t, upd_get, Nat.reduceEqDiff, ↓reduceIte, ainit_get, List.getD_cons_succ, List.getD_cons_zero, reduceCtorEq, Nat.add_zero, aload, ho, apart, List.getElem?_cons_zero, withH_some', aBin, BinOp.isShift, Bool.false_eq_true, or_true, aInt_sub, w1, aInt_gtr, GT.gt, d1, runR_cond', condR_b, runR_skip, r17_3, d2]
      refine start now H _ hN ho Fb.refl ?_
      simp only [upd_get, reduceCtorEq, ↓reduceIte, ainit_get, List.getD_cons_zero]
    · have hN : now + n = tickN now n := by unfold tickN; simp at d1 d2; repeat' split; all_goals omega
      have w2 : IntKind.i64.wrap (now + n) = now + n := wrap_i64 (by simp at d1 d2; omega)
      have hset : setR (AV.i .i64 now :: arr T) 0 [.i .i64 (now + n)] = .i .i64 (now + n) :: arr T := by rw [setR_z, setR_e]
      simp only [c17, b17, runR_seq, r17_0, aops_cons, aop, ev_c, thenOps_some, put_some, aops_nil, regR_some, r17_1, ev_t, upd_get, Nat.reduceEqDiff, ↓reduceIte, ainit_get, List.getD_cons_succ, List.getD_cons_zero, reduceCtorEq, Nat.add_zero, aload, ho, apart, List.getElem?_cons_zero, withH_some', aBin, BinOp.isShift, Bool.false_eq_true, or_true, aInt_sub, w1, aInt_gtr, GT.gt, d1, runR_cond', condR_b, runR_skip, r17_3, d2, r17_4, aInt_add, w2, astore, AV.cells, List.length_cons, List.length_nil, Nat.zero_add, hlen, and_self, hset, withU_some', put_none]
      refine start (now + n) _ _ hN ?_ Fb.refl.set ?_
      · rw [AH_set_o, if_pos rfl]
      · simp only [upd_get, reduceCtorEq, ↓reduceIte, ainit_get, List.getD_cons_zero]
  · cases d2 : decide (0 < 1099511627776 - now)
    · have hN : now = tickN now n := by unfold tickN; simp at d1 d2; repeat' split; all_goals omega
      simp only [c17, b17, runR_seq, r17_0, aops_cons, aop, ev_c, thenOps_some, put_some, aops_nil, regR_some, r17_1, ev_t, upd_get, Nat.reduceEqDiff, ↓reduceIte, ainit_get, List.getD_cons_succ, List.getD_cons_zero, reduceCtorEq, Nat.add_zero, aload, ho, apart, List.getElem?_cons_zero, withH_some', aBin, BinOp.isShift, Bool.false_eq_true, or_true, aInt_sub, w1, aInt_gtr, GT.gt, d1, runR_cond', condR_b, r17_2, r17_3, d2, runR_skip]
      refine start now H _ hN ho Fb.refl ?_
      simp only [upd_get, reduceCtorEq, ↓reduceIte, ainit_get, List.getD_cons_zero]
    · have hN : now + (1099511627776 - now) = tickN now n := by unfold tickN; simp at d1 d2; repeat' split; all_goals omega
      have w2 : IntKind.i64.wrap (now + (1099511627776 - now)) = now + (1099511627776 - now) := wrap_i64 (by simp at d1 d2; omega)
      have hset : setR (AV.i .i64 now :: arr T) 0 [.i .i64 (now + (1099511627776 - now))] = .i .i64 (now + (1099511627776 - now)) :: arr T := by rw [setR_z, setR_e]
      simp only [c17, b17, runR_seq, r17_0, aops_cons, aop, ev_c, thenOps_some, put_some, aops_nil, regR_some, r17_1, ev_t, upd_get, Nat.reduceEqDiff, ↓reduceIte, ainit_get, List.getD_cons_succ, List.getD_cons_zero, reduceCtorEq, Nat.add_zero, aload, ho, apart, List.getElem?_cons_zero, withH_some', aBin, BinOp.isShift, Bool.false_eq_true, or_true, aInt_sub, w1, aInt_gtr, GT.gt, d1, runR_cond', condR_b, r17_2, r17_3, d2, r17_4, aInt_add, w2, astore, AV.cells, List.length_cons, List.length_nil, Nat.zero_add, hlen, and_self, hset, withU_some', put_none]
      refine start (now + (1099511627776 - now)) _ _ hN ?_ Fb.refl.set ?_
      · rw [AH_set_o, if_pos rfl]
      · simp only [upd_get, reduceCtorEq, ↓reduceIte, ainit_get, List.getD_cons_zero]
end
variable {q : Prm}
theorem same_spec {H : AH} {v w : AV} {l : List Int} {n m : Nat} (h : Rs H v 1 n (l.map (AV.i .i64))) (h2 : Rs H w 1 m (l.map (AV.i .i64))) (hl : n ≤ 1000000) : callR (tblP q) 16 [v, w] H = some (.b true, H) := by
  have hln : l.length = n := by have := h.1; simpa using this
  have hlm : l.length = m := by have := h2.1; simpa using this
  have hmn : m = n := by omega
  subst hmn
  obtain ⟨_, a, lo, ex, sz', hv, _⟩ := id h
  obtain ⟨_, a2, lo2, ex2, sz2, hw, _⟩ := id h2
  subst hv; subst hw
  have c0 : ((m : Int) != m) = false := by simp
  simp only [c16, b16, runR_seq, r16_0, aops_cons, aop, ev_c, thenOps_some, put_some, aops_nil, regR_some, r16_1, ev_t, upd_get, reduceCtorEq, ↓reduceIte, ainit_get, List.getD_cons_zero, Nat.reduceEqDiff, List.getD_cons_succ, aBin, BinOp.isShift, Bool.false_eq_true, or_true, aInt_neq, bne_self_eq_false, withH_some', runR_cond', condR_b, runR_skip, r16_3, runR_block, runR_loop']
  refine loop_law m (fun i t' H' => H' = H ∧ t' 0 = .sl a m lo ex sz' ∧ t' 1 = .sl a2 m lo2 ex2 sz2 ∧ t' 12 = .i .i64 m ∧ t' 13 = .i .i64 i) (fun r => r = some (.b true, H)) ?_ ?_ 0 _ H (Nat.zero_le _) ⟨rfl, ?_, ?_, ?_, ?_⟩
  · rintro i t' H' hi ⟨rfl, q0, q1, q12, q13⟩ ih
    have c1 : decide ((i : Int) < m) = true := by simp; omega
    have c2 : 0 ≤ (i : Int) ∧ (i : Int) < m := by omega
    have hwi : IntKind.i64.wrap ((i : Int) + 1) = (i + 1 : Nat) := by rw [wrap_i64 (by omega)]; simp
    obtain ⟨x, hx⟩ : ∃ y, l[i]? = some y := ⟨l[i]'(by omega), List.getElem?_eq_getElem (by omega)⟩
    obtain ⟨b, o, lo', ex', sz'', ro, full, e, hb, hr, hel⟩ := h.el1 hx
    cases e
    obtain ⟨b', o', lo'', ex'', sz3, ro', full', e', hb', hr', hel'⟩ := h2.el1 hx
    cases e'
    have ew : (x != x) = false := by simp
    simp only [l16_9, runR_seq, r16_4, aops_cons, aop, aBin, ev_t, q13, q12, BinOp.isShift, Bool.false_eq_true, or_true, ↓reduceIte, aInt_lss, c2, decide_true, withH_some', thenOps_some, put_some, aops_nil, regR_some, runR_cond', upd_get, condR_b, runR_skip, runR_block, r16_5, Nat.reduceEqDiff, r16_6, reduceCtorEq, q0, and_self, Int.toNat_natCast, Nat.mul_one, aload, hr, apart, hel, q1, hr', hel', aInt_neq, bne_self_eq_false, runR_inBlock, r16_8, ev_c, aInt_add, hwi]
    refine ih _ _ ⟨rfl, ?_, ?_, ?_, ?_⟩
    all_goals simp only [upd_get, reduceCtorEq, ↓reduceIte, q0, Nat.reduceEqDiff, q1, q12]
  · rintro t' H' ⟨rfl, q0, q1, q12, q13⟩
    have c1 : decide ((m : Int) < m) = false := by simp
    simp only [l16_9, runR_seq, r16_4, aops_cons, aop, aBin, ev_t, q13, q12, BinOp.isShift, Bool.false_eq_true, or_true, ↓reduceIte, aInt_lss, c1, withH_some', thenOps_some, put_some, aops_nil, regR_some, runR_cond', upd_get, condR_b, runR_exit', aexit_code, aexit_inLoop, aexit_inBlock, exitR_some, r16_10, ev_c, runR_ret, afinish_def, s16, aresults, aresult, aback]
  all_goals simp only [upd_get, reduceCtorEq, ↓reduceIte, ainit_get, List.getD_cons_zero, cast_of, Nat.reduceEqDiff, List.getD_cons_succ]
theorem alloc4 {T : Tbl} {fn : AFun} {K : List AItem} {t : Nat → AV} {H : AH} : runR T fn (.code (.reg d4_2) :: K) t H = runR T fn K (upd t 4 (.p (some (H.n, 0)))) (H.new (.row false (.i .i64 0 :: arr []))) := by
  rw [r4_2]
  simp only [aops_cons, aop, aops_nil, thenOps_some, withH_some', put_some, regR_some]
  rfl
/-- The two clocks told alike. -/
theorem plays_tail {H : AH} {e m r c : Nat} {now : Int} {T : List P2} {s : St3} {ro : Bool} {t : Nat → AV} {K : List AItem} {Q : AV → AH → Prop} (hk : Ck H e m now T) (hR : RC H r now T) (hc : H.o c = some (.row ro [.i .u8 s.1, .i .i64 s.2.1, .i .i64 s.2.2])) (q3 : t 3 = .p (some (e, 0))) (q4 : t 4 = .p (some (r, 0))) (q6 : t 6 = .p (some (c, 0))) (q7 : t 7 = .b true)
    (hQ : ∀ t', t' 3 = t 3 → t' 4 = t 4 → t' 19 = t 19 → t' 20 = t 20 → t' 21 = t 21 → Sp (runR tbl a4 K t' H) Q) :
    Sp (runR tbl a4 (.code (.reg d4_15) :: .code (.seq (.reg d4_16) (.seq (.seq (.reg d4_17) (.cond (.t 74) (.reg d4_18) .skip)) (.seq (.reg d4_19) (.seq (.reg d4_20) (.seq (.drw d4_21) (.cond (.t 124) (.seq (.reg d4_22) .ret) .skip)))))) :: K) t H) Q := by
  have e1 := at_spec (q := qS SSo) hk s.2.1
  have hp := hR.tk.pos s.2.1
  rw [hp.1] at e1
  have e2 := next_spec' hk
  have e3 := rnext_spec (q := qS SSo) hR
  rw [bst_all hR.tk] at e3
  have e4 := len_spec' (q := qS SSo) hk
  have e5 := rlen_spec (q := qS SSo) hR
  have e6 := now_spec (q := qS SSo) hk
  have or' := hR.o
  have x1 : (at0 T s.2.1 != at0 T s.2.1) = false := by simp
  have x2 : (decide (1 ≤ at0 T s.2.1) == (at0 T s.2.1 != 0)) = true := by
    by_cases h : at0 T s.2.1 = 0
    · simp [h]
    · have : 1 ≤ at0 T s.2.1 := by omega
      simp [h, this]
  have x3 : ((T.length : Int) != (T.length : Int)) = false := by simp
  have x4 : (now != now) = false := by simp
  obtain ⟨nv, nb, hn1, hn2⟩ : ∃ (nv : Int) (nb : Bool), nextV T = .tup [.i .i64 nv, .b nb] ∧ (AV.tup [.i .i64 (if T = [] then 0 else minT T 1099511627776), .b ((if T = [] then 0 else minT T 1099511627776) != 0)]) = .tup [.i .i64 nv, .b nb] := by
    unfold nextV
    by_cases hT : T = []
    · rw [if_pos hT, if_pos hT]
      exact ⟨0, false, rfl, rfl⟩
    · rw [if_neg hT, if_neg hT]
      obtain ⟨p, hp, e, _⟩ := min_atT hR.tk hT
      have hok := hR.tk.rg p hp
      unfold okP at hok
      have : (minT T 1099511627776 != 0) = true := by simp; omega
      rw [this]
      exact ⟨_, true, rfl, rfl⟩
  rw [hn1] at e2
  rw [hn2] at e3
  have y1 : (nv != nv) = false := by simp
  have y2 : (nb != nb) = false := by simp
  by_cases hb : 0 ≤ s.2.1 ∧ s.2.1 < 256
  · have b1 : decide (0 ≤ s.2.1) = true := by simp; omega
    have b2 : decide (s.2.1 < 256) = true := by simp; omega
    have hg := row_get (T := T) (v := .i .i64 now) hb
    simp only [r4_15, aops_cons, aop, ev_t, q3, thenOps_some, put_some, upd_get, Nat.reduceEqDiff, ↓reduceIte, q6, Nat.zero_add, aload, hc, apart, List.getElem?_cons_succ, List.getElem?_cons_zero, withH_some', asX_cons, asX_nil, e1, aops_nil, regR_some, runR_seq, r4_16, ev_c, r4_17, aBin, BinOp.isShift, Bool.false_eq_true, or_true, aInt_geq, GE.ge, hb, decide_true, aops_g, gOps_b, aInt_lss, runR_cond', condR_b, r4_18, q4, cast_of, and_self, Nat.mul_one, or', hg, r4_19, e2, r4_20, e3, r4_21, adrn_cons, AOp.kind, nStep_0, q7, thenN_some, aUn_not, Bool.not_true, adrn_g, gN_b, aInt_neq, bne_self_eq_false, x2, beq_self_eq_true, nStep_3, e4, thenNC_some, e5, e6, Nat.add_zero, nStep_1, List.take_succ_cons, List.take_zero, asame_more, asame_one, fst1_some, both_same, thenNL_some, adrn_nil, runR_skip]
    refine hQ _ ?_ ?_ ?_ ?_ ?_
    all_goals simp only [upd_get, Nat.reduceEqDiff, ↓reduceIte]
  · have hz : at0 T s.2.1 = 0 := by
      have h1 := hp.1
      cases hl : (lk T s.2.1).isSome
      · rw [hl] at h1
        simp at h1
        omega
      · exact absurd (hp.2.2.2 hl) hb
    rw [hz] at e1
    have z1 : ((0 : Int) != 0) = false := by decide
    have z2 : decide ((1 : Int) ≤ 0) = false := by decide
    have z3 : (false != ((0 : Int) != 0)) = false := by decide
    rw [z2] at e1
    cases b1 : decide (0 ≤ s.2.1)
    · simp only [r4_15, aops_cons, aop, ev_t, q3, thenOps_some, put_some, upd_get, Nat.reduceEqDiff, ↓reduceIte, q6, Nat.zero_add, aload, hc, apart, List.getElem?_cons_succ, List.getElem?_cons_zero, withH_some', asX_cons, asX_nil, e1, aops_nil, regR_some, runR_seq, r4_16, ev_c, r4_17, aBin, BinOp.isShift, Bool.false_eq_true, or_true, aInt_geq, GE.ge, b1, aops_g, gOps_b, runR_cond', condR_b, runR_skip, r4_19, e2, r4_20, q4, e3, r4_21, adrn_cons, AOp.kind, nStep_0, q7, thenN_some, aUn_not, Bool.not_true, adrn_g, gN_b, aInt_neq, bne_self_eq_false, beq_self_eq_true, nStep_3, e4, thenNC_some, e5, e6, Nat.add_zero, nStep_1, List.take_succ_cons, List.take_zero, asame_more, or', asame_one, fst1_some, both_same, thenNL_some, adrn_nil]
      refine hQ _ ?_ ?_ ?_ ?_ ?_
      all_goals simp only [upd_get, Nat.reduceEqDiff, ↓reduceIte]
    · have b2 : decide (s.2.1 < 256) = false := by simp at b1; simp; omega
      simp only [r4_15, aops_cons, aop, ev_t, q3, thenOps_some, put_some, upd_get, Nat.reduceEqDiff, ↓reduceIte, q6, Nat.zero_add, aload, hc, apart, List.getElem?_cons_succ, List.getElem?_cons_zero, withH_some', asX_cons, asX_nil, e1, aops_nil, regR_some, runR_seq, r4_16, ev_c, r4_17, aBin, BinOp.isShift, Bool.false_eq_true, or_true, aInt_geq, GE.ge, b1, aops_g, gOps_b, aInt_lss, b2, runR_cond', condR_b, runR_skip, r4_19, e2, r4_20, q4, e3, r4_21, adrn_cons, AOp.kind, nStep_0, q7, thenN_some, aUn_not, Bool.not_true, adrn_g, gN_b, aInt_neq, bne_self_eq_false, beq_self_eq_true, nStep_3, e4, thenNC_some, e5, e6, Nat.add_zero, nStep_1, List.take_succ_cons, List.take_zero, asame_more, or', asame_one, fst1_some, both_same, thenNL_some, adrn_nil]
      refine hQ _ ?_ ?_ ?_ ?_ ?_
      all_goals simp only [upd_get, Nat.reduceEqDiff, ↓reduceIte]
theorem tplays_law (l : List St3) (ok : ∀ x ∈ l, (Lit.int .u8 x.1).wf = true ∧ (Lit.int .i64 x.2.1).wf = true ∧ (Lit.int .i64 x.2.2).wf = true) (H : AH) (x : AV) (hx : IsIn H x 3 l.length (l.flatMap stepF)) : ∃ H', callR tbl 4 [x] H = some (.b true, H') := by
  have hro0 := isIn_ro hx (stepF_len l)
  obtain ⟨HN, eN, kN, keN⟩ := new_spec (q := qS SSo) (H := H)
  obtain ⟨v, eS, hv⟩ := short_spec (q := qS SSo) hro0
  obtain ⟨L, hL⟩ : ∃ L, L = l.take 200 := ⟨_, rfl⟩
  rw [← hL] at hv
  have hl : L.length ≤ 200 := by rw [hL, List.length_take]; omega
  obtain ⟨a, lo, ex, sz, hve⟩ := hv.len
  subst hve
  obtain ⟨e, he⟩ : ∃ e, e = H.n + 1 := ⟨_, rfl⟩
  obtain ⟨m, hm⟩ : ∃ m, m = H.n := ⟨_, rfl⟩
  rw [← he, ← hm] at kN
  rw [← he] at eN
  have he' : H.n ≤ e := by omega
  have hm' : H.n ≤ m := by omega
  clear he hm
  obtain ⟨r, hr⟩ : ∃ r, r = HN.n := ⟨_, rfl⟩
  obtain ⟨HR, hHR⟩ : ∃ HR, HR = HN.new (.row false (.i .i64 0 :: arr [])) := ⟨_, rfl⟩
  have kR : Keeps HN HR := by rw [hHR]; exact (Keeps.refl _).new
  have hrn : H.n ≤ r := by have := keN.1; omega
  have hltN := kN.lt
  have hre : e ≠ r ∧ m ≠ r := by omega
  have rc0 : RC HR r 0 [] := ⟨by rw [hHR, hr, AH_new_o, if_pos rfl], by rw [hHR, hr]; exact Nat.lt_succ_self _, ⟨List.nodup_nil, fun p hp => by cases hp⟩, by omega⟩
  refine Sp.tt fun Q hQ => ?_
  simp only [c4, b4, runR_seq, r4_0, aops_cons, aop, ev_c, thenOps_some, put_some, aops_nil, regR_some, r4_1, asX_nil, eN, ev_t, upd_get, ↓reduceIte, alloc4, ← hr, ← hHR, r4_3, Nat.reduceEqDiff, aEqN, bne_self_eq_false, runR_cond', condR_b, Bool.false_eq_true, runR_skip, r4_5, reduceCtorEq, ainit_get, List.getD_cons_zero, asX_cons, eS, runR_block, runR_loop']
  clear hr
  refine loop_law L.length (fun i t' H' => t' 3 = .p (some (e, 0)) ∧ t' 4 = .p (some (r, 0)) ∧ t' 19 = .sl a L.length lo ex sz ∧ t' 20 = .i .i64 L.length ∧ t' 21 = .i .i64 i ∧ (∃ now T, Ck H' e m now T ∧ RC H' r now T) ∧ Keeps H H') (fun r => Sp r Q) ?_ ?_ 0 _ HR (Nat.zero_le _) ⟨?_, ?_, ?_, ?_, ?_, ⟨0, [], kN.keeps kR, rc0⟩, keN.trans kR⟩
  · rintro i t' H' hi ⟨q3, q4, q19, q20, q21, ⟨now, T, ck, rc⟩, k⟩ ih
    have c1 : decide ((i : Int) < (L.length : Int)) = true := by simp; omega
    have c2 : 0 ≤ (i : Int) ∧ (i : Int) < (L.length : Int) := by omega
    have hwi := wr1 (i := i) (by omega)
    obtain ⟨s, hs⟩ : ∃ y, L[i]? = some y := ⟨_, List.getElem?_eq_getElem hi⟩
    obtain ⟨b, o, lo', ex', sz', ro, full, e', hbn, hbr, hfl, _, hel⟩ := hv.rs.el hi
    cases e'
    rw [(flat_at (f := stepF) (sz := 3) (fun _ => rfl) L i s hs).1] at hel
    have hel' : (full.drop (o + i * 3)).take 3 = [.i .u8 s.1, .i .i64 s.2.1, .i .i64 s.2.2] := hel
    rw [Nat.add_assoc] at hfl
    have hr1 := (k.o hbn).trans hbr
    have hk1 := k.1
    have hne : b ≠ H'.n := by omega
    obtain ⟨HS, hHS⟩ : ∃ HS, HS = (H'.new (.row false [.i .u8 0, .i .i64 0, .i .i64 0])).set H'.n (.row false [.i .u8 s.1, .i .i64 s.2.1, .i .i64 s.2.2]) := ⟨_, rfl⟩
    have kS : Keeps H' HS := by rw [hHS]; exact (Keeps.refl _).new.set (Nat.le_refl _)
    have nS : HS.n = H'.n + 1 := by rw [hHS]; rfl
    have oS : HS.o H'.n = some (.row false [.i .u8 s.1, .i .i64 s.2.1, .i .i64 s.2.2]) := by rw [hHS, AH_set_o, if_pos rfl]
    have ckS := ck.keeps kS
    have rcS := rc.keeps kS
    have hlt := ck.lt
    have hrl := rc.lt
    -- the end of a step
    have fin : ∀ (t2 : Nat → AV) (H2 : AH) (now2 : Int) (T2 : List P2), Ck H2 e m now2 T2 → RC H2 r now2 T2 → HS.n ≤ H2.n → (∀ c, c < HS.n → c ≠ e → c ≠ m → c ≠ r → H2.o c = HS.o c) → t2 3 = .p (some (e, 0)) → t2 4 = .p (some (r, 0)) → t2 6 = .p (some (H'.n, 0)) → t2 7 = .b true → t2 19 = .sl (some (b, o)) L.length lo ex sz → t2 20 = .i .i64 L.length → t2 21 = .i .i64 i →
        Sp (runR tbl a4 [.code (.reg d4_15), .code (.seq (.reg d4_16) (.seq (.seq (.reg d4_17) (.cond (.t 74) (.reg d4_18) .skip)) (.seq (.reg d4_19) (.seq (.reg d4_20) (.seq (.drw d4_21) (.cond (.t 124) (.seq (.reg d4_22) .ret) .skip)))))), .inBlock 1, .code (.reg d4_23), .inLoop l4_24, .inBlock 0, .code (.seq (.reg d4_25) .ret)] t2 H2) Q := by
      intro t2 H2 now2 T2 ck2 rc2 hn2 ho2 z3 z4 z6 z7 z19 z20 z21
      refine plays_tail (c := H'.n) (s := s) (ro := false) ck2 rc2 (by rw [ho2 _ (by omega) (by omega) (by omega) (by omega)]; exact oS) z3 z4 z6 z7 ?_
      intro t3 y3 y4 y19 y20 y21
      rw [z3] at y3; rw [z4] at y4; rw [z19] at y19; rw [z20] at y20; rw [z21] at y21
      simp only [runR_inBlock, r4_23, aops_cons, aop, aBin, ev_t, y21, ev_c, BinOp.isShift, Bool.false_eq_true, or_true, ↓reduceIte, aInt_add, hwi, withH_some', thenOps_some, put_some, upd_get, aops_nil, regR_some]
      refine ih _ _ ⟨?_, ?_, ?_, ?_, ?_, ⟨now2, T2, ck2, rc2⟩, ⟨by omega, fun c hc => by rw [ho2 c (by omega) (by omega) (by omega) (by omega), kS.o (by omega), k.o hc]⟩⟩
      all_goals simp only [upd_get, Nat.reduceEqDiff, ↓reduceIte, y19, y4, y3, y20]
    by_cases r1 : s.1.tmod 4 = 1
    · have x1 : (s.1.tmod 4 == 1) = true := by simpa using r1
      obtain ⟨H2, e2, k2, f2⟩ := clear_spec (q := qS SSo) ckS s.2.1
      have f2n := f2.1
      have rc2 := rcS.eq f2n (f2.2 r (by omega) (Ne.symm hre.2))
      have o2 := (f2.2 H'.n (by omega) (by omega)).trans oS
      obtain ⟨H3, e3, rc3, f3⟩ := rclear_spec (q := qS SSo) rc2 s.2.1
      have f3n := f3.1
      have k3 := k2.eqs f3n (f3.2 e k2.lt.1 hre.1) (f3.2 m k2.lt.2 hre.2)
      have xe : ((lk T s.2.1).isSome == (lk T s.2.1).isSome) = true := by simp
      simp only [l4_24, runR_seq, r4_6, aops_cons, aop, aBin, ev_t, q21, q20, BinOp.isShift, Bool.false_eq_true, or_true, ↓reduceIte, aInt_lss, c2, decide_true, withH_some', thenOps_some, put_some, aops_nil, regR_some, runR_cond', upd_get, condR_b, runR_skip, runR_block, r4_7, Nat.reduceEqDiff, q19, and_self, Int.toNat_natCast, aload, hr1, apart, Nat.add_assoc, hfl, hel', astore, hn_o, AV.cells, List.length_cons, List.length_nil, Nat.zero_add, Nat.reduceAdd, Nat.reduceLeDiff, setR_z, setR_e, ← hHS, withU_some', put_none, r4_8, ev_c, r4_9, Nat.add_zero, oS, List.getElem?_cons_zero, aInt_rem, Int.reduceEq, r4_10, aInt_eql, x1, r4_11, adrn_cons, AOp.kind, nStep_0, q3, thenN_some, nStep_1, List.take_succ_cons, List.take_zero, asame_one, List.getElem?_cons_succ, fst1_some, thenNL_some, nStep_3, asX_cons, asX_nil, e2, thenNC_some, asame_more, o2, both_same, q4, e3, beq_self_eq_true, Bool.bne_false, adrn_nil, runR_inBlock]
      refine fin _ H3 now _ k3 rc3 (by omega) (fun c hc h1 h2 h3 => by rw [f3.2 c (by omega) h3, f2.2 c hc h2]) ?_ ?_ ?_ ?_ ?_ ?_ ?_
      all_goals simp only [upd_get, Nat.reduceEqDiff, ↓reduceIte, q3, q4, q19, q21, q20]
    · have x1 : (s.1.tmod 4 == 1) = false := by simpa using r1
      by_cases r2 : s.1.tmod 4 = 2
      · have x2 : (s.1.tmod 4 == 2) = true := by simpa using r2
        obtain ⟨w, H2, e2, k2, v2, f2, hw⟩ := tick_spec ckS s.2.2
        have f2n := f2.1
        have rc2 := rcS.eq f2n (f2.2 r (by omega) (Ne.symm hre.1) (Ne.symm hre.2))
        have o2 := (f2.2 H'.n (by omega) (by omega) (by omega)).trans oS
        obtain ⟨u, H3, e3, rc3, u3, f3⟩ := rtick_spec (q := qS SSo) rc2 s.2.2
        have f3n := f3.1
        have k3 := k2.eqs f3n (f3.2 e k2.lt.1 hre.1) (f3.2 m k2.lt.2 hre.2)
        have v3 := v2.keep f3n (fun b' hb' hlt' => f3.2 b' hlt' (by have := hw b' hb'; omega))
        have hdl : (dueT T (tickN now s.2.2)).length ≤ 256 := by
          have h1 : (dueT T (tickN now s.2.2)).length ≤ (srtT T).length := by rw [dueT_filter]; exact List.length_filter_le _ _
          rw [srtT_len] at h1
          have := ck.len
          omega
        have e4 := same_spec (q := qS SSo) v3.rs u3.rs (by omega)
        simp only [l4_24, runR_seq, r4_6, aops_cons, aop, aBin, ev_t, q21, q20, BinOp.isShift, Bool.false_eq_true, or_true, ↓reduceIte, aInt_lss, c2, decide_true, withH_some', thenOps_some, put_some, aops_nil, regR_some, runR_cond', upd_get, condR_b, runR_skip, runR_block, r4_7, Nat.reduceEqDiff, q19, and_self, Int.toNat_natCast, aload, hr1, apart, Nat.add_assoc, hfl, hel', astore, hn_o, AV.cells, List.length_cons, List.length_nil, Nat.zero_add, Nat.reduceAdd, Nat.reduceLeDiff, setR_z, setR_e, ← hHS, withU_some', put_none, r4_8, ev_c, r4_9, Nat.add_zero, oS, List.getElem?_cons_zero, aInt_rem, Int.reduceEq, r4_10, aInt_eql, x1, r4_12, x2, r4_13, adrn_cons, AOp.kind, nStep_0, q3, thenN_some, nStep_1, List.take_succ_cons, List.take_zero, asame_one, List.getElem?_cons_succ, fst1_some, thenNL_some, nStep_3, asX_cons, asX_nil, e2, thenNC_some, asame_more, o2, both_same, q4, e3, e4, adrn_nil, runR_inBlock]
        refine fin _ H3 _ _ k3 rc3 (by omega) (fun c hc h1 h2 h3 => by rw [f3.2 c (by omega) h3, f2.2 c hc h1 h2]) ?_ ?_ ?_ ?_ ?_ ?_ ?_
        all_goals simp only [upd_get, Nat.reduceEqDiff, ↓reduceIte, q3, q4, q19, q21, q20]
      · have x2 : (s.1.tmod 4 == 2) = false := by simpa using r2
        obtain ⟨H2, e2, k2, f2⟩ := set_spec (q := qS SSo) ckS s.2.1 s.2.2
        have f2n := f2.1
        have rc2 := rcS.eq f2n (f2.2 r (by omega) (Ne.symm hre.2))
        have o2 := (f2.2 H'.n (by omega) (by omega)).trans oS
        obtain ⟨H3, e3, rc3, f3⟩ := rset_spec (q := qS SSo) rc2 s.2.1 s.2.2
        have f3n := f3.1
        have k3 := k2.eqs f3n (f3.2 e k2.lt.1 hre.1) (f3.2 m k2.lt.2 hre.2)
        have xe : (setE s.2.1 s.2.2 == setE s.2.1 s.2.2) = true := by simp
        simp only [l4_24, runR_seq, r4_6, aops_cons, aop, aBin, ev_t, q21, q20, BinOp.isShift, Bool.false_eq_true, or_true, ↓reduceIte, aInt_lss, c2, decide_true, withH_some', thenOps_some, put_some, aops_nil, regR_some, runR_cond', upd_get, condR_b, runR_skip, runR_block, r4_7, Nat.reduceEqDiff, q19, and_self, Int.toNat_natCast, aload, hr1, apart, Nat.add_assoc, hfl, hel', astore, hn_o, AV.cells, List.length_cons, List.length_nil, Nat.zero_add, Nat.reduceAdd, Nat.reduceLeDiff, setR_z, setR_e, ← hHS, withU_some', put_none, r4_8, ev_c, r4_9, Nat.add_zero, oS, List.getElem?_cons_zero, aInt_rem, Int.reduceEq, r4_10, aInt_eql, x1, r4_12, x2, r4_14, adrn_cons, AOp.kind, nStep_0, q3, thenN_some, nStep_1, List.take_succ_cons, List.take_zero, asame_one, List.getElem?_cons_succ, fst1_some, thenNL_some, nStep_3, asX_cons, asX_nil, e2, thenNC_some, asame_more, o2, both_same, q4, e3, beq_self_eq_true, adrn_nil, runR_inBlock]
        refine fin _ H3 now _ k3 rc3 (by omega) (fun c hc h1 h2 h3 => by rw [f3.2 c (by omega) h3, f2.2 c hc h2]) ?_ ?_ ?_ ?_ ?_ ?_ ?_
        all_goals simp only [upd_get, Nat.reduceEqDiff, ↓reduceIte, q3, q4, q19, q21, q20]
  · rintro t' H' ⟨q3, q4, q19, q20, q21, _, k⟩
    have c1 : decide ((L.length : Int) < (L.length : Int)) = false := by simp
    obtain ⟨HE, eE⟩ := alive_spec (H := H')
    simp only [l4_24, runR_seq, r4_6, aops_cons, aop, aBin, ev_t, q21, q20, BinOp.isShift, Bool.false_eq_true, or_true, ↓reduceIte, aInt_lss, c1, withH_some', thenOps_some, put_some, aops_nil, regR_some, runR_cond', upd_get, condR_b, runR_exit', aexit_code, aexit_inLoop, aexit_inBlock, exitR_some, r4_25, asX_nil, eE, runR_ret, afinish_def, s4, aresults, aresult, aback]
    exact Sp.ret (hQ _)
  all_goals simp only [upd_get, ↓reduceIte, cast_of, Nat.reduceEqDiff]
end Go.Proofs.Ytaolkpkaiidmeaa.Abs
