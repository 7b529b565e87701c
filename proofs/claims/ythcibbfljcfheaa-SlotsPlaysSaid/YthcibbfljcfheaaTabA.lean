/- A table of slots in the heap; what is told of one slot. No condition of its own. -/
import Derived.Test.YthcibbfljcfheaaTb
import Derived.Test.YthcibbfljcfheaaWr
import Derived.Test.YthcibbfljcfheaaMp
namespace Go.Proofs.Ythcibbfljcfheaa.Abs
set_option linter.unusedSimpArgs false
set_option linter.unusedVariables false
set_option maxRecDepth 100000
set_option maxHeartbeats 8000000
abbrev I1 : Int → AV := AV.i .i64
abbrev gF (g : Bool × Int) : List AV := [.b g.1, .i .u32 g.2]
theorem hs_off {H : AH} {a b : Nat} {x : AObj} (h : b ≠ a) : (H.set a x).o b = H.o b := by rw [hs_o, if_neg h]
theorem setR_set1 {cs : List AV} {k : Nat} {y : AV} (h : k < cs.length) : setR cs k [y] = cs.set k y := by
  unfold setR
  rw [List.set_eq_take_append_cons_drop, if_pos h, List.append_assoc]
  rfl
theorem Wr.setk {H : AH} {v : AV} {sz n k : Nat} {cs : List AV} (h : Wr H v sz n cs) (hk : k < n * sz) : ∃ b o lo ex full, v = .sl (some (b, o)) n lo ex sz ∧ b < H.n ∧ H.o b = some (.row false full) ∧ o + k < full.length ∧ (∀ j, j < n * sz → full[o + j]? = cs[j]?) ∧
    ∀ H' y, H.n ≤ H'.n → H'.o b = some (.row false (setR full (o + k) [y])) → Wr H' v sz n (cs.set k y) := by
  rcases h.2 with ⟨_, h0⟩ | ⟨b, o, lo, ex, full, rfl, hb, hr, hl, hf, hc⟩
  · subst h0; omega
  · have hle := Nat.mul_le_mul_right sz hl
    have h1 : o + k < full.length := by omega
    refine ⟨b, o, lo, ex, full, rfl, hb, hr, h1, fun j hj => by rw [← hc, List.getElem?_take, if_pos hj, List.getElem?_drop], fun H' y hn ho => ⟨by rw [List.length_set]; exact h.1, Or.inr ⟨b, o, lo, ex, _, rfl, Nat.lt_of_lt_of_le hb hn, ho, hl, ?_, ?_⟩⟩⟩
    · rw [setR_set1 h1, List.length_set]; exact hf
    · rw [setR_set1 h1, List.drop_set, if_neg (by omega), Nat.add_sub_cancel_left, List.take_set, hc]
theorem gF_len (gs : List (Bool × Int)) : (gs.flatMap gF).length = gs.length * 2 := by
  induction gs with
  | nil => rfl
  | cons x gs ih => rw [List.flatMap_cons, List.length_append, ih, List.length_cons]; simp; omega
theorem gF_get : ∀ {gs : List (Bool × Int)} {i : Nat} {p : Bool × Int}, gs[i]? = some p → (gs.flatMap gF)[i * 2]? = some (.b p.1) ∧ (gs.flatMap gF)[i * 2 + 1]? = some (.i .u32 p.2)
  | [], i, p, h => by simp at h
  | x :: gs, 0, p, h => by simp at h; subst h; exact ⟨rfl, rfl⟩
  | x :: gs, i + 1, p, h => by
    have := gF_get (gs := gs) (i := i) (p := p) (by simpa using h)
    rw [List.flatMap_cons, show (i + 1) * 2 = i * 2 + 1 + 1 by omega]
    exact this
theorem gF_setu : ∀ {gs : List (Bool × Int)} {i : Nat} {p : Bool × Int} (u : Bool), gs[i]? = some p → (gs.flatMap gF).set (i * 2) (.b u) = (gs.set i (u, p.2)).flatMap gF
  | [], i, p, u, h => by simp at h
  | x :: gs, 0, p, u, h => by simp at h; subst h; rfl
  | x :: gs, i + 1, p, u, h => by
    have := gF_setu (gs := gs) (i := i) (p := p) u (by simpa using h)
    rw [List.flatMap_cons, List.set_cons_succ, List.flatMap_cons, ← this, show (i + 1) * 2 = i * 2 + 1 + 1 by omega]
    rfl
theorem gF_setg : ∀ {gs : List (Bool × Int)} {i : Nat} {p : Bool × Int} (g : Int), gs[i]? = some p → (gs.flatMap gF).set (i * 2 + 1) (.i .u32 g) = (gs.set i (p.1, g)).flatMap gF
  | [], i, p, u, h => by simp at h
  | x :: gs, 0, p, u, h => by simp at h; subst h; rfl
  | x :: gs, i + 1, p, u, h => by
    have := gF_setg (gs := gs) (i := i) (p := p) u (by simpa using h)
    rw [List.flatMap_cons, List.set_cons_succ, List.flatMap_cons, ← this, show (i + 1) * 2 + 1 = i * 2 + 1 + 1 + 1 by omega]
    rfl
/-- A slot read, and turned. -/
theorem Wr.slot {H : AH} {s : AV} {n i : Nat} {gs : List (Bool × Int)} {p : Bool × Int} (h : Wr H s 2 n (gs.flatMap gF)) (hi : gs[i]? = some p) :
    ∃ b o lo ex full, s = .sl (some (b, o)) n lo ex 2 ∧ b < H.n ∧ H.o b = some (.row false full) ∧ i < n ∧ o + i * 2 + 2 ≤ full.length ∧ full[o + i * 2]? = some (.b p.1) ∧ full[o + i * 2 + 1]? = some (.i .u32 p.2) ∧
      (∀ H' u, H.n ≤ H'.n → H'.o b = some (.row false (setR full (o + i * 2) [.b u])) → Wr H' s 2 n ((gs.set i (u, p.2)).flatMap gF)) ∧
      (∀ H' g, H.n ≤ H'.n → H'.o b = some (.row false (setR full (o + i * 2 + 1) [.i .u32 g])) → Wr H' s 2 n ((gs.set i (p.1, g)).flatMap gF)) := by
  have hl := h.1
  rw [gF_len] at hl
  have hin := (List.getElem?_eq_some_iff.1 hi).1
  obtain ⟨g1, g2⟩ := gF_get hi
  obtain ⟨b, o, lo, ex, full, e, hb, hr, k1, k2, k3⟩ := h.setk (k := i * 2) (by omega)
  obtain ⟨b', o', lo', ex', full', e', hb', hr', k1', k2', k3'⟩ := h.setk (k := i * 2 + 1) (by omega)
  rw [e] at e'
  cases e'
  rw [hr] at hr'
  cases hr'
  refine ⟨b, o, lo, ex, full, e, hb, hr, by omega, by omega, (k2 _ (by omega)).trans g1, by rw [Nat.add_assoc]; exact (k2 _ (by omega)).trans g2, ?_, ?_⟩
  · intro H' u hn ho
    rw [← gF_setu u hi]
    exact k3 H' _ hn ho
  · intro H' g hn ho
    rw [← gF_setg g hi]
    rw [Nat.add_assoc] at ho
    exact k3' H' _ hn ho
/-- What a table holds. -/
structure SL where
  gs : List (Bool × Int)
  co : List Int
  ow : Nat → List Int
def SL.ct (S : SL) : Nat → Nat × Nat × List AV
  | 0 => (2, S.gs.length, S.gs.flatMap gF)
  | 1 => (1, S.co.length, S.co.map I1)
  | k + 2 => (1, (S.ow k).length, (S.ow k).map I1)
def SL.setOw (S : SL) (th : Nat) (l : List Int) : SL := { S with ow := fun k => if k = th then l else S.ow k }
structure IsT (H : AH) (m pl sz : Nat) (S : SL) (R : List AV) : Prop where
  lm : m < H.n
  ll : R.length = 260
  o : H.o m = some (.row false R)
  p : R[0]? = some (.i .i64 pl)
  z : R[1]? = some (.i .i64 sz)
  w : ∀ j v, R[j + 2]? = some v → Wr H v (S.ct j).1 (S.ct j).2.1 (S.ct j).2.2
  nm : ∀ j v b, R[j + 2]? = some v → blk v = some b → b ≠ m
  ap : ∀ i j v u b, R[i + 2]? = some v → R[j + 2]? = some u → blk v = some b → blk u = some b → i = j
/-- The names of a table. -/
def FT (m : Nat) (R : List AV) : Nat → Prop := fun b => b = m ∨ ∃ j v, R[j + 2]? = some v ∧ blk v = some b
structure Trn (H H' : AH) (F F' : Nat → Prop) : Prop where
  n : H.n ≤ H'.n
  o : ∀ c, c < H.n → ¬ F c → H'.o c = H.o c
  f : ∀ c, F' c → F c ∨ H.n ≤ c
theorem Trn.refl {H : AH} {F : Nat → Prop} : Trn H H F F := ⟨Nat.le_refl _, fun _ _ _ => rfl, fun _ h => Or.inl h⟩
theorem Trn.of_keeps {H H' : AH} {F : Nat → Prop} (k : Keeps H H') : Trn H H' F F := ⟨k.1, fun c hc _ => k.2 c hc, fun _ h => Or.inl h⟩
theorem Trn.trans {H H1 H2 : AH} {F F1 F2 : Nat → Prop} (a : Trn H H1 F F1) (b : Trn H1 H2 F1 F2) : Trn H H2 F F2 :=
  ⟨Nat.le_trans a.n b.n, fun c hc hf => by
    rw [b.o c (Nat.lt_of_lt_of_le hc a.n) (fun h => (a.f c h).elim hf (fun h => by omega)), a.o c hc hf], fun c hc => (b.f c hc).elim (fun h => a.f c h) (fun h => Or.inr (Nat.le_trans a.n h))⟩
section
variable {H : AH} {m pl sz : Nat} {S : SL} {R : List AV}
theorem IsT.old (h : IsT H m pl sz S R) {b : Nat} (hb : FT m R b) : b < H.n := by
  rcases hb with rfl | ⟨j, v, h1, h2⟩
  · exact h.lm
  · exact (h.w j v h1).old h2
theorem IsT.keep {H' : AH} (h : IsT H m pl sz S R) (hn : H.n ≤ H'.n) (ho : ∀ c, FT m R c → H'.o c = H.o c) : IsT H' m pl sz S R :=
  { h with
    lm := Nat.lt_of_lt_of_le h.lm hn
    o := (ho m (Or.inl rfl)).trans h.o
    w := fun j v hj => (h.w j v hj).keep hn (fun b hb _ => ho b (Or.inr ⟨j, v, hj, hb⟩)) }
theorem IsT.keeps {H' : AH} (h : IsT H m pl sz S R) (k : Keeps H H') : IsT H' m pl sz S R := h.keep k.1 fun c hc => k.2 c (h.old hc)
theorem IsT.at (h : IsT H m pl sz S R) {j : Nat} (hj : j < 258) : ∃ v, R[j + 2]? = some v ∧ Wr H v (S.ct j).1 (S.ct j).2.1 (S.ct j).2.2 := by
  have : j + 2 < R.length := by rw [h.ll]; omega
  exact ⟨_, List.getElem?_eq_getElem this, h.w j _ (List.getElem?_eq_getElem this)⟩
/-- One of its lists turned where it stands. -/
theorem IsT.inp {S' : SL} {H1 : AH} {j : Nat} {v : AV} (h : IsT H m pl sz S R) (hj : R[j + 2]? = some v) (hn : H.n ≤ H1.n) (hs : ∀ b, b < H.n → blk v ≠ some b → H1.o b = H.o b) (hw : Wr H1 v (S'.ct j).1 (S'.ct j).2.1 (S'.ct j).2.2) (hc : ∀ i, i ≠ j → S'.ct i = S.ct i) :
    IsT H1 m pl sz S' R ∧ Trn H H1 (FT m R) (FT m R) := by
  refine ⟨{ h with lm := Nat.lt_of_lt_of_le h.lm hn, o := (hs m h.lm (fun e => h.nm j v m hj e rfl)).trans h.o, w := fun i u hi => ?_ }, hn, fun c hc1 hc2 => hs c hc1 (fun e => hc2 (Or.inr ⟨j, v, hj, e⟩)), fun c h => Or.inl h⟩
  by_cases e : i = j
  · subst e
    rw [hj] at hi
    cases hi
    exact hw
  · rw [hc i e]
    exact (h.w i u hi).keep hn (fun b hb hlt => hs b hlt (fun e' => e (h.ap i j u v b hi hj hb e')))
/-- .. and anew. -/
theorem IsT.upd {S' : SL} {H1 : AH} {j : Nat} {v v' : AV} (h : IsT H m pl sz S R) (hj : R[j + 2]? = some v) (hn : H.n ≤ H1.n) (hs : ∀ b, b < H.n → blk v ≠ some b → H1.o b = H.o b) (hw : Wr H1 v' (S'.ct j).1 (S'.ct j).2.1 (S'.ct j).2.2) (hb : ∀ b, blk v' = some b → blk v = some b ∨ H.n ≤ b) (hc : ∀ i, i ≠ j → S'.ct i = S.ct i) :
    IsT (H1.set m (.row false (R.set (j + 2) v'))) m pl sz S' (R.set (j + 2) v') ∧ Trn H (H1.set m (.row false (R.set (j + 2) v'))) (FT m R) (FT m (R.set (j + 2) v')) := by
  have hjl := (List.getElem?_eq_some_iff.1 hj).1
  have hg : ∀ i, (R.set (j + 2) v')[i + 2]? = if i = j then some v' else R[i + 2]? := by
    intro i
    rw [List.getElem?_set]
    by_cases e : i = j
    · subst e; simp [hjl]
    · rw [if_neg (by omega), if_neg e]
  have hnm : ∀ b, blk v' = some b → b ≠ m := by
    intro b e
    rcases hb b e with g | g
    · exact h.nm j v b hj g
    · have := h.lm; omega
  have hap : ∀ i u b, i ≠ j → R[i + 2]? = some u → blk u = some b → blk v' = some b → False := by
    intro i u b hi hu h1 h2
    rcases hb b h2 with g | g
    · exact hi (h.ap i j u v b hu hj h1 g)
    · have := (h.w i u hu).old h1; omega
  refine ⟨⟨by rw [AH_set_n]; exact Nat.lt_of_lt_of_le h.lm hn, by rw [List.length_set]; exact h.ll, by rw [AH_set_o, if_pos rfl], ?_, ?_, ?_, ?_, ?_⟩, hn, ?_, ?_⟩
  · rw [List.getElem?_set_ne (by omega)]; exact h.p
  · rw [List.getElem?_set_ne (by omega)]; exact h.z
  · intro i u hi
    rw [hg] at hi
    split at hi
    · rename_i e
      cases hi
      subst e
      exact hw.keep (Nat.le_refl _) (fun b hb' _ => hs_off (hnm b hb'))
    · rename_i e
      rw [hc i e]
      refine (h.w i u hi).keep hn (fun b hb' hlt => ?_)
      rw [hs_off (h.nm i u b hi hb')]
      exact hs b hlt (fun e' => e (h.ap i j u v b hi hj hb' e'))
  · intro i u b hi hb'
    rw [hg] at hi
    split at hi
    · cases hi; exact hnm b hb'
    · exact h.nm i u b hi hb'
  · intro i k u x b hi hk h1 h2
    rw [hg] at hi hk
    split at hi <;> split at hk
    · rename_i e1 e2; rw [e1, e2]
    · rename_i e1 e2; cases hi; exact (hap k x b e2 hk h2 h1).elim
    · rename_i e1 e2; cases hk; exact (hap i u b e1 hi h1 h2).elim
    · exact h.ap i k u x b hi hk h1 h2
  · intro c hc1 hc2
    rw [hs_off (fun e => hc2 (Or.inl e))]
    exact hs c hc1 (fun e => hc2 (Or.inr ⟨j, v, hj, e⟩))
  · intro c hc1
    rcases hc1 with rfl | ⟨i, u, h1, h2⟩
    · exact Or.inl (Or.inl rfl)
    · rw [hg] at h1
      split at h1
      · cases h1
        rcases hb c h2 with g | g
        · exact Or.inl (Or.inr ⟨j, v, hj, g⟩)
        · exact Or.inr g
      · exact Or.inl (Or.inr ⟨i, u, h1, h2⟩)
theorem ok_spec (h : IsT H m pl sz S R) (hp : 1 ≤ pl) : callR tbl 25 [.p (some (m, 0))] H = some (.b true, H) := by
  simp only [c25, b25, runR_seq, r25_0, aops_cons, aop, ev_c, thenOps_some, put_some, aops_nil, regR_some, r25_1, ev_t, upd_get, reduceCtorEq, ↓reduceIte, ainit_get, List.getD_cons_zero, aEqN, Bool.bne_true, Bool.not_false, aops_g, gOps_b, Nat.reduceEqDiff, Nat.add_zero, aload, h.o, apart, h.p, withH_some', aBin, BinOp.isShift, Bool.false_eq_true, or_true, aInt_gtr, GT.gt, show decide ((pl : Int) > 0) = true by simp; omega, runR_ret, afinish_def, s25, aresults, aresult, aback]
theorem thr_spec {n : Int} : callR tbl 26 [.i .i64 n] H = some (.b (decide (0 ≤ n ∧ n < 256)), H) := by
  cases h1 : decide (n ≥ 0)
  · have : decide (0 ≤ n ∧ n < 256) = false := by simp at h1 ⊢; omega
    simp only [c26, b26, runR_seq, r26_0, aops_cons, aop, ev_c, thenOps_some, put_some, aops_nil, regR_some, r26_1, ev_t, upd_get, reduceCtorEq, ↓reduceIte, ainit_get, List.getD_cons_zero, aBin, BinOp.isShift, Bool.false_eq_true, or_true, aInt_geq, GE.ge, h1, withH_some', aops_g, gOps_b, Nat.reduceEqDiff, runR_ret, afinish_def, s26, aresults, aresult, aback, this]
  · have : decide (0 ≤ n ∧ n < 256) = decide (n < 256) := by simp at h1; simp; omega
    simp only [c26, b26, runR_seq, r26_0, aops_cons, aop, ev_c, thenOps_some, put_some, aops_nil, regR_some, r26_1, ev_t, upd_get, reduceCtorEq, ↓reduceIte, ainit_get, List.getD_cons_zero, aBin, BinOp.isShift, Bool.false_eq_true, or_true, aInt_geq, GE.ge, h1, withH_some', aops_g, gOps_b, Nat.reduceEqDiff, aInt_lss, runR_ret, afinish_def, s26, aresults, aresult, aback, this]
def SL.usd (S : SL) (n : Int) : Bool := decide (0 ≤ n) && ((S.gs[n.toNat]?).map (·.1)).getD false
theorem used_spec (h : IsT H m pl sz S R) (hp : 1 ≤ pl) {n : Int} : callR tbl 14 [.p (some (m, 0)), .i .i64 n] H = some (.b (S.usd n), H) := by
  obtain ⟨s, hs, hw⟩ := h.at (j := 0) (by omega)
  obtain ⟨sa, slo, sex, ssz, rfl⟩ := hw.len
  cases h1 : decide (n ≥ 0)
  · have : S.usd n = false := by unfold SL.usd; simp at h1 ⊢; omega
    simp only [c14, b14, runR_seq, r14_0, aops_cons, aop, ev_c, thenOps_some, put_some, aops_nil, regR_some, r14_1, ev_t, upd_get, reduceCtorEq, ↓reduceIte, ainit_get, List.getD_cons_zero, asX_cons, asX_nil, ok_spec h hp, aops_g, gOps_b, Nat.reduceEqDiff, List.getD_cons_succ, aBin, BinOp.isShift, Bool.false_eq_true, or_true, aInt_geq, GE.ge, h1, withH_some', runR_ret, afinish_def, s14, aresults, aresult, aback, this]
  · have h1' : 0 ≤ n := by simpa using h1
    cases h2 : decide (n < (S.gs.length : Int))
    · have : S.usd n = false := by
        have : S.gs.length ≤ n.toNat := by simp at h2; omega
        unfold SL.usd; rw [List.getElem?_eq_none this]; simp
      simp only [c14, b14, runR_seq, r14_0, aops_cons, aop, ev_c, thenOps_some, put_some, aops_nil, regR_some, r14_1, ev_t, upd_get, reduceCtorEq, ↓reduceIte, ainit_get, List.getD_cons_zero, asX_cons, asX_nil, ok_spec h hp, aops_g, gOps_b, Nat.reduceEqDiff, List.getD_cons_succ, aBin, BinOp.isShift, Bool.false_eq_true, or_true, aInt_geq, GE.ge, h1, withH_some', Nat.zero_add, aload, h.o, apart, hs, show (S.ct 0).2.1 = S.gs.length from rfl, aInt_lss, h2, runR_ret, afinish_def, s14, aresults, aresult, aback, this]
    · have hlt : n.toNat < S.gs.length := by simp at h2; omega
      obtain ⟨p, hp'⟩ : ∃ p, S.gs[n.toNat]? = some p := ⟨_, List.getElem?_eq_getElem hlt⟩
      have : S.usd n = p.1 := by unfold SL.usd; rw [hp', decide_eq_true h1']; rfl
      obtain ⟨b, o, lo, ex, full, e, hb, hr, hin, hle, e1, e2, _⟩ := Wr.slot hw hp'
      cases e
      have c2 : n < (S.gs.length : Int) := by simpa using h2
      simp only [c14, b14, runR_seq, r14_0, aops_cons, aop, ev_c, thenOps_some, put_some, aops_nil, regR_some, r14_1, ev_t, upd_get, reduceCtorEq, ↓reduceIte, ainit_get, List.getD_cons_zero, asX_cons, asX_nil, ok_spec h hp, aops_g, gOps_b, Nat.reduceEqDiff, List.getD_cons_succ, aBin, BinOp.isShift, Bool.false_eq_true, or_true, aInt_geq, GE.ge, h1', decide_true, withH_some', Nat.zero_add, aload, h.o, apart, hs, show (S.ct 0).2.1 = S.gs.length from rfl, aInt_lss, c2, and_self, Nat.add_zero, hr, e1, runR_ret, afinish_def, s14, aresults, aresult, aback, this]
end
theorem delete_spec {H : AH} {v : AV} {l : List Int} {n i : Nat} (h : Wr H v 1 n (l.map I1)) (hi : i < n) (hl : n ≤ 1000000) : ∃ v' H', callR tbl 38 [v, .i .i64 i, .i .i64 ((i : Int) + 1)] H = some (v', H') ∧ Wr H' v' 1 (n - 1) ((l.eraseIdx i).map I1) ∧ H'.n = H.n ∧ (∀ b, blk v ≠ some b → H'.o b = H.o b) ∧ blk v' = blk v := by
  have hn : l.length = n := by have := h.1; simpa using this
  obtain ⟨b, o, lo, ex, hv0, ecut, hcut⟩ := h.to (k := .i64) (Nat.le_of_lt hi) (by omega)
  obtain ⟨x, efr, hfr, hblk⟩ := h.from (k := .i64) (l := i + 1) (by omega)
  rcases h.2 with ⟨_, h0⟩ | ⟨b1, o1, lo1, ex1, full, hv, hb, hr, hlo, hf, hc⟩
  · omega
  · subst hv
    cases hv0
    obtain ⟨H1, full1, e1, r1, fl1, hc1, n1, o1⟩ := app_room (z := [.i .i64 0]) (y := 8) (sz := 1) rfl (ex := ex) hb hr hf (n := i) (m := n - (i + 1)) (by omega) (cs := (l.map I1).take (i * 1)) (by rw [← hc, List.take_take, Nat.min_eq_left (by omega)]) hcut.1 hfr.rs (by omega)
    have hin : i + (n - (i + 1)) = n - 1 := by omega
    rw [hin] at e1 hc1
    have hcast : ((i + 1 : Nat) : Int) = (i : Int) + 1 := by omega
    rw [hcast] at efr
    have hlt : (i : Int) ≤ n := by omega
    have c1 : ((i : Int) == (i : Int) + 1) = false := by rw [beq_eq_false_iff_ne]; omega
    have c2 : (0 : Int) ≤ n ∧ (n : Int) ≤ lo := by omega
    have c3 : (0 : Int) ≤ (i : Int) + 1 ∧ (i : Int) + 1 ≤ n := by omega
    have c4 : (0 : Int) ≤ i ∧ (i : Int) ≤ ((i : Int) + 1).toNat := by omega
    have c5 : (0 : Int) ≤ (n - 1 : Nat) ∧ ((n - 1 : Nat) : Int) ≤ n := by omega
    have c6 : n - 1 < lo := by omega
    have ht : ((i : Int) + 1).toNat = i + 1 := by omega
    have hd : n - (n - 1) = 1 := by omega
    have hle : o + (n - 1) * 1 + 1 ≤ full1.length := by omega
    have ecl : aslice 1 (.sl (some (b, o)) (n - 1) lo ex 1) (some (.i .i64 (n - 1 : Nat))) (some (.i .i64 n)) none = some (.sl (some (b, o + (n - 1) * 1)) 1 (lo - (n - 1)) ex 1) := by
      unfold aslice
      simp only [true_or, if_true, abound, c2, c5, and_self, Int.toNat_natCast, acut, c6, hd]
    have emx : ∃ u, aslice 1 (.sl (some (b, o)) n lo ex 1) (some (.i .i64 i)) (some (.i .i64 ((i : Int) + 1))) (some (.i .i64 n)) = some u := by
      unfold aslice
      simp only [true_or, if_true, abound, c2, c3, c4, and_self, Int.toNat_natCast]
      exact ⟨_, rfl⟩
    obtain ⟨u, emx⟩ := emx
    have hz : zerosA [AV.i .i64 0] 1 = [.i .i64 0] := rfl
    obtain ⟨hbl, hbt⟩ := setR_beyond (full := full1) (vs := [AV.i .i64 0]) (o := o) (k := (n - 1) * 1) (p := o + (n - 1) * 1) (Nat.le_refl _) (by simpa using hle)
    have hle' : o + (n - 1 + 1) ≤ full1.length := by omega
    simp only [c38, b38, runR_seq, r38_0, aops_cons, aop, ev_c, thenOps_some, put_some, aops_nil, regR_some, r38_1, ev_t, upd_get, reduceCtorEq, ↓reduceIte, ainit_get, List.getD_cons_zero, Nat.reduceEqDiff, List.getD_cons_succ, optX, emx, withH_some', r38_2, aBin, BinOp.isShift, Bool.false_eq_true, or_true, aInt_eql, c1, runR_cond', condR_b, runR_skip, r38_4, r38_5, ecut, efr, e1, r38_6, ecl, Nat.mul_one, aclear, Nat.succ_ne_self, r1, List.length_cons, List.length_nil, Nat.zero_add, Nat.add_assoc, hle', zerosA, List.append_nil, put_none, r38_7, runR_ret, afinish_def, s38, aresults, aresult, aback, Option.some.injEq, Prod.mk.injEq, ne_eq]
    have her : (l.map I1).take (i * 1) ++ (l.map I1).drop ((i + 1) * 1) = (l.eraseIdx i).map I1 := by
      rw [List.eraseIdx_eq_take_drop_succ, List.map_append, List.map_take, List.map_drop, Nat.mul_one, Nat.mul_one]
    refine ⟨_, _, ⟨rfl, rfl⟩, ⟨by rw [List.length_map, List.length_eraseIdx, if_pos (by omega)]; omega, Or.inr ⟨b, o, lo, ex, _, rfl, by rw [AH_set_n, n1]; exact hb, by rw [AH_set_o, if_pos rfl], by omega, ?_, ?_⟩⟩, n1, fun b' hb' => ?_, rfl⟩
    · simp only [Nat.mul_one] at hbl ⊢; rw [hbl, fl1]; omega
    · simp only [Nat.mul_one] at hbt hc1 her ⊢; rw [hbt, hc1, her]
    · have hne : b' ≠ b := fun e => hb' (by rw [e]; rfl)
      rw [AH_set_o, if_neg hne, o1 b' hne]
def SL.growN (S : SL) (k : Nat) : SL := { S with gs := S.gs ++ List.replicate k (false, 0), co := S.co ++ (List.range k).map fun j => ((S.gs.length + j : Nat) : Int) }
def SL.grow (pl sz : Nat) (S : SL) : SL := S.growN (min sz (pl - S.gs.length))
theorem growN_zero (S : SL) : S.growN 0 = S := by unfold SL.growN; simp
theorem growN_succ (S : SL) (k : Nat) : S.growN (k + 1) = { S.growN k with gs := (S.growN k).gs ++ [(false, 0)], co := (S.growN k).co ++ [((S.growN k).gs.length : Int)] } := by
  unfold SL.growN
  rw [List.replicate_succ', List.range_succ]
  simp
theorem growN_gs (S : SL) (k : Nat) : (S.growN k).gs.length = S.gs.length + k := by unfold SL.growN; simp
theorem growN_co (S : SL) (k : Nat) : (S.growN k).co.length = S.co.length + k := by unfold SL.growN; simp
theorem ct_co {S : SL} {l : List Int} : ∀ i, i ≠ 1 → ({ S with co := l } : SL).ct i = S.ct i
  | 0, _ => rfl
  | 1, h => absurd rfl h
  | k + 2, _ => rfl
theorem ct_gs {S : SL} {l : List (Bool × Int)} : ∀ i, i ≠ 0 → ({ S with gs := l } : SL).ct i = S.ct i
  | 0, h => absurd rfl h
  | 1, _ => rfl
  | k + 2, _ => rfl
theorem ct_ow {S : SL} {th : Nat} {l : List Int} : ∀ i, i ≠ th + 2 → (S.setOw th l).ct i = S.ct i
  | 0, _ => rfl
  | 1, _ => rfl
  | k + 2, h => by
    have : k ≠ th := by omega
    unfold SL.setOw SL.ct
    simp only [this, if_false]
theorem wr1 {i : Nat} (h : i < 9223372036854775807) : IntKind.i64.wrap ((i : Int) + 1) = ((i + 1 : Nat) : Int) := by rw [wrap_i64 (by omega)]; simp
section
variable {H : AH} {m pl sz : Nat} {S : SL} {R : List AV}
theorem IsT.at0 (h : IsT H m pl sz S R) : ∃ v, R[2]? = some v ∧ Wr H v 2 S.gs.length (S.gs.flatMap gF) := h.at (j := 0) (by omega)
theorem IsT.at1 (h : IsT H m pl sz S R) : ∃ v, R[3]? = some v ∧ Wr H v 1 S.co.length (S.co.map I1) := h.at (j := 1) (by omega)
theorem IsT.ato (h : IsT H m pl sz S R) {th : Nat} (hj : th < 256) : ∃ v, R[4 + th]? = some v ∧ Wr H v 1 (S.ow th).length ((S.ow th).map I1) := by
  have := h.at (j := th + 2) (by omega)
  rw [show th + 2 + 2 = 4 + th by omega] at this
  exact this
/-- One slot more. -/
theorem grow_one (h : IsT H m pl sz S R) (hl : S.co.length ≤ 100000) (hg : S.gs.length ≤ 100000) {c s : AV} (hc : R[3]? = some c) (hs : R[2]? = some s) :
    ∃ c' H1 s' H3, (∃ a l lo ex z, c' = .sl a l lo ex z) ∧ (∃ a l lo ex z, s' = .sl a l lo ex z) ∧ aappend [.i .i64 0] 8 c (.sl (some (H.n, 0)) 1 1 true 1) (H.new (.row false [.i .i64 (S.gs.length : Int)])) = some (c', H1) ∧ H1.o m = some (.row false R) ∧ m < H1.n ∧
      aappend [.b false, .i .u32 0] 8 s (.sl (some (H1.n, 0)) 1 1 true 2) ((H1.set m (.row false (R.set 3 c'))).new (.row false [.b false, .i .u32 0])) = some (s', H3) ∧ H3.o m = some (.row false (R.set 3 c')) ∧ m < H3.n ∧
      IsT (H3.set m (.row false ((R.set 3 c').set 2 s'))) m pl sz { S with gs := S.gs ++ [(false, 0)], co := S.co ++ [(S.gs.length : Int)] } ((R.set 3 c').set 2 s') ∧ Trn H (H3.set m (.row false ((R.set 3 c').set 2 s'))) (FT m R) (FT m ((R.set 3 c').set 2 s')) := by
  have wc : Wr H c 1 S.co.length (S.co.map I1) := h.w 1 c hc
  have ws : Wr H s 2 S.gs.length (S.gs.flatMap gF) := h.w 0 s hs
  obtain ⟨c', H1, e1, w1, n1, o1, b1⟩ := Wr.one (z := [.i .i64 0]) (y := 8) (sz := 1) (ex := true) rfl wc (xs := [.i .i64 (S.gs.length : Int)]) rfl (by omega)
  have hcm : blk c ≠ some m := fun e => h.nm 1 c m hc e rfl
  have m1 : H1.o m = _ := (o1 m h.lm hcm).trans h.o
  obtain ⟨T1, F1⟩ := h.upd (S' := { S with co := S.co ++ [(S.gs.length : Int)] }) (j := 1) hc n1 o1 (by
    show Wr H1 c' 1 (S.co ++ [(S.gs.length : Int)]).length ((S.co ++ [(S.gs.length : Int)]).map I1)
    rw [List.length_append, List.map_append]; exact w1) b1 ct_co
  obtain ⟨H2, hH2⟩ : ∃ X, X = H1.set m (.row false (R.set 3 c')) := ⟨_, rfl⟩
  have T1 : IsT H2 m pl sz { S with co := S.co ++ [(S.gs.length : Int)] } (R.set 3 c') := by rw [hH2]; exact T1
  have F1 : Trn H H2 (FT m R) (FT m (R.set 3 c')) := by rw [hH2]; exact F1
  have hs2 : (R.set 3 c')[0 + 2]? = some s := by rw [List.getElem?_set_ne (by omega)]; exact hs
  have ws2 : Wr H2 s 2 S.gs.length (S.gs.flatMap gF) := T1.w 0 s hs2
  obtain ⟨s', H3, e3, w3, n3, o3, b3⟩ := Wr.one (z := [.b false, .i .u32 0]) (y := 8) (sz := 2) (ex := true) rfl ws2 (xs := [.b false, .i .u32 0]) rfl (by omega)
  have hsm : blk s ≠ some m := fun e => T1.nm 0 s m hs2 e rfl
  have m3 : H3.o m = _ := (o3 m T1.lm hsm).trans T1.o
  obtain ⟨T2, F2⟩ := T1.upd (S' := { S with gs := S.gs ++ [(false, 0)], co := S.co ++ [(S.gs.length : Int)] }) (j := 0) hs2 n3 o3 (by
    show Wr H3 s' 2 (S.gs ++ [(false, (0 : Int))]).length ((S.gs ++ [(false, (0 : Int))]).flatMap gF)
    rw [List.length_append, List.flatMap_append]; exact w3) b3 (ct_gs (S := { S with co := S.co ++ [(S.gs.length : Int)] }))
  have hn2 : H2.n = H1.n := by rw [hH2]; rfl
  obtain ⟨ca, clo, cex, csz, hce⟩ := w1.len
  obtain ⟨sa, slo, sex, ssz, hse⟩ := w3.len
  refine ⟨c', H1, s', H3, ⟨_, _, _, _, _, hce⟩, ⟨_, _, _, _, _, hse⟩, e1, m1, Nat.lt_of_lt_of_le h.lm n1, ?_, m3, Nat.lt_of_lt_of_le T1.lm n3, T2, F1.trans F2⟩
  rw [← hH2, ← hn2]
  exact e3
theorem grow_spec (h : IsT H m pl sz S R) (hg : S.gs.length ≤ pl) (hp : pl ≤ 4096) (hz : sz ≤ 64) (hco : S.co.length ≤ 4096) :
    ∃ R' H', callR tbl 37 [.p (some (m, 0))] H = some (.tup [], H') ∧ IsT H' m pl sz (S.grow pl sz) R' ∧ Trn H H' (FT m R) (FT m R') := by
  obtain ⟨k, hk⟩ : ∃ k, k = min sz (pl - S.gs.length) := ⟨_, rfl⟩
  have hk1 : k ≤ 64 := by omega
  have hmn : (if (pl : Int) - (S.gs.length : Int) < (sz : Int) then (pl : Int) - (S.gs.length : Int) else sz) = (k : Int) := by
    split <;> omega
  have hwr : IntKind.i64.wrap ((pl : Int) - (S.gs.length : Int)) = (pl : Int) - (S.gs.length : Int) := wrap_i64 (by omega)
  obtain ⟨s, hs, ws⟩ := h.at0
  obtain ⟨sa, slo, sex, ssz, rfl⟩ := ws.len
  refine Sp.two (f := fun _ => .tup []) fun Q hQ => ?_
  simp only [c37, b37, runR_seq, r37_0, aops_cons, aop, ev_t, ainit_get, List.getD_cons_zero, thenOps_some, put_some, upd_get, ↓reduceIte, Nat.zero_add, aload, h.o, apart, h.z, withH_some', reduceCtorEq, Nat.add_zero, h.p, hs, aBin, Nat.reduceEqDiff, BinOp.isShift, Bool.false_eq_true, or_true, aInt_sub, hwr, asX_cons, asX_nil, aminmax, hmn, ev_c, aops_nil, regR_some, runR_block, runR_loop']
  clear ws hs
  refine loop_law k (fun i t' H' => t' 0 = .p (some (m, 0)) ∧ t' 16 = .i .i64 k ∧ t' 17 = .i .i64 i ∧ ∃ R', IsT H' m pl sz (S.growN i) R' ∧ Trn H H' (FT m R) (FT m R')) (fun r => Sp r Q) ?_ ?_ 0 _ H (Nat.zero_le _) ?_
  · rintro i t' H' hi ⟨q0, q16, q17, R1, hT, hF⟩ ih
    have c1 : decide ((i : Int) < (k : Int)) = true := by simp; omega
    have hwi := wr1 (i := i) (by omega)
    obtain ⟨c, hc, wc⟩ := hT.at1
    obtain ⟨s, hs, ws⟩ := hT.at0
    have hgl := growN_gs S i
    have hcl := growN_co S i
    obtain ⟨c', H1, s', H3, ⟨a1, l1', lo1, ex1, z1, hce⟩, ⟨a2, l2', lo2, ex2, z2, hse⟩, e1, m1, l1, e3, m3, l3, T2, F2⟩ := grow_one hT (by omega) (by omega) hc hs
    obtain ⟨sa, slo, sex, ssz, rfl⟩ := ws.len
    obtain ⟨ca, clo, cex, csz, rfl⟩ := wc.len
    have hll := hT.ll
    subst hce hse
    have r1 : setR R1 3 [(AV.sl a1 l1' lo1 ex1 z1)] = R1.set 3 (AV.sl a1 l1' lo1 ex1 z1) := setR_set1 (by omega)
    have r2 : setR (R1.set 3 (AV.sl a1 l1' lo1 ex1 z1)) 2 [(AV.sl a2 l2' lo2 ex2 z2)] = (R1.set 3 (AV.sl a1 l1' lo1 ex1 z1)).set 2 (AV.sl a2 l2' lo2 ex2 z2) := setR_set1 (by rw [List.length_set]; omega)
    have g1 : 3 + 1 ≤ R1.length := by omega
    have g2 : 2 + 1 ≤ (R1.set 3 (AV.sl a1 l1' lo1 ex1 z1)).length := by rw [List.length_set]; omega
    have hs3 : (R1.set 3 (AV.sl a1 l1' lo1 ex1 z1))[2]? = some (.sl sa (S.growN i).gs.length slo sex ssz) := by rw [List.getElem?_set_ne (by omega)]; exact hs
    simp only [l37_5, runR_seq, r37_1, aops_cons, aop, aBin, ev_t, q17, q16, BinOp.isShift, Bool.false_eq_true, or_true, ↓reduceIte, aInt_lss, c1, withH_some', thenOps_some, put_some, aops_nil, regR_some, runR_cond', upd_get, condR_b, runR_skip, runR_block, r37_2, reduceCtorEq, q0, Nat.zero_add, aload, hT.o, apart, hc, hs, afill, AV.cells, List.length_cons, List.length_nil, zerosA, List.append_nil, Nat.reduceLeDiff, and_self, setR_z, setR_e, Nat.reduceEqDiff, e1, astore, m1, Nat.reduceAdd, g1, r1, withU_some', put_none, r37_3, hs_o, hs3, hs_n, e3, m3, g2, r2, runR_inBlock, r37_4, ev_c, aInt_add, hwi]
    refine ih _ _ ⟨?_, ?_, ?_, _, by rw [growN_succ]; exact T2, hF.trans F2⟩
    all_goals simp only [upd_get, Nat.reduceEqDiff, ↓reduceIte, q16, reduceCtorEq, q0]
  · rintro t' H' ⟨q0, q16, q17, R1, hT, hF⟩
    have c1 : decide ((k : Int) < (k : Int)) = false := by simp
    simp only [l37_5, runR_seq, r37_1, aops_cons, aop, aBin, ev_t, q17, q16, BinOp.isShift, Bool.false_eq_true, or_true, ↓reduceIte, aInt_lss, c1, withH_some', thenOps_some, put_some, aops_nil, regR_some, runR_cond', upd_get, condR_b, runR_exit', aexit_code, aexit_inLoop, aexit_inBlock, exitR_some, runR_nil, afinish_def, s37, aresults, aback]
    refine Sp.ret (hQ _ _ ⟨?_, hF⟩)
    unfold SL.grow
    rw [← hk]
    exact hT
  · refine ⟨?_, ?_, ?_, R, by rw [growN_zero]; exact h, Trn.refl⟩
    all_goals simp only [upd_get, Nat.reduceEqDiff, ↓reduceIte, reduceCtorEq, ainit_get, List.getD_cons_zero, cast_of]
end
def SL.pick (pl sz : Nat) (S : SL) (th : Nat) : Int × SL :=
  match (S.ow th).getLast? with
  | some x => (x, S.setOw th (S.ow th).dropLast)
  | none =>
    let S1 := if S.co = [] then S.grow pl sz else S
    match S1.co with
    | [] => (-1, S1)
    | x :: t => (x, { S1 with co := t })
section
variable {H : AH} {m pl sz : Nat} {S : SL} {R : List AV}
theorem pick_own (h : IsT H m pl sz S R) {th : Nat} (ht : th < 256) {l : List Int} {x : Int} (ho : S.ow th = l ++ [x]) (hl : l.length ≤ 100000) :
    ∃ R' H', callR tbl 28 [.p (some (m, 0)), .i .i64 th] H = some (.i .i64 x, H') ∧ IsT H' m pl sz (S.setOw th l) R' ∧ Trn H H' (FT m R) (FT m R') := by
  obtain ⟨y, hy, wy⟩ := h.ato ht
  rw [ho] at wy
  obtain ⟨n, hn⟩ : ∃ n, n = (l ++ [x]).length := ⟨_, rfl⟩
  rw [← hn] at wy
  have hn1 : n = l.length + 1 := by rw [hn]; simp
  obtain ⟨b, o, lo, ex, sz', ro, full, e, hb, hr, hel⟩ := wy.rs.el1 (j := l.length) (x := x) (by simp)
  obtain ⟨b', o', lo', ex', hv, ecut, hcut⟩ := wy.to (k := .i64) (h' := l.length) (by omega) (by omega)
  subst e
  cases hv
  have lm := h.lm
  have hll := h.ll
  have hwr : IntKind.i64.wrap ((n : Int) - 1) = (l.length : Int) := by rw [wrap_i64 (by omega)]; omega
  have c1 : decide ((n : Int) > 0) = true := by simp; omega
  have c2 : 0 ≤ (l.length : Int) ∧ (l.length : Int) < (n : Int) := by omega
  have c3 : (0 : Int) ≤ (th : Int) ∧ (th : Int) < 256 := by omega
  have r1 : setR R (4 + th) [.sl (some (b, o)) l.length lo ex 1] = R.set (4 + th) (.sl (some (b, o)) l.length lo ex 1) := setR_set1 (by omega)
  have g1 : 4 + th + 1 ≤ R.length := by omega
  have g2 : 4 + (th + 1) ≤ R.length := by omega
  obtain ⟨T1, F1⟩ := h.upd (S' := S.setOw th l) (H1 := H) (j := th + 2) (v := .sl (some (b, o)) n lo ex 1) (v' := .sl (some (b, o)) l.length lo ex 1) (by rw [show th + 2 + 2 = 4 + th by omega]; exact hy) (Nat.le_refl _) (fun _ _ _ => rfl) (by
    have : (S.setOw th l).ct (th + 2) = (1, l.length, l.map I1) := by unfold SL.setOw SL.ct; simp
    rw [this]
    rw [List.map_append, List.take_append_of_le_length (by simp), List.take_of_length_le (by simp)] at hcut
    exact hcut) (fun c hc => Or.inl hc) ct_ow
  rw [show th + 2 + 2 = 4 + th by omega] at T1 F1
  refine Sp.two (f := fun _ => .i .i64 x) fun Q hQ => ?_
  simp only [c28, b28, runR_seq, r28_0, aops_cons, aop, ev_c, thenOps_some, put_some, aops_nil, regR_some, r28_1, ev_t, upd_get, reduceCtorEq, ↓reduceIte, ainit_get, List.getD_cons_zero, Nat.reduceEqDiff, List.getD_cons_succ, Nat.zero_add, c3, cast_of, and_self, Int.toNat_natCast, Nat.mul_one, aload, h.o, apart, hy, withH_some', r28_2, aBin, BinOp.isShift, Bool.false_eq_true, or_true, aInt_gtr, GT.gt, c1, runR_cond', condR_b, r28_3, aInt_sub, hwr, c2, hr, hel, r28_4, optX, ecut, astore, AV.cells, List.length_cons, List.length_nil, Nat.add_assoc, g2, r1, withU_some', put_none, r28_5, runR_ret, afinish_def, s28, aresults, aresult, aback]
  exact Sp.ret (hQ _ _ ⟨T1, F1⟩)
/-- The first of the common ones. -/
theorem del_co (h : IsT H m pl sz S R) {x : Int} {t : List Int} (hc : S.co = x :: t) (hl : S.co.length ≤ 100000) :
    ∃ b o lo ex full a' lo' ex' sz' H1, R[3]? = some (.sl (some (b, o)) (t.length + 1) lo ex 1) ∧ H.o b = some (.row false full) ∧ full[o]? = some (.i .i64 x) ∧ b < H.n ∧ callR tbl 38 [.sl (some (b, o)) (t.length + 1) lo ex 1, .i .i64 0, .i .i64 1] H = some (.sl a' t.length lo' ex' sz', H1) ∧ H1.o m = some (.row false R) ∧ m < H1.n ∧ H1.n = H.n ∧
      IsT (H1.set m (.row false (R.set 3 (.sl a' t.length lo' ex' sz')))) m pl sz { S with co := t } (R.set 3 (.sl a' t.length lo' ex' sz')) ∧ Trn H (H1.set m (.row false (R.set 3 (.sl a' t.length lo' ex' sz')))) (FT m R) (FT m (R.set 3 (.sl a' t.length lo' ex' sz'))) := by
  obtain ⟨c, hcv, wc⟩ := h.at1
  rw [hc] at wc hl
  simp only [List.length_cons] at wc hl
  obtain ⟨b, o, lo, ex, sz', ro, full, e, hb, hr, hel⟩ := wc.rs.el1 (j := 0) (x := x) rfl
  obtain ⟨v', H1, e1, w1, n1, o1, b1⟩ := delete_spec (i := 0) wc (by omega) (by omega)
  rw [Nat.add_sub_cancel] at w1
  obtain ⟨a', lo', ex', sz2, rfl⟩ := w1.len
  obtain ⟨b2, o2, lo2, ex2, full2, e2, hb2, hr2, _⟩ := wc.setk (k := 0) (by omega)
  rw [e] at e2
  cases e2
  rw [hr] at hr2
  cases hr2
  subst e
  have hcm : blk (.sl (some (b, o)) (t.length + 1) lo ex 1) ≠ some m := fun e => h.nm 1 _ m hcv e rfl
  obtain ⟨T1, F1⟩ := h.upd (S' := { S with co := t }) (j := 1) hcv (Nat.le_of_eq n1.symm) (fun b hb hne => o1 b hne) w1 (fun b hb => Or.inl (by rw [← b1]; exact hb)) ct_co
  refine ⟨b, o, lo, ex, full, a', lo', ex', sz2, H1, hcv, hr, by simpa using hel, hb, e1, (o1 m hcm).trans h.o, by rw [n1]; exact h.lm, n1, T1, F1⟩
theorem pick_spec (h : IsT H m pl sz S R) (hg : S.gs.length ≤ pl) (hp : pl ≤ 4096) (hz : sz ≤ 64) (hco : S.co.length ≤ 4096) (how : ∀ th, (S.ow th).length ≤ 64) {th : Nat} (ht : th < 256) :
    ∃ R' H', callR tbl 28 [.p (some (m, 0)), .i .i64 th] H = some (.i .i64 (S.pick pl sz th).1, H') ∧ IsT H' m pl sz (S.pick pl sz th).2 R' ∧ Trn H H' (FT m R) (FT m R') := by
  rcases List.eq_nil_or_concat (S.ow th) with h0 | ⟨l, x, h1⟩
  · obtain ⟨y, hy, wy⟩ := h.ato ht
    rw [h0] at wy
    obtain ⟨ya, ylo, yex, ysz, rfl⟩ := wy.len
    have c3 : (0 : Int) ≤ (th : Int) ∧ (th : Int) < 256 := by omega
    have c0 : decide (((([] : List Int).length : Nat) : Int) > 0) = false := rfl
    have hpk : S.pick pl sz th = (match (if S.co = [] then S.grow pl sz else S).co with
      | [] => (-1, if S.co = [] then S.grow pl sz else S)
      | x :: t => (x, { (if S.co = [] then S.grow pl sz else S) with co := t })) := by
      unfold SL.pick
      rw [h0]
      rfl
    refine Sp.two (f := fun _ => .i .i64 (S.pick pl sz th).1) fun Q hQ => ?_
    cases hcc : S.co with
    | nil =>
      rw [hcc] at hpk
      simp only [if_true] at hpk
      obtain ⟨c, hc, wc⟩ := h.at1
      rw [hcc] at wc
      obtain ⟨ca, clo, cex, csz, rfl⟩ := wc.len
      simp only [c28, b28, runR_seq, r28_0, aops_cons, aop, ev_c, thenOps_some, put_some, aops_nil, regR_some, r28_1, ev_t, upd_get, reduceCtorEq, ↓reduceIte, ainit_get, List.getD_cons_zero, Nat.reduceEqDiff, List.getD_cons_succ, Nat.zero_add, c3, cast_of, and_self, Int.toNat_natCast, Nat.mul_one, aload, h.o, apart, hy, List.length_nil, withH_some', r28_2, show ((0 : Nat) : Int) = 0 from rfl, aBin, BinOp.isShift, Bool.false_eq_true, or_true, aInt_gtr, GT.gt, Int.reduceLT, decide_false, runR_cond', condR_b, runR_skip, r28_6, hc, aInt_eql, beq_self_eq_true, r28_7, asX_cons, asX_nil]
      refine Sp.c2 (grow_spec h hg hp hz hco) ?_
      rintro R1 H1 ⟨hT, hF⟩
      have hgc : (S.grow pl sz).co.length ≤ 64 := by unfold SL.grow; rw [growN_co, hcc]; simp; omega
      cases hg1 : (S.grow pl sz).co with
      | nil =>
        rw [hg1] at hpk
        simp only at hpk
        rw [hpk]  at hQ
        obtain ⟨c, hc, wc⟩ := hT.at1
        rw [hg1] at wc
        obtain ⟨ca, clo, cex, csz, rfl⟩ := wc.len
        simp only [put_some, aops_nil, regR_some, runR_seq, r28_8, aops_cons, aop, ev_t, upd_get, reduceCtorEq, ↓reduceIte, ainit_get, List.getD_cons_zero, thenOps_some, Nat.zero_add, aload, hT.o, apart, hc, List.length_nil, withH_some', show ((0 : Nat) : Int) = 0 from rfl, aBin, ev_c, BinOp.isShift, Bool.false_eq_true, or_true, aInt_eql, beq_self_eq_true, runR_cond', condR_b, r28_9, Int.reduceNeg, runR_ret, afinish_def, s28, aresults, aresult, aback]
        exact Sp.ret (hQ _ _ ⟨hT, hF⟩)
      | cons x t =>
        rw [hg1] at hpk
        simp only at hpk
        rw [hpk] at hQ
        obtain ⟨b, o, lo, ex, full, a', lo', ex', sz', H2, g1, g2, g3, g4, g5, g6, g7, g8, T1, F1⟩ := del_co hT hg1 (by omega)
        have hll := hT.ll
        have r1 : setR R1 3 [.sl a' t.length lo' ex' sz'] = R1.set 3 (.sl a' t.length lo' ex' sz') := setR_set1 (by omega)
        have k1 : 3 + 1 ≤ R1.length := by omega
        have c4 : (((t.length + 1 : Nat) : Int) == 0) = false := by rw [beq_eq_false_iff_ne]; omega
        have c5 : (0 : Int) ≤ 0 ∧ (0 : Int) < ((t.length + 1 : Nat) : Int) := by omega
        obtain ⟨n, hn⟩ : ∃ n, n = t.length + 1 := ⟨_, rfl⟩
        rw [← hn] at g1 g5 c4 c5
        simp only [put_some, aops_nil, regR_some, runR_seq, r28_8, aops_cons, aop, ev_t, upd_get, reduceCtorEq, ↓reduceIte, ainit_get, List.getD_cons_zero, thenOps_some, Nat.zero_add, aload, hT.o, apart, g1, withH_some', aBin, ev_c, BinOp.isShift, Bool.false_eq_true, or_true, aInt_eql, c4, runR_cond', condR_b, runR_skip, r28_10, c5, and_self, Int.toNat_zero, Nat.mul_one, Nat.add_zero, g2, g3, r28_11, asX_cons, asX_nil, g5, Nat.reduceEqDiff, astore, g6, AV.cells, List.length_cons, List.length_nil, Nat.reduceAdd, k1, r1, withU_some', put_none, r28_12, runR_ret, afinish_def, s28, aresults, aresult, aback]
        exact Sp.ret (hQ _ _ ⟨T1, hF.trans F1⟩)
    | cons x t =>
      have hif : (if S.co = [] then S.grow pl sz else S) = S := if_neg (by rw [hcc]; nofun)
      rw [hif, hcc] at hpk
      simp only at hpk
      rw [hpk] at hQ
      obtain ⟨b, o, lo, ex, full, a', lo', ex', sz', H2, g1, g2, g3, g4, g5, g6, g7, g8, T1, F1⟩ := del_co h hcc (by omega)
      have hll := h.ll
      have r1 : setR R 3 [.sl a' t.length lo' ex' sz'] = R.set 3 (.sl a' t.length lo' ex' sz') := setR_set1 (by omega)
      have k1 : 3 + 1 ≤ R.length := by omega
      have c4 : (((t.length + 1 : Nat) : Int) == 0) = false := by rw [beq_eq_false_iff_ne]; omega
      have c5 : (0 : Int) ≤ 0 ∧ (0 : Int) < ((t.length + 1 : Nat) : Int) := by omega
      obtain ⟨n, hn⟩ : ∃ n, n = t.length + 1 := ⟨_, rfl⟩
      rw [← hn] at g1 g5 c4 c5
      simp only [c28, b28, runR_seq, r28_0, aops_cons, aop, ev_c, thenOps_some, put_some, aops_nil, regR_some, r28_1, ev_t, upd_get, reduceCtorEq, ↓reduceIte, ainit_get, List.getD_cons_zero, Nat.reduceEqDiff, List.getD_cons_succ, Nat.zero_add, c3, cast_of, and_self, Int.toNat_natCast, Nat.mul_one, aload, h.o, apart, hy, List.length_nil, withH_some', r28_2, show ((0 : Nat) : Int) = 0 from rfl, aBin, BinOp.isShift, Bool.false_eq_true, or_true, aInt_gtr, GT.gt, Int.reduceLT, decide_false, runR_cond', condR_b, runR_skip, r28_6, g1, aInt_eql, c4, r28_8, r28_10, c5, Int.toNat_zero, Nat.add_zero, g2, g3, r28_11, asX_cons, asX_nil, g5, astore, g6, AV.cells, List.length_cons, Nat.reduceAdd, k1, r1, withU_some', put_none, r28_12, runR_ret, afinish_def, s28, aresults, aresult, aback]
      exact Sp.ret (hQ _ _ ⟨T1, F1⟩)
  · have hpk : S.pick pl sz th = (x, S.setOw th l) := by
      unfold SL.pick
      rw [h1, List.concat_eq_append, List.getLast?_concat, List.dropLast_concat]
    rw [hpk]
    have := how th
    rw [h1] at this
    exact pick_own h ht (by rw [h1, List.concat_eq_append]) (by simp at this; omega)
end
end Go.Proofs.Ythcibbfljcfheaa.Abs
