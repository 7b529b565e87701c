/- The pairs of a map gathered, in whatever order. No condition of its own. -/
import Derived.Test.YtaolkpkaiidmeaaCk
import Derived.Test.YtaolkpkaiidmeaaEvK
namespace Go.Proofs.Ytaolkpkaiidmeaa.Abs
set_option linter.unusedSimpArgs false
set_option linter.unusedVariables false
set_option maxRecDepth 100000
set_option maxHeartbeats 8000000
def cell1 (x : P2) : List AV := [.i .i64 x.1]
/-- What holds between two rounds. -/
structure CI (H : AH) (t0 : Nat → AV) (rdy : Bool) (done : List P2) (Hc : AH) : Prop where
  n : H.n + 2 ≤ Hc.n
  s : ∃ w, Hc.o H.n = some (.row false [w]) ∧ Sli Hc w 1 done.length (done.flatMap cell1) ∧ ∀ b, blk w = some b → H.n + 2 ≤ b ∧ done ≠ []
  p : Hc.o (H.n + 1) = some (.lp rdy 13 t0 [7] f34_4a f34_4b)
  o : ∀ b, b < H.n → Hc.o b = H.o b
theorem CI.flip {H : AH} {t0 : Nat → AV} {rdy rdy' : Bool} {done : List P2} {Hc : AH} (h : CI H t0 rdy done Hc) : CI H t0 rdy' done (Hc.set (H.n + 1) (.lp rdy' 13 t0 [7] f34_4a f34_4b)) := by
  obtain ⟨w, h1, h2, h3⟩ := h.s
  refine ⟨h.n, ⟨w, ?_, h2.keep (Nat.le_refl _) (fun b hb _ => ?_), h3⟩, ?_, fun b hb => ?_⟩
  · rw [AH_set_o, if_neg (by omega)]; exact h1
  · have := h3 b hb; rw [AH_set_o, if_neg (by omega)]
  · rw [AH_set_o, if_pos rfl]
  · rw [AH_set_o, if_neg (by omega)]; exact h.o b hb
/-- A round: one more is appended. Whatever is no row stays. -/
theorem collect_round {H : AH} {t0 : Nat → AV} {done : List P2} {Hc : AH} (h : CI H t0 true done Hc) (hl : done.length ≤ 100000) (h2 : t0 2 = .p (some (H.n, 0))) (x : P2) :
    ∃ H', CI H t0 true (done ++ [x]) H' ∧ Hc.n ≤ H'.n ∧ (∀ b o, b < Hc.n → b ≠ H.n + 1 → Hc.o b = some o → (∀ cs, o ≠ .row false cs) → H'.o b = some o) ∧ Ev (tblP q0) tblE (.y (H.n + 1) [.i .i64 x.1] Hc) (fun o => o = .v (.b true) H') := by
  have hn := h.n
  have hf := h.flip (rdy' := false)
  obtain ⟨Hb, hHb⟩ : ∃ Hb, Hb = Hc.set (H.n + 1) (.lp false 13 t0 [7] f34_4a f34_4b) := ⟨_, rfl⟩
  rw [← hHb] at hf
  have nB : Hb.n = Hc.n := by rw [hHb]; rfl
  have oB : ∀ b, b ≠ H.n + 1 → Hb.o b = Hc.o b := fun b hb => by rw [hHb, AH_set_o, if_neg hb]
  obtain ⟨w, w1, w2, w3⟩ := hf.s
  obtain ⟨v', H2, e, g1, g2, g3, g4⟩ := app_one (z := [.i .i64 0]) (y := 8) (sz := 1) rfl w2 (xs := cell1 x) rfl (by omega)
  have hbk : ∀ b, blk v' = some b → H.n + 2 ≤ b := fun b hb => by have := g4 b hb; omega
  obtain ⟨Hx, hHx⟩ : ∃ Hx, Hx = H2.set H.n (.row false [v']) := ⟨_, rfl⟩
  have hwn : ∀ b, blk w = some b → ∃ cs, Hb.o b = some (.row false cs) := by
    intro b hb
    rcases w2.2 with ⟨e, _⟩ | ⟨b', ex, e, _, hr⟩
    · rw [e] at hb; cases hb
    · rw [e] at hb; cases hb; exact ⟨_, hr⟩
  have hp2 : H2.o (H.n + 1) = some (.lp false 13 t0 [7] f34_4a f34_4b) := by
    rw [g3 _ (by omega) (fun e => by have := w3 _ e; omega)]; exact hf.p
  have hd : CI H t0 false (done ++ [x]) Hx := by
    rw [hHx]
    refine ⟨by simp only [AH_set_n]; omega, ⟨v', ?_, ?_, fun b hb => ⟨hbk b hb, by simp⟩⟩, ?_, fun b hb => ?_⟩
    · rw [AH_set_o, if_pos rfl]
    · rw [List.length_append, List.flatMap_append]
      have : ([x] : List P2).flatMap cell1 = cell1 x := by simp
      rw [this]
      exact g1.keep (Nat.le_refl _) (fun b hb _ => by have := hbk b hb; rw [AH_set_o, if_neg (by omega)])
    · rw [AH_set_o, if_neg (by omega)]; exact hp2
    · rw [AH_set_o, if_neg (by omega), g3 _ (by omega) (fun e => by have := w3 _ e; omega)]; exact hf.o b hb
  have hrun : ∀ t1 : Nat → AV, t1 2 = .p (some (H.n, 0)) → t1 5 = .i .i64 x.1 → runR (tblP q0) ⟨13, [], .skip⟩ [.code f34_4b] t1 Hb = some (.tup [], Hx) := by
    intro t1 a2 a5
    obtain ⟨aw, low, exw, szw, hwe⟩ := w2.len
    have w1' := w1
    rw [hwe] at w1' e
    have hw2n : H2.o H.n = some (.row false [.sl aw done.length low exw szw]) := by rw [g3 _ (by omega) (fun e => by have := w3 _ e; omega)]; exact w1'
    have hnh : H.n < Hb.n := by omega
    obtain ⟨av, lov, exv, szv, hve⟩ := g1.len
    rw [hve] at e hHx
    unfold f34_4b
    simp only [cell1] at e
    simp only [runR_block, r34_3, aops_cons, aop, aload, ev_t, a2, w1', apart, List.getElem?_cons_zero, withH_some', thenOps_some, put_some, upd_get, Nat.reduceEqDiff, ↓reduceIte, a5, afill, AV.cells, List.length_cons, List.length_nil, Nat.zero_add, zerosA, List.append_nil, Nat.reduceLeDiff, and_self, setR_z, setR_e, e, astore, hw2n, withU_some', put_none, aops_nil, regR_some, runR_inBlock, runR_nil, afinish_def, aresults, aback, Option.some.injEq, Prod.mk.injEq, true_and]
    rw [hHx]
  refine ⟨_, hd.flip, ?_, fun b o hb hb1 ho hr => ?_, .yield (R1 := fun o => ∃ t1, o = .s t1 Hc ∧ t1 2 = .p (some (H.n, 0)) ∧ t1 5 = .i .i64 x.1) (R2 := fun o => ∃ t2, o = .s t2 Hx) h.p rfl (by decide) ?_ ?_ ?_ ?_⟩
  · rw [hHx]; simp only [AH_set_n]; omega
  · have e1 : Hb.o b = some o := by rw [oB b hb1]; exact ho
    have e2 : blk w ≠ some b := by
      intro e
      obtain ⟨cs, hcs⟩ := hwn b e
      rw [e1] at hcs
      cases hcs
      exact hr cs rfl
    have e3 : b ≠ H.n := by
      rintro rfl
      rw [e1] at w1
      cases w1
      exact hr _ rfl
    rw [AH_set_o, if_neg hb1, hHx, AH_set_o, if_neg e3, g3 b (by omega) e2]
    exact e1
  · unfold f34_4a
    refine .r ?_
    simp only [d34_2, puts, List.zip_cons_cons, List.zip_nil_left, List.foldl_cons, List.foldl_nil, aops_cons, aop, ev_t, upd_get, ↓reduceIte, thenOps_some, put_some, aops_nil, evR_some]
    refine .seg ⟨_, rfl, ?_, ?_⟩
    all_goals simp only [upd_get, Nat.reduceEqDiff, ↓reduceIte, h2]
  · rintro t1 H1 ⟨t1', e, _⟩
    cases e
    exact h.p
  · rintro t1 H1 ⟨t1', e, a2, a5⟩
    cases e
    rw [← hHb]
    exact run_seg (hrun t1 a2 a5) rfl
  · rintro t2 H2 ⟨t2', e⟩
    cases e
    exact ⟨hd.p, rfl⟩
/-- What is left of a map's pairs. -/
def restOf (all : List Nat) (T : List P2) (left : List Nat) : List P2 := ((all.zip T).filter fun p => decide (p.1 ∈ left)).map (·.2)
theorem rest_step {all : List Nat} {T : List P2} {left : List Nat} {n : Nat} {x : P2} {j : Nat} (hnd : all.Nodup) (ha : all[j]? = some n) (hx : T[j]? = some x) (hn : n ∈ left) : (restOf all T left).Perm (x :: restOf all T (left.filter (· != n))) := by
  induction all generalizing T j with
  | nil => simp at ha
  | cons a all ih =>
    cases T with
    | nil => simp at hx
    | cons y T =>
      rw [List.nodup_cons] at hnd
      cases j with
      | zero =>
        simp at ha hx
        subst ha; subst hx
        have h1 : restOf (a :: all) (y :: T) left = y :: restOf all T left := by simp [restOf, hn]
        have h2 : restOf (a :: all) (y :: T) (left.filter (· != a)) = restOf all T left := by
          have : restOf all T (left.filter (· != a)) = restOf all T left := by
            unfold restOf
            congr 1
            apply List.filter_congr
            intro p hp
            have hpa : p.1 ∈ all := (List.of_mem_zip hp).1
            have : p.1 ≠ a := fun e => hnd.1 (e ▸ hpa)
            simp [this]
          rw [← this]
          simp [restOf]
        rw [h1, h2]
      | succ j =>
        have ha' : all[j]? = some n := by simpa using ha
        have hx' : T[j]? = some x := by simpa using hx
        have hne : a ≠ n := fun e => hnd.1 (e ▸ List.mem_of_getElem? ha')
        have := ih (T := T) (j := j) hnd.2 ha' hx'
        by_cases hal : a ∈ left
        · have h1 : restOf (a :: all) (y :: T) left = y :: restOf all T left := by simp [restOf, hal]
          have h2 : restOf (a :: all) (y :: T) (left.filter (· != n)) = y :: restOf all T (left.filter (· != n)) := by simp [restOf, hal, hne]
          rw [h1, h2]
          exact (List.Perm.cons y this).trans (List.Perm.swap x y _)
        · have h1 : restOf (a :: all) (y :: T) left = restOf all T left := by simp [restOf, hal]
          have h2 : restOf (a :: all) (y :: T) (left.filter (· != n)) = restOf all T (left.filter (· != n)) := by simp [restOf, hal]
          rw [h1, h2]
          exact this
theorem rest_none {all : List Nat} {T : List P2} {left : List Nat} (h : ∀ n ∈ all, n ∉ left) : restOf all T left = [] := by
  unfold restOf
  rw [List.map_eq_nil_iff, List.filter_eq_nil_iff]
  intro p hp
  simpa using h p.1 (List.of_mem_zip hp).1
theorem rest_all {all : List Nat} {T : List P2} (h : all.length = T.length) : restOf all T all = T := by
  unfold restOf
  rw [List.filter_eq_self.2 (fun p hp => by simpa using (List.of_mem_zip hp).1)]
  exact List.map_snd_zip (by omega)
theorem collect_loop {H : AH} {t0 : Nat → AV} {m cl : Nat} {all : List Nat} {T : List P2} (hm : H.o m = some (.mapo (mE (T.map kv)) (all, cl))) (hml : m < H.n) (h2 : t0 2 = .p (some (H.n, 0))) (hT : T.length ≤ 100000) {i : Nat} (hi2 : H.n + 2 ≤ i) : ∀ (k : Nat) (left : List Nat) (cur : Option Nat) (done : List P2) (Hc : AH), (restOf all T left).length < k → CI H t0 true done Hc → i < Hc.n → Hc.o i = some (.it (some m) cl all left cur) → (done ++ restOf all T left).Perm T →
    ∀ t : Nat → AV, t 0 = .fn (.yield (H.n + 1)) [] [] → t 5 = .p (some (i, 0)) → Ev (tblP q0) tblE (.k false a30 [.code l30_4, .inLoop l30_4, .inBlock 0] t Hc) (fun o => ∃ Hd d, o = .v (.tup []) Hd ∧ CI H t0 true d Hd ∧ d.Perm T) := by
  intro k
  induction k with
  | zero => intro left cur done Hc hk; exact absurd hk (Nat.not_lt_zero _)
  | succ k ih =>
    intro left cur done Hc hk hci hil hit hperm t z0 z6
    have hmc : Hc.o m = some (.mapo (mE (T.map kv)) (all, cl)) := (hci.o m hml).trans hm
    unfold l30_4
    refine .seq (.reg (R1 := fun o => (∃ t', o = .s t' Hc ∧ t' 7 = .b false ∧ ∀ n ∈ all, n ∉ left) ∨ ∃ (j n : Nat) (x : P2) (t' : Nat → AV), o = .s t' (Hc.set i (.it (some m) cl all (left.filter (· != n)) (some n))) ∧ t' 7 = .b true ∧ t' 0 = .fn (.yield (H.n + 1)) [] [] ∧ t' 5 = .p (some (i, 0)) ∧ all.Nodup ∧ all[j]? = some n ∧ n ∈ left ∧ T[j]? = some x) ?_ ?_)
    · unfold d30_1
      refine .onxt rfl rfl (by simp only [ev_t, z6]) hit hmc (fun hno => ?_) (fun hnd j n e a1 a2 a3 => ?_)
      · refine .oop rfl (v := .b false) (H' := Hc) (by simp only [aop, put_some, ev_t, upd_get, ↓reduceIte, List.getElem?_cons_zero, withH_some']) (.onil (Or.inl ⟨_, rfl, ?_, hno⟩))
        simp only [put_some, upd_get, ↓reduceIte]
      · have hx : ∃ x, T[j]? = some x := by
          unfold mE at a3
          rw [List.getElem?_map, List.getElem?_map] at a3
          cases hq : T[j]? with
          | none => rw [hq] at a3; cases a3
          | some x => exact ⟨x, rfl⟩
        obtain ⟨x, hx⟩ := hx
        refine .oop rfl (v := .b true) (H' := Hc.set i (.it (some m) cl all (left.filter (· != n)) (some n))) (by simp only [aop, put_some, ev_t, upd_get, ↓reduceIte, List.getElem?_cons_zero, withH_some']) (.onil (Or.inr ⟨j, n, x, _, rfl, ?_, ?_, ?_, hnd, a1, a2, hx⟩))
        all_goals simp only [put_some, upd_get, ↓reduceIte, Nat.reduceEqDiff, z6, reduceCtorEq, z0]
    · rintro t1 H1 (⟨t', e, q8, hno⟩ | ⟨j, n, x, t', e, q8, q0', q6, hnd, a1, a2, hx⟩)
      · cases e
        refine .seq (.no (by simp only [ev_t, q8]) (.exit (k' := []) (by rfl) (.e ?_)))
        simp only [afinish_def, s30, aresults, aback, evF_some]
        exact ⟨_, done, rfl, hci, by rw [rest_none hno, List.append_nil] at hperm; exact hperm⟩
      · cases e
        have hst := rest_step hnd a1 hx a2
        have hlen := hst.length_eq
        rw [List.length_cons] at hlen
        obtain ⟨He, hHe⟩ : ∃ He, He = Hc.set i (.it (some m) cl all (left.filter (· != n)) (some n)) := ⟨_, rfl⟩
        have hin : i ≠ H.n + 1 := by omega
        have hci2 : CI H t0 true done He := by
          obtain ⟨w, w1, w2, w3⟩ := hci.s
          rw [hHe]
          refine ⟨hci.n, ⟨w, ?_, w2.keep (Nat.le_refl _) (fun b hb _ => ?_), w3⟩, ?_, fun b hb => ?_⟩
          · rw [AH_set_o, if_neg (by omega)]; exact w1
          · rw [AH_set_o, if_neg]
            rintro rfl
            rcases w2.2 with ⟨e, _⟩ | ⟨b', ex, e, _, hr⟩
            · rw [e] at hb; cases hb
            · rw [e] at hb; cases hb; rw [hit] at hr; cases hr
          · rw [AH_set_o, if_neg (Ne.symm hin)]; exact hci.p
          · rw [AH_set_o, if_neg (by omega)]; exact hci.o b hb
        rw [← hHe]
        have hile : i < He.n := by rw [hHe]; exact hil
        have hite : He.o i = some (.it (some m) cl all (left.filter (· != n)) (some n)) := by rw [hHe, AH_set_o, if_pos rfl]
        have hme : He.o m = some (.mapo (mE (T.map kv)) (all, cl)) := (hci2.o m hml).trans hm
        have hdl : done.length ≤ 100000 := by
          have := hperm.length_eq
          rw [List.length_append] at this
          omega
        have hfi : all.findIdx? (· == n) = some j := by
          rw [List.findIdx?_eq_some_iff_getElem]
          obtain ⟨hj, hj2⟩ := List.getElem?_eq_some_iff.1 a1
          refine ⟨hj, by simpa using hj2, fun l hl => ?_⟩
          have : all[l]'(by omega) ≠ n := fun e => by
            have := (List.getElem_inj (i := l) (j := j) (h₀ := by omega) (h₁ := hj) hnd).1 (by rw [e, hj2])
            omega
          simpa using this
        have hej : (mE (T.map kv))[j]? = some (.i .i64 x.1, .i .i64 x.2) := by
          unfold mE
          rw [List.getElem?_map, List.getElem?_map, hx]
          rfl
        have hent : aent (.p (some (i, 0))) He = some (.tup [.i .i64 x.1, .i .i64 x.2]) := by
          simp only [aent, hite, hme, if_true, hfi, hej]
        obtain ⟨H2, r1, r2, r3, r4⟩ := collect_round hci2 hdl h2 x
        have hit2 := r3 i _ hile hin hite (fun cs e => by cases e)
        refine .seq (.yes (by simp only [ev_t, q8]) (.skip (.block (.seq (.r ?_)))))
        simp only [d30_2, aops_cons, aop, ev_t, q6, hent, withH_some', thenOps_some, put_some, upd_get, ↓reduceIte, List.getElem?_cons_zero, aops_nil, evR_some]
        refine .seq (.reg (R1 := fun o => ∃ t2, o = .s t2 H2 ∧ t2 0 = .fn (.yield (H.n + 1)) [] [] ∧ t2 5 = .p (some (i, 0)) ∧ t2 13 = .b false) (.p 2 ?_) ?_)
        · simp only [d30_3, List.drop_succ_cons, List.drop_zero, List.take_succ_cons, List.take_zero, aops_cons, aop, ev_t, upd_get, reduceCtorEq, ↓reduceIte, q0', thenOps_some, put_some, Nat.reduceEqDiff, aops_nil, evO_some]
          refine .oyield (l := H.n + 1) (R1 := fun o => o = .v (.b true) H2) rfl rfl (by simp only [ev_t, upd_get, Nat.reduceEqDiff, ↓reduceIte]) ?_ ?_
          · simp only [asX_cons, ev_t, upd_get, ↓reduceIte, asX_nil]
            exact r4
          · rintro v H3 e
            cases e
            refine .oop rfl (v := .b false) (H' := H2) (by simp only [aop, put_some, ev_t, upd_get, ↓reduceIte, aUn_not, Bool.not_true, withH_some']) (.onil ⟨_, rfl, ?_, ?_, ?_⟩) <;> simp only [put_some, upd_get, Nat.reduceEqDiff, ↓reduceIte, q6, reduceCtorEq, q0']
        · rintro t2 H3 ⟨t3, e, s0, s6, s14⟩
          cases e
          refine .no (by simp only [ev_t, s14]) (.skip (.inBlock (.inLoop ?_)))
          refine ih (left.filter (· != n)) (some n) (done ++ [x]) H2 (by omega) r1 (by omega) hit2 ?_ t2 s0 s6
          rw [List.append_assoc]
          exact (List.Perm.append_left done hst.symm).trans hperm
end Go.Proofs.Ytaolkpkaiidmeaa.Abs
