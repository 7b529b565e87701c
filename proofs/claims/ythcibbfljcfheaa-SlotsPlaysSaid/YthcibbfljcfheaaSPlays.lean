/- Two lists of whole numbers compared. No condition of its own. (tpl) -/
import Derived.Test.YthcibbfljcfheaaPurA
import Derived.Test.YthcibbfljcfheaaFlat
namespace Go.Proofs.Ythcibbfljcfheaa.Abs
set_option linter.unusedSimpArgs false
set_option linter.unusedVariables false
set_option maxRecDepth 100000
set_option maxHeartbeats 8000000
variable {q : Prm}
theorem same_spec {H : AH} {v w : AV} {l : List Int} {n m : Nat} (h : Rs H v 1 n (l.map (AV.i .i64))) (h2 : Rs H w 1 m (l.map (AV.i .i64))) (hl : n ≤ 1000000) : callR (tblP q) 33 [v, w] H = some (.b true, H) := by
  have hln : l.length = n := by have := h.1; simpa using this
  have hlm : l.length = m := by have := h2.1; simpa using this
  have hmn : m = n := by omega
  subst hmn
  obtain ⟨_, a, lo, ex, sz', hv, _⟩ := id h
  obtain ⟨_, a2, lo2, ex2, sz2, hw, _⟩ := id h2
  subst hv; subst hw
  have c0 : ((m : Int) != m) = false := by simp
  simp only [c33, b33, runR_seq, r33_0, aops_cons, aop, ev_c, thenOps_some, put_some, aops_nil, regR_some, r33_1, ev_t, upd_get, reduceCtorEq, ↓reduceIte, ainit_get, List.getD_cons_zero, Nat.reduceEqDiff, List.getD_cons_succ, aBin, BinOp.isShift, Bool.false_eq_true, or_true, aInt_neq, bne_self_eq_false, withH_some', runR_cond', condR_b, runR_skip, r33_3, runR_block, runR_loop']
  refine loop_law m (fun i t' H' => H' = H ∧ t' 0 = .sl a m lo ex sz' ∧ t' 1 = .sl a2 m lo2 ex2 sz2 ∧ t' 12 = .i .i64 m ∧ t' 13 = .i .i64 i) (fun r => r = some (.b true, H)) ?_ ?_ 0 _ H (Nat.zero_le _) ⟨rfl, ?_, ?_, ?_, ?_⟩
  · rintro i t' H' hi ⟨rfl, q0, q1, q12, q13⟩ ih
    have c1 : decide ((i : Int) < m) = true := by simp; omega
    have c2 : 0 ≤ (i : Int) ∧ (i : Int) < m := by omega
    have hwi : IntKind.i64.wrap ((i : Int) + 1) = (i + 1 : Nat) := by rw [wrap_i64 (by omega)]; simp
    obtain ⟨x, hx⟩ : ∃ y, l[i]? = some y := ⟨l[i]'(by omega), List.getElem?_eq_getElem (by omega)⟩
    obtain ⟨b, o, lo', ex', sz'', ro, full, e, hb, hr, hel⟩ := h.el1 hx
    cases e
    obtain ⟨b', o', lo'', ex'', sz3, ro', full', e', hb', hr', hel'⟩ := h2.el1 hx
    cases e'
    have ew : (x != x) = false := by simp
    simp only [l33_9, runR_seq, r33_4, aops_cons, aop, aBin, ev_t, q13, q12, BinOp.isShift, Bool.false_eq_true, or_true, ↓reduceIte, aInt_lss, c2, decide_true, withH_some', thenOps_some, put_some, aops_nil, regR_some, runR_cond', upd_get, condR_b, runR_skip, runR_block, r33_5, Nat.reduceEqDiff, r33_6, reduceCtorEq, q0, and_self, Int.toNat_natCast, Nat.mul_one, aload, hr, apart, hel, q1, hr', hel', aInt_neq, bne_self_eq_false, runR_inBlock, r33_8, ev_c, aInt_add, hwi]
    refine ih _ _ ⟨rfl, ?_, ?_, ?_, ?_⟩
    all_goals simp only [upd_get, Nat.reduceEqDiff, ↓reduceIte, q1, reduceCtorEq, q0, q12]
  · rintro t' H' ⟨rfl, q0, q1, q12, q13⟩
    have c1 : decide ((m : Int) < m) = false := by simp
    simp only [l33_9, runR_seq, r33_4, aops_cons, aop, aBin, ev_t, q13, q12, BinOp.isShift, Bool.false_eq_true, or_true, ↓reduceIte, aInt_lss, c1, withH_some', thenOps_some, put_some, aops_nil, regR_some, runR_cond', upd_get, condR_b, runR_exit', aexit_code, aexit_inLoop, aexit_inBlock, exitR_some, r33_10, ev_c, runR_ret, afinish_def, s33, aresults, aresult, aback]
  all_goals simp only [upd_get, Nat.reduceEqDiff, ↓reduceIte, ainit_get, List.getD_cons_succ, List.getD_cons_zero, reduceCtorEq, cast_of]
theorem own_natP {S : SL} {th : Nat} (h : th < 256) : S.own (th : Int) = S.ow th := by
  unfold SL.own
  rw [if_pos (by omega), Int.toNat_natCast]
section
variable {H : AH} {m r pl sz : Nat} {S : SL} {R : List AV} {sv : AV} {Z : List Z4} {N : Nat}
theorem rtake_like (h : Rl pl S Z N) (g : Gd pl sz S) (hR : IsR H r sv sz N Z) (hN : N ≤ 200) (hp : pl ≤ 200) {th : Nat} (ht : th < 256) :
    ∃ Z' H', callR tbl 20 [.p (some (r, 0)), .i .i64 th] H = some (.tup [.i .i64 (S.take pl sz th).1.1, .i .u32 (S.take pl sz th).1.2.1, .i .i64 (S.take pl sz th).1.2.2], H') ∧ IsR H' r sv sz N Z' ∧ Trn H H' (FR r sv) (FR r sv) ∧ Rl pl (S.take pl sz th).2 Z' N := by
  have hZ : Z.length ≤ 200 := by rw [h.zl]; exact hp
  have ht' : (0 : Int) ≤ (th : Int) ∧ (th : Int) < 256 := by omega
  have hmine := h.mine g (th : Int)
  rw [own_natP ht] at hmine
  rcases List.eq_nil_or_concat (S.ow th) with h0 | ⟨l, x, h1⟩
  · have hpk : S.pick pl sz th = (match (if S.co = [] then S.grow pl sz else S).co with
      | [] => (-1, if S.co = [] then S.grow pl sz else S)
      | x :: t => (x, { (if S.co = [] then S.grow pl sz else S) with co := t })) := by
      unfold SL.pick
      rw [h0]
      rfl
    rw [h0] at hmine
    cases hc : S.co with
    | nil =>
      rw [if_pos hc] at hpk
      obtain ⟨k, hk⟩ : ∃ k, k = min sz (pl - S.gs.length) := ⟨_, rfl⟩
      have hgr : S.grow pl sz = S.growN k := by unfold SL.grow; rw [hk]
      rw [hgr] at hpk
      have hgl := g.gl
      have hz1 := g.z1
      by_cases hlt : S.gs.length < pl
      · have hk1 : 1 ≤ k := by omega
        obtain ⟨k', rfl⟩ : ∃ k', k = k' + 1 := ⟨k - 1, by omega⟩
        have hco : (S.growN (k' + 1)).co = (S.gs.length : Int) :: ((List.range k').map fun j => ((S.gs.length + (j + 1) : Nat) : Int)) := by
          unfold SL.growN
          rw [hc, List.range_succ_eq_map]
          simp
        rw [hco] at hpk
        simp only at hpk
        have g2 := g.grow hc
        rw [hgr] at g2
        have hgi : (S.growN (k' + 1)).gs[S.gs.length]? = some (false, 0) := by
          unfold SL.growN
          rw [List.getElem?_append_right (Nat.le_refl _), Nat.sub_self]
          rfl
        have htk : S.take pl sz th = (((S.gs.length : Int), 0, 0), { (S.growN (k' + 1)) with co := (List.range k').map fun j => ((S.gs.length + (j + 1) : Nat) : Int), gs := (S.growN (k' + 1)).gs.set S.gs.length (true, 0) }) := by
          unfold SL.take
          rw [hpk]
          simp only [Int.toNat_natCast, hgi]
          rw [if_neg (by omega)]
        have hrl := h.grow (k := k' + 1) g hc (by omega)
        obtain ⟨z, hz⟩ := hrl.zat g2 hgi
        have hzg := (hrl.st _ _ z hgi hz).1
        have hil : S.gs.length < Z.length := by rw [h.zl]; exact hlt
        have hkk : min sz (Z.length - S.gs.length) = k' + 1 := by rw [h.zl]; exact hk.symm
        obtain ⟨H', e1, e2, e3⟩ := rt_new hR hN hZ ⟨hz1, g.z2⟩ ht' hmine (h.first2_no hc) (h.first0 hlt) hil (z := z) (by rw [hkk]; exact hz)
        rw [hkk] at e2
        rw [hzg] at e1
        rw [htk]
        refine ⟨_, H', e1, e2, e3, ?_⟩
        have hcs := g2.cs
        rw [hco, List.pairwise_cons] at hcs
        refine hrl.mark (g := 0) rfl hgi (fun j => ?_) (fun t j => ?_) (fun t => List.Sublist.refl _)
        · rw [hco, List.mem_cons]
          constructor
          · intro hm
            have := hcs.1 _ hm
            exact ⟨Or.inr hm, by omega⟩
          · rintro ⟨hm | hm, hne⟩
            · omega
            · exact hm
        · show (j : Int) ∈ S.ow t ↔ (j : Int) ∈ S.ow t ∧ _
          refine ⟨fun hm => ⟨hm, ?_⟩, fun hm => hm.1⟩
          obtain ⟨_, q, hq⟩ := g.fo t _ hm
          have := (List.getElem?_eq_some_iff.1 hq).1
          omega
      · have hk0 : k = 0 := by omega
        subst hk0
        rw [growN_zero, hc] at hpk
        simp only at hpk
        have htk : S.take pl sz th = ((0, 0, 11), S) := by
          unfold SL.take
          rw [hpk]
          simp only
          split
          · rw [if_pos (by decide)]
          · rfl
        obtain ⟨H', e1, e2, e3⟩ := rt_out hR hN hZ ht' hmine (h.first2_no hc) (h.first0_no (by omega))
        rw [htk]
        exact ⟨Z, H', e1, e2, e3, h⟩
    | cons x t =>
      have hne : ¬ S.co = [] := by rw [hc]; nofun
      rw [if_neg hne, hc] at hpk
      simp only at hpk
      have hxm : x ∈ S.co := by rw [hc]; exact List.mem_cons_self ..
      obtain ⟨x0, q, hq⟩ := g.cf x hxm
      obtain ⟨i, rfl⟩ := Int.eq_ofNat_of_zero_le x0
      rw [Int.toNat_natCast] at hq
      obtain ⟨z, hz⟩ := h.zat g hq
      have hzg := (h.st _ _ z hq hz).1
      have htk : S.take pl sz th = (((i : Int), q, 0), { S with co := t, gs := S.gs.set i (true, q) }) := by
        unfold SL.take
        rw [hpk]
        simp only [Int.toNat_natCast, hq]
        rw [if_neg (by omega)]
      obtain ⟨H', e1, e2, e3⟩ := rt_com hR hN hZ ht' hmine (h.first2 g hc) hz
      rw [hzg] at e1
      rw [htk]
      refine ⟨_, H', e1, e2, e3, ?_⟩
      have hcs := g.cs
      rw [hc, List.pairwise_cons] at hcs
      refine h.mark (g := q) rfl hq (fun j => ?_) (fun a j => ?_) (fun a => List.Sublist.refl _)
      · rw [hc, List.mem_cons]
        constructor
        · intro hm
          have := hcs.1 _ hm
          exact ⟨Or.inr hm, by omega⟩
        · rintro ⟨hm | hm, hne⟩
          · omega
          · exact hm
      · show (j : Int) ∈ S.ow a ↔ (j : Int) ∈ S.ow a ∧ _
        refine ⟨fun hm => ⟨hm, ?_⟩, fun hm => hm.1⟩
        rintro rfl
        exact g.oc a _ hm hxm
  · rw [List.concat_eq_append] at h1
    have hpk : S.pick pl sz th = (x, S.setOw th l) := by
      unfold SL.pick
      rw [h1, List.getLast?_concat, List.dropLast_concat]
    have hxm : x ∈ S.ow th := by rw [h1]; simp
    obtain ⟨x0, q, hq⟩ := g.fo th x hxm
    obtain ⟨i, rfl⟩ := Int.eq_ofNat_of_zero_le x0
    rw [Int.toNat_natCast] at hq
    obtain ⟨z, hz⟩ := h.zat g hq
    have hzg := (h.st _ _ z hq hz).1
    have htk : S.take pl sz th = (((i : Int), q, 0), { S.setOw th l with gs := S.gs.set i (true, q) }) := by
      unfold SL.take
      rw [hpk]
      simp only [Int.toNat_natCast, SL.setOw, hq]
      rw [if_neg (by omega)]
    obtain ⟨H', e1, e2, e3⟩ := rt_own hR hN hZ ht' (hmine.trans h1) hz
    rw [hzg] at e1
    rw [htk]
    refine ⟨_, H', e1, e2, e3, ?_⟩
    have hnd := g.on th
    rw [h1, List.nodup_append] at hnd
    refine h.mark (g := q) rfl hq (fun j => ?_) (fun a j => ?_) (fun a => ?_)
    · show (j : Int) ∈ S.co ↔ _
      refine ⟨fun hm => ⟨hm, ?_⟩, fun hm => hm.1⟩
      rintro rfl
      exact g.oc th _ hxm hm
    · show (j : Int) ∈ (if a = th then l else S.ow a) ↔ _
      by_cases e : a = th
      · subst e
        rw [if_pos rfl, h1, List.mem_append, List.mem_singleton]
        constructor
        · intro hm
          refine ⟨Or.inl hm, ?_⟩
          rintro rfl
          exact hnd.2.2 _ hm _ (by simp) rfl
        · rintro ⟨hm | hm, hne⟩
          · exact hm
          · omega
      · rw [if_neg e]
        refine ⟨fun hm => ⟨hm, ?_⟩, fun hm => hm.1⟩
        rintro rfl
        exact e (g.oo a th _ hm hxm)
    · show (if a = th then l else S.ow a).Sublist _
      by_cases e : a = th
      · subst e
        rw [if_pos rfl, h1]
        exact List.sublist_append_left ..
      · rw [if_neg e]
        exact List.Sublist.refl _
/-- What both tell of a slot. -/
theorem Rl.tell (h : Rl pl S Z N) (g : Gd pl sz S) {i : Nat} {z : Z4} (hz : Z[i]? = some z) : S.usd i = (z.1 == 1) ∧ S.chk i z.2.2.2 = (z.1 == 1) := by
  unfold SL.chk SL.usd
  rw [Int.toNat_natCast]
  cases hp : S.gs[i]? with
  | none =>
    have := h.un i z (by have := List.getElem?_eq_none_iff.1 hp; omega) hz
    subst this
    simp
  | some p =>
    obtain ⟨k1, _, _, k4⟩ := h.st i p z hp hz
    have : p.1 = (z.1 == 1) := by
      rw [Bool.eq_iff_iff, k4]
      simp
    simp [this, k1]
theorem Rl.gen (h : Rl pl S Z N) (g : Gd pl sz S) (hT : IsT H m pl sz S R) {i : Nat} {z : Z4} (hz : Z[i]? = some z) : callR tbl 22 [.p (some (m, 0)), .i .i64 i] H = some (.tup [.i .u32 z.2.2.2, .i .i64 0], H) := by
  have hil := (List.getElem?_eq_some_iff.1 hz).1
  rw [h.zl] at hil
  cases hp : S.gs[i]? with
  | none =>
    have hge : S.gs.length ≤ i := List.getElem?_eq_none_iff.1 hp
    have := h.un i z hge hz
    subst this
    exact gen_new hT g.p1 (by omega) (by omega)
  | some p =>
    obtain ⟨k1, _⟩ := h.st i p z hp hz
    rw [k1]
    exact gen_spec hT g.p1 g.gl hp
theorem inu_ext (S : SL) : ∀ k, S.inu (S.gs.length + k) = S.inu S.gs.length
  | 0 => rfl
  | k + 1 => by
    show S.inu (S.gs.length + k) ++ (if S.usd ((S.gs.length + k : Nat) : Int) then _ else []) = _
    have : S.usd ((S.gs.length + k : Nat) : Int) = false := by
      unfold SL.usd
      rw [Int.toNat_natCast, List.getElem?_eq_none (by omega)]
      simp
    rw [this, inu_ext S k]
    simp
end
section
variable {H : AH} {m r pl sz : Nat} {S : SL} {R : List AV} {sv : AV} {Z : List Z4} {N : Nat}
theorem told_spec (h : Rl pl S Z N) (g : Gd pl sz S) (hT : IsT H m pl sz S R) (hR : IsR H r sv sz N Z) (hN : N ≤ 200) (hp : pl ≤ 200) (s : St3) :
    ∃ H', callR tbl 21 [.p (some (m, 0)), .p (some (r, 0)), .agg (stepF s)] H = some (.b true, H') ∧ Keeps H H' := by
  have hZ : Z.length ≤ 200 := by rw [h.zl]; exact hp
  have hzl := h.zl
  have hgl := g.gl
  obtain ⟨sa, slo, sex, ssz, hsv⟩ := hR.w.len
  have hsf : stepF s = [.i .u8 s.1, .i .i64 s.2.1, .i .i64 s.2.2] := rfl
  obtain ⟨e, he⟩ : ∃ e, e = H.n := ⟨_, rfl⟩
  obtain ⟨H1, hH1⟩ : ∃ H1, H1 = H.new (.row false [.i .u8 s.1, .i .i64 s.2.1, .i .i64 s.2.2]) := ⟨_, rfl⟩
  have k1 : Keeps H H1 := by rw [hH1]; exact (Keeps.refl _).new
  have oe1 : H1.o e = some (.row false [.i .u8 s.1, .i .i64 s.2.1, .i .i64 s.2.2]) := by rw [hH1, he, AH_new_o, if_pos rfl]
  have le1 : e < H1.n := by rw [hH1, he]; exact Nat.lt_succ_self _
  have hRo := hR.o
  rw [hsv] at hRo
  have hRo1 := (k1.2 r hR.lr).trans hRo
  refine Sp.one fun Q hQ => ?_
  rw [hsf]
  simp only [c21, b21, runR_seq, r21_0, aops_cons, aop, ev_t, ainit_get, List.getD_cons_succ, List.getD_cons_zero, ← he, AV.cells, ← hH1, thenOps_some, put_some, ev_c, aops_nil, regR_some, r21_1, r21_2, upd_get, Nat.reduceEqDiff, ↓reduceIte, Nat.zero_add, aload, hRo1, apart, List.getElem?_cons_succ, List.getElem?_cons_zero, withH_some', runR_block]
  rw [runR_loop, ← runR_inLoop]
  refine loop_law Z.length (fun i t' H' => t' 0 = .p (some (m, 0)) ∧ t' 1 = .p (some (r, 0)) ∧ t' 5 = .p (some (e, 0)) ∧ t' 17 = .sl sa Z.length slo sex ssz ∧ t' 18 = .i .i64 Z.length ∧ t' 19 = .i .i64 i ∧ Keeps H1 H' ∧ ∃ v, t' 7 = v ∧ Wr H' v 1 (S.inu i).length ((S.inu i).map I1) ∧ ∀ b, blk v = some b → H1.n ≤ b) (fun r => Sp r Q) ?_ ?_ 0 _ H1 (Nat.zero_le _) ?_
  · rintro i t' H' hi ⟨q0, q1, q5, q17, q18, q19, hk, v, q7, hw, hb⟩ ih
    have c1 : decide ((i : Int) < (Z.length : Int)) = true := by simp; omega
    have c2 : 0 ≤ (i : Int) ∧ (i : Int) < (Z.length : Int) := by omega
    have hwi := wr1 (i := i) (by omega)
    obtain ⟨z, hz⟩ : ∃ z, Z[i]? = some z := ⟨_, List.getElem?_eq_getElem hi⟩
    have kk := k1.trans hk
    have hR' := hR.keeps kk
    obtain ⟨b, o, lo, ex, full, e', hbn, hr, hin, hle, e0, e1, e2, e3, hbr, _⟩ := hR'.slot hz
    rw [hsv] at e'
    cases e'
    have h4 : (full.drop (o + i * 4)).take 4 = [.i .i64 z.1, .i .i64 z.2.1, .i .i64 z.2.2.1, .i .u32 z.2.2.2] := by
      apply List.ext_getElem?
      intro j
      rw [List.getElem?_take]
      match j with
      | 0 => simpa using e0
      | 1 => rw [if_pos (by decide), List.getElem?_drop]; exact e1
      | 2 => rw [if_pos (by decide), List.getElem?_drop]; exact e2
      | 3 => rw [if_pos (by decide), List.getElem?_drop]; exact e3
      | j + 4 => rw [if_neg (by omega)]; rfl
    have hle2 : o + (i * 4 + 4) ≤ full.length := by omega
    obtain ⟨HX, hHX⟩ : ∃ HX, HX = (H'.new (.row false [.i .i64 0, .i .i64 0, .i .i64 0, .i .u32 0])).set H'.n (.row false [.i .i64 z.1, .i .i64 z.2.1, .i .i64 z.2.2.1, .i .u32 z.2.2.2]) := ⟨_, rfl⟩
    have kX : Keeps H' HX := by rw [hHX]; exact (Keeps.refl _).new.set (Nat.le_refl _)
    have oX : HX.o H'.n = some (.row false [.i .i64 z.1, .i .i64 z.2.1, .i .i64 z.2.2.1, .i .u32 z.2.2.2]) := by rw [hHX, AH_set_o, if_pos rfl]
    have hTX := (hT.keeps kk).keeps kX
    have eg := h.gen g hTX hz
    have eu := used_spec (n := (i : Int)) hTX g.p1
    have ec := check_spec (n := (i : Int)) (g := z.2.2.2) hTX g.p1
    obtain ⟨t1, t2⟩ := h.tell g hz
    rw [t1] at eu
    rw [t2] at ec
    have y1 : (z.2.2.2 != z.2.2.2) = false := by simp
    have y2 : ((0 : Int) != 0) = false := rfl
    have hil : (S.inu i).length ≤ i := by
      have : ∀ k, (S.inu k).length ≤ k := by
        intro k
        induction k with
        | zero => exact Nat.le_refl _
        | succ k ih => unfold SL.inu; rw [List.length_append]; split <;> simp <;> omega
      exact this i
    have hne : (b = H'.n) = False := eq_false (by omega)
    cases hc : z.1 == 1
    · rw [hc] at eu ec t1
      have y3 : ((false == false) != true) = false := rfl
      have y4 : (false == false) = true := rfl
      have hin1 : S.inu (i + 1) = S.inu i := by
        show S.inu i ++ (if S.usd i then [(i : Int)] else []) = _
        rw [t1]; simp
      simp only [l21_11, runR_seq, r21_3, aops_cons, aop, aBin, ev_t, q19, q18, BinOp.isShift, Bool.false_eq_true, or_true, ↓reduceIte, aInt_lss, c2, decide_true, withH_some', thenOps_some, put_some, aops_nil, regR_some, runR_cond', upd_get, condR_b, runR_skip, runR_block, r21_4, Nat.reduceEqDiff, q17, and_self, Int.toNat_natCast, aload, hr, apart, Nat.add_assoc, hle2, h4, astore, Nat.succ_ne_self, hn_o, AV.cells, List.length_cons, List.length_nil, Nat.zero_add, Nat.reduceAdd, Nat.reduceLeDiff, setR_z, setR_e, ← hHX, withU_some', put_none, r21_5, reduceCtorEq, q0, asX_cons, asX_nil, eg, List.getElem?_cons_zero, List.getElem?_cons_succ, r21_6, adrn_cons, AOp.kind, nStep_0, thenN_some, nStep_3, eu, thenNC_some, Nat.add_zero, nStep_1, List.take_succ_cons, List.take_zero, asame_more, oX, asame_one, fst1_some, both_same, thenNL_some, ev_c, aInt_eql, hc, beq_self_eq_true, bne_self_eq_false, adrn_g, gN_b, ec, aInt_neq, adrn_nil, r21_8, runR_inBlock, r21_10, aInt_add, hwi]
      refine ih _ _ ⟨?_, ?_, ?_, ?_, ?_, ?_, hk.trans kX, v, ?_, ?_, hb⟩
      case refine_8 => rw [hin1]; exact hw.keeps kX
      all_goals simp only [upd_get, Nat.reduceEqDiff, ↓reduceIte, q1, q17, q5, q18, q7, reduceCtorEq, q0]
    · rw [hc] at eu ec t1
      have y3 : ((true == true) != true) = false := rfl
      have y4 : (true == true) = true := rfl
      have hin1 : S.inu (i + 1) = S.inu i ++ [(i : Int)] := by
        show S.inu i ++ (if S.usd i then [(i : Int)] else []) = _
        rw [t1]; simp
      obtain ⟨v', H3, ea, w3, n3, o3, b3⟩ := Wr.one (z := [.i .i64 0]) (y := 8) (sz := 1) (ex := true) rfl (hw.keeps kX) (xs := [.i .i64 (i : Int)]) rfl (by omega)
      have kX1 := hk.trans kX
      have k3 : Keeps H1 H3 := ⟨Nat.le_trans kX1.1 n3, fun c hc' => (o3 c (Nat.lt_of_lt_of_le hc' kX1.1) (fun e' => by have := hb c e'; omega)).trans (kX1.2 c hc')⟩
      obtain ⟨a4, lo4, ex4, sz4, hv4⟩ := hw.len
      subst hv4
      simp only [l21_11, runR_seq, r21_3, aops_cons, aop, aBin, ev_t, q19, q18, BinOp.isShift, Bool.false_eq_true, or_true, ↓reduceIte, aInt_lss, c2, decide_true, withH_some', thenOps_some, put_some, aops_nil, regR_some, runR_cond', upd_get, condR_b, runR_skip, runR_block, r21_4, Nat.reduceEqDiff, q17, and_self, Int.toNat_natCast, aload, hr, apart, Nat.add_assoc, hle2, h4, astore, Nat.succ_ne_self, hn_o, AV.cells, List.length_cons, List.length_nil, Nat.zero_add, Nat.reduceAdd, Nat.reduceLeDiff, setR_z, setR_e, ← hHX, withU_some', put_none, r21_5, reduceCtorEq, q0, asX_cons, asX_nil, eg, List.getElem?_cons_zero, List.getElem?_cons_succ, r21_6, adrn_cons, AOp.kind, nStep_0, thenN_some, nStep_3, eu, thenNC_some, Nat.add_zero, nStep_1, List.take_succ_cons, List.take_zero, asame_more, oX, asame_one, fst1_some, both_same, thenNL_some, ev_c, aInt_eql, hc, beq_self_eq_true, bne_self_eq_false, adrn_g, gN_b, ec, aInt_neq, adrn_nil, r21_8, r21_9, q7, afill, zerosA, List.append_nil, ea, runR_inBlock, r21_10, aInt_add, hwi]
      refine ih _ _ ⟨?_, ?_, ?_, ?_, ?_, ?_, k3, v', ?_, ?_, fun c hc' => (b3 c hc').elim (hb c) (fun e' => Nat.le_trans kX1.1 e')⟩
      case refine_8 => rw [hin1, List.length_append, List.map_append]; exact w3
      all_goals simp only [upd_get, Nat.reduceEqDiff, ↓reduceIte, q1, q17, q5, q18, reduceCtorEq, q0]
  · rintro t' H' ⟨q0, q1, q5, q17, q18, q19, hk, v, q7, hw, hb⟩
    have c1 : decide ((Z.length : Int) < (Z.length : Int)) = false := by simp
    have kk := k1.trans hk
    have hT' := hT.keeps kk
    have hR' := hR.keeps kk
    have hRo' := (kk.2 r hR.lr).trans hRo
    have hext : S.inu Z.length = S.inu S.gs.length := by
      have := inu_ext S (Z.length - S.gs.length)
      rw [show S.gs.length + (Z.length - S.gs.length) = Z.length by omega] at this
      exact this
    rw [hext] at hw
    have eg := gen_out hT' g.p1 (n := (Z.length : Int)) (Or.inr (by omega))
    have oe' := (hk.2 e le1).trans oe1
    have le' := hk.lt le1
    obtain ⟨va, vlo, vex, vsz, hve⟩ := hw.len
    subst hve
    simp only [l21_11, runR_seq, r21_3, aops_cons, aop, aBin, ev_t, q19, q18, BinOp.isShift, Bool.false_eq_true, or_true, ↓reduceIte, aInt_lss, c1, withH_some', thenOps_some, put_some, aops_nil, regR_some, runR_cond', upd_get, condR_b, runR_exit', aexit_code, aexit_inLoop, aexit_inBlock, exitR_some, r21_12, reduceCtorEq, q0, Nat.reduceEqDiff, q1, Nat.zero_add, aload, hRo', apart, List.getElem?_cons_succ, List.getElem?_cons_zero, asX_cons, asX_nil, eg, r21_13, Int.reduceNeg, adrn_cons, AOp.kind, nStep_0, thenN_some, nStep_3]
    refine Sp.n2 (f := fun v => v) (inuse_spec hT' g.p1 (by omega)) ?_
    rintro v2 H2 ⟨w2, k2, b2⟩
    have hil : (S.inu S.gs.length).length ≤ 1000000 := by
      have : ∀ k, (S.inu k).length ≤ k := by
        intro k
        induction k with
        | zero => exact Nat.le_refl _
        | succ k ih => unfold SL.inu; rw [List.length_append]; split <;> simp <;> omega
      have := this S.gs.length
      omega
    have es := same_spec (q := Abs.q0) w2.rs (hw.keeps k2).rs hil
    have oe2 := (k2.2 e le').trans oe'
    obtain ⟨va2, vlo2, vex2, vsz2, hve2⟩ := w2.len
    subst hve2
    simp only [Int.reduceNeg, put_some, adrn_cons, AOp.kind, nStep_0, aop, ev_t, upd_get, Nat.reduceEqDiff, ↓reduceIte, q7, thenN_some, nStep_3, asX_cons, asX_nil, es, thenNC_some, adrn_g, gN_b, reduceCtorEq, q0, q5, Nat.zero_add, nStep_1, List.take_succ_cons, List.take_zero, asame_one, aload, oe2, apart, List.getElem?_cons_succ, List.getElem?_cons_zero, withH_some', fst1_some, thenNL_some]
    refine Sp.n2 (f := fun v => v) (own_spec (hT'.keeps k2) g.p1 g.how s.2.1) ?_
    rintro v3 H3 ⟨w3, k3, b3⟩
    have oe3 := (k3.2 e (k2.lt le')).trans oe2
    obtain ⟨va3, vlo3, vex3, vsz3, hve3⟩ := w3.len
    subst hve3
    simp only [Int.reduceNeg, put_some, adrn_g, upd_get, Nat.reduceEqDiff, ↓reduceIte, gN_b, AOp.kind, nStep_0, aop, ev_t, q1, thenN_some, q5, Nat.zero_add, nStep_1, List.take_succ_cons, List.take_zero, asame_more, aload, oe3, apart, List.getElem?_cons_succ, List.getElem?_cons_zero, withH_some', asame_one, oe2, fst1_some, both_same, thenNL_some, nStep_3, asX_cons, asX_nil]
    refine Sp.n2 (f := fun v => v) (mine_spec ((hR'.keeps k2).keeps k3) hN hZ s.2.1) ?_
    rintro v4 H4 ⟨w4, k4, b4⟩
    rw [h.mine g] at w4
    have hol : (S.own s.2.1).length ≤ 1000000 := by
      unfold SL.own
      split
      · have := g.how s.2.1.toNat; omega
      · simp
    have es2 := same_spec (q := Abs.q0) (w3.keeps k4).rs w4.rs hol
    have hT4 := ((hT'.keeps k2).keeps k3).keeps k4
    have hR4 := ((hR'.keeps k2).keeps k3).keeps k4
    have el := left_spec hT4 g.p1 g.gl g.p2 g.hco g.how
    rw [h.left g] at el
    have n2 := count_spec hR4 hZ 2
    have n3 := count_spec hR4 hZ 3
    have n0 := count_spec hR4 hZ 0
    have b2' : cntZ Z 2 ≤ Z.length := List.countP_le_length ..
    have b3' : cntZ Z 3 ≤ Z.length := List.countP_le_length ..
    have b0' : cntZ Z 0 ≤ Z.length := List.countP_le_length ..
    have z1 : IntKind.i64.wrap ((cntZ Z 2 : Int) + (cntZ Z 3 : Int)) = (cntZ Z 2 : Int) + (cntZ Z 3 : Int) := wrap_i64 (by omega)
    have z2 : IntKind.i64.wrap ((cntZ Z 2 : Int) + (cntZ Z 3 : Int) + (cntZ Z 0 : Int)) = (cntZ Z 2 : Int) + (cntZ Z 3 : Int) + (cntZ Z 0 : Int) := wrap_i64 (by omega)
    have z3 : (((cntZ Z 2 : Int) + (cntZ Z 3 : Int) + (cntZ Z 0 : Int)) == ((cntZ Z 2 : Int) + (cntZ Z 3 : Int) + (cntZ Z 0 : Int))) = true := by simp
    have z4 : ((1 : Int) == 1) = true := rfl
    have eu := used_spec (n := (-1 : Int)) hT4 g.p1
    have hu : S.usd (-1) = false := rfl
    rw [hu] at eu
    obtain ⟨va4, vlo4, vex4, vsz4, hve4⟩ := w4.len
    subst hve4
    simp only [Int.reduceNeg, put_some, adrn_g, upd_get, Nat.reduceEqDiff, ↓reduceIte, gN_b, AOp.kind, nStep_3, aop, asX_cons, ev_t, asX_nil, es2, thenNC_some, adrn_cons, nStep_0, thenN_some, reduceCtorEq, q0, el, q1, ev_c, n2, n3, aBin, BinOp.isShift, Bool.false_eq_true, or_true, aInt_add, z1, withH_some', n0, z2, aInt_eql, beq_self_eq_true, eu, aUn_not, Bool.not_false, adrn_nil, regR_some, runR_ret, afinish_def, s21, aresults, aresult, aback]
    exact Sp.ret (hQ _ (((kk.trans k2).trans k3).trans k4))
  · refine ⟨?_, ?_, ?_, ?_, ?_, ?_, Keeps.refl _, .sl none 0 0 true 0, ?_, Wr.nil, fun b hb => by cases hb⟩
    all_goals simp only [upd_get, Nat.reduceEqDiff, ↓reduceIte, ainit_get, List.getD_cons_succ, List.getD_cons_zero, reduceCtorEq, cast_of]
end
/-- What holds in the loop. -/
structure PV (H0 H : AH) (m r pl sz : Nat) (sv : AV) (i : Nat) (S : SL) (R : List AV) (Z : List Z4) (N : Nat) : Prop where
  t : IsT H m pl sz S R
  g : Gd pl sz S
  d : IsR H r sv sz N Z
  l : Rl pl S Z N
  k : Keeps H0 H
  f1 : ∀ c, FT m R c → H0.n ≤ c
  f2 : ∀ c, FR r sv c → H0.n ≤ c
  dj : ∀ c, FT m R c → ¬ FR r sv c
  n : N ≤ i
theorem PV.keeps {H0 H H' : AH} {m r pl sz i N : Nat} {sv : AV} {S : SL} {R : List AV} {Z : List Z4} (h : PV H0 H m r pl sz sv i S R Z N) (k : Keeps H H') : PV H0 H' m r pl sz sv i S R Z N :=
  { h with t := h.t.keeps k, d := h.d.keeps k, k := h.k.trans k }
/-- The one turned, then the other. -/
theorem PV.mid {H0 H H1 : AH} {m r pl sz i N : Nat} {sv : AV} {S : SL} {R R1 : List AV} {Z : List Z4} (h : PV H0 H m r pl sz sv i S R Z N) (tr : Trn H H1 (FT m R) (FT m R1)) : IsR H1 r sv sz N Z :=
  h.d.keep tr.n fun c hc => tr.o c (h.d.old hc) (fun hf => h.dj c hf hc)
theorem PV.turn {H0 H H1 H2 : AH} {m r pl sz i i' N N' : Nat} {sv : AV} {S S' : SL} {R R1 : List AV} {Z Z' : List Z4} (h : PV H0 H m r pl sz sv i S R Z N) (t1 : IsT H1 m pl sz S' R1) (g1 : Gd pl sz S') (tr : Trn H H1 (FT m R) (FT m R1)) (d2 : IsR H2 r sv sz N' Z') (tr2 : Trn H1 H2 (FR r sv) (FR r sv)) (l2 : Rl pl S' Z' N') (hn : N' ≤ i') : PV H0 H2 m r pl sz sv i' S' R1 Z' N' := by
  obtain ⟨k1, f1⟩ := tr.kp h.k h.f1
  obtain ⟨k2, f2⟩ := tr2.kp k1 h.f2
  have dj1 : ∀ c, FT m R1 c → ¬ FR r sv c := fun c hc hd => (tr.f c hc).elim (fun e => h.dj c e hd) (fun e => by have := h.d.old hd; omega)
  exact ⟨t1.keep tr2.n (fun c hc => tr2.o c (t1.old hc) (dj1 c hc)), g1, d2, l2, k2, f1, f2, dj1, hn⟩
theorem PV.rd {H0 H H1 : AH} {m r pl sz i N : Nat} {sv : AV} {S : SL} {R R1 : List AV} {Z : List Z4} (h : PV H0 H m r pl sz sv i S R Z N) (tr : Trn H H1 (FT m R) (FT m R1)) {x : Nat} (hx : x < H.n) (hf : ¬ FT m R x) : H1.o x = H.o x := tr.o x hx hf
theorem plays_law (a : Int) (wa : (Lit.int .i64 a).wf = true) (b : Int) (wb : (Lit.int .i64 b).wf = true) (l : List St3) (ok : ∀ x ∈ l, (Lit.int .u8 x.1).wf = true ∧ (Lit.int .i64 x.2.1).wf = true ∧ (Lit.int .i64 x.2.2).wf = true) (H : AH) (x : AV) (hx : IsIn H x 3 l.length (l.flatMap stepF)) : ∃ H', callR tbl 5 [.i .i64 a, .i .i64 b, x] H = some (.b true, H') := by
  by_cases hbad : a < 1 ∨ 4096 < a ∨ b < 1 ∨ 64 < b
  · obtain ⟨HR, eR, kR⟩ := rnew_bad (H := H) hbad
    refine Sp.tt fun Q hQ => ?_
    simp only [c5, b5, runR_seq, r5_0, aops_cons, aop, ev_c, thenOps_some, put_some, aops_nil, regR_some, r5_1, ev_t, upd_get, reduceCtorEq, ↓reduceIte, ainit_get, List.getD_cons_zero, Nat.reduceEqDiff, List.getD_cons_succ, asX_cons, asX_nil, new_bad hbad, List.getElem?_cons_zero, withH_some', List.getElem?_cons_succ, r5_2, eR, astore, hn_o, AV.cells, List.length_cons, List.length_nil, Nat.zero_add, Nat.reduceAdd, Nat.reduceLeDiff, and_self, setR_z, setR_e, withU_some', put_none]
    obtain ⟨HX, hHX⟩ : ∃ HX, HX = (HR.new (.row false [.i .i64 0, .i .i64 0, .sl none 0 0 true 0])).set HR.n (.row false [.i .i64 0, .i .i64 0, .sl none 0 0 true 0]) := ⟨_, rfl⟩
    obtain ⟨HE, eE⟩ := alive_spec (H := HX)
    simp only [← hHX]
    simp only [r5_3, aops_cons, aop, ev_t, upd_get, Nat.reduceEqDiff, ↓reduceIte, thenOps_some, put_some, aBin, BinOp.isShift, Bool.false_eq_true, or_true, aInt_neq, bne_self_eq_false, withH_some', aops_g, gOps_b, ev_c, show ((1 : Int) != 0) = true from rfl, Bool.true_eq_false, aops_nil, regR_some, runR_cond', condR_b, runR_seq, r5_4, aInt_eql, beq_self_eq_true, aEqN, Option.isNone_none, show ((1 : Int) == 0) = false from rfl, Bool.bne_false, asX_nil, eE, runR_ret, afinish_def, s5, aresults, aresult, aback]
    exact Sp.ret (hQ _)
  obtain ⟨pl, rfl⟩ := Int.eq_ofNat_of_zero_le (a := a) (by omega)
  obtain ⟨sz, rfl⟩ := Int.eq_ofNat_of_zero_le (a := b) (by omega)
  have hpar : 1 ≤ pl ∧ pl ≤ 4096 ∧ 1 ≤ sz ∧ sz ≤ 64 := by omega
  have hro0 := isIn_ro hx (stepF_len l)
  obtain ⟨v, eS, hv⟩ := short_spec hro0
  obtain ⟨L, hL⟩ : ∃ L, L = l.take 120 := ⟨_, rfl⟩
  rw [← hL] at hv
  have hl : L.length ≤ 120 := by rw [hL, List.length_take]; omega
  obtain ⟨va, lo, ex, sz', hve⟩ := hv.len
  subst hve
  refine Sp.tt fun Q hQ => ?_
  simp only [c5, b5, runR_seq, r5_0, aops_cons, aop, ev_c, thenOps_some, put_some, aops_nil, regR_some, r5_1, ev_t, upd_get, reduceCtorEq, ↓reduceIte, ainit_get, List.getD_cons_zero, Nat.reduceEqDiff, List.getD_cons_succ, asX_cons, asX_nil]
  refine Sp.c2 (f := fun _ => .tup [.p (some (H.n, 0)), .i .i64 0]) (new_spec (H := H) hpar) ?_
  rintro R0 H0 ⟨t0, k0, f0⟩
  obtain ⟨m, hm⟩ : ∃ m, m = H.n := ⟨_, rfl⟩
  rw [← hm] at t0
  simp only [← hm, put_some, aops_cons, aop, ev_t, upd_get, ↓reduceIte, thenOps_some, List.getElem?_cons_zero, withH_some', Nat.reduceEqDiff, List.getElem?_cons_succ, aops_nil, regR_some, runR_seq, r5_2, reduceCtorEq, ainit_get, List.getD_cons_zero, List.getD_cons_succ, asX_cons, asX_nil]
  refine Sp.c2 (f := fun sv => .tup [.agg [.i .i64 sz, .i .i64 0, sv], .i .i64 0]) (rnew_spec (H := H0) hpar) ?_
  rintro sv H1 ⟨w1, k1, b1⟩
  obtain ⟨r, hr⟩ : ∃ r, r = H1.n := ⟨_, rfl⟩
  obtain ⟨HA, hHA⟩ : ∃ HA, HA = (H1.new (.row false [.i .i64 0, .i .i64 0, .sl none 0 0 true 0])).set r (.row false [.i .i64 sz, .i .i64 0, sv]) := ⟨_, rfl⟩
  have kA : Keeps H1 HA := by rw [hHA]; exact (Keeps.refl _).new.set (Nat.le_of_eq hr.symm)
  have oA : HA.o r = some (.row false [.i .i64 sz, .i .i64 0, sv]) := by rw [hHA, AH_set_o, if_pos rfl]
  have hrl : r < HA.n := by rw [hHA, hr]; exact Nat.lt_succ_self _
  have k01 := k1.1
  have k00 := k0.1
  have PA : PV H HA m r pl sz sv 0 SL.new R0 (List.replicate pl ((0, 0, 0, 0) : Z4)) 0 := by
    refine ⟨(t0.keeps k1).keeps kA, gd_new hpar, ⟨hrl, oA, ?_, fun b hb => by have := w1.old hb; omega⟩, rl_new pl, (k0.trans k1).trans kA, fun c hc => by rw [hm] at hc; exact f0 c hc, ?_, ?_, Nat.le_refl _⟩
    · rw [List.length_replicate]; exact w1.keeps kA
    · rintro c (rfl | hc)
      · omega
      · have := b1 c hc; omega
    · intro c hc hd
      have := t0.old hc
      rcases hd with rfl | hd
      · omega
      · have := b1 c hd; omega
  obtain ⟨HE, eE⟩ := alive_spec (H := HA)
  obtain ⟨a0, lo0, ex0, sz0, hsv⟩ := w1.len
  subst hsv
  by_cases hbig : 200 < pl
  · have c1 : decide ((pl : Int) > 200) = true := by simp; omega
    simp only [put_some, aops_cons, aop, ev_t, upd_get, ↓reduceIte, thenOps_some, List.getElem?_cons_zero, withH_some', Nat.reduceEqDiff, List.getElem?_cons_succ, ← hr, astore, hn_o, AV.cells, List.length_cons, List.length_nil, Nat.zero_add, Nat.reduceAdd, Nat.reduceLeDiff, and_self, setR_z, setR_e, ← hHA, withU_some', put_none, aops_nil, regR_some, runR_seq, r5_3, aBin, BinOp.isShift, Bool.false_eq_true, or_true, aInt_neq, bne_self_eq_false, aops_g, gOps_b, ev_c, aEqN, reduceCtorEq, ainit_get, List.getD_cons_zero, aInt_gtr, GT.gt, c1, runR_cond', condR_b, r5_4, aInt_eql, beq_self_eq_true, Bool.bne_true, Bool.not_false, Bool.bne_false, asX_nil, eE, runR_ret, afinish_def, s5, aresults, aresult, aback]
    exact Sp.ret (hQ _)
  have c0 : decide ((pl : Int) > 200) = false := by simp; omega
  simp only [put_some, aops_cons, aop, ev_t, upd_get, ↓reduceIte, thenOps_some, List.getElem?_cons_zero, withH_some', Nat.reduceEqDiff, List.getElem?_cons_succ, ← hr, astore, hn_o, AV.cells, List.length_cons, List.length_nil, Nat.zero_add, Nat.reduceAdd, Nat.reduceLeDiff, and_self, setR_z, setR_e, ← hHA, withU_some', put_none, aops_nil, regR_some, runR_seq, r5_3, aBin, BinOp.isShift, Bool.false_eq_true, or_true, aInt_neq, bne_self_eq_false, aops_g, gOps_b, ev_c, aEqN, reduceCtorEq, ainit_get, List.getD_cons_zero, aInt_gtr, GT.gt, c0, runR_cond', condR_b, runR_skip, r5_5, List.getD_cons_succ, asX_cons, asX_nil, eS, runR_block]
  rw [runR_loop, ← runR_inLoop]
  obtain ⟨sv, hsv⟩ : ∃ sv, sv = AV.sl a0 pl lo0 ex0 sz0 := ⟨_, rfl⟩
  rw [← hsv] at PA
  refine loop_law L.length (fun i t' H' => t' 7 = .p (some (m, 0)) ∧ t' 9 = .p (some (r, 0)) ∧ t' 61 = .sl va L.length lo ex sz' ∧ t' 62 = .i .i64 L.length ∧ t' 63 = .i .i64 i ∧ ∃ S R Z N, PV H H' m r pl sz sv i S R Z N) (fun r => Sp r Q) ?_ ?_ 0 _ HA (Nat.zero_le _) ⟨?_, ?_, ?_, ?_, ?_, SL.new, R0, _, 0, PA⟩
  · rintro i t' H' hi ⟨q7, q9, q61, q62, q63, S, R, Z, N, hP⟩ ih
    have c1 : decide ((i : Int) < (L.length : Int)) = true := by simp; omega
    have c2 : 0 ≤ (i : Int) ∧ (i : Int) < (L.length : Int) := by omega
    have hwi := wr1 (i := i) (by omega)
    obtain ⟨s, hs⟩ : ∃ y, L[i]? = some y := ⟨_, List.getElem?_eq_getElem hi⟩
    obtain ⟨b, o, lo', ex', sz2, ro, full, e', hbn, hr, hfl, _, hel⟩ := hv.rs.el hi
    cases e'
    rw [(flat_at (f := stepF) (sz := 3) (fun _ => rfl) L i s hs).1] at hel
    have hel' : (full.drop (o + i * 3)).take 3 = [.i .u8 s.1, .i .i64 s.2.1, .i .i64 s.2.2] := hel
    rw [Nat.add_assoc] at hfl
    have hr1 := (hP.k.2 b hbn).trans hr
    have hk1 := hP.k.1
    obtain ⟨y, hy⟩ : ∃ y, y = H'.n := ⟨_, rfl⟩
    have hne : b ≠ y := by omega
    have hne' : b ≠ H'.n := by omega
    obtain ⟨HS, hHS⟩ : ∃ HS, HS = (H'.new (.row false [.i .u8 0, .i .i64 0, .i .i64 0])).set y (.row false [.i .u8 s.1, .i .i64 s.2.1, .i .i64 s.2.2]) := ⟨_, rfl⟩
    have kS : Keeps H' HS := by rw [hHS]; exact (Keeps.refl _).new.set (Nat.le_of_eq hy.symm)
    have oS : HS.o y = some (.row false [.i .u8 s.1, .i .i64 s.2.1, .i .i64 s.2.2]) := by rw [hHS, AH_set_o, if_pos rfl]
    have ly : y < HS.n := by rw [hHS, hy]; exact Nat.lt_succ_self _
    have hy1 : ¬ FT m R y := fun hf => by have := hP.t.old hf; omega
    have hy2 : ¬ FR r sv y := fun hf => by have := hP.d.old hf; omega
    have hPS := hP.keeps kS
    have hN := hP.n
    have hzl := hP.l.zl
    have hsf : stepF s = [.i .u8 s.1, .i .i64 s.2.1, .i .i64 s.2.2] := rfl
    have fin : ∀ (t2 : Nat → AV) (H2 : AH) (S2 : SL) (R2 : List AV) (Z2 : List Z4) (N2 : Nat), t2 7 = .p (some (m, 0)) → t2 9 = .p (some (r, 0)) → t2 61 = .sl (some (b, o)) L.length lo ex sz' → t2 62 = .i .i64 L.length → t2 63 = .i .i64 i → t2 13 = .b true → t2 12 = .p (some (y, 0)) → H2.o y = some (.row false [.i .u8 s.1, .i .i64 s.2.1, .i .i64 s.2.2]) → PV H H2 m r pl sz sv (i + 1) S2 R2 Z2 N2 →
        Sp (runR tbl a5 (.code (.reg d5_17) :: .code (.cond (.t 129) (.seq (.reg d5_18) .ret) .skip) :: .inBlock 1 :: .code (.reg d5_19) :: .inLoop l5_20 :: .inBlock 0 :: .code (.seq (.reg d5_21) .ret) :: []) t2 H2) Q := by
      intro t2 H2 S2 R2 Z2 N2 z7 z9 z61 z62 z63 z13 z12 oy hP2
      have htold := told_spec hP2.l hP2.g hP2.t hP2.d (by have := hP2.n; omega) (by omega) s
      rw [hsf] at htold
      simp only [r5_17, aops_cons, aop, ev_t, z13, thenOps_some, put_some, upd_get, ↓reduceIte, aUn_not, Bool.not_true, withH_some', aops_g, gOps_b, Nat.reduceEqDiff, z7, aload, z12, oy, apart, Nat.zero_add, List.length_cons, List.length_nil, Nat.reduceAdd, Nat.reduceLeDiff, List.drop_zero, List.take_succ_cons, List.take_zero, asX_cons, z9, asX_nil]
      refine Sp.c1 htold ?_
      rintro H3 k3
      simp only [put_some, aops_g, upd_get, Nat.reduceEqDiff, ↓reduceIte, gOps_b, aop, ev_t, aUn_not, Bool.not_true, withH_some', thenOps_some, aops_cons, Bool.false_eq_true, aops_nil, regR_some, runR_cond', condR_b, runR_skip, runR_inBlock, r5_19, aBin, z63, ev_c, BinOp.isShift, or_true, aInt_add, hwi]
      refine ih _ _ ⟨?_, ?_, ?_, ?_, ?_, S2, R2, Z2, N2, hP2.keeps k3⟩
      all_goals simp only [upd_get, ↓reduceIte, Nat.reduceEqDiff, z7, z61, z9, z62]
    by_cases r1 : s.1.tmod 4 = 1
    · have x1 : (s.1.tmod 4 == 1) = true := by simpa using r1
      simp only [l5_20, runR_seq, r5_6, aops_cons, aop, aBin, ev_t, q63, q62, BinOp.isShift, Bool.false_eq_true, or_true, ↓reduceIte, aInt_lss, c2, decide_true, withH_some', thenOps_some, put_some, aops_nil, regR_some, runR_cond', upd_get, condR_b, runR_skip, runR_block, r5_7, Nat.reduceEqDiff, q61, and_self, Int.toNat_natCast, aload, hr1, apart, Nat.add_assoc, hfl, hel', ← hy, astore, hn_o, AV.cells, List.length_cons, List.length_nil, Nat.zero_add, Nat.reduceAdd, Nat.reduceLeDiff, setR_z, setR_e, ← hHS, withU_some', put_none, r5_8, ev_c, r5_9, Nat.add_zero, oS, List.getElem?_cons_zero, aInt_rem, Int.reduceEq, r5_10, aInt_eql, x1, r5_11, adrn_cons, AOp.kind, nStep_0, q7, thenN_some, nStep_1, List.take_succ_cons, List.take_zero, asame_one, List.getElem?_cons_succ, fst1_some, thenNL_some, nStep_3, asX_cons, asX_nil]
      by_cases hgood : (0 ≤ s.2.1 ∧ s.2.1 < 256) ∧ S.usd s.2.2 = true
      · obtain ⟨⟨h0, h256⟩, hu⟩ := hgood
        obtain ⟨th, hth⟩ := Int.eq_ofNat_of_zero_le h0
        have ht : th < 256 := by omega
        obtain ⟨j, q, hj, hgj⟩ := usd_at hu
        obtain ⟨z, hz⟩ := hP.l.zat hP.g hgj
        obtain ⟨k1', _, _, k4⟩ := hP.l.st j _ z hgj hz
        have hz1 : z.1 = 1 := k4.1 rfl
        have hgg := hP.g.gg _ (List.mem_of_getElem? hgj)
        have hfree := free_spec hPS.t hPS.g.p1 hPS.g.hco hPS.g.cs hPS.g.how ht hgj hgg
        rw [← hth, ← hj] at hfree
        refine Sp.n2 (f := fun _ => .i .i64 0) hfree ?_
        rintro R2 H2 ⟨hT2, tr⟩
        have hG2 := hPS.g.free (th := th) hgj
        have oy2 := (tr.o y ly hy1).trans oS
        have hrf := rfree_spec (hPS.mid tr) (by omega) (by omega) (th := s.2.1) ⟨h0, h256⟩ hz hz1 (by rw [k1']; exact hgg)
        rw [hP.l.mine2, hP.l.mine hP.g, k1'] at hrf
        rw [← hj] at hrf
        simp only [put_some, adrn_cons, AOp.kind, nStep_0, aop, ev_t, upd_get, Nat.reduceEqDiff, ↓reduceIte, Nat.zero_add, thenN_some, nStep_1, List.take_succ_cons, List.take_zero, asame_more, aload, oy2, apart, List.getElem?_cons_succ, List.getElem?_cons_zero, withH_some', asame_one, oS, fst1_some, both_same, thenNL_some, nStep_3, asX_cons, q9, asX_nil]
        refine Sp.n1 hrf ?_
        rintro H3 ⟨hR3, tr3⟩
        have hl3 := hP.l.free (th := th) hP.g ht hgj
        rw [hth, own_natP ht] at hR3
        have oy3 := (tr3.o y (Nat.lt_of_lt_of_le ly tr.n) hy2).trans oy2
        simp only [put_some, adrn_cons, AOp.kind, nStep_0, aop, aBin, ev_t, upd_get, Nat.reduceEqDiff, ↓reduceIte, BinOp.isShift, Bool.false_eq_true, or_true, aInt_eql, beq_self_eq_true, withH_some', thenN_some, adrn_nil, regR_some, runR_inBlock, runR_seq]
        refine fin _ H3 _ R2 _ (N + 1) ?_ ?_ ?_ ?_ ?_ ?_ ?_ oy3 (hPS.turn hT2 hG2 tr hR3 tr3 hl3 (by omega))
        all_goals simp only [upd_get, Nat.reduceEqDiff, ↓reduceIte, q9, q62, q61, q7, q63]
      · have hb1 : ¬ (0 ≤ s.2.1 ∧ s.2.1 < 256) ∨ S.usd s.2.2 = false := by
          by_cases h1 : 0 ≤ s.2.1 ∧ s.2.1 < 256
          · right
            cases hu : S.usd s.2.2
            · rfl
            · exact absurd ⟨h1, hu⟩ hgood
          · exact Or.inl h1
        have e1 := free_bad hPS.t hPS.g.p1 hb1
        have e2 := rfree_bad hPS.d (th := s.2.1) (n := s.2.2) (by
          rcases hb1 with hb1 | hb1
          · exact Or.inl hb1
          · by_cases h1 : s.2.2 < 0
            · exact Or.inr (Or.inl h1)
            · by_cases h2 : (Z.length : Int) ≤ s.2.2
              · exact Or.inr (Or.inr (Or.inl h2))
              · obtain ⟨j, hj⟩ := Int.eq_ofNat_of_zero_le (a := s.2.2) (by omega)
                obtain ⟨z, hz⟩ : ∃ z, Z[j]? = some z := ⟨_, List.getElem?_eq_getElem (by omega)⟩
                refine Or.inr (Or.inr (Or.inr ⟨z, by rw [hj, Int.toNat_natCast]; exact hz, ?_⟩))
                have := (hP.l.tell hP.g hz).1
                rw [hj] at hb1
                rw [hb1] at this
                intro e
                rw [e] at this
                cases this)
        refine Sp.n0 e1 ?_
        simp only [put_some, adrn_cons, AOp.kind, nStep_0, aop, ev_t, upd_get, Nat.reduceEqDiff, ↓reduceIte, Nat.zero_add, thenN_some, nStep_1, List.take_succ_cons, List.take_zero, asame_more, aload, oS, apart, List.getElem?_cons_succ, List.getElem?_cons_zero, withH_some', asame_one, fst1_some, both_same, thenNL_some, nStep_3, asX_cons, q9, asX_nil]
        refine Sp.n0 e2 ?_
        simp only [put_some, adrn_cons, AOp.kind, nStep_0, aop, aBin, ev_t, upd_get, Nat.reduceEqDiff, ↓reduceIte, BinOp.isShift, Bool.false_eq_true, or_true, aInt_eql, beq_self_eq_true, withH_some', thenN_some, adrn_nil, regR_some, runR_inBlock, runR_seq]
        refine fin _ HS S R Z N ?_ ?_ ?_ ?_ ?_ ?_ ?_ oS { hPS with n := by omega }
        all_goals simp only [upd_get, Nat.reduceEqDiff, ↓reduceIte, q9, q62, q61, q7, q63]
    · have x1 : (s.1.tmod 4 == 1) = false := by simpa using r1
      by_cases r2 : s.1.tmod 4 = 2
      · have x2 : (s.1.tmod 4 == 2) = true := by simpa using r2
        simp only [l5_20, runR_seq, r5_6, aops_cons, aop, aBin, ev_t, q63, q62, BinOp.isShift, Bool.false_eq_true, or_true, ↓reduceIte, aInt_lss, c2, decide_true, withH_some', thenOps_some, put_some, aops_nil, regR_some, runR_cond', upd_get, condR_b, runR_skip, runR_block, r5_7, Nat.reduceEqDiff, q61, and_self, Int.toNat_natCast, aload, hr1, apart, Nat.add_assoc, hfl, hel', ← hy, astore, hn_o, AV.cells, List.length_cons, List.length_nil, Nat.zero_add, Nat.reduceAdd, Nat.reduceLeDiff, setR_z, setR_e, ← hHS, withU_some', put_none, r5_8, ev_c, r5_9, Nat.add_zero, oS, List.getElem?_cons_zero, aInt_rem, Int.reduceEq, r5_10, aInt_eql, x1, r5_12, x2, r5_13, adrn_cons, AOp.kind, nStep_0, q7, thenN_some, nStep_1, List.take_succ_cons, List.take_zero, asame_one, List.getElem?_cons_succ, fst1_some, thenNL_some, nStep_3, asX_cons, asX_nil]
        refine Sp.n2 (f := fun _ => .i .i64 (S.own s.2.1).length) (flush_any hPS.t hPS.g s.2.1) ?_
        rintro R2 H2 ⟨hT2, hG2, tr⟩
        have oy2 := (tr.o y ly hy1).trans oS
        have hrf := rflush_spec (hPS.mid tr) (by omega) (by omega) s.2.1
        rw [hP.l.mine hP.g] at hrf
        simp only [put_some, adrn_cons, AOp.kind, nStep_0, aop, ev_t, upd_get, Nat.reduceEqDiff, ↓reduceIte, Nat.zero_add, thenN_some, nStep_1, List.take_succ_cons, List.take_zero, asame_more, aload, oy2, apart, List.getElem?_cons_succ, List.getElem?_cons_zero, withH_some', asame_one, oS, fst1_some, both_same, thenNL_some, nStep_3, asX_cons, q9, asX_nil]
        refine Sp.n1 hrf ?_
        rintro H3 ⟨hR3, tr3⟩
        have hl3 := hP.l.flush hP.g s.2.1
        have oy3 := (tr3.o y (Nat.lt_of_lt_of_le ly tr.n) hy2).trans oy2
        simp only [put_some, adrn_cons, AOp.kind, nStep_0, aop, aBin, ev_t, upd_get, Nat.reduceEqDiff, ↓reduceIte, BinOp.isShift, Bool.false_eq_true, or_true, aInt_eql, beq_self_eq_true, withH_some', thenN_some, adrn_nil, regR_some, runR_inBlock, runR_seq]
        refine fin _ H3 _ R2 _ N ?_ ?_ ?_ ?_ ?_ ?_ ?_ oy3 (hPS.turn hT2 hG2 tr hR3 tr3 hl3 (by omega))
        all_goals simp only [upd_get, Nat.reduceEqDiff, ↓reduceIte, q9, q62, q61, q7, q63]
      · have x2 : (s.1.tmod 4 == 2) = false := by simpa using r2
        simp only [l5_20, runR_seq, r5_6, aops_cons, aop, aBin, ev_t, q63, q62, BinOp.isShift, Bool.false_eq_true, or_true, ↓reduceIte, aInt_lss, c2, decide_true, withH_some', thenOps_some, put_some, aops_nil, regR_some, runR_cond', upd_get, condR_b, runR_skip, runR_block, r5_7, Nat.reduceEqDiff, q61, and_self, Int.toNat_natCast, aload, hr1, apart, Nat.add_assoc, hfl, hel', ← hy, astore, hn_o, AV.cells, List.length_cons, List.length_nil, Nat.zero_add, Nat.reduceAdd, Nat.reduceLeDiff, setR_z, setR_e, ← hHS, withU_some', put_none, r5_8, ev_c, r5_9, Nat.add_zero, oS, List.getElem?_cons_zero, aInt_rem, Int.reduceEq, r5_10, aInt_eql, x1, r5_12, x2, r5_14, q7, List.getElem?_cons_succ, asX_cons, asX_nil]
        by_cases hthr : 0 ≤ s.2.1 ∧ s.2.1 < 256
        · obtain ⟨th, hth⟩ := Int.eq_ofNat_of_zero_le hthr.1
          have ht : th < 256 := by omega
          rw [hth]
          refine Sp.c2 (f := fun _ => .tup [.i .i64 (S.take pl sz th).1.1, .i .u32 (S.take pl sz th).1.2.1, .i .i64 (S.take pl sz th).1.2.2]) (take_any hPS.t hPS.g ht) ?_
          rintro R2 H2 ⟨hT2, hG2, tr⟩
          have oy2 := (tr.o y ly hy1).trans oS
          rw [hth] at oy2
          simp only [put_some, aops_cons, aop, ev_t, upd_get, ↓reduceIte, thenOps_some, List.getElem?_cons_zero, withH_some', Nat.reduceEqDiff, List.getElem?_cons_succ, aops_nil, regR_some, runR_seq, r5_15, Nat.zero_add, aload, oy2, apart, asX_cons, q9, asX_nil]
          refine Sp.c2 (f := fun _ => .tup [.i .i64 (S.take pl sz th).1.1, .i .u32 (S.take pl sz th).1.2.1, .i .i64 (S.take pl sz th).1.2.2]) (rtake_like hP.l hP.g (hPS.mid tr) (by omega) (by omega) ht) ?_
          rintro Z3 H3 ⟨hR3, tr3, hl3⟩
          have oy3 := (tr3.o y (Nat.lt_of_lt_of_le ly tr.n) hy2).trans oy2
          rw [← hth] at oy3
          simp only [put_some, aops_cons, aop, ev_t, upd_get, ↓reduceIte, thenOps_some, List.getElem?_cons_zero, withH_some', Nat.reduceEqDiff, List.getElem?_cons_succ, aops_nil, regR_some, r5_16, aBin, BinOp.isShift, Bool.false_eq_true, or_true, aInt_eql, beq_self_eq_true, aops_g, gOps_b, runR_inBlock, runR_seq]
          refine fin _ H3 _ R2 _ N ?_ ?_ ?_ ?_ ?_ ?_ ?_ oy3 (hPS.turn hT2 hG2 tr hR3 tr3 hl3 (by omega))
          all_goals simp only [upd_get, Nat.reduceEqDiff, ↓reduceIte, q9, q62, q61, q7, q63]
        · have e1 := take_thr hPS.t hPS.g.p1 hthr
          have e2 := rt_bad hPS.d hthr
          simp only [e1, thenOps_some, put_some, aops_cons, aop, ev_t, upd_get, ↓reduceIte, List.getElem?_cons_zero, withH_some', Nat.reduceEqDiff, List.getElem?_cons_succ, aops_nil, regR_some, runR_seq, r5_15, Nat.zero_add, aload, oS, apart, asX_cons, q9, asX_nil, e2, r5_16, aBin, BinOp.isShift, Bool.false_eq_true, or_true, aInt_eql, beq_self_eq_true, aops_g, gOps_b, runR_inBlock]
          refine fin _ HS S R Z N ?_ ?_ ?_ ?_ ?_ ?_ ?_ oS { hPS with n := by omega }
          all_goals simp only [upd_get, Nat.reduceEqDiff, ↓reduceIte, q9, q62, q61, q7, q63]
  · rintro t' H' ⟨q7, q9, q61, q62, q63, S, R, Z, N, hP⟩
    have c1 : decide ((L.length : Int) < (L.length : Int)) = false := by simp
    obtain ⟨HE, eE⟩ := alive_spec (H := H')
    simp only [l5_20, runR_seq, r5_6, aops_cons, aop, aBin, ev_t, q63, q62, BinOp.isShift, Bool.false_eq_true, or_true, ↓reduceIte, aInt_lss, c1, withH_some', thenOps_some, put_some, aops_nil, regR_some, runR_cond', upd_get, condR_b, runR_exit', aexit_code, aexit_inLoop, aexit_inBlock, exitR_some, r5_21, asX_nil, eE, runR_ret, afinish_def, s5, aresults, aresult, aback]
    exact Sp.ret (hQ _)
  all_goals simp only [upd_get, Nat.reduceEqDiff, ↓reduceIte, cast_of]
end Go.Proofs.Ythcibbfljcfheaa.Abs
