/- Steps that came in, and what each does to a table. No condition of its own. -/
import Derived.Test.YthcibbfljcfheaaGood
import Derived.Test.YthcibbfljcfheaaOpen
namespace Go.Proofs.Ythcibbfljcfheaa.Abs
set_option linter.unusedSimpArgs false
set_option linter.unusedVariables false
set_option maxRecDepth 100000
set_option maxHeartbeats 8000000
abbrev St3 := Int × Int × Int
def stepF (x : St3) : List AV := [.i .u8 x.1] ++ [.i .i64 x.2.1] ++ [.i .i64 x.2.2]
theorem stepF_len (l : List St3) : (l.flatMap stepF).length = l.length * 3 := flat_length (sz := 3) (fun _ => rfl) l
theorem short_spec {H : AH} {x : AV} {l : List St3} (h : Ro H x 3 l.length (l.flatMap stepF)) : ∃ v', (∀ H' : AH, callR tbl 8 [x] H' = some (v', H')) ∧ Ro H v' 3 (l.take 120).length ((l.take 120).flatMap stepF) := by
  have hcut : ∀ n, n ≤ l.length → (l.flatMap stepF).take (n * 3) = (l.take n).flatMap stepF := by
    intro n hn
    conv => lhs; rw [← List.take_append_drop n l, List.flatMap_append]
    rw [List.take_left' (by rw [stepF_len, List.length_take, Nat.min_eq_left hn])]
  obtain ⟨a, lo, ex, sz, hx⟩ := h.len
  by_cases hb : l.length ≤ 120
  · obtain ⟨v', e, h2, _⟩ := h.to (k := .i64) (h' := l.length) (Nat.le_refl _)
    rw [hcut _ (Nat.le_refl _), List.take_length] at h2
    rw [List.take_of_length_le hb]
    refine ⟨v', fun H' => ?_, h2⟩
    have c1 : ¬ ((120 : Int) < (l.length : Int)) := by omega
    subst hx
    simp only [c8, b8, runR_seq, r8_0, aops_cons, aop, ev_c, thenOps_some, put_some, aops_nil, regR_some, r8_1, ev_t, upd_get, reduceCtorEq, ↓reduceIte, ainit_get, List.getD_cons_zero, asX_cons, asX_nil, aminmax, Bool.false_eq_true, c1, withH_some', Nat.reduceEqDiff, optX, e, runR_ret, afinish_def, s8, aresults, aresult, aback]
  · obtain ⟨v', e, h2, _⟩ := h.to (k := .i64) (h' := 120) (by omega)
    rw [hcut _ (by omega)] at h2
    rw [List.length_take, Nat.min_eq_left (by omega)]
    refine ⟨v', fun H' => ?_, h2⟩
    have c1 : (120 : Int) < (l.length : Int) := by omega
    subst hx
    have e' : aslice 3 (.sl a l.length lo ex sz) none (some (.i .i64 120)) none = some v' := e
    simp only [c8, b8, runR_seq, r8_0, aops_cons, aop, ev_c, thenOps_some, put_some, aops_nil, regR_some, r8_1, ev_t, upd_get, reduceCtorEq, ↓reduceIte, ainit_get, List.getD_cons_zero, asX_cons, asX_nil, aminmax, Bool.false_eq_true, c1, withH_some', Nat.reduceEqDiff, optX, e', runR_ret, afinish_def, s8, aresults, aresult, aback]
theorem and3 (a : Int) : ∃ t : Nat, bAnd .i64 a 3 = (t : Int) ∧ t ≤ 3 := by
  have h : (BitVec.ofInt IntKind.i64.bits a &&& BitVec.ofInt IntKind.i64.bits 3).toNat ≤ 3 := by
    rw [BitVec.toNat_and]
    exact Nat.le_trans Nat.and_le_right (by decide)
  refine ⟨_, ?_, h⟩
  unfold bAnd
  rw [wrap_i64 (by omega)]
theorem and15 (a : Int) : ∃ t : Nat, bAnd .i64 a 15 = (t : Int) ∧ t ≤ 15 := by
  have h : (BitVec.ofInt IntKind.i64.bits a &&& BitVec.ofInt IntKind.i64.bits 15).toNat ≤ 15 := by
    rw [BitVec.toNat_and]
    exact Nat.le_trans Nat.and_le_right (by decide)
  refine ⟨_, ?_, h⟩
  unfold bAnd
  rw [wrap_i64 (by omega)]
/-- A slot taken: what is told, and the table behind it. -/
def SL.take (pl sz : Nat) (S : SL) (th : Nat) : (Int × Int × Int) × SL :=
  match (S.pick pl sz th).2.gs[(S.pick pl sz th).1.toNat]? with
  | some p => if (S.pick pl sz th).1 < 0 then ((0, 0, 11), (S.pick pl sz th).2) else (((S.pick pl sz th).1, p.2, 0), { (S.pick pl sz th).2 with gs := (S.pick pl sz th).2.gs.set (S.pick pl sz th).1.toNat (true, p.2) })
  | none => ((0, 0, 11), (S.pick pl sz th).2)
def SL.freeI (sz : Nat) (S : SL) (th : Nat) (n : Int) : SL := if S.usd n then S.free sz th n.toNat else S
theorem usd_at {S : SL} {n : Int} (h : S.usd n = true) : ∃ (i : Nat) (g : Int), n = (i : Int) ∧ S.gs[i]? = some (true, g) := by
  unfold SL.usd at h
  obtain ⟨h0, h1⟩ := Bool.and_eq_true_iff.1 h
  have h0 : 0 ≤ n := by simpa using h0
  obtain ⟨i, rfl⟩ := Int.eq_ofNat_of_zero_le h0
  rw [Int.toNat_natCast] at h1
  cases hp : S.gs[i]? with
  | none => rw [hp] at h1; simp at h1
  | some p =>
    rw [hp] at h1
    simp at h1
    exact ⟨i, p.2, rfl, by rw [← h1]; exact hp⟩
section
variable {H : AH} {m pl sz : Nat} {S : SL} {R : List AV}
theorem take_any (h : IsT H m pl sz S R) (g : Gd pl sz S) {th : Nat} (ht : th < 256) : ∃ R' H', callR tbl 11 [.p (some (m, 0)), .i .i64 th] H = some (.tup [.i .i64 (S.take pl sz th).1.1, .i .u32 (S.take pl sz th).1.2.1, .i .i64 (S.take pl sz th).1.2.2], H') ∧ IsT H' m pl sz (S.take pl sz th).2 R' ∧ Gd pl sz (S.take pl sz th).2 ∧ Trn H H' (FT m R) (FT m R') := by
  obtain ⟨g1, hor⟩ := g.pick th
  rcases hor with hk | ⟨i, p, hk, hi, hc, ho⟩
  · obtain ⟨R', H', e, t1, f1⟩ := take_out h g.p1 g.gl g.p2 g.z2 g.hco g.how ht hk
    have htk : S.take pl sz th = ((0, 0, 11), (S.pick pl sz th).2) := by
      unfold SL.take
      split
      · rw [if_pos (by rw [hk]; decide)]
      · rfl
    rw [htk]
    exact ⟨R', H', e, t1, g1, f1⟩
  · obtain ⟨R', H', e, t1, f1⟩ := take_got h g.p1 g.gl g.p2 g.z2 g.hco g.how ht hk hi
    have htk : S.take pl sz th = (((i : Int), p, 0), { (S.pick pl sz th).2 with gs := (S.pick pl sz th).2.gs.set i (true, p) }) := by
      unfold SL.take
      rw [hk, Int.toNat_natCast, hi]
      simp only
      rw [if_neg (by omega)]
    rw [htk]
    exact ⟨R', H', e, t1, g1.mark hi hc ho, f1⟩
theorem free_any (h : IsT H m pl sz S R) (g : Gd pl sz S) {th : Nat} (ht : th < 256) (n : Int) : ∃ R' H', callR tbl 9 [.p (some (m, 0)), .i .i64 th, .i .i64 n] H = some (.i .i64 (if S.usd n then 0 else 1), H') ∧ IsT H' m pl sz (S.freeI sz th n) R' ∧ Gd pl sz (S.freeI sz th n) ∧ Trn H H' (FT m R) (FT m R') := by
  unfold SL.freeI
  cases hu : S.usd n
  · exact ⟨R, H, free_bad h g.p1 (Or.inr hu), h, g, Trn.refl⟩
  · obtain ⟨i, gn, rfl, hi⟩ := usd_at hu
    obtain ⟨R', H', e, t1, f1⟩ := free_spec h g.p1 g.hco g.cs g.how ht hi (g.gg _ (List.mem_of_getElem? hi))
    simp only [if_true, Int.toNat_natCast]
    exact ⟨R', H', e, t1, g.free hi, f1⟩
theorem flush_any (h : IsT H m pl sz S R) (g : Gd pl sz S) (th : Int) : ∃ R' H', callR tbl 10 [.p (some (m, 0)), .i .i64 th] H = some (.i .i64 (S.own th).length, H') ∧ IsT H' m pl sz (S.flush th) R' ∧ Gd pl sz (S.flush th) ∧ Trn H H' (FT m R) (FT m R') := by
  obtain ⟨R', H', e, t1, f1⟩ := flush_spec h g.p1 g.how (g.hsh th)
  exact ⟨R', H', e, t1, g.flush th, f1⟩
theorem Trn.kp {B H' : AH} {F F' : Nat → Prop} (t : Trn H H' F F') (k : Keeps B H) (hF : ∀ c, F c → B.n ≤ c) : Keeps B H' ∧ ∀ c, F' c → B.n ≤ c :=
  ⟨⟨Nat.le_trans k.1 t.n, fun c hc => (t.o c (Nat.lt_of_lt_of_le hc k.1) (fun h => by have := hF c h; omega)).trans (k.2 c hc)⟩, fun c hc => (t.f c hc).elim (hF c) (fun h => Nat.le_trans k.1 h)⟩
end
end Go.Proofs.Ythcibbfljcfheaa.Abs
