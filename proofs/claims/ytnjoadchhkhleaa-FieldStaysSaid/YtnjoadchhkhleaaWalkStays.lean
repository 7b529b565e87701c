/- FieldStays, at every input: it returns true, and nothing that was there is turned. -/
import Derived.Test.YtnjoadchhkhleaaPureField
import Derived.Test.YtnjoadchhkhleaaQ6
namespace Go.Proofs.Ytnjoadchhkhleaa.Q
open Go.RowKit Go.Proofs.YtnjoadchhkhleaaW.PrintWords Go.Proofs.YtnjoadchhkhleaaW.PrintMore Fut

theorem and_most {d v : Nat} : v &&& (2 ^ d - 1) = v % 2 ^ d := Nat.and_two_pow_sub_one_eq_mod v d
theorem get_put {a d : Nat} (h : a + d ≤ 64) (w v : Nat) (hw : w < 2 ^ 64) : getN a d (putN a d w v) = v &&& (2 ^ d - 1) := by
  apply Nat.eq_of_testBit_eq
  intro j
  rw [testBit_getN, testBit_putN h w v _ hw, Nat.testBit_and, Nat.testBit_two_pow_sub_one]
  by_cases hj : j < d
  · rw [if_pos (by omega), show a + j - a = j from by omega]; simp [hj]
  · simp [hj]
theorem put_get {a d : Nat} (h : a + d ≤ 64) (w v : Nat) (hw : w < 2 ^ 64) : putN a d (putN a d w v) (getN a d w) = w := by
  apply Nat.eq_of_testBit_eq
  intro j
  rw [testBit_putN h _ _ _ (putN_lt h w v hw), testBit_getN, testBit_putN h w v _ hw]
  by_cases hj : a ≤ j ∧ j < a + d
  · rw [if_pos hj, show a + (j - a) = j from by omega]
    have : j - a < d := by omega
    simp [this]
  · rw [if_neg hj, if_neg hj]
theorem get_other {a d a' d' : Nat} (h : a + d ≤ 64) (hm : mask a d &&& mask a' d' = 0) (w v : Nat) (hw : w < 2 ^ 64) : getN a' d' (putN a d w v) = getN a' d' w := by
  apply Nat.eq_of_testBit_eq
  intro j
  rw [testBit_getN, testBit_getN, testBit_putN h w v _ hw]
  by_cases hj : j < d'
  · have := congrArg (fun n => n.testBit (a' + j)) hm
    simp only [Nat.testBit_and, testBit_mask, Nat.zero_testBit] at this
    by_cases h2 : a ≤ a' + j ∧ a' + j < a + d
    · exfalso; simp [h2.1, h2.2, hj] at this
    · rw [if_neg h2]
  · simp [hj]
theorem mask_ne {a d : Nat} (h : 1 ≤ d) : mask a d ≠ 0 := by
  unfold mask
  have h1 : 2 ^ 1 ≤ 2 ^ d := Nat.pow_le_pow_right (by omega) h
  have h2 := Nat.two_pow_pos a
  have h3 : 0 < (2 ^ d - 1) * 2 ^ a := Nat.mul_pos (by omega) h2
  omega

/-- Two fields: whether they are apart. -/
theorem apart_two (a d a' d' : Nat) (k : Nat) (hk : 10 ≤ k) (ha : a < 256) (hd : d < 256) (ha' : a' < 256) (hd' : d' < 256) (hm : mayP a d) :
    ∃ b, field_Apart.f k [⟨(a : Int), (d : Int)⟩, ⟨(a' : Int), (d' : Int)⟩] = some b ∧ (b = true → mayP a' d' ∧ mask a d &&& mask a' d' = 0) := by
  obtain ⟨k, rfl⟩ : ∃ m, k = m + 1 := ⟨k - 1, by omega⟩
  have hm' := hm
  unfold mayP at hm'
  have hz := mask_ne (a := a) (d := d) (by omega)
  have hlt := mask_lt (a := a) (d := d) (by omega)
  have w1 : wrap64 ((0 : Int) + 1) = 1 := wrap_id 1 (by decide) (by decide)
  have w2 : wrap64 ((1 : Int) + 1) = 2 := wrap_id 2 (by decide) (by decide)
  have r0 : rd_T25 [⟨(a : Int), (d : Int)⟩, ⟨(a' : Int), (d' : Int)⟩] 0 = ⟨(a : Int), (d : Int)⟩ := rfl
  have r1 : rd_T25 [⟨(a : Int), (d : Int)⟩, ⟨(a' : Int), (d' : Int)⟩] 1 = ⟨(a' : Int), (d' : Int)⟩ := rfl
  unfold field_Apart.f
  simp only [field_Apart.l0, List.length_cons, List.length_nil]
  rw [if_pos (by omega), if_pos (by omega), if_pos (by omega), r0]
  simp only []
  rw [mask_eq a d ha hd]
  simp only [Option.bind_some]
  rw [if_pos hm, if_neg (by omega)]
  have e0 : Go.bits .and .u64 (0 : Int) ((mask a d : Nat) : Int) = 0 := by
    rw [u64_and _ _ (by decide) (by decide) (by omega) (by omega)]; simp
  have e1 : Go.bits .or .u64 (0 : Int) ((mask a d : Nat) : Int) = ((mask a d : Nat) : Int) := by
    rw [u64_or _ _ (by decide) (by decide) (by omega) (by omega)]; simp
  rw [e0, if_pos rfl, e1, w1]
  obtain ⟨k, rfl⟩ : ∃ m, k = m + 1 := ⟨k - 1, by clear w1 w2 e0 e1; omega⟩
  simp only [field_Apart.l0, List.length_cons, List.length_nil]
  rw [if_pos (by clear w1 w2 e0 e1; omega), if_pos (by decide), if_pos (by clear w1 w2 e0 e1; omega), r1]
  simp only []
  rw [mask_eq a' d' ha' hd']
  simp only [Option.bind_some]
  by_cases hm2 : mayP a' d'
  · rw [if_pos hm2]
    have hm2' := hm2
    unfold mayP at hm2'
    have hz2 := mask_ne (a := a') (d := d') (by omega)
    have hlt2 := mask_lt (a := a') (d := d') (by omega)
    rw [if_neg (by clear w1 w2 e0 e1; omega), u64_and_nat _ _ hlt hlt2]
    by_cases hx : mask a d &&& mask a' d' = 0
    · obtain ⟨k, rfl⟩ : ∃ m, k = m + 1 := ⟨k - 1, by clear w1 w2 e0 e1; omega⟩
      rw [if_pos (by rw [hx]; rfl), w2]
      simp only [field_Apart.l0, List.length_cons, List.length_nil]
      rw [if_neg (by clear w1 w2 e0 e1; omega)]
      exact ⟨true, rfl, fun _ => ⟨hm2, hx⟩⟩
    · rw [if_neg (by clear w1 w2 e0 e1; omega)]
      exact ⟨false, rfl, fun h => by cases h⟩
  · rw [if_neg hm2, if_pos rfl]
    exact ⟨false, rfl, fun h => by cases h⟩

theorem stays_pure (a d a' d' w v : Nat) (ha : a < 256) (hd : d < 256) (ha' : a' < 256) (hd' : d' < 256) (hw : w < 18446744073709551616) (hv : v < 18446744073709551616) :
    futtocklaw01_FieldStays.f 100 a d a' d' w v = some true := by
  unfold futtocklaw01_FieldStays.f
  rw [put_eq a d w v ha hd hw, may_eq _ _ (by omega) (by omega) (by omega) (by omega)]
  simp only [Option.bind_some]
  by_cases h : mayP a d
  · rw [if_pos (by simpa using h), if_pos h]
    have h' := h
    unfold mayP at h'
    have hp := putN_lt (a := a) (d := d) (by omega) w v hw
    have hd1 := Nat.two_pow_pos d
    have hd2 : 2 ^ d ≤ 2 ^ 64 := Nat.pow_le_pow_right (by omega) (by omega)
    rw [get_eq a d _ ha hd hp, most_eq a d ha hd, get_eq a d w ha hd hw]
    simp only [Option.bind_some]
    rw [if_pos h, if_pos h, if_pos h, u64_and_nat _ _ hv (by omega), get_put (by omega) w v hw, if_pos rfl, put_eq a d _ _ ha hd hp]
    simp only [Option.bind_some]
    rw [if_pos h, put_get (by omega) w v hw]
    simp only [futtocklaw01_FieldStays.j0]
    rw [if_neg (by simp)]
    obtain ⟨b, hb, hb2⟩ := apart_two a d a' d' 99 (by omega) ha hd ha' hd' h
    rw [hb]
    simp only [Option.bind_some]
    cases b with
    | false => rw [if_neg (by simp), alive_eq]; rfl
    | true =>
      obtain ⟨hm2, hx⟩ := hb2 rfl
      rw [if_pos rfl, get_eq a' d' _ ha' hd' hp, get_eq a' d' w ha' hd' hw]
      simp only [Option.bind_some]
      rw [if_pos hm2, if_pos hm2, get_other (by omega) hx w v hw, if_pos rfl, alive_eq]; rfl
  · rw [if_neg (by simpa using h), if_neg h, if_pos rfl, get_eq a d w ha hd hw]
    simp only [Option.bind_some]
    rw [if_neg h, if_pos rfl, alive_eq]; rfl
theorem stays_walk (W : World) (a d : Int) (wa : (Lit.int .u8 a).wf = true) (wd : (Lit.int .u8 d).wf = true) (a' d' : Int) (wa' : (Lit.int .u8 a').wf = true) (wd' : (Lit.int .u8 d').wf = true) (w v : Int) (ww : (Lit.int .u64 w).wf = true) (wv : (Lit.int .u64 v).wf = true) :
    Calls Try.prog 5 #[.agg #[.int .u8 a, .int .u8 d], .agg #[.int .u8 a', .int .u8 d'], .agg #[.int .u64 w, .int .u64 v]] W fun e W' => e = .returned (.bool true) ∧ Below W.heap.size W W' := by
  obtain ⟨a, rfl, ha⟩ := nat_u8 wa
  obtain ⟨d, rfl, hd⟩ := nat_u8 wd
  obtain ⟨a', rfl, ha'⟩ := nat_u8 wa'
  obtain ⟨d', rfl, hd'⟩ := nat_u8 wd'
  obtain ⟨w, rfl, hw⟩ := nat_u64 ww
  obtain ⟨v, rfl, hv⟩ := nat_u64 wv
  exact futtocklaw01_FieldStays.calls 100 _ _ _ _ _ _ true W (stays_pure a d a' d' w v ha hd ha' hd' hw hv) rfl
end Go.Proofs.Ytnjoadchhkhleaa.Q
