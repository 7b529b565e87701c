/- Slices that grow by appending. No condition of their own. -/
import Derived.Test.YthcibbfljcfheaaKeeps
namespace Go.Proofs.Ythcibbfljcfheaa.Abs
set_option linter.unusedVariables false
set_option linter.unusedSimpArgs false
def blk : AV → Option Nat
  | .sl (some (b, _)) _ _ _ _ => some b
  | _ => none
/-- A slice that grew from none by appending: its cells. -/
def Sli (H : AH) (v : AV) (sz n : Nat) (cs : List AV) : Prop :=
  cs.length = n * sz ∧ ((v = .sl none 0 0 true 0 ∧ n = 0) ∨ ∃ b ex, v = .sl (some (b, 0)) n n ex sz ∧ b < H.n ∧ H.o b = some (.row false cs))
theorem Sli.nil {H : AH} {sz : Nat} : Sli H (.sl none 0 0 true 0) sz 0 [] := ⟨by simp, Or.inl ⟨rfl, rfl⟩⟩
theorem Sli.keep {H H' : AH} {v : AV} {sz n : Nat} {cs : List AV} (h : Sli H v sz n cs) (hn : H.n ≤ H'.n) (ho : ∀ b, blk v = some b → b < H.n → H'.o b = H.o b) : Sli H' v sz n cs :=
  ⟨h.1, h.2.elim Or.inl (fun ⟨b, ex, e, hb, hr⟩ => Or.inr ⟨b, ex, e, Nat.lt_of_lt_of_le hb hn, (ho b (by rw [e]; rfl) hb).trans hr⟩)⟩
theorem Sli.len {H : AH} {v : AV} {sz n : Nat} {cs : List AV} (h : Sli H v sz n cs) : ∃ a lo ex sz', v = .sl a n lo ex sz' := by
  rcases h.2 with ⟨e, h0⟩ | ⟨b, ex, e, _⟩
  · exact ⟨none, 0, true, 0, by rw [e, h0]⟩
  · exact ⟨some (b, 0), n, ex, sz, e⟩
theorem AH_move_n {H : AH} {b : Nat} {x : AObj} : (H.move b x).n = H.n + 1 := rfl
theorem AH_move_o {H : AH} {b b' : Nat} {x : AObj} : (H.move b x).o b' = if b' = H.n then some x else if b' = b then none else H.o b' := rfl
/-- One more behind it. -/
theorem app_one {z : List AV} {y sz : Nat} (hz : z.length = sz) {H : AH} {v : AV} {n : Nat} {cs xs : List AV} (h : Sli H v sz n cs) (hx : xs.length = sz) (hy : (2 * (n + 1) + 1000) * y ≤ 281474976710656) :
    ∃ v' H', aappend z y v (.sl (some (H.n, 0)) 1 1 true sz) (H.new (.row false xs)) = some (v', H') ∧ Sli H' v' sz (n + 1) (cs ++ xs) ∧ H.n ≤ H'.n ∧ (∀ b, b < H.n → blk v ≠ some b → H'.o b = H.o b) ∧ (∀ b, blk v' = some b → H.n ≤ b) := by
  subst hz
  have hlen : (cs ++ xs).length = (n + 1) * z.length := by rw [List.length_append, h.1, hx, Nat.succ_mul]
  have hf : afirst (1 * z.length) (.sl (some (H.n, 0)) 1 1 true z.length) (H.new (.row false xs)) = some xs := by
    unfold afirst
    simp only [Nat.one_mul, Nat.zero_add, AH_new_o, if_true]
    split
    · rename_i h0
      rw [h0] at hx
      rw [List.eq_nil_of_length_eq_zero hx]
    · rw [if_pos (by omega), List.drop_zero, List.take_of_length_le (by omega)]
  unfold aappend
  rcases h.2 with ⟨rfl, rfl⟩ | ⟨b, ex, rfl, hb, hr⟩
  · have hc : cs = [] := List.eq_nil_of_length_eq_zero (by rw [h.1, Nat.zero_mul])
    subst hc
    refine ⟨.sl (some (H.n + 1, 0)) 1 1 false z.length, (H.new (.row false xs)).new (.row false xs), ?_, ⟨hlen, Or.inr ⟨H.n + 1, false, rfl, Nat.lt_succ_self _, by rw [AH_new_o, AH_new_n, if_pos rfl]; rfl⟩⟩, ?_, ?_, ?_⟩
    · simp only [Nat.le_refl, true_and, hy, if_true, hf]
      simp only [Nat.zero_add, show ¬ (1 ≤ 0) from by decide, if_false, afirst, Nat.zero_mul, if_true, List.nil_append, AH_new_n, if_pos]
    · simp only [AH_new_n]; omega
    · intro b hb _
      rw [AH_new_o, if_neg (by rw [AH_new_n]; omega), AH_new_o, if_neg (by omega)]
    · intro b hb; cases hb; omega
  · have hbn : b ≠ H.n := by omega
    have ho : afirst (n * z.length) (.sl (some (b, 0)) n n ex z.length) (H.new (.row false xs)) = some cs := by
      unfold afirst
      simp only [Nat.zero_add, AH_new_o, if_neg hbn, hr]
      split
      · rename_i h0
        have := h.1
        rw [h0] at this
        rw [List.eq_nil_of_length_eq_zero this]
      · have := h.1
        rw [if_pos (by omega), List.drop_zero, List.take_of_length_le (by omega)]
    cases ex
    · refine ⟨.sl (some (H.n + 1, 0)) (n + 1) (n + 1) false z.length, (H.new (.row false xs)).move b (.row false (cs ++ xs)), ?_, ⟨hlen, Or.inr ⟨H.n + 1, false, rfl, Nat.lt_succ_self _, by rw [AH_move_o, AH_new_n, if_pos rfl]⟩⟩, ?_, ?_, ?_⟩
      · simp only [Nat.le_refl, true_and, hy, if_true, hf, show ¬ (n + 1 ≤ n) from by omega, if_false, ho, AH_new_o, if_neg hbn, hr, AH_new_n]
        rfl
      · simp only [AH_move_n, AH_new_n]; omega
      · intro b' hb' hv
        rw [AH_move_o, if_neg (by rw [AH_new_n]; omega), if_neg (fun e => hv (by rw [e]; rfl)), AH_new_o, if_neg (by omega)]
      · intro b' hb'; cases hb'; omega
    · refine ⟨.sl (some (H.n + 1, 0)) (n + 1) (n + 1) false z.length, (H.new (.row false xs)).new (.row false (cs ++ xs)), ?_, ⟨hlen, Or.inr ⟨H.n + 1, false, rfl, Nat.lt_succ_self _, by rw [AH_new_o, AH_new_n, if_pos rfl]⟩⟩, ?_, ?_, ?_⟩
      · simp only [Nat.le_refl, true_and, hy, if_true, hf, show ¬ (n + 1 ≤ n) from by omega, if_false, ho, AH_new_o, if_neg hbn, hr, AH_new_n]
      · simp only [AH_new_n]; omega
      · intro b' hb' hv
        rw [AH_new_o, if_neg (by rw [AH_new_n]; omega), AH_new_o, if_neg (by omega)]
      · intro b' hb'; cases hb'; omega
/-- All of one behind none. -/
theorem app_all {z : List AV} {y sz : Nat} (hz : z.length = sz) {H : AH} {v : AV} {n : Nat} {cs : List AV} (h : Sli H v sz n cs) (hy : (2 * n + 1000) * y ≤ 281474976710656) :
    ∃ v' H', aappend z y (.sl none 0 0 true 0) v H = some (v', H') ∧ Sli H' v' sz n cs ∧ Keeps H H' ∧ (∀ b, blk v' = some b → H.n ≤ b) := by
  subst hz
  have hy' : (2 * (0 + n) + 1000) * y ≤ 281474976710656 := by rw [Nat.zero_add]; exact hy
  unfold aappend
  rcases h.2 with ⟨rfl, rfl⟩ | ⟨b, ex, rfl, hb, hr⟩
  · have hc : cs = [] := List.eq_nil_of_length_eq_zero (by rw [h.1, Nat.zero_mul])
    subst hc
    refine ⟨.sl none 0 0 true 0, H, ?_, Sli.nil, Keeps.refl _, fun b h => by cases h⟩
    simp only [Nat.le_refl, true_and, hy', if_true, afirst, Nat.zero_mul, Nat.add_zero]
  · by_cases h0 : n = 0
    · subst h0
      have hc : cs = [] := List.eq_nil_of_length_eq_zero (by rw [h.1, Nat.zero_mul])
      subst hc
      refine ⟨.sl none 0 0 true 0, H, ?_, Sli.nil, Keeps.refl _, fun b h => by cases h⟩
      simp only [Nat.le_refl, true_and, hy', if_true, afirst, Nat.zero_mul, Nat.add_zero]
    · have hf : afirst (n * z.length) (.sl (some (b, 0)) n n ex z.length) H = some cs := by
        unfold afirst
        simp only [hr]
        split
        · rename_i h1
          have := h.1
          rw [h1] at this
          rw [List.eq_nil_of_length_eq_zero this]
        · have := h.1
          rw [if_pos (by omega), List.drop_zero, List.take_of_length_le (by omega)]
      refine ⟨.sl (some (H.n, 0)) n n false z.length, H.new (.row false cs), ?_, ⟨h.1, Or.inr ⟨H.n, false, rfl, Nat.lt_succ_self _, by rw [AH_new_o, if_pos rfl]⟩⟩, (Keeps.refl _).new, fun b h => by cases h; exact Nat.le_refl _⟩
      simp only [Nat.le_refl, true_and, hy', if_true, hf]
      simp only [Nat.zero_add, show ¬ (n ≤ 0) from by omega, if_false, afirst, Nat.zero_mul, if_true, List.nil_append]
end Go.Proofs.Ythcibbfljcfheaa.Abs
