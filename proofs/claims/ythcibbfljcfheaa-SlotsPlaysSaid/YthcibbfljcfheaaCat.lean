/- Slices read, and appended within their room. No condition of their own. -/
import Derived.Test.YthcibbfljcfheaaApp
namespace Go.Proofs.Ythcibbfljcfheaa.Abs
set_option linter.unusedVariables false
set_option linter.unusedSimpArgs false
/-- A slice that may be read: its cells. -/
def Rs (H : AH) (v : AV) (sz n : Nat) (cs : List AV) : Prop :=
  cs.length = n * sz ∧ ∃ a lo ex sz', v = .sl a n lo ex sz' ∧ n ≤ lo ∧ ((a = none ∧ n = 0) ∨ ∃ b o ro full, a = some (b, o) ∧ b < H.n ∧ H.o b = some (.row ro full) ∧ o + n * sz ≤ full.length ∧ (full.drop o).take (n * sz) = cs)
theorem Sli.rs {H : AH} {v : AV} {sz n : Nat} {cs : List AV} (h : Sli H v sz n cs) : Rs H v sz n cs := by
  refine ⟨h.1, ?_⟩
  rcases h.2 with ⟨e, h0⟩ | ⟨b, ex, e, hb, hr⟩
  · exact ⟨none, 0, true, 0, by rw [e, h0], by omega, Or.inl ⟨rfl, h0⟩⟩
  · exact ⟨_, n, ex, sz, e, Nat.le_refl _, Or.inr ⟨b, 0, false, cs, rfl, hb, hr, by rw [Nat.zero_add, h.1]; exact Nat.le_refl _, by rw [List.drop_zero, List.take_of_length_le (by rw [h.1]; exact Nat.le_refl _)]⟩⟩
theorem Rs.keep {H H' : AH} {v : AV} {sz n : Nat} {cs : List AV} (h : Rs H v sz n cs) (hn : H.n ≤ H'.n) (ho : ∀ b, blk v = some b → b < H.n → H'.o b = H.o b) : Rs H' v sz n cs := by
  obtain ⟨h1, a, lo, ex, sz', hv, hl, h2⟩ := h
  refine ⟨h1, a, lo, ex, sz', hv, hl, h2.elim Or.inl fun ⟨b, o, ro, full, e, hb, hr, h3⟩ => Or.inr ⟨b, o, ro, full, e, Nat.lt_of_lt_of_le hb hn, (ho b (by rw [hv, e]; rfl) hb).trans hr, h3⟩⟩
theorem Rs.keeps {H H' : AH} {v : AV} {sz n : Nat} {cs : List AV} (h : Rs H v sz n cs) (k : Keeps H H') : Rs H' v sz n cs := h.keep k.1 (fun b _ hb => k.2 b hb)
theorem Sli.keeps {H H' : AH} {v : AV} {sz n : Nat} {cs : List AV} (h : Sli H v sz n cs) (k : Keeps H H') : Sli H' v sz n cs := h.keep k.1 (fun b _ hb => k.2 b hb)
theorem Rs.first {H : AH} {v : AV} {sz n : Nat} {cs : List AV} (h : Rs H v sz n cs) : afirst (n * sz) v H = some cs := by
  obtain ⟨h1, a, lo, ex, sz', rfl, hl, h2⟩ := h
  unfold afirst
  rcases h2 with ⟨rfl, rfl⟩ | ⟨b, o, ro, full, rfl, hb, hr, h3, h4⟩
  · have : cs = [] := List.eq_nil_of_length_eq_zero (by rw [h1, Nat.zero_mul])
    subst this
    simp only [Nat.zero_mul, if_true]
  · simp only [hr, if_pos h3, h4]
    split
    · rename_i h0
      rw [h0] at h1
      rw [List.eq_nil_of_length_eq_zero h1]
    · rfl
theorem setR_nil {l : List AV} {k : Nat} : setR l k [] = l := by
  unfold setR
  rw [List.append_nil, List.length_nil, Nat.add_zero, List.take_append_drop]
/-- Within the room. -/
theorem app_in {z : List AV} {y sz : Nat} (hz : z.length = sz) {H : AH} {b l lo n : Nat} {ex : Bool} {full cs : List AV} {x : AV} (hr : H.o b = some (.row false full)) (hf : full.length = lo * sz) (hl : l + n ≤ lo) (hx : Rs H x sz n cs) (hy : (2 * (l + n) + 1000) * y ≤ 281474976710656) :
    ∃ H', aappend z y (.sl (some (b, 0)) l lo ex sz) x H = some (.sl (some (b, 0)) (l + n) lo ex sz, H') ∧ H'.o b = some (.row false (setR full (l * sz) cs)) ∧ H'.n = H.n ∧ ∀ b', b' ≠ b → H'.o b' = H.o b' := by
  subst hz
  have hfi := hx.first
  obtain ⟨h1, a, lo', ex', sz', rfl, hl', h2⟩ := hx
  unfold aappend
  have hle : 0 + (l + n) * z.length ≤ full.length := by rw [hf, Nat.zero_add]; exact Nat.mul_le_mul_right _ hl
  simp only [hfi, hy, and_true, show l ≤ lo from by omega, if_true, hl, hr, hle]
  by_cases h0 : n = 0
  · subst h0
    have : cs = [] := List.eq_nil_of_length_eq_zero (by rw [h1, Nat.zero_mul])
    subst this
    refine ⟨H, by rw [if_pos rfl, Nat.add_zero], by rw [setR_nil]; exact hr, rfl, fun _ _ => rfl⟩
  · refine ⟨H.set b (.row false (setR full (l * z.length) cs)), by rw [if_neg h0, Nat.zero_add], by rw [AH_set_o, if_pos rfl], rfl, fun b' hb => by rw [AH_set_o, if_neg hb]⟩
theorem app_none {z : List AV} {y sz : Nat} (hz : z.length = sz) {H : AH} {cs : List AV} {x : AV} (hx : Rs H x sz 0 cs) (hy : 1000 * y ≤ 281474976710656) : aappend z y (.sl none 0 0 true 0) x H = some (.sl none 0 0 true 0, H) := by
  subst hz
  have hfi := hx.first
  obtain ⟨h1, a, lo', ex', sz', rfl, hl', h2⟩ := hx
  unfold aappend
  simp only [hfi, Nat.le_refl, Nat.add_zero, Nat.mul_zero, Nat.zero_add, hy, and_self, if_true]
theorem setR_two {zs c1 c2 : List AV} {k : Nat} (hz : zs.length = c1.length + c2.length) (hk : k = c1.length) : setR (setR zs 0 c1) k c2 = c1 ++ c2 := by
  subst hk
  unfold setR
  rw [List.take_zero, List.nil_append, Nat.zero_add, List.take_append_of_le_length (Nat.le_refl _), List.take_length, List.drop_append]
  simp
  omega
theorem zerosA_len (z : List AV) (k : Nat) : (zerosA z k).length = k * z.length := by
  induction k with
  | zero => simp [zerosA]
  | succ k ih => rw [zerosA, List.length_append, ih, Nat.succ_mul]; omega
theorem slice_from {k : IntKind} {H : AH} {v : AV} {sz n l : Nat} {cs : List AV} (h : Sli H v sz n cs) (hl : l ≤ n) :
    ∃ a lo ex sz', aslice sz v (some (.i k l)) none none = some (.sl a (n - l) lo ex sz') ∧ Rs H (.sl a (n - l) lo ex sz') sz (n - l) (cs.drop (l * sz)) := by
  have hc : (0 : Int) ≤ l ∧ (l : Int) ≤ n := by omega
  have hlen : (cs.drop (l * sz)).length = (n - l) * sz := by rw [List.length_drop, h.1, Nat.sub_mul]
  rcases h.2 with ⟨rfl, rfl⟩ | ⟨b, ex, rfl, hb, hr⟩
  · have h0 : l = 0 := by omega
    subst h0
    refine ⟨none, 0, true, 0, ?_, hlen, none, 0, true, 0, rfl, Nat.le_refl _, Or.inl ⟨rfl, rfl⟩⟩
    unfold aslice abound acut
    simp [abound]
  · by_cases h1 : l < n
    · refine ⟨some (b, l * sz), n - l, ex, sz, ?_, hlen, _, _, _, _, rfl, Nat.le_refl _, Or.inr ⟨b, l * sz, false, cs, rfl, hb, hr, ?_, ?_⟩⟩
      · unfold aslice
        simp only [true_or, if_true, abound, hc, and_self, Int.toNat_natCast, acut, h1, Nat.zero_add]
      · have := Nat.sub_mul n l sz
        have := Nat.mul_le_mul_right sz hl
        have := h.1
        omega
      · rw [List.take_of_length_le (by rw [hlen]; exact Nat.le_refl _)]
    · have h2 : l = n := by omega
      subst h2
      refine ⟨some (b, 0), 0, ex, sz, ?_, hlen, _, _, _, _, rfl, by omega, Or.inr ⟨b, 0, false, cs, rfl, hb, hr, by simp, ?_⟩⟩
      · unfold aslice
        simp only [true_or, if_true, abound, hc, and_self, Int.toNat_natCast, acut, Nat.lt_irrefl, if_false, ite_self, Nat.sub_self]
      · rw [Nat.sub_self, Nat.zero_mul, List.take_zero, List.drop_of_length_le (by rw [h.1]; exact Nat.le_refl _)]
theorem slice_to {k : IntKind} {H : AH} {v : AV} {sz n h' : Nat} {cs : List AV} (h : Sli H v sz n cs) (hl : h' ≤ n) :
    ∃ a lo ex sz', aslice sz v none (some (.i k h')) none = some (.sl a h' lo ex sz') ∧ Rs H (.sl a h' lo ex sz') sz h' (cs.take (h' * sz)) := by
  have hc : (0 : Int) ≤ h' ∧ (h' : Int) ≤ n := by omega
  have hle := Nat.mul_le_mul_right sz hl
  have hlen : (cs.take (h' * sz)).length = h' * sz := by rw [List.length_take, h.1]; omega
  rcases h.2 with ⟨rfl, rfl⟩ | ⟨b, ex, rfl, hb, hr⟩
  · have h0 : h' = 0 := by omega
    subst h0
    refine ⟨none, 0, true, 0, ?_, hlen, none, 0, true, 0, rfl, Nat.le_refl _, Or.inl ⟨rfl, rfl⟩⟩
    unfold aslice abound acut
    simp [abound]
  · by_cases h1 : 0 < n
    · refine ⟨some (b, 0), n, ex, sz, ?_, hlen, _, _, _, _, rfl, hl, Or.inr ⟨b, 0, false, cs, rfl, hb, hr, by rw [h.1]; omega, by rw [List.drop_zero]⟩⟩
      unfold aslice
      simp only [true_or, if_true, abound, hc, and_self, Int.toNat_natCast, acut, h1, Nat.zero_add, Nat.zero_mul, Nat.sub_zero]
    · have h2 : n = 0 := by omega
      subst h2
      have h3 : h' = 0 := by omega
      subst h3
      refine ⟨some (b, 0), 0, ex, sz, ?_, hlen, _, _, _, _, rfl, by omega, Or.inr ⟨b, 0, false, cs, rfl, hb, hr, by simp, by simp⟩⟩
      unfold aslice
      simp [abound, acut]
end Go.Proofs.Ythcibbfljcfheaa.Abs
