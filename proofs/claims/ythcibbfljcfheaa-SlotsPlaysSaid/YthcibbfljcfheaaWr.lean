/- Slices with room: read, cut, appended to, wherever they stand in their object. No condition of their own. -/
import Derived.Test.YthcibbfljcfheaaCat
import Derived.Test.YthcibbfljcfheaaIsin
import Derived.Test.YthcibbfljcfheaaSp
namespace Go.Proofs.Ythcibbfljcfheaa.Abs
set_option linter.unusedVariables false
set_option linter.unusedSimpArgs false
/-- A slice that may be written: its cells. -/
def Wr (H : AH) (v : AV) (sz n : Nat) (cs : List AV) : Prop :=
  cs.length = n * sz ∧ ((v = .sl none 0 0 true 0 ∧ n = 0) ∨ ∃ b o lo ex full, v = .sl (some (b, o)) n lo ex sz ∧ b < H.n ∧ H.o b = some (.row false full) ∧ n ≤ lo ∧ o + lo * sz ≤ full.length ∧ (full.drop o).take (n * sz) = cs)
theorem Wr.nil {H : AH} {sz : Nat} : Wr H (.sl none 0 0 true 0) sz 0 [] := ⟨by simp, Or.inl ⟨rfl, rfl⟩⟩
theorem Wr.keep {H H' : AH} {v : AV} {sz n : Nat} {cs : List AV} (h : Wr H v sz n cs) (hn : H.n ≤ H'.n) (ho : ∀ b, blk v = some b → b < H.n → H'.o b = H.o b) : Wr H' v sz n cs :=
  ⟨h.1, h.2.elim Or.inl (fun ⟨b, o, lo, ex, full, e, hb, hr, h3⟩ => Or.inr ⟨b, o, lo, ex, full, e, Nat.lt_of_lt_of_le hb hn, (ho b (by rw [e]; rfl) hb).trans hr, h3⟩)⟩
theorem Wr.keeps {H H' : AH} {v : AV} {sz n : Nat} {cs : List AV} (h : Wr H v sz n cs) (k : Keeps H H') : Wr H' v sz n cs := h.keep k.1 (fun b _ hb => k.2 b hb)
theorem Wr.new {H : AH} {v : AV} {sz n : Nat} {cs : List AV} (h : Wr H v sz n cs) {x : AObj} : Wr (H.new x) v sz n cs := h.keeps (Keeps.refl _).new
theorem Wr.off {H : AH} {v : AV} {sz n c : Nat} {cs : List AV} (h : Wr H v sz n cs) {x : AObj} (hc : blk v ≠ some c) : Wr (H.set c x) v sz n cs :=
  h.keep (Nat.le_refl _) (fun b hb _ => by rw [AH_set_o, if_neg (fun e => hc (by rw [hb, e]))])
theorem Wr.len {H : AH} {v : AV} {sz n : Nat} {cs : List AV} (h : Wr H v sz n cs) : ∃ a lo ex sz', v = .sl a n lo ex sz' := by
  rcases h.2 with ⟨e, h0⟩ | ⟨b, o, lo, ex, full, e, _⟩
  · exact ⟨none, 0, true, 0, by rw [e, h0]⟩
  · exact ⟨some (b, o), lo, ex, sz, e⟩
theorem Wr.old {H : AH} {v : AV} {sz n b : Nat} {cs : List AV} (h : Wr H v sz n cs) (hb : blk v = some b) : b < H.n := by
  rcases h.2 with ⟨e, h0⟩ | ⟨b', o, lo, ex, full, e, h', _⟩
  · rw [e] at hb; cases hb
  · rw [e] at hb; cases hb; exact h'
theorem Wr.nemap {H : AH} {v : AV} {sz n m b : Nat} {cs : List AV} {es : List (AV × AV)} {bc : List Nat × Nat} (h : Wr H v sz n cs) (hm : H.o m = some (.mapo es bc)) (hb : blk v = some b) : b ≠ m := by
  rcases h.2 with ⟨e, h0⟩ | ⟨b', o, lo, ex, full, e, h', hr, _⟩
  · rw [e] at hb; cases hb
  · rw [e] at hb; cases hb
    rintro rfl
    rw [hm] at hr
    cases hr
theorem Sli.wr {H : AH} {v : AV} {sz n : Nat} {cs : List AV} (h : Sli H v sz n cs) : Wr H v sz n cs := by
  refine ⟨h.1, h.2.imp id ?_⟩
  rintro ⟨b, ex, e, hb, hr⟩
  exact ⟨b, 0, n, ex, cs, e, hb, hr, Nat.le_refl _, by rw [Nat.zero_add, h.1]; exact Nat.le_refl _, by rw [List.drop_zero, List.take_of_length_le (by rw [h.1]; exact Nat.le_refl _)]⟩
theorem Wr.rs {H : AH} {v : AV} {sz n : Nat} {cs : List AV} (h : Wr H v sz n cs) : Rs H v sz n cs := by
  refine ⟨h.1, ?_⟩
  rcases h.2 with ⟨e, h0⟩ | ⟨b, o, lo, ex, full, e, hb, hr, hl, hf, hc⟩
  · exact ⟨none, 0, true, 0, by rw [e, h0], by omega, Or.inl ⟨rfl, h0⟩⟩
  · exact ⟨_, lo, ex, sz, e, hl, Or.inr ⟨b, o, false, full, rfl, hb, hr, Nat.le_trans (Nat.add_le_add_left (Nat.mul_le_mul_right _ hl) _) hf, hc⟩⟩
/-- An element read. -/
theorem Rs.el {H : AH} {v : AV} {sz n j : Nat} {cs : List AV} (h : Rs H v sz n cs) (hj : j < n) : ∃ b o lo ex sz' ro full, v = .sl (some (b, o)) n lo ex sz' ∧ b < H.n ∧ H.o b = some (.row ro full) ∧ o + j * sz + sz ≤ full.length ∧ (∀ d, d < sz → full[o + j * sz + d]? = cs[j * sz + d]?) ∧ (full.drop (o + j * sz)).take sz = (cs.drop (j * sz)).take sz := by
  obtain ⟨h1, a, lo, ex, sz', hv, hl, h2⟩ := h
  rcases h2 with ⟨rfl, rfl⟩ | ⟨b, o, ro, full, rfl, hb, hr, h3, h4⟩
  · omega
  · have hle : j * sz + sz ≤ n * sz := by rw [← Nat.succ_mul]; exact Nat.mul_le_mul_right _ hj
    refine ⟨b, o, lo, ex, sz', ro, full, hv, hb, hr, by omega, fun d hd => ?_, ?_⟩
    · rw [← h4, List.getElem?_take, if_pos (by omega), List.getElem?_drop]
      congr 1; omega
    · rw [← h4, List.drop_take, List.take_take, List.drop_drop, Nat.min_eq_left (by omega)]
/-- .. of whole numbers. -/
theorem Rs.el1 {α : Type} {f : α → AV} {H : AH} {v : AV} {n j : Nat} {l : List α} {x : α} (h : Rs H v 1 n (l.map f)) (hx : l[j]? = some x) : ∃ b o lo ex sz' ro full, v = .sl (some (b, o)) n lo ex sz' ∧ b < H.n ∧ H.o b = some (.row ro full) ∧ full[o + j]? = some (f x) := by
  have hl : l.length = n := by have := h.1; simpa using this
  have hj : j < n := by have := (List.getElem?_eq_some_iff.1 hx).1; omega
  obtain ⟨b, o, lo, ex, sz', ro, full, e, hb, hr, _, h1, _⟩ := h.el hj
  refine ⟨b, o, lo, ex, sz', ro, full, e, hb, hr, ?_⟩
  have := h1 0 (by omega)
  rw [Nat.mul_one, Nat.add_zero, Nat.add_zero] at this
  rw [this, List.getElem?_map, hx]
  rfl
theorem Rs.elf {α : Type} {f : α → AV} {H : AH} {v : AV} {n : Nat} {l : List α} (h : Rs H v 1 n (l.map f)) (h0 : 0 < n) : ∃ b o lo ex sz' ro full, v = .sl (some (b, o)) n lo ex sz' ∧ b < H.n ∧ H.o b = some (.row ro full) ∧ ∀ j x, l[j]? = some x → full[o + j]? = some (f x) := by
  have hl : l.length = n := by have := h.1; simpa using this
  obtain ⟨b, o, lo, ex, sz', ro, full, e, hb, hr, _⟩ := h.el h0
  refine ⟨b, o, lo, ex, sz', ro, full, e, hb, hr, fun j x hx => ?_⟩
  obtain ⟨b', o', lo', ex', sz'', ro', full', e', hb', hr', hel⟩ := h.el1 hx
  rw [e] at e'
  cases e'
  rw [hr] at hr'
  cases hr'
  exact hel
/-- Appended to. -/
theorem Wr.app {z : List AV} {y sz : Nat} (hz : z.length = sz) {H : AH} {v x : AV} {n m : Nat} {cs xs : List AV} (h : Wr H v sz n cs) (hx : Rs H x sz m xs) (hy : (2 * (n + m) + 1000) * y ≤ 281474976710656) :
    ∃ v' H', aappend z y v x H = some (v', H') ∧ Wr H' v' sz (n + m) (cs ++ xs) ∧ H.n ≤ H'.n ∧ (∀ b, b < H.n → blk v ≠ some b → H'.o b = H.o b) ∧ (∀ b, blk v' = some b → blk v = some b ∨ H.n ≤ b) := by
  subst hz
  have hlen : (cs ++ xs).length = (n + m) * z.length := by rw [List.length_append, h.1, hx.1, Nat.add_mul]
  have hf := hx.first
  have ho := h.rs.first
  obtain ⟨h1, a, lo', ex', sz', rfl, hl', h2⟩ := hx
  unfold aappend
  rcases h.2 with ⟨rfl, rfl⟩ | ⟨b, o, lo, ex, full, rfl, hb, hr, hl, hfl, hc⟩
  · have hcs : cs = [] := List.eq_nil_of_length_eq_zero (by rw [h.1, Nat.zero_mul])
    subst hcs
    rw [Nat.zero_add] at hlen hy
    by_cases h0 : m = 0
    · subst h0
      have hxs : xs = [] := List.eq_nil_of_length_eq_zero (by rw [h1, Nat.zero_mul])
      subst hxs
      refine ⟨_, H, ?_, Wr.nil, Nat.le_refl _, fun _ _ _ => rfl, fun b hb => by cases hb⟩
      simp only [Nat.le_refl, true_and, Nat.zero_add, hy, if_true, hf]
    · refine ⟨.sl (some (H.n, 0)) m m false z.length, H.new (.row false xs), ?_, ?_, Nat.le_succ _, fun b hb _ => by rw [AH_new_o, if_neg (by omega)], fun b hb => by cases hb; exact Or.inr (Nat.le_refl _)⟩
      · simp only [Nat.le_refl, true_and, Nat.zero_add, hy, if_true, hf]
        simp only [show ¬ (m ≤ 0) from by omega, if_false, afirst, Nat.zero_mul, if_true, List.nil_append]
      · rw [Nat.zero_add]
        exact ⟨hlen, Or.inr ⟨H.n, 0, m, false, xs, rfl, Nat.lt_succ_self _, by rw [AH_new_o, if_pos rfl], Nat.le_refl _, by rw [Nat.zero_add, h1]; exact Nat.le_refl _, by rw [List.drop_zero, List.take_of_length_le (by rw [h1]; exact Nat.le_refl _), List.nil_append]⟩⟩
  · simp only [hl, true_and, hy, if_true, hf]
    by_cases hle : n + m ≤ lo
    · simp only [hle, if_true]
      by_cases h0 : m = 0
      · subst h0
        have hxs : xs = [] := List.eq_nil_of_length_eq_zero (by rw [h1, Nat.zero_mul])
        subst hxs
        refine ⟨_, H, by simp only [if_true], ?_, Nat.le_refl _, fun _ _ _ => rfl, fun b hb => Or.inl hb⟩
        rw [List.append_nil, Nat.add_zero]
        exact h
      · have hle2 : o + (n + m) * z.length ≤ full.length := Nat.le_trans (Nat.add_le_add_left (Nat.mul_le_mul_right _ hle) _) hfl
        refine ⟨.sl (some (b, o)) (n + m) lo ex z.length, H.set b (.row false (setR full (o + n * z.length) xs)), by simp only [h0, if_false, hr, hle2, if_true], ?_, Nat.le_refl _, fun b' hb' hne => by rw [AH_set_o, if_neg (fun e => hne (by rw [e]; rfl))], fun b' hb' => Or.inl hb'⟩
        have hm := Nat.add_mul n m z.length
        refine ⟨hlen, Or.inr ⟨b, o, lo, ex, _, rfl, hb, by rw [AH_set_o, if_pos rfl], hle, ?_, ?_⟩⟩
        · unfold setR
          simp only [List.length_append, List.length_take, List.length_drop]
          omega
        · unfold setR
          have e1 : (full.take (o + n * z.length)).drop o = cs := by rw [List.drop_take, Nat.add_sub_cancel_left]; exact hc
          rw [List.append_assoc, List.drop_append_of_le_length (by rw [List.length_take]; omega), e1, ← List.append_assoc, List.take_append_of_le_length (by rw [hlen]; exact Nat.le_refl _), List.take_of_length_le (by rw [hlen]; exact Nat.le_refl _)]
    · simp only [hle, if_false, ho]
      cases ex
      · refine ⟨.sl (some (H.n, 0)) (n + m) (n + m) false z.length, H.move b (.row false (cs ++ xs)), by simp only [hr, if_true, Bool.false_eq_true, if_false], ⟨hlen, Or.inr ⟨H.n, 0, n + m, false, cs ++ xs, rfl, Nat.lt_succ_self _, by rw [AH_move_o, if_pos rfl], Nat.le_refl _, by rw [Nat.zero_add, hlen]; exact Nat.le_refl _, by rw [List.drop_zero, List.take_of_length_le (by rw [hlen]; exact Nat.le_refl _)]⟩⟩, Nat.le_succ _, fun b' hb' hne => by rw [AH_move_o, if_neg (by omega), if_neg (fun e => hne (by rw [e]; rfl))], fun b' hb' => by cases hb'; exact Or.inr (Nat.le_refl _)⟩
      · refine ⟨.sl (some (H.n, 0)) (n + m) (n + m) false z.length, H.new (.row false (cs ++ xs)), by simp only [if_true], ⟨hlen, Or.inr ⟨H.n, 0, n + m, false, cs ++ xs, rfl, Nat.lt_succ_self _, by rw [AH_new_o, if_pos rfl], Nat.le_refl _, by rw [Nat.zero_add, hlen]; exact Nat.le_refl _, by rw [List.drop_zero, List.take_of_length_le (by rw [hlen]; exact Nat.le_refl _)]⟩⟩, Nat.le_succ _, fun b' hb' hne => by rw [AH_new_o, if_neg (by omega)], fun b' hb' => by cases hb'; exact Or.inr (Nat.le_refl _)⟩
/-- Within the room. -/
theorem app_room {z : List AV} {y sz : Nat} (hz : z.length = sz) {H : AH} {b o n lo m : Nat} {ex : Bool} {full cs xs : List AV} {x : AV} (hb : b < H.n) (hr : H.o b = some (.row false full)) (hf : o + lo * sz ≤ full.length) (hl : n + m ≤ lo) (hc : (full.drop o).take (n * sz) = cs) (hcl : cs.length = n * sz) (hx : Rs H x sz m xs) (hy : (2 * (n + m) + 1000) * y ≤ 281474976710656) :
    ∃ H' full', aappend z y (.sl (some (b, o)) n lo ex sz) x H = some (.sl (some (b, o)) (n + m) lo ex sz, H') ∧ H'.o b = some (.row false full') ∧ full'.length = full.length ∧ (full'.drop o).take ((n + m) * sz) = cs ++ xs ∧ H'.n = H.n ∧ ∀ b', b' ≠ b → H'.o b' = H.o b' := by
  subst hz
  have hfi := hx.first
  obtain ⟨h1, a, lo', ex', sz', rfl, hl', h2⟩ := hx
  have hm := Nat.add_mul n m z.length
  have hle := Nat.mul_le_mul_right z.length hl
  have hlen : (cs ++ xs).length = (n + m) * z.length := by rw [List.length_append, hcl, h1, Nat.add_mul]
  unfold aappend
  simp only [show n ≤ lo from by omega, true_and, hy, if_true, hfi, hl, hr, show o + (n + m) * z.length ≤ full.length from by omega]
  by_cases h0 : m = 0
  · subst h0
    have hxs : xs = [] := List.eq_nil_of_length_eq_zero (by rw [h1, Nat.zero_mul])
    subst hxs
    exact ⟨H, full, by simp only [if_true, Nat.add_zero], hr, rfl, by rw [List.append_nil, Nat.add_zero]; exact hc, rfl, fun _ _ => rfl⟩
  · refine ⟨H.set b (.row false (setR full (o + n * z.length) xs)), _, by simp only [h0, if_false], by rw [AH_set_o, if_pos rfl], ?_, ?_, rfl, fun b' hb' => by rw [AH_set_o, if_neg hb']⟩
    · unfold setR
      simp only [List.length_append, List.length_take, List.length_drop]
      omega
    · unfold setR
      have e1 : (full.take (o + n * z.length)).drop o = cs := by rw [List.drop_take, Nat.add_sub_cancel_left]; exact hc
      rw [List.append_assoc, List.drop_append_of_le_length (by rw [List.length_take]; omega), e1, ← List.append_assoc, List.take_append_of_le_length (by rw [hlen]; exact Nat.le_refl _), List.take_of_length_le (by rw [hlen]; exact Nat.le_refl _)]
/-- Cells behind it turned. -/
theorem setR_beyond {full vs : List AV} {o k p : Nat} (h : o + k ≤ p) (hp : p + vs.length ≤ full.length) : (setR full p vs).length = full.length ∧ ((setR full p vs).drop o).take k = (full.drop o).take k := by
  unfold setR
  refine ⟨by simp only [List.length_append, List.length_take, List.length_drop]; omega, ?_⟩
  rw [List.append_assoc, List.drop_append_of_le_length (by rw [List.length_take]; omega), List.take_append_of_le_length (by rw [List.length_drop, List.length_take]; omega), List.drop_take, List.take_take, Nat.min_eq_left (by omega)]
/-- One element turned. -/
theorem Wr.set1 {α : Type} {f : α → AV} {H : AH} {v : AV} {n j : Nat} {l : List α} (h : Wr H v 1 n (l.map f)) (hj : j < n) : ∃ b o lo ex full, v = .sl (some (b, o)) n lo ex 1 ∧ b < H.n ∧ H.o b = some (.row false full) ∧ o + j + 1 ≤ full.length ∧ (∀ i x, l[i]? = some x → full[o + i]? = some (f x)) ∧ ∀ y, Wr (H.set b (.row false (setR full (o + j) [f y]))) v 1 n ((l.set j y).map f) := by
  have hln : l.length = n := by have := h.1; simpa using this
  rcases h.2 with ⟨_, h0⟩ | ⟨b, o, lo, ex, full, rfl, hb, hr, hl, hf, hc⟩
  · omega
  · refine ⟨b, o, lo, ex, full, rfl, hb, hr, by omega, fun i x hx => ?_, fun y => ⟨by simp [hln], Or.inr ⟨b, o, lo, ex, _, rfl, hb, by rw [AH_set_o, if_pos rfl], hl, ?_, ?_⟩⟩⟩
    · have hi := (List.getElem?_eq_some_iff.1 hx).1
      have : (l.map f)[i]? = some (f x) := by rw [List.getElem?_map, hx]; rfl
      rw [← hc, List.getElem?_take, if_pos (by omega), List.getElem?_drop] at this
      exact this
    · unfold setR
      simp only [List.length_append, List.length_take, List.length_drop, List.length_cons, List.length_nil]
      omega
    · apply List.ext_getElem?
      intro i
      have hci : i < n → full[o + i]? = (l.map f)[i]? := fun hi => by
        rw [← hc, List.getElem?_take, if_pos (by omega), List.getElem?_drop]
      rw [List.getElem?_take, List.getElem?_drop, List.getElem?_map]
      split
      · rename_i hi
        have hi' : i < n := by omega
        unfold setR
        by_cases e : i = j
        · subst e
          rw [List.getElem?_append_left (by simp; omega), List.getElem?_append_right (by simp; omega), List.length_take, Nat.min_eq_left (by omega), Nat.sub_self]
          rw [List.getElem?_set_self (by omega)]
          rfl
        · rw [List.getElem?_set_ne (Ne.symm e), ← List.getElem?_map, ← hci hi']
          by_cases e2 : i < j
          · rw [List.append_assoc, List.getElem?_append_left (by simp; omega), List.getElem?_take, if_pos (by omega)]
          · rw [List.getElem?_append_right (by simp; omega), List.getElem?_drop]
            congr 1
            simp
            omega
      · rename_i hi
        rw [List.getElem?_eq_none (by simp; omega)]
        rfl
/-- One more behind it. -/
theorem rs_new {H : AH} {sz n : Nat} {xs : List AV} {ex : Bool} (hx : xs.length = n * sz) : Rs (H.new (.row false xs)) (.sl (some (H.n, 0)) n n ex sz) sz n xs :=
  ⟨hx, _, _, _, _, rfl, Nat.le_refl _, Or.inr ⟨H.n, 0, false, xs, rfl, Nat.lt_succ_self _, by rw [AH_new_o, if_pos rfl], by rw [Nat.zero_add, hx]; exact Nat.le_refl _, by rw [List.drop_zero, List.take_of_length_le (by rw [hx]; exact Nat.le_refl _)]⟩⟩
theorem Wr.one {z : List AV} {y sz : Nat} (hz : z.length = sz) {H : AH} {v : AV} {n : Nat} {ex : Bool} {cs xs : List AV} (h : Wr H v sz n cs) (hx : xs.length = sz) (hy : (2 * (n + 1) + 1000) * y ≤ 281474976710656) :
    ∃ v' H', aappend z y v (.sl (some (H.n, 0)) 1 1 ex sz) (H.new (.row false xs)) = some (v', H') ∧ Wr H' v' sz (n + 1) (cs ++ xs) ∧ H.n ≤ H'.n ∧ (∀ b, b < H.n → blk v ≠ some b → H'.o b = H.o b) ∧ (∀ b, blk v' = some b → blk v = some b ∨ H.n ≤ b) := by
  obtain ⟨v', H', e, h1, h2, h3, h4⟩ := Wr.app hz h.new (rs_new (ex := ex) (n := 1) (by rw [hx, Nat.one_mul])) hy
  refine ⟨v', H', e, h1, Nat.le_trans (Nat.le_succ _) h2, fun b hb hne => ?_, fun b hb => (h4 b hb).imp id (fun h => Nat.le_trans (Nat.le_succ _) h)⟩
  rw [h3 b (Nat.lt_succ_of_lt hb) hne, AH_new_o, if_neg (by omega)]
/-- Cut: from the front, from the back. -/
theorem Wr.to {k : IntKind} {H : AH} {v : AV} {sz n h' : Nat} {cs : List AV} (h : Wr H v sz n cs) (hl : h' ≤ n) (h0 : 0 < n) :
    ∃ b o lo ex, v = .sl (some (b, o)) n lo ex sz ∧ aslice sz v none (some (.i k h')) none = some (.sl (some (b, o)) h' lo ex sz) ∧ Wr H (.sl (some (b, o)) h' lo ex sz) sz h' (cs.take (h' * sz)) := by
  have hle := Nat.mul_le_mul_right sz hl
  have hlen : (cs.take (h' * sz)).length = h' * sz := by rw [List.length_take, h.1]; omega
  rcases h.2 with ⟨rfl, rfl⟩ | ⟨b, o, lo, ex, full, rfl, hb, hr, hlo, hf, hc⟩
  · omega
  · have c : (0 : Int) ≤ h' ∧ (h' : Int) ≤ lo := by omega
    refine ⟨b, o, lo, ex, rfl, ?_, hlen, Or.inr ⟨b, o, lo, ex, full, rfl, hb, hr, by omega, hf, ?_⟩⟩
    · unfold aslice
      simp only [true_or, if_true, abound, c, and_self, Int.toNat_natCast, acut, show 0 < lo from by omega, Nat.zero_mul, Nat.add_zero, Nat.sub_zero]
    · rw [← hc, List.take_take, Nat.min_eq_left hle]
theorem Wr.from {k : IntKind} {H : AH} {v : AV} {sz n l : Nat} {cs : List AV} (h : Wr H v sz n cs) (hl : l ≤ n) :
    ∃ v', aslice sz v (some (.i k l)) none none = some v' ∧ Wr H v' sz (n - l) (cs.drop (l * sz)) ∧ ∀ b, blk v' = some b → blk v = some b := by
  have hle := Nat.mul_le_mul_right sz hl
  have hlen : (cs.drop (l * sz)).length = (n - l) * sz := by rw [List.length_drop, h.1, Nat.sub_mul]
  rcases h.2 with ⟨rfl, rfl⟩ | ⟨b, o, lo, ex, full, rfl, hb, hr, hlo, hf, hc⟩
  · have h0 : l = 0 := by omega
    subst h0
    refine ⟨.sl none 0 0 true 0, ?_, ?_, fun b hb => hb⟩
    · unfold aslice abound acut; simp [abound]
    · exact ⟨hlen, Or.inl ⟨rfl, rfl⟩⟩
  · have c : (0 : Int) ≤ l ∧ (l : Int) ≤ n := by omega
    by_cases h1 : l < lo
    · refine ⟨.sl (some (b, o + l * sz)) (n - l) (lo - l) ex sz, ?_, ⟨hlen, Or.inr ⟨b, o + l * sz, lo - l, ex, full, rfl, hb, hr, by omega, ?_, ?_⟩⟩, fun b hb => hb⟩
      · unfold aslice
        simp only [true_or, if_true, abound, c, and_self, Int.toNat_natCast, acut, h1]
      · have := Nat.sub_mul lo l sz
        have := Nat.mul_le_mul_right sz (Nat.le_of_lt h1)
        omega
      · rw [← hc, List.drop_take, List.drop_drop, Nat.sub_mul]
    · have hn : n = l := by omega
      have hlo' : lo = l := by omega
      subst hn; subst hlo'
      refine ⟨.sl (some (b, o)) 0 0 ex sz, ?_, ⟨hlen, Or.inr ⟨b, o, 0, ex, full, by rw [Nat.sub_self], hb, hr, by omega, by omega, ?_⟩⟩, fun b hb => hb⟩
      · unfold aslice
        simp only [true_or, if_true, abound, c, and_self, Int.toNat_natCast, acut, Nat.lt_irrefl, if_false, ite_self, Nat.sub_self]
      · rw [Nat.sub_self, Nat.zero_mul, List.take_zero, List.drop_of_length_le (by rw [h.1]; exact Nat.le_refl _)]
/-- A slice that may be read and cut. -/
def Ro (H : AH) (v : AV) (sz n : Nat) (cs : List AV) : Prop :=
  cs.length = n * sz ∧ ((n = 0 ∧ ∃ s, v = .sl none 0 0 true s) ∨ ∃ b o lo ex ro full, v = .sl (some (b, o)) n lo ex sz ∧ b < H.n ∧ H.o b = some (.row ro full) ∧ n ≤ lo ∧ o + n * sz ≤ full.length ∧ (full.drop o).take (n * sz) = cs)
theorem Ro.rs {H : AH} {v : AV} {sz n : Nat} {cs : List AV} (h : Ro H v sz n cs) : Rs H v sz n cs := by
  refine ⟨h.1, ?_⟩
  rcases h.2 with ⟨h0, s, e⟩ | ⟨b, o, lo, ex, ro, full, e, hb, hr, hl, hf, hc⟩
  · subst h0; exact ⟨none, 0, true, s, e, Nat.le_refl _, Or.inl ⟨rfl, rfl⟩⟩
  · exact ⟨_, lo, ex, sz, e, hl, Or.inr ⟨b, o, ro, full, rfl, hb, hr, hf, hc⟩⟩
theorem Wr.ro {H : AH} {v : AV} {sz n : Nat} {cs : List AV} (h : Wr H v sz n cs) : Ro H v sz n cs := by
  refine ⟨h.1, ?_⟩
  rcases h.2 with ⟨e, h0⟩ | ⟨b, o, lo, ex, full, e, hb, hr, hl, hf, hc⟩
  · exact Or.inl ⟨h0, 0, e⟩
  · exact Or.inr ⟨b, o, lo, ex, false, full, e, hb, hr, hl, Nat.le_trans (Nat.add_le_add_left (Nat.mul_le_mul_right _ hl) _) hf, hc⟩
theorem Ro.keep {H H' : AH} {v : AV} {sz n : Nat} {cs : List AV} (h : Ro H v sz n cs) (hn : H.n ≤ H'.n) (ho : ∀ b, blk v = some b → b < H.n → H'.o b = H.o b) : Ro H' v sz n cs :=
  ⟨h.1, h.2.elim Or.inl (fun ⟨b, o, lo, ex, ro, full, e, hb, hr, h3⟩ => Or.inr ⟨b, o, lo, ex, ro, full, e, Nat.lt_of_lt_of_le hb hn, (ho b (by rw [e]; rfl) hb).trans hr, h3⟩)⟩
theorem Ro.keeps {H H' : AH} {v : AV} {sz n : Nat} {cs : List AV} (h : Ro H v sz n cs) (k : Keeps H H') : Ro H' v sz n cs := h.keep k.1 (fun b _ hb => k.2 b hb)
theorem Ro.old {H : AH} {v : AV} {sz n b : Nat} {cs : List AV} (h : Ro H v sz n cs) (hb : blk v = some b) : b < H.n := by
  rcases h.2 with ⟨_, s, e⟩ | ⟨b', o, lo, ex, ro, full, e, h', _⟩
  · rw [e] at hb; cases hb
  · rw [e] at hb; cases hb; exact h'
theorem Ro.len {H : AH} {v : AV} {sz n : Nat} {cs : List AV} (h : Ro H v sz n cs) : ∃ a lo ex sz', v = .sl a n lo ex sz' := by
  rcases h.2 with ⟨h0, s, e⟩ | ⟨b, o, lo, ex, ro, full, e, _⟩
  · subst h0; exact ⟨none, 0, true, s, e⟩
  · exact ⟨some (b, o), lo, ex, sz, e⟩
theorem isIn_ro {H : AH} {x : AV} {sz n : Nat} {cs : List AV} (h : IsIn H x sz n cs) (hl : cs.length = n * sz) : Ro H x sz n cs := by
  refine ⟨hl, ?_⟩
  rcases h with ⟨h0, rfl⟩ | ⟨b, rfl, hb, ho⟩
  · exact Or.inl ⟨h0, sz, rfl⟩
  · exact Or.inr ⟨b, 0, _, _, true, cs, rfl, hb, ho, Nat.le_refl _, by rw [Nat.zero_add, hl]; exact Nat.le_refl _, by rw [List.drop_zero, List.take_of_length_le (by rw [hl]; exact Nat.le_refl _)]⟩
theorem Ro.from {k : IntKind} {H : AH} {v : AV} {sz n l : Nat} {cs : List AV} (h : Ro H v sz n cs) (hl : l ≤ n) :
    ∃ v', aslice sz v (some (.i k l)) none none = some v' ∧ Ro H v' sz (n - l) (cs.drop (l * sz)) ∧ ∀ b, blk v' = some b → blk v = some b := by
  have hlen : (cs.drop (l * sz)).length = (n - l) * sz := by rw [List.length_drop, h.1, Nat.sub_mul]
  rcases h.2 with ⟨rfl, s, rfl⟩ | ⟨b, o, lo, ex, ro, full, rfl, hb, hr, hlo, hf, hc⟩
  · have h0 : l = 0 := by omega
    subst h0
    refine ⟨.sl none 0 0 true 0, ?_, ?_, fun b hb => by cases hb⟩
    · unfold aslice abound acut; simp [abound]
    · exact ⟨hlen, Or.inl ⟨rfl, 0, rfl⟩⟩
  · have c : (0 : Int) ≤ l ∧ (l : Int) ≤ n := by omega
    by_cases h1 : l < lo
    · refine ⟨.sl (some (b, o + l * sz)) (n - l) (lo - l) ex sz, ?_, ⟨hlen, Or.inr ⟨b, o + l * sz, lo - l, ex, ro, full, rfl, hb, hr, by omega, ?_, ?_⟩⟩, fun b hb => hb⟩
      · unfold aslice
        simp only [true_or, if_true, abound, c, and_self, Int.toNat_natCast, acut, h1]
      · have := Nat.sub_mul n l sz
        have := Nat.mul_le_mul_right sz hl
        omega
      · rw [← hc, List.drop_take, List.drop_drop, Nat.sub_mul]
    · have hn : n = l := by omega
      have hlo' : lo = l := by omega
      subst hn; subst hlo'
      refine ⟨.sl (some (b, o)) 0 0 ex sz, ?_, ⟨hlen, Or.inr ⟨b, o, 0, ex, ro, full, by rw [Nat.sub_self], hb, hr, by omega, by rw [Nat.sub_self, Nat.zero_mul]; omega, ?_⟩⟩, fun b hb => hb⟩
      · unfold aslice
        simp only [true_or, if_true, abound, c, and_self, Int.toNat_natCast, acut, Nat.lt_irrefl, if_false, ite_self, Nat.sub_self]
      · rw [Nat.sub_self, Nat.zero_mul, List.take_zero, List.drop_of_length_le (by rw [h.1]; exact Nat.le_refl _)]
theorem Ro.to {k : IntKind} {H : AH} {v : AV} {sz n h' : Nat} {cs : List AV} (h : Ro H v sz n cs) (hl : h' ≤ n) :
    ∃ v', aslice sz v none (some (.i k h')) none = some v' ∧ Ro H v' sz h' (cs.take (h' * sz)) ∧ ∀ b, blk v' = some b → blk v = some b := by
  have hle := Nat.mul_le_mul_right sz hl
  have hlen : (cs.take (h' * sz)).length = h' * sz := by rw [List.length_take, h.1]; omega
  rcases h.2 with ⟨rfl, s, rfl⟩ | ⟨b, o, lo, ex, ro, full, rfl, hb, hr, hlo, hf, hc⟩
  · have h0 : h' = 0 := by omega
    subst h0
    refine ⟨.sl none 0 0 true 0, ?_, ⟨hlen, Or.inl ⟨rfl, 0, rfl⟩⟩, fun b hb => by cases hb⟩
    unfold aslice abound acut; simp [abound]
  · have c : (0 : Int) ≤ h' ∧ (h' : Int) ≤ lo := by omega
    by_cases h1 : 0 < lo
    · refine ⟨.sl (some (b, o)) h' lo ex sz, ?_, ⟨hlen, Or.inr ⟨b, o, lo, ex, ro, full, rfl, hb, hr, by omega, by omega, ?_⟩⟩, fun b hb => hb⟩
      · unfold aslice
        simp only [true_or, if_true, abound, c, and_self, Int.toNat_natCast, acut, h1, Nat.zero_mul, Nat.add_zero, Nat.sub_zero]
      · rw [← hc, List.take_take, Nat.min_eq_left hle]
    · have h2 : lo = 0 := by omega
      have h3 : h' = 0 := by omega
      subst h2; subst h3
      refine ⟨.sl (some (b, o)) 0 0 ex sz, ?_, ⟨hlen, Or.inr ⟨b, o, 0, ex, ro, full, rfl, hb, hr, Nat.le_refl _, by omega, by simp⟩⟩, fun b hb => hb⟩
      unfold aslice
      simp [abound, acut]
end Go.Proofs.Ythcibbfljcfheaa.Abs
