/- What holds of a table always: plain. No condition of its own. -/
import Derived.Test.YthcibbfljcfheaaOpsB
namespace Go.Proofs.Ythcibbfljcfheaa.Abs
set_option linter.unusedSimpArgs false
set_option linter.unusedVariables false
/-- What holds of a table. -/
structure Gd (pl sz : Nat) (S : SL) : Prop where
  p1 : 1 ≤ pl
  p2 : pl ≤ 4096
  z1 : 1 ≤ sz
  z2 : sz ≤ 64
  gl : S.gs.length ≤ pl
  gg : ∀ p ∈ S.gs, 0 ≤ p.2 ∧ p.2 ≤ 16777215
  cs : S.co.Pairwise (· < ·)
  cf : ∀ x ∈ S.co, 0 ≤ x ∧ ∃ g, S.gs[x.toNat]? = some (false, g)
  fo : ∀ th, ∀ x ∈ S.ow th, 0 ≤ x ∧ ∃ g, S.gs[x.toNat]? = some (false, g)
  on : ∀ th, (S.ow th).Nodup
  oo : ∀ a b x, x ∈ S.ow a → x ∈ S.ow b → a = b
  oc : ∀ th, ∀ x ∈ S.ow th, x ∉ S.co
  ol : ∀ th, (S.ow th).length ≤ sz
theorem rise_len : ∀ {l : List Int} {a b : Int}, l.Pairwise (· < ·) → a ≤ b → (∀ x ∈ l, a ≤ x ∧ x < b) → (l.length : Int) ≤ b - a
  | [], a, b, _, h, _ => by simp; omega
  | x :: l, a, b, hs, h, hm => by
    rw [List.pairwise_cons] at hs
    have hx := hm x (List.mem_cons_self ..)
    have := rise_len (l := l) (a := x + 1) (b := b) hs.2 (by omega) (fun y hy => ⟨by have := hs.1 y hy; omega, (hm y (List.mem_cons_of_mem _ hy)).2⟩)
    rw [List.length_cons]
    omega
theorem lt_of_at {gs : List (Bool × Int)} {x : Int} {p : Bool × Int} (h0 : 0 ≤ x) (h : gs[x.toNat]? = some p) : x < gs.length := by
  have := (List.getElem?_eq_some_iff.1 h).1
  omega
theorem Gd.cl {pl sz : Nat} {S : SL} (h : Gd pl sz S) : S.co.length ≤ S.gs.length := by
  have := rise_len (b := S.gs.length) (a := 0) h.cs (by omega) (fun x hx => by
    obtain ⟨h0, g, hg⟩ := h.cf x hx
    exact ⟨h0, lt_of_at h0 hg⟩)
  omega
theorem Gd.how {pl sz : Nat} {S : SL} (h : Gd pl sz S) (th : Nat) : (S.ow th).length ≤ 64 := Nat.le_trans (h.ol th) h.z2
theorem Gd.hco {pl sz : Nat} {S : SL} (h : Gd pl sz S) : S.co.length ≤ 4096 := Nat.le_trans h.cl (Nat.le_trans h.gl h.p2)
theorem gd_new {pl sz : Nat} (h : 1 ≤ pl ∧ pl ≤ 4096 ∧ 1 ≤ sz ∧ sz ≤ 64) : Gd pl sz SL.new :=
  ⟨h.1, h.2.1, h.2.2.1, h.2.2.2, Nat.zero_le _, fun p hp => (by cases hp), List.Pairwise.nil, fun x hx => (by cases hx), fun th x hx => (by cases hx), fun th => List.nodup_nil, fun a b x hx => (by cases hx), fun th x hx => (by cases hx), fun th => Nat.zero_le _⟩
/-- Where it belongs. -/
theorem ins_perm (l : List Int) (x : Int) : (insI l x).Perm (x :: l) := by
  unfold insI
  have h : l = l.take (pos l x) ++ l.drop (pos l x) := (List.take_append_drop _ _).symm
  conv => rhs; rw [h]
  rw [List.append_assoc]
  exact List.perm_middle
theorem ins_mem {l : List Int} {x y : Int} : y ∈ insI l x ↔ y = x ∨ y ∈ l := by rw [(ins_perm l x).mem_iff, List.mem_cons]
theorem ins_len (l : List Int) (x : Int) : (insI l x).length = l.length + 1 := by rw [(ins_perm l x).length_eq, List.length_cons]
theorem tw_mem {p : Int → Bool} : ∀ {l : List Int} {y : Int}, y ∈ l.takeWhile p → p y = true
  | x :: l, y, h => by
    rw [List.takeWhile_cons] at h
    split at h
    · rename_i hx
      rcases List.mem_cons.1 h with rfl | h
      · exact hx
      · exact tw_mem h
    · cases h
theorem take_pos : ∀ (l : List Int) (x : Int), l.take (pos l x) = l.takeWhile (fun y => decide (y < x)) ∧ l.drop (pos l x) = l.dropWhile fun y => decide (y < x)
  | [], x => ⟨rfl, rfl⟩
  | y :: l, x => by
    obtain ⟨h1, h2⟩ := take_pos l x
    unfold pos at *
    rw [List.takeWhile_cons, List.dropWhile_cons]
    cases h : decide (y < x)
    · simp
    · simp [h1, h2]
theorem dw_ge {x : Int} : ∀ {l : List Int}, l.Pairwise (· < ·) → ∀ y ∈ l.dropWhile (fun y => decide (y < x)), x ≤ y
  | [], _, y, h => by cases h
  | z :: l, hs, y, h => by
    rw [List.pairwise_cons] at hs
    rw [List.dropWhile_cons] at h
    split at h
    · exact dw_ge hs.2 y h
    · rename_i hz
      have hz : x ≤ z := by simpa using hz
      rcases List.mem_cons.1 h with rfl | h
      · exact hz
      · have := hs.1 y h; omega
theorem ins_sorted {l : List Int} {x : Int} (hs : l.Pairwise (· < ·)) (hx : x ∉ l) : (insI l x).Pairwise (· < ·) := by
  obtain ⟨h1, h2⟩ := take_pos l x
  unfold insI
  rw [List.append_assoc, List.pairwise_append]
  refine ⟨hs.sublist (List.take_sublist _ _), ?_, ?_⟩
  · show (x :: l.drop (pos l x)).Pairwise (· < ·)
    rw [List.pairwise_cons]
    refine ⟨fun y hy => ?_, hs.sublist (List.drop_sublist _ _)⟩
    have hne : y ≠ x := fun e => hx (by rw [← e]; exact List.mem_of_mem_drop hy)
    rw [h2] at hy
    have := dw_ge hs y hy
    omega
  · intro a ha b hb
    rw [h1] at ha
    have ha' : a < x := by simpa using tw_mem ha
    rcases List.mem_append.1 hb with hb | hb
    · have : b = x := by simpa using hb
      omega
    · rw [h2] at hb
      have := dw_ge hs b hb
      omega
section
variable {pl sz : Nat} {S : SL}
/-- One taken marked. -/
theorem Gd.mark (h : Gd pl sz S) {i : Nat} {g : Int} {u u' : Bool} (hi : S.gs[i]? = some (u', g)) (hc : (i : Int) ∉ S.co) (ho : ∀ th, (i : Int) ∉ S.ow th) : Gd pl sz { S with gs := S.gs.set i (u, g) } := by
  have hne : ∀ x : Int, 0 ≤ x → x ≠ (i : Int) → (S.gs.set i (u, g))[x.toNat]? = S.gs[x.toNat]? := fun x h0 hx => List.getElem?_set_ne (by omega)
  refine { h with gl := by simpa using h.gl, gg := ?_, cf := ?_, fo := ?_ }
  · intro p hp
    obtain ⟨j, hj⟩ := List.getElem?_of_mem hp
    rw [List.getElem?_set] at hj
    split at hj
    · split at hj
      · cases hj
        exact h.gg (u', g) (List.mem_of_getElem? hi)
      · cases hj
    · exact h.gg p (List.mem_of_getElem? hj)
  · intro x hx
    obtain ⟨h0, g', hg⟩ := h.cf x hx
    exact ⟨h0, g', (hne x h0 (fun e => hc (by rw [← e]; exact hx))).trans hg⟩
  · intro th x hx
    obtain ⟨h0, g', hg⟩ := h.fo th x hx
    exact ⟨h0, g', (hne x h0 (fun e => ho th (by rw [← e]; exact hx))).trans hg⟩
theorem Gd.grow (h : Gd pl sz S) (hc : S.co = []) : Gd pl sz (S.grow pl sz) := by
  obtain ⟨k, hk⟩ : ∃ k, k = min sz (pl - S.gs.length) := ⟨_, rfl⟩
  have e : S.grow pl sz = S.growN k := by unfold SL.grow; rw [hk]
  rw [e]
  have hl := growN_gs S k
  have hgl := h.gl
  have hold : ∀ (x : Nat) p, S.gs[x]? = some p → (S.growN k).gs[x]? = some p := by
    intro x p hx
    have := (List.getElem?_eq_some_iff.1 hx).1
    unfold SL.growN
    rw [List.getElem?_append_left this]
    exact hx
  have hco : (S.growN k).co = (List.range k).map fun j => ((S.gs.length + j : Nat) : Int) := by unfold SL.growN; rw [hc]; rfl
  refine ⟨h.p1, h.p2, h.z1, h.z2, by omega, ?_, ?_, ?_, ?_, h.on, h.oo, ?_, h.ol⟩
  · intro p hp
    unfold SL.growN at hp
    rcases List.mem_append.1 hp with hp | hp
    · exact h.gg p hp
    · rw [List.eq_of_mem_replicate hp]; decide
  · rw [hco, List.pairwise_map]
    refine List.pairwise_lt_range.imp ?_
    intro a b hab
    omega
  · intro x hx
    rw [hco] at hx
    obtain ⟨j, hj, rfl⟩ := List.mem_map.1 hx
    have hj := List.mem_range.1 hj
    refine ⟨by omega, 0, ?_⟩
    rw [Int.toNat_natCast]
    unfold SL.growN
    rw [List.getElem?_append_right (by omega), List.getElem?_replicate, if_pos (by omega)]
  · intro th x hx
    obtain ⟨h0, g, hg⟩ := h.fo th x hx
    exact ⟨h0, g, hold _ _ hg⟩
  · intro th x hx hx'
    obtain ⟨h0, g, hg⟩ := h.fo th x hx
    have := lt_of_at h0 hg
    rw [hco] at hx'
    obtain ⟨j, hj, rfl⟩ := List.mem_map.1 hx'
    omega
/-- What is picked is free, and on no list any more. -/
theorem Gd.pick (h : Gd pl sz S) (th : Nat) : Gd pl sz (S.pick pl sz th).2 ∧ ((S.pick pl sz th).1 = -1 ∨ ∃ (i : Nat) (g : Int), (S.pick pl sz th).1 = (i : Int) ∧ (S.pick pl sz th).2.gs[i]? = some (false, g) ∧ (i : Int) ∉ (S.pick pl sz th).2.co ∧ ∀ a, (i : Int) ∉ (S.pick pl sz th).2.ow a) := by
  rcases List.eq_nil_or_concat (S.ow th) with h0 | ⟨l, x, h1⟩
  · have hpk : S.pick pl sz th = (match (if S.co = [] then S.grow pl sz else S).co with
      | [] => (-1, if S.co = [] then S.grow pl sz else S)
      | x :: t => (x, { (if S.co = [] then S.grow pl sz else S) with co := t })) := by
      unfold SL.pick
      rw [h0]
      rfl
    obtain ⟨S1, hS1⟩ : ∃ S1, S1 = if S.co = [] then S.grow pl sz else S := ⟨_, rfl⟩
    have g1 : Gd pl sz S1 := by
      rw [hS1]
      split
      · exact h.grow (by assumption)
      · exact h
    rw [← hS1] at hpk
    rw [hpk]
    cases hc : S1.co with
    | nil => exact ⟨g1, Or.inl rfl⟩
    | cons x t =>
      simp only
      have hcs := g1.cs
      rw [hc, List.pairwise_cons] at hcs
      have hx : x ∈ S1.co := by rw [hc]; exact List.mem_cons_self ..
      have ht : ∀ y ∈ t, y ∈ S1.co := fun y hy => by rw [hc]; exact List.mem_cons_of_mem _ hy
      obtain ⟨k0, g, hg⟩ := g1.cf x hx
      obtain ⟨i, rfl⟩ := Int.eq_ofNat_of_zero_le k0
      rw [Int.toNat_natCast] at hg
      exact ⟨{ g1 with cs := hcs.2, cf := fun y hy => g1.cf y (ht y hy), oc := fun a y hy hyt => g1.oc a y hy (ht y hyt) }, Or.inr ⟨i, g, rfl, hg, fun hm => by have := hcs.1 _ hm; omega, fun a hm => g1.oc a _ hm hx⟩⟩
  · rw [List.concat_eq_append] at h1
    have hpk : S.pick pl sz th = (x, S.setOw th l) := by
      unfold SL.pick
      rw [h1, List.getLast?_concat, List.dropLast_concat]
    rw [hpk]
    simp only
    have hxm : x ∈ S.ow th := by rw [h1]; simp
    have hlm : ∀ y ∈ l, y ∈ S.ow th := fun y hy => by rw [h1]; exact List.mem_append_left _ hy
    have hnd := h.on th
    rw [h1, List.nodup_append] at hnd
    have hxl : x ∉ l := fun hm => hnd.2.2 x hm x (by simp) rfl
    obtain ⟨k0, g, hg⟩ := h.fo th x hxm
    obtain ⟨i, rfl⟩ := Int.eq_ofNat_of_zero_le k0
    rw [Int.toNat_natCast] at hg
    have how : ∀ a y, y ∈ (S.setOw th l).ow a → y ∈ S.ow a := by
      intro a y hy
      unfold SL.setOw at hy
      simp only at hy
      split at hy
      · rename_i e; rw [e]; exact hlm y hy
      · exact hy
    refine ⟨{ h with fo := fun a y hy => h.fo a y (how a y hy), on := ?_, oo := fun a b y ha hb => h.oo a b y (how a y ha) (how b y hb), oc := fun a y hy => h.oc a y (how a y hy), ol := ?_ }, Or.inr ⟨i, g, rfl, hg, h.oc th _ hxm, ?_⟩⟩
    · intro a
      unfold SL.setOw
      simp only
      split
      · exact hnd.1
      · exact h.on a
    · intro a
      have hla := h.ol th
      rw [h1] at hla
      unfold SL.setOw
      simp only
      split
      · simp at hla; omega
      · exact h.ol a
    · intro a hm
      have ha := h.oo a th _ (how a _ hm) hxm
      subst ha
      unfold SL.setOw at hm
      simp only [if_true] at hm
      exact hxl hm
theorem Gd.used_off (h : Gd pl sz S) {i : Nat} {g : Int} (hi : S.gs[i]? = some (true, g)) : (i : Int) ∉ S.co ∧ ∀ th, (i : Int) ∉ S.ow th := by
  refine ⟨fun hm => ?_, fun th hm => ?_⟩
  · obtain ⟨_, g', hg⟩ := h.cf _ hm
    rw [Int.toNat_natCast, hi] at hg
    cases hg
  · obtain ⟨_, g', hg⟩ := h.fo th _ hm
    rw [Int.toNat_natCast, hi] at hg
    cases hg
theorem Gd.gset (h : Gd pl sz S) {i : Nat} {g g' : Int} {u u' : Bool} (hi : S.gs[i]? = some (u, g)) (hg : 0 ≤ g' ∧ g' ≤ 16777215) (hu : u' = false ∨ ((i : Int) ∉ S.co ∧ ∀ th, (i : Int) ∉ S.ow th)) : Gd pl sz { S with gs := S.gs.set i (u', g') } := by
  have hlt := (List.getElem?_eq_some_iff.1 hi).1
  have key : ∀ x : Int, 0 ≤ x → (x ≠ i ∨ u' = false) → (∃ g, S.gs[x.toNat]? = some (false, g)) → ∃ g, (S.gs.set i (u', g'))[x.toNat]? = some (false, g) := by
    rintro x h0 hx ⟨g1, h1⟩
    by_cases e : x = i
    · rcases hx with hx | hx
      · exact absurd e hx
      · subst e hx
        exact ⟨g', by rw [Int.toNat_natCast, List.getElem?_set_self hlt]⟩
    · exact ⟨g1, (List.getElem?_set_ne (by omega)).trans h1⟩
  refine { h with gl := by simpa using h.gl, gg := ?_, cf := ?_, fo := ?_ }
  · intro p hp
    obtain ⟨j, hj⟩ := List.getElem?_of_mem hp
    rw [List.getElem?_set] at hj
    split at hj
    · cases hj; exact hg
    · exact h.gg p (List.mem_of_getElem? hj)
  · intro x hx
    obtain ⟨h0, h1⟩ := h.cf x hx
    refine ⟨h0, key x h0 ?_ h1⟩
    rcases hu with hu | hu
    · exact Or.inr hu
    · exact Or.inl (fun e => hu.1 (by rw [← e]; exact hx))
  · intro th x hx
    obtain ⟨h0, h1⟩ := h.fo th x hx
    refine ⟨h0, key x h0 ?_ h1⟩
    rcases hu with hu | hu
    · exact Or.inr hu
    · exact Or.inl (fun e => hu.2 th (by rw [← e]; exact hx))
theorem Gd.shr (h : Gd pl sz S) {i : Nat} {g : Int} (hi : S.gs[i]? = some (false, g)) (hc : (i : Int) ∉ S.co) (ho : ∀ th, (i : Int) ∉ S.ow th) : Gd pl sz (S.share i) := by
  unfold SL.share
  refine { h with cs := ins_sorted h.cs hc, cf := ?_, oc := ?_ }
  · intro x hx
    rcases ins_mem.1 hx with rfl | hx
    · exact ⟨by omega, g, by rw [Int.toNat_natCast]; exact hi⟩
    · exact h.cf x hx
  · intro th x hx hm
    rcases ins_mem.1 hm with rfl | hm
    · exact ho th hx
    · exact h.oc th x hx hm
theorem Gd.own1 (h : Gd pl sz S) {i th : Nat} {g : Int} (hi : S.gs[i]? = some (false, g)) (hc : (i : Int) ∉ S.co) (ho : ∀ th, (i : Int) ∉ S.ow th) (hl : (S.ow th).length < sz) : Gd pl sz (S.setOw th (S.ow th ++ [(i : Int)])) := by
  have how : ∀ a y, y ∈ (S.setOw th (S.ow th ++ [(i : Int)])).ow a → y ∈ S.ow a ∨ (y = i ∧ a = th) := by
    intro a y hy
    unfold SL.setOw at hy
    simp only at hy
    split at hy
    · rename_i e
      rcases List.mem_append.1 hy with hy | hy
      · exact Or.inl (by rw [e]; exact hy)
      · exact Or.inr ⟨by simpa using hy, e⟩
    · exact Or.inl hy
  refine { h with fo := ?_, on := ?_, oo := ?_, oc := ?_, ol := ?_ }
  · intro a y hy
    rcases how a y hy with hy | ⟨rfl, _⟩
    · exact h.fo a y hy
    · exact ⟨by omega, g, by rw [Int.toNat_natCast]; exact hi⟩
  · intro a
    unfold SL.setOw
    simp only
    split
    · rw [List.nodup_append]
      refine ⟨h.on th, by simp, fun x hx y hy => ?_⟩
      have : y = i := by simpa using hy
      rw [this]
      rintro rfl
      exact ho th hx
    · exact h.on a
  · intro a b y ha hb
    rcases how a y ha with ha | ⟨e1, e2⟩ <;> rcases how b y hb with hb | ⟨e3, e4⟩
    · exact h.oo a b y ha hb
    · subst e3; exact absurd ha (ho a)
    · subst e1; exact absurd hb (ho b)
    · rw [e2, e4]
  · intro a y hy
    rcases how a y hy with hy | ⟨rfl, _⟩
    · exact h.oc a y hy
    · exact hc
  · intro a
    unfold SL.setOw
    simp only
    split
    · simp; omega
    · exact h.ol a
theorem Gd.free (h : Gd pl sz S) {th i : Nat} {g : Int} (hi : S.gs[i]? = some (true, g)) : Gd pl sz (S.free sz th i) := by
  obtain ⟨hc, ho⟩ := h.used_off hi
  have hg := h.gg _ (List.mem_of_getElem? hi)
  have hlt := (List.getElem?_eq_some_iff.1 hi).1
  unfold SL.free
  rw [hi]
  simp only
  split
  · exact h.gset hi hg (Or.inl rfl)
  · rename_i hne
    have h1 : Gd pl sz { S with gs := S.gs.set i (false, g + 1) } := h.gset hi (by simp only at hne hg; omega) (Or.inl rfl)
    have hi1 : ({ S with gs := S.gs.set i (false, g + 1) } : SL).gs[i]? = some (false, g + 1) := List.getElem?_set_self hlt
    split
    · rename_i hl
      exact h1.own1 (th := th) hi1 hc ho hl
    · exact h1.shr hi1 hc ho
theorem share_fold : ∀ (D : List Int) (S : SL), S.co.Pairwise (· < ·) → D.Nodup → (∀ x ∈ D, x ∉ S.co) → (D.foldl SL.share S).co.Pairwise (· < ·) ∧ (∀ y, y ∈ (D.foldl SL.share S).co ↔ y ∈ S.co ∨ y ∈ D) ∧ (D.foldl SL.share S).co.length = S.co.length + D.length ∧ (D.foldl SL.share S).gs = S.gs ∧ (D.foldl SL.share S).ow = S.ow
  | [], S, hs, _, _ => ⟨hs, by simp, rfl, rfl, rfl⟩
  | x :: D, S, hs, hn, hd => by
    rw [List.nodup_cons] at hn
    have hx := hd x (List.mem_cons_self ..)
    obtain ⟨g1, g2, g3, g4, g5⟩ := share_fold D (S.share x) (ins_sorted hs hx) hn.2 (fun y hy hm => by
      rcases ins_mem.1 hm with rfl | hm
      · exact hn.1 hy
      · exact hd y (List.mem_cons_of_mem _ hy) hm)
    refine ⟨g1, fun y => ?_, ?_, g4, g5⟩
    · rw [List.foldl_cons, g2]
      unfold SL.share
      rw [ins_mem, List.mem_cons]
      constructor
      · rintro ((h | h) | h)
        · exact Or.inr (Or.inl h)
        · exact Or.inl h
        · exact Or.inr (Or.inr h)
      · rintro (h | h | h)
        · exact Or.inl (Or.inr h)
        · exact Or.inl (Or.inl h)
        · exact Or.inr h
    · rw [List.foldl_cons, g3]
      unfold SL.share
      rw [ins_len, List.length_cons]
      omega
theorem own_ow {S : SL} {th : Int} {x : Int} (h : x ∈ S.own th) : x ∈ S.ow th.toNat := by
  unfold SL.own at h
  split at h
  · exact h
  · cases h
theorem Gd.own_nd (h : Gd pl sz S) (th : Int) : (S.own th).Nodup := by
  unfold SL.own
  split
  · exact h.on _
  · exact List.nodup_nil
theorem Gd.hsh (h : Gd pl sz S) (th : Int) : ∀ j, j ≤ (S.own th).length → (((S.own th).take j).foldl SL.share S).co.length ≤ 4096 ∧ (((S.own th).take j).foldl SL.share S).co.Pairwise (· < ·) := by
  intro j hj
  have hsub : ∀ x ∈ (S.own th).take j, x ∈ S.own th := fun x hx => List.mem_of_mem_take hx
  obtain ⟨g1, g2, g3, g4, g5⟩ := share_fold ((S.own th).take j) S h.cs ((h.own_nd th).sublist (List.take_sublist _ _)) (fun x hx => h.oc _ x (own_ow (hsub x hx)))
  refine ⟨?_, g1⟩
  have := rise_len (b := S.gs.length) (a := 0) g1 (by omega) (fun x hx => by
    rcases (g2 x).1 hx with hx | hx
    · obtain ⟨h0, g, hg⟩ := h.cf x hx
      exact ⟨h0, lt_of_at h0 hg⟩
    · obtain ⟨h0, g, hg⟩ := h.fo _ x (own_ow (hsub x hx))
      exact ⟨h0, lt_of_at h0 hg⟩)
  have h1 := h.gl
  have h2 := h.p2
  omega
theorem Gd.flush (h : Gd pl sz S) (th : Int) : Gd pl sz (S.flush th) := by
  unfold SL.flush
  split
  · exact h
  · rename_i hne
    obtain ⟨g1, g2, g3, g4, g5⟩ := share_fold (S.own th) S h.cs (h.own_nd th) (fun x hx => h.oc _ x (own_ow hx))
    obtain ⟨S1, hS1⟩ : ∃ S1, S1 = (S.own th).foldl SL.share S := ⟨_, rfl⟩
    rw [← hS1] at g1 g2 g3 g4 g5 ⊢
    have hot : S.own th = S.ow th.toNat := by
      unfold SL.own at hne ⊢
      split at hne
      · rw [if_pos (by assumption)]
      · exact absurd rfl hne
    have how : ∀ a y, y ∈ (S1.setOw th.toNat []).ow a → y ∈ S.ow a ∧ a ≠ th.toNat := by
      intro a y hy
      unfold SL.setOw at hy
      simp only at hy
      split at hy
      · cases hy
      · rw [g5] at hy
        exact ⟨hy, by assumption⟩
    have e1 : (S1.setOw th.toNat []).gs = S.gs := g4
    have e2 : (S1.setOw th.toNat []).co = S1.co := rfl
    refine ⟨h.p1, h.p2, h.z1, h.z2, by rw [e1]; exact h.gl, by rw [e1]; exact h.gg, g1, ?_, ?_, ?_, ?_, ?_, ?_⟩
    · rw [e1, e2]
      intro x hx
      rcases (g2 x).1 hx with hx | hx
      · exact h.cf x hx
      · exact h.fo _ x (own_ow hx)
    · rw [e1]
      intro a x hx
      exact h.fo a x (how a x hx).1
    · intro a
      unfold SL.setOw
      simp only
      split
      · exact List.nodup_nil
      · rw [g5]; exact h.on a
    · intro a b x ha hb
      exact h.oo a b x (how a x ha).1 (how b x hb).1
    · rw [e2]
      intro a x hx hm
      obtain ⟨k1, k2⟩ := how a x hx
      rcases (g2 x).1 hm with hm | hm
      · exact h.oc a x k1 hm
      · rw [hot] at hm
        exact k2 (h.oo a _ x k1 hm)
    · intro a
      unfold SL.setOw
      simp only
      split
      · exact Nat.zero_le _
      · rw [g5]; exact h.ol a
end
end Go.Proofs.Ythcibbfljcfheaa.Abs
