/- A table and the document's: plain. No condition of its own. -/
import Derived.Test.YthcibbfljcfheaaRefA
namespace Go.Proofs.Ythcibbfljcfheaa.Abs
set_option linter.unusedSimpArgs false
set_option linter.unusedVariables false
def came (Z : List Z4) (x : Int) : Int := ((Z[x.toNat]?).map fun z => z.2.2.1).getD 0
/-- The document's table holds what the table holds. -/
structure Rl (pl : Nat) (S : SL) (Z : List Z4) (N : Nat) : Prop where
  zl : Z.length = pl
  un : ∀ (i : Nat) z, S.gs.length ≤ i → Z[i]? = some z → z = (0, 0, 0, 0)
  st : ∀ (i : Nat) p z, S.gs[i]? = some p → Z[i]? = some z → z.2.2.2 = p.2 ∧ 1 ≤ z.1 ∧ z.1 ≤ 4 ∧ (p.1 = true ↔ z.1 = 1)
  co : ∀ (i : Nat) z, Z[i]? = some z → (z.1 = 2 ↔ (i : Int) ∈ S.co)
  ow : ∀ (th i : Nat) z, Z[i]? = some z → ((z.1 = 3 ∧ z.2.1 = (th : Int)) ↔ (i : Int) ∈ S.ow th)
  ot : ∀ (i : Nat) z, Z[i]? = some z → z.1 = 3 → 0 ≤ z.2.1 ∧ z.2.1 < 256
  cm : ∀ (i : Nat) z, Z[i]? = some z → z.1 = 3 → 0 ≤ z.2.2.1 ∧ z.2.2.1 ≤ N
  cu : ∀ th, (S.ow th).Pairwise fun a b => came Z a < came Z b
theorem pw_ne {R : Int → Int → Prop} : ∀ {D : List Int}, D.Pairwise R → ∀ {a b : Int}, a ∈ D → b ∈ D → a ≠ b → R a b ∨ R b a
  | x :: D, h, a, b, ha, hb, hne => by
    rw [List.pairwise_cons] at h
    rcases List.mem_cons.1 ha with e1 | ha1 <;> rcases List.mem_cons.1 hb with e2 | hb1
    · exact absurd (e1.trans e2.symm) hne
    · subst e1; exact Or.inl (h.1 b hb1)
    · subst e2; exact Or.inr (h.1 a ha1)
    · exact pw_ne h.2 ha1 hb1 hne
theorem cnt_idx {P : Z4 → Bool} {Z : List Z4} : ∀ (n : Nat), n ≤ Z.length → ∀ (D : List Int), D.Nodup → (∀ x, x ∈ D ↔ ∃ (i : Nat) (z : Z4), x = i ∧ i < n ∧ Z[i]? = some z ∧ P z = true) → D.length = (Z.take n).countP P
  | 0, _, D, _, hm => by
    have : D = [] := by
      cases D with
      | nil => rfl
      | cons x D => obtain ⟨i, z, _, h, _⟩ := (hm x).1 (List.mem_cons_self ..); omega
    subst this
    rfl
  | n + 1, hn, D, hd, hm => by
    obtain ⟨z, hz⟩ : ∃ z, Z[n]? = some z := ⟨_, List.getElem?_eq_getElem (by omega)⟩
    rw [List.take_add_one, hz, List.countP_append]
    cases hp : P z
    · have := cnt_idx (P := P) (Z := Z) n (by omega) D hd (fun x => by
        rw [hm x]
        constructor
        · rintro ⟨i, y, h1, h2, h3, h4⟩
          refine ⟨i, y, h1, ?_, h3, h4⟩
          rcases Nat.lt_or_ge i n with h | h
          · exact h
          · have : i = n := by omega
            subst this
            rw [hz] at h3
            cases h3
            rw [hp] at h4
            cases h4
        · rintro ⟨i, y, h1, h2, h3⟩
          exact ⟨i, y, h1, by omega, h3⟩)
      rw [this]
      simp [hp]
    · have hmem : (n : Int) ∈ D := (hm n).2 ⟨n, z, rfl, by omega, hz, hp⟩
      have := cnt_idx (P := P) (Z := Z) n (by omega) (D.erase n) (hd.erase _) (fun x => by
        rw [hd.mem_erase_iff, hm x]
        constructor
        · rintro ⟨hne, i, y, h1, h2, h3⟩
          refine ⟨i, y, h1, ?_, h3⟩
          rcases Nat.lt_or_ge i n with h | h
          · exact h
          · have : i = n := by omega
            subst this
            exact absurd h1 hne
        · rintro ⟨i, y, h1, h2, h3⟩
          exact ⟨by omega, i, y, h1, by omega, h3⟩)
      rw [List.length_erase_of_mem hmem] at this
      have hpos := List.length_pos_of_mem hmem
      simp [hp]
      omega
theorem nd_of_rise {l : List Int} (h : l.Pairwise (· < ·)) : l.Nodup := h.imp fun h => by omega
section
variable {pl sz : Nat} {S : SL} {Z : List Z4} {N : Nat}
theorem Rl.zat (h : Rl pl S Z N) (g : Gd pl sz S) {i : Nat} {p : Bool × Int} (hi : S.gs[i]? = some p) : ∃ z, Z[i]? = some z := by
  have := (List.getElem?_eq_some_iff.1 hi).1
  have := g.gl
  have := h.zl
  exact ⟨_, List.getElem?_eq_getElem (by omega)⟩
theorem Rl.fol (h : Rl pl S Z N) (g : Gd pl sz S) {x : Int} (hx : 0 ≤ x ∧ ∃ q, S.gs[x.toNat]? = some (false, q)) : ∃ (i : Nat) (z : Z4), x = i ∧ Z[i]? = some z ∧ i < S.gs.length := by
  obtain ⟨h0, q, hq⟩ := hx
  obtain ⟨i, rfl⟩ := Int.eq_ofNat_of_zero_le h0
  rw [Int.toNat_natCast] at hq
  obtain ⟨z, hz⟩ := h.zat g hq
  exact ⟨i, z, rfl, hz, (List.getElem?_eq_some_iff.1 hq).1⟩
theorem isM_iff {z : Z4} {th c : Int} : isM z th c = true ↔ z.1 = 3 ∧ z.2.1 = th ∧ z.2.2.1 = c := by
  unfold isM
  simp [and_assoc]
theorem min1_iff {Z : List Z4} {th n : Int} {k : Nat} {x : Int} : x ∈ min1 Z th n k ↔ ∃ (i : Nat) (z : Z4), x = i ∧ i < k ∧ Z[i]? = some z ∧ isM z th n = true := by
  refine ⟨min1_mem, ?_⟩
  induction k with
  | zero => rintro ⟨i, z, _, h, _⟩; omega
  | succ k ih =>
    rintro ⟨i, z, h1, h2, h3, h4⟩
    unfold min1
    rw [List.mem_append]
    by_cases e : i = k
    · subst e
      right
      rw [h3]
      simp [h4, h1]
    · exact Or.inl (ih ⟨i, z, h1, by omega, h3, h4⟩)
theorem minN_iff {Z : List Z4} {th : Int} {n : Nat} {x : Int} : x ∈ minN Z th n ↔ ∃ (i : Nat) (z : Z4) (c : Nat), x = i ∧ c < n ∧ Z[i]? = some z ∧ isM z th c = true := by
  refine ⟨minN_mem, ?_⟩
  induction n with
  | zero => rintro ⟨i, z, c, _, h, _⟩; omega
  | succ n ih =>
    rintro ⟨i, z, c, h1, h2, h3, h4⟩
    unfold minN
    rw [List.mem_append]
    by_cases e : c = n
    · subst e
      exact Or.inr (min1_iff.2 ⟨i, z, h1, (List.getElem?_eq_some_iff.1 h3).1, h3, h4⟩)
    · exact Or.inl (ih ⟨i, z, c, h1, by omega, h3, h4⟩)
theorem came_at {Z : List Z4} {i : Nat} {z : Z4} (h : Z[i]? = some z) : came Z i = z.2.2.1 := by
  unfold came
  rw [Int.toNat_natCast, h]
  rfl
theorem min1_pw {R : Int → Int → Prop} {th n : Int} (hu : ∀ (i j : Nat) y z, Z[i]? = some y → Z[j]? = some z → isM y th n = true → isM z th n = true → i = j) : ∀ k, (min1 Z th n k).Pairwise R
  | 0 => List.Pairwise.nil
  | k + 1 => by
    unfold min1
    rw [List.pairwise_append]
    refine ⟨min1_pw hu k, by split <;> simp, fun a ha b hb => ?_⟩
    obtain ⟨i, y, h1, h2, h3, h4⟩ := min1_mem ha
    split at hb
    · rename_i hc
      have hb' : b = k := by simpa using hb
      cases hz : Z[k]? with
      | none => rw [hz] at hc; simp at hc
      | some z =>
        rw [hz] at hc
        have := hu i k y z h3 hz h4 (by simpa using hc)
        omega
    · cases hb
/-- A thread's own, as they came. -/
theorem Rl.mine (h : Rl pl S Z N) (g : Gd pl sz S) (th : Int) : minN Z th (N + 1) = S.own th := by
  unfold SL.own
  by_cases ht : 0 ≤ th ∧ th < 256
  · rw [if_pos ht]
    obtain ⟨t, rfl⟩ := Int.eq_ofNat_of_zero_le ht.1
    rw [Int.toNat_natCast]
    have hmem : ∀ x, x ∈ minN Z (t : Int) (N + 1) ↔ x ∈ S.ow t := by
      intro x
      rw [minN_iff]
      constructor
      · rintro ⟨i, z, c, rfl, _, hz, hm⟩
        obtain ⟨m1, m2, _⟩ := isM_iff.1 hm
        exact (h.ow t i z hz).1 ⟨m1, m2⟩
      · intro hx
        obtain ⟨i, z, rfl, hz, _⟩ := h.fol g (g.fo t x hx)
        obtain ⟨m1, m2⟩ := (h.ow t i z hz).2 hx
        obtain ⟨c1, c2⟩ := h.cm i z hz m1
        exact ⟨i, z, z.2.2.1.toNat, rfl, by omega, hz, isM_iff.2 ⟨m1, m2, by omega⟩⟩
    have hu : ∀ (n : Int) (i j : Nat) y z, Z[i]? = some y → Z[j]? = some z → isM y (t : Int) n = true → isM z (t : Int) n = true → i = j := by
      intro n i j y z hi hj h1 h2
      obtain ⟨a1, a2, a3⟩ := isM_iff.1 h1
      obtain ⟨b1, b2, b3⟩ := isM_iff.1 h2
      have m1 := (h.ow t i y hi).1 ⟨a1, a2⟩
      have m2 := (h.ow t j z hj).1 ⟨b1, b2⟩
      by_cases e : (i : Int) = (j : Int)
      · omega
      · have := pw_ne (h.cu t) m1 m2 e
        rw [came_at hi, came_at hj] at this
        omega
    have hpw : ∀ n, (minN Z (t : Int) n).Pairwise fun a b => came Z a < came Z b := by
      intro n
      induction n with
      | zero => exact List.Pairwise.nil
      | succ n ih =>
        unfold minN
        rw [List.pairwise_append]
        refine ⟨ih, min1_pw (hu n) _, fun a ha b hb => ?_⟩
        obtain ⟨i, y, c, rfl, hc, hi, hm⟩ := minN_mem ha
        obtain ⟨j, z, rfl, _, hj, hm2⟩ := min1_mem hb
        rw [came_at hi, came_at hj, (isM_iff.1 hm).2.2, (isM_iff.1 hm2).2.2]
        omega
    have nd1 : (minN Z (t : Int) (N + 1)).Nodup := (hpw (N + 1)).imp fun {a b} hab e => by rw [e] at hab; omega
    have hperm : (minN Z (t : Int) (N + 1)).Perm (S.ow t) := (List.perm_ext_iff_of_nodup nd1 (g.on t)).2 hmem
    exact List.Perm.eq_of_pairwise (le := fun a b => came Z a < came Z b) (fun a b _ _ h1 h2 => by omega) (hpw (N + 1)) (h.cu t) hperm
  · rw [if_neg ht]
    cases hM : minN Z th (N + 1) with
    | nil => rfl
    | cons x l =>
      exfalso
      obtain ⟨i, z, c, _, _, hz, hm⟩ := minN_mem (by rw [hM]; exact List.mem_cons_self .. : x ∈ minN Z th (N + 1))
      obtain ⟨m1, m2, _⟩ := isM_iff.1 hm
      have := h.ot i z hz m1
      omega
theorem Rl.mine2 (h : Rl pl S Z N) (th : Int) : minN Z th (N + 1 + 1) = minN Z th (N + 1) := by
  show minN Z th (N + 1) ++ min1 Z th ((N + 1 : Nat) : Int) Z.length = _
  have : min1 Z th ((N + 1 : Nat) : Int) Z.length = [] := by
    cases hM : min1 Z th ((N + 1 : Nat) : Int) Z.length with
    | nil => rfl
    | cons x l =>
      exfalso
      obtain ⟨i, z, _, _, hz, hm⟩ := min1_mem (by rw [hM]; exact List.mem_cons_self .. : x ∈ min1 Z th ((N + 1 : Nat) : Int) Z.length)
      obtain ⟨m1, _, m3⟩ := isM_iff.1 hm
      have := (h.cm i z hz m1).2
      omega
  rw [this, List.append_nil]
theorem fir_some {Z : List Z4} {a : Int} {i : Nat} {z : Z4} (hi : Z[i]? = some z) (hz : z.1 = a) (hno : ∀ (j : Nat) y, j < i → Z[j]? = some y → y.1 ≠ a) : firZ Z a = (i : Int) := by
  unfold firZ
  have hl := (List.getElem?_eq_some_iff.1 hi).1
  have : Z.findIdx? (fun z => z.1 == a) = some i := by
    rw [List.findIdx?_eq_some_iff_getElem]
    refine ⟨hl, ?_, fun j hj => ?_⟩
    · rw [(List.getElem?_eq_some_iff.1 hi).2]; simpa using hz
    · have := hno j (Z[j]'(by omega)) hj (List.getElem?_eq_getElem (by omega))
      simpa using this
  rw [this]
theorem fir_none {Z : List Z4} {a : Int} (hno : ∀ (j : Nat) y, Z[j]? = some y → y.1 ≠ a) : firZ Z a = -1 := by
  unfold firZ
  have : Z.findIdx? (fun z => z.1 == a) = none := by
    rw [List.findIdx?_eq_none_iff]
    intro y hy
    obtain ⟨j, hj⟩ := List.getElem?_of_mem hy
    have := hno j y hj
    simpa using this
  rw [this]
theorem Rl.first2 (h : Rl pl S Z N) (g : Gd pl sz S) {i : Nat} {t : List Int} (hc : S.co = (i : Int) :: t) : firZ Z 2 = (i : Int) := by
  have hm : (i : Int) ∈ S.co := by rw [hc]; exact List.mem_cons_self ..
  obtain ⟨j, z, hj, hz, _⟩ := h.fol g (g.cf _ hm)
  have : i = j := by omega
  subst this
  refine fir_some hz ((h.co i z hz).2 hm) (fun j y hj hy hy2 => ?_)
  have hjm := (h.co j y hy).1 hy2
  have hs := g.cs
  rw [hc, List.pairwise_cons] at hs
  rw [hc] at hjm
  rcases List.mem_cons.1 hjm with h1 | h1
  · omega
  · have := hs.1 _ h1; omega
theorem Rl.first2_no (h : Rl pl S Z N) (hc : S.co = []) : firZ Z 2 = -1 :=
  fir_none fun j y hy hy2 => by have := (h.co j y hy).1 hy2; rw [hc] at this; cases this
theorem Rl.first0 (h : Rl pl S Z N) (hl : S.gs.length < pl) : firZ Z 0 = (S.gs.length : Int) := by
  obtain ⟨z, hz⟩ : ∃ z, Z[S.gs.length]? = some z := ⟨_, List.getElem?_eq_getElem (by rw [h.zl]; exact hl)⟩
  have hz0 := h.un _ z (Nat.le_refl _) hz
  refine fir_some hz (by rw [hz0]) (fun j y hj hy hy0 => ?_)
  obtain ⟨p, hp⟩ : ∃ p, S.gs[j]? = some p := ⟨_, List.getElem?_eq_getElem hj⟩
  have := (h.st j p y hp hy).2.1
  omega
theorem Rl.first0_no (h : Rl pl S Z N) (hl : S.gs.length = pl) : firZ Z 0 = -1 := by
  refine fir_none fun j y hy hy0 => ?_
  have hj := (List.getElem?_eq_some_iff.1 hy).1
  rw [h.zl] at hj
  obtain ⟨p, hp⟩ : ∃ p, S.gs[j]? = some p := ⟨_, List.getElem?_eq_getElem (by omega)⟩
  have := (h.st j p y hp hy).2.1
  omega
theorem Rl.cnt2 (h : Rl pl S Z N) (g : Gd pl sz S) : cntZ Z 2 = S.co.length := by
  have := cnt_idx (P := fun z => z.1 == 2) (Z := Z) Z.length (Nat.le_refl _) S.co (nd_of_rise g.cs) (fun x => by
    constructor
    · intro hx
      obtain ⟨i, z, rfl, hz, hl⟩ := h.fol g (g.cf x hx)
      exact ⟨i, z, rfl, (List.getElem?_eq_some_iff.1 hz).1, hz, by simpa using (h.co i z hz).2 hx⟩
    · rintro ⟨i, z, rfl, _, hz, hp⟩
      exact (h.co i z hz).1 (by simpa using hp))
  rw [List.take_length] at this
  exact this.symm
theorem cntP_add {P Q R : Z4 → Bool} (hpq : ∀ z, P z = (Q z || R z)) (hd : ∀ z, ¬ (Q z = true ∧ R z = true)) : ∀ Z : List Z4, Z.countP P = Z.countP Q + Z.countP R
  | [] => rfl
  | z :: Z => by
    rw [List.countP_cons, List.countP_cons, List.countP_cons, cntP_add hpq hd Z, hpq z]
    have := hd z
    cases hq : Q z <;> cases hr : R z <;> simp [hq, hr] at this ⊢ <;> omega
theorem Rl.cnt3 (h : Rl pl S Z N) (g : Gd pl sz S) : cntZ Z 3 = S.owN 256 := by
  have hone : ∀ t : Nat, Z.countP (fun z => (z.1 == 3) && (z.2.1 == (t : Int))) = (S.ow t).length := by
    intro t
    have := cnt_idx (P := fun z => (z.1 == 3) && (z.2.1 == (t : Int))) (Z := Z) Z.length (Nat.le_refl _) (S.ow t) (g.on t) (fun x => by
      constructor
      · intro hx
        obtain ⟨i, z, rfl, hz, hl⟩ := h.fol g (g.fo t x hx)
        exact ⟨i, z, rfl, (List.getElem?_eq_some_iff.1 hz).1, hz, by simpa using (h.ow t i z hz).2 hx⟩
      · rintro ⟨i, z, rfl, _, hz, hp⟩
        exact (h.ow t i z hz).1 (by simpa using hp))
    rw [List.take_length] at this
    exact this.symm
  have hall : ∀ M : Nat, S.owN M = Z.countP (fun z => (z.1 == 3) && (decide (0 ≤ z.2.1) && decide (z.2.1 < (M : Int)))) := by
    intro M
    induction M with
    | zero =>
      symm
      show _ = 0
      rw [List.countP_eq_zero]
      intro z _
      simp
      try omega
    | succ M ih =>
      unfold SL.owN
      rw [ih, ← hone M]
      symm
      refine cntP_add (fun z => ?_) (fun z => ?_) Z
      · cases z.1 == 3
        · rfl
        · simp only [Bool.true_and]
          rw [Bool.eq_iff_iff]
          simp
          omega
      · simp
        omega
  rw [hall 256]
  unfold cntZ
  refine List.countP_congr fun z hz => ?_
  obtain ⟨i, hi⟩ := List.getElem?_of_mem hz
  constructor
  · intro h3
    have h3' : z.1 = 3 := by simpa using h3
    have := h.ot i z hi h3'
    simp [h3', this]
    try omega
  · intro h3
    simp at h3
    simp [h3.1]
theorem Rl.cnt0 (h : Rl pl S Z N) (g : Gd pl sz S) : cntZ Z 0 + S.gs.length = pl := by
  have hs : Z = Z.take S.gs.length ++ Z.drop S.gs.length := (List.take_append_drop _ _).symm
  have hgl := g.gl
  have hzl := h.zl
  unfold cntZ
  rw [hs, List.countP_append]
  have e1 : (Z.take S.gs.length).countP (fun z => z.1 == 0) = 0 := by
    rw [List.countP_eq_zero]
    intro z hz
    obtain ⟨i, hi⟩ := List.getElem?_of_mem hz
    rw [List.getElem?_take] at hi
    split at hi
    · rename_i hl
      obtain ⟨p, hp⟩ : ∃ p, S.gs[i]? = some p := ⟨_, List.getElem?_eq_getElem hl⟩
      have := (h.st i p z hp hi).2.1
      simp
      omega
    · cases hi
  have e2 : (Z.drop S.gs.length).countP (fun z => z.1 == 0) = (Z.drop S.gs.length).length := by
    rw [List.countP_eq_length]
    intro z hz
    obtain ⟨i, hi⟩ := List.getElem?_of_mem hz
    rw [List.getElem?_drop] at hi
    have := h.un _ z (by omega) hi
    rw [this]
    rfl
  rw [e1, e2, List.length_drop]
  omega
theorem Rl.left (h : Rl pl S Z N) (g : Gd pl sz S) : S.left pl = (cntZ Z 2 : Int) + cntZ Z 3 + cntZ Z 0 := by
  have h2 := h.cnt2 g
  have h3 := h.cnt3 g
  have h0 := h.cnt0 g
  unfold SL.left
  omega
end
def rA (a : Int) (z : Z4) : Z4 := (a, z.2.1, z.2.2.1, z.2.2.2)
theorem setAt_get (Z : List Z4) (i : Nat) (a : Int) (j : Nat) : (setAt Z i a)[j]? = if j = i then (Z[j]?).map (rA a) else Z[j]? := by
  unfold setAt
  split
  · rename_i z hz
    have hl := (List.getElem?_eq_some_iff.1 hz).1
    rw [List.getElem?_set]
    by_cases e : j = i
    · subst e
      rw [if_pos rfl, if_pos hl, if_pos rfl, hz]
      rfl
    · rw [if_neg (Ne.symm e), if_neg e]
  · rename_i hz
    split
    · rename_i e; subst e; rw [hz]; rfl
    · rfl
theorem fold_get : ∀ (D : List Int) (Z : List Z4), (∀ x ∈ D, 0 ≤ x) → ∀ j : Nat, (D.foldl (fun Z x => setAt Z x.toNat 2) Z)[j]? = if (j : Int) ∈ D then (Z[j]?).map (rA 2) else Z[j]?
  | [], Z, _, j => by simp
  | x :: D, Z, h0, j => by
    have hx := h0 x (List.mem_cons_self ..)
    rw [List.foldl_cons, fold_get D _ (fun y hy => h0 y (List.mem_cons_of_mem _ hy)), setAt_get]
    by_cases e : j = x.toNat
    · have e' : (j : Int) = x := by omega
      have hR : (if (j : Int) ∈ x :: D then (Z[j]?).map (rA 2) else Z[j]?) = (Z[j]?).map (rA 2) := if_pos (by rw [e']; exact List.mem_cons_self ..)
      rw [if_pos e, hR]
      split
      · cases Z[j]? <;> rfl
      · rfl
    · have e' : (j : Int) ≠ x := by omega
      rw [if_neg e]
      by_cases hm : (j : Int) ∈ D
      · rw [if_pos hm, if_pos (List.mem_cons_of_mem _ hm)]
      · rw [if_neg hm, if_neg (by rw [List.mem_cons]; rintro (h | h); exact e' h; exact hm h)]
theorem growZ_get (Z : List Z4) (i : Nat) : ∀ (k j : Nat), (growZ Z i k)[j]? = if i ≤ j ∧ j < i + k then (Z[j]?).map (rA 2) else Z[j]?
  | 0, j => by rw [if_neg (by omega)]; rfl
  | k + 1, j => by
    rw [growZ_succ, setAt_get, growZ_get Z i k]
    by_cases e : j = i + k
    · rw [if_pos e, if_neg (by omega), if_pos (by omega)]
    · rw [if_neg e]
      by_cases hj : i ≤ j ∧ j < i + k
      · rw [if_pos hj, if_pos (by omega)]
      · rw [if_neg hj, if_neg (by omega)]
theorem came_congr {Z Z' : List Z4} (h : ∀ j : Nat, ∃ c : Prop, ∃ _ : Decidable c, ∃ a, Z'[j]? = if c then (Z[j]?).map (rA a) else Z[j]?) (x : Int) : came Z' x = came Z x := by
  obtain ⟨c, _, a, e⟩ := h x.toNat
  unfold came
  rw [e]
  split
  · cases Z[x.toNat]? <;> rfl
  · rfl
section
variable {pl sz : Nat} {S : SL} {Z : List Z4} {N : Nat}
theorem rl_new (pl : Nat) : Rl pl SL.new (List.replicate pl ((0, 0, 0, 0) : Z4)) 0 := by
  have hz : ∀ (i : Nat) (z : Z4), (List.replicate pl ((0, 0, 0, 0) : Z4))[i]? = some z → z = (0, 0, 0, 0) := fun i z h => List.eq_of_mem_replicate (List.mem_of_getElem? h)
  refine ⟨by simp, fun i z _ h => hz i z h, fun i p z hp _ => (by cases hp), fun i z h => ?_, fun th i z h => ?_, fun i z h h3 => ?_, fun i z h h3 => ?_, fun th => List.Pairwise.nil⟩
  · rw [hz i z h]
    exact ⟨fun h => (by cases h), fun h => by cases h⟩
  · rw [hz i z h]
    exact ⟨fun h => (by cases h.1), fun h => by cases h⟩
  · rw [hz i z h] at h3; cases h3
  · rw [hz i z h] at h3; cases h3
theorem Rl.mark (h : Rl pl S Z N) {S1 : SL} {i : Nat} {u : Bool} {g : Int} (hgs : S1.gs = S.gs.set i (true, g)) (hi : S.gs[i]? = some (u, g)) (hco : ∀ j : Nat, (j : Int) ∈ S1.co ↔ (j : Int) ∈ S.co ∧ j ≠ i) (how : ∀ (th j : Nat), (j : Int) ∈ S1.ow th ↔ (j : Int) ∈ S.ow th ∧ j ≠ i) (hsub : ∀ th, (S1.ow th).Sublist (S.ow th)) : Rl pl S1 (setAt Z i 1) N := by
  have hil := (List.getElem?_eq_some_iff.1 hi).1
  have hold : ∀ (j : Nat) z, (setAt Z i 1)[j]? = some z → (j = i ∧ ∃ z0, Z[i]? = some z0 ∧ z = rA 1 z0) ∨ (j ≠ i ∧ Z[j]? = some z) := by
    intro j z hj
    rw [setAt_get] at hj
    split at hj
    · rename_i e
      subst e
      obtain ⟨z0, h1, h2⟩ := Option.map_eq_some_iff.1 hj
      exact Or.inl ⟨rfl, z0, h1, h2.symm⟩
    · rename_i e
      exact Or.inr ⟨e, hj⟩
  have hca : ∀ x, came (setAt Z i 1) x = came Z x := came_congr fun j => ⟨j = i, inferInstance, 1, setAt_get Z i 1 j⟩
  refine ⟨by rw [setAt_len]; exact h.zl, ?_, ?_, ?_, ?_, ?_, ?_, ?_⟩
  · intro j z hj hz
    rw [hgs, List.length_set] at hj
    rcases hold j z hz with ⟨e, _⟩ | ⟨_, hz⟩
    · omega
    · exact h.un j z hj hz
  · intro j p z hp hz
    rw [hgs, List.getElem?_set] at hp
    rcases hold j z hz with ⟨e, z0, h0, rfl⟩ | ⟨e, hz⟩
    · subst e
      rw [if_pos rfl, if_pos hil] at hp
      cases hp
      have := (h.st j _ z0 hi h0).1
      exact ⟨this, by show (1 : Int) ≤ 1; omega, by show (1 : Int) ≤ 4; omega, by simp [rA]⟩
    · rw [if_neg (Ne.symm e)] at hp
      exact h.st j p z hp hz
  · intro j z hz
    rw [hco]
    rcases hold j z hz with ⟨e, z0, h0, rfl⟩ | ⟨e, hz⟩
    · exact ⟨fun h => (by cases h), fun h => absurd e h.2⟩
    · rw [h.co j z hz]
      exact ⟨fun h => ⟨h, e⟩, fun h => h.1⟩
  · intro th j z hz
    rw [how]
    rcases hold j z hz with ⟨e, z0, h0, rfl⟩ | ⟨e, hz⟩
    · exact ⟨fun h => (by cases h.1), fun h => absurd e h.2⟩
    · rw [h.ow th j z hz]
      exact ⟨fun h => ⟨h, e⟩, fun h => h.1⟩
  · intro j z hz h3
    rcases hold j z hz with ⟨e, z0, h0, rfl⟩ | ⟨e, hz⟩
    · cases h3
    · exact h.ot j z hz h3
  · intro j z hz h3
    rcases hold j z hz with ⟨e, z0, h0, rfl⟩ | ⟨e, hz⟩
    · cases h3
    · exact h.cm j z hz h3
  · intro th
    simp only [hca]
    exact (h.cu th).sublist (hsub th)
theorem Rl.grow (h : Rl pl S Z N) (g : Gd pl sz S) (hco : S.co = []) {k : Nat} (hk : S.gs.length + k ≤ pl) : Rl pl (S.growN k) (growZ Z S.gs.length k) N := by
  have hold : ∀ (j : Nat) z, (growZ Z S.gs.length k)[j]? = some z → (S.gs.length ≤ j ∧ j < S.gs.length + k ∧ z = (2, 0, 0, 0)) ∨ (¬ (S.gs.length ≤ j ∧ j < S.gs.length + k) ∧ Z[j]? = some z) := by
    intro j z hj
    rw [growZ_get] at hj
    split at hj
    · rename_i e
      obtain ⟨z0, h1, h2⟩ := Option.map_eq_some_iff.1 hj
      rw [h.un j z0 e.1 h1] at h2
      exact Or.inl ⟨e.1, e.2, h2.symm⟩
    · rename_i e
      exact Or.inr ⟨e, hj⟩
  have hca : ∀ x, came (growZ Z S.gs.length k) x = came Z x := came_congr fun j => ⟨_, inferInstance, 2, growZ_get Z _ k j⟩
  have hcom : ∀ j : Nat, (j : Int) ∈ (S.growN k).co ↔ S.gs.length ≤ j ∧ j < S.gs.length + k := by
    intro j
    unfold SL.growN
    simp only [hco, List.nil_append, List.mem_map, List.mem_range]
    constructor
    · rintro ⟨a, ha, e⟩; omega
    · intro hj; exact ⟨j - S.gs.length, by omega, by omega⟩
  refine ⟨by rw [growZ_len]; exact h.zl, ?_, ?_, ?_, ?_, ?_, ?_, ?_⟩
  · intro j z hj hz
    rw [growN_gs] at hj
    rcases hold j z hz with ⟨e1, e2, _⟩ | ⟨_, hz⟩
    · omega
    · exact h.un j z (by omega) hz
  · intro j p z hp hz
    unfold SL.growN at hp
    simp only at hp
    rw [List.getElem?_append] at hp
    rcases hold j z hz with ⟨e1, e2, rfl⟩ | ⟨e, hz⟩
    · rw [if_neg (by omega), List.getElem?_replicate, if_pos (by omega)] at hp
      cases hp
      exact ⟨rfl, by decide, by decide, by simp⟩
    · split at hp
      · exact h.st j p z hp hz
      · rw [List.getElem?_replicate, if_neg (by omega)] at hp
        cases hp
  · intro j z hz
    rw [hcom]
    rcases hold j z hz with ⟨e1, e2, rfl⟩ | ⟨e, hz⟩
    · exact ⟨fun _ => ⟨e1, e2⟩, fun _ => rfl⟩
    · rw [h.co j z hz, hco]
      exact ⟨fun h => (by cases h), fun h => absurd h e⟩
  · intro th j z hz
    show _ ↔ (j : Int) ∈ S.ow th
    rcases hold j z hz with ⟨e1, e2, rfl⟩ | ⟨e, hz⟩
    · refine ⟨fun h => (by cases h.1), fun hm => ?_⟩
      obtain ⟨h0, q, hq⟩ := g.fo th _ hm
      have := (List.getElem?_eq_some_iff.1 hq).1
      omega
    · exact h.ow th j z hz
  · intro j z hz h3
    rcases hold j z hz with ⟨e1, e2, rfl⟩ | ⟨e, hz⟩
    · cases h3
    · exact h.ot j z hz h3
  · intro j z hz h3
    rcases hold j z hz with ⟨e1, e2, rfl⟩ | ⟨e, hz⟩
    · cases h3
    · exact h.cm j z hz h3
  · intro th
    simp only [hca]
    exact h.cu th
theorem Rl.flush (h : Rl pl S Z N) (g : Gd pl sz S) (th : Int) : Rl pl (S.flush th) ((S.own th).foldl (fun Z x => setAt Z x.toNat 2) Z) N := by
  unfold SL.flush
  split
  · rename_i e
    rw [e]
    exact h
  · rename_i hne
    obtain ⟨g1, g2, g3, g4, g5⟩ := share_fold (S.own th) S g.cs (g.own_nd th) (fun x hx => g.oc _ x (own_ow hx))
    have hot : S.own th = S.ow th.toNat := by
      unfold SL.own at hne ⊢
      split at hne
      · rw [if_pos (by assumption)]
      · exact absurd rfl hne
    obtain ⟨t, ht⟩ : ∃ t, t = th.toNat := ⟨_, rfl⟩
    rw [← ht] at hot ⊢
    rw [hot] at g2 g4 g5 ⊢
    have hpos : ∀ x ∈ S.ow t, 0 ≤ x := fun x hx => (g.fo t x hx).1
    have hget := fold_get (S.ow t) Z hpos
    obtain ⟨S1, hS1⟩ : ∃ S1, S1 = (S.ow t).foldl SL.share S := ⟨_, rfl⟩
    rw [← hS1] at g2 g4 g5 ⊢
    have hold : ∀ (j : Nat) z, ((S.ow t).foldl (fun Z x => setAt Z x.toNat 2) Z)[j]? = some z → ((j : Int) ∈ S.ow t ∧ ∃ z0, Z[j]? = some z0 ∧ z = rA 2 z0) ∨ ((j : Int) ∉ S.ow t ∧ Z[j]? = some z) := by
      intro j z hj
      rw [hget] at hj
      split at hj
      · rename_i e
        obtain ⟨z0, h1, h2⟩ := Option.map_eq_some_iff.1 hj
        exact Or.inl ⟨e, z0, h1, h2.symm⟩
      · rename_i e
        exact Or.inr ⟨e, hj⟩
    have hca : ∀ x, came ((S.ow t).foldl (fun Z x => setAt Z x.toNat 2) Z) x = came Z x := came_congr fun j => ⟨_, inferInstance, 2, hget j⟩
    have e1 : (S1.setOw t []).gs = S.gs := g4
    have e2 : (S1.setOw t []).co = S1.co := rfl
    have e3 : ∀ a, (S1.setOw t []).ow a = if a = t then [] else S.ow a := fun a => by
      show (if a = t then [] else S1.ow a) = _
      rw [g5]
    refine ⟨by rw [fold_len]; exact h.zl, ?_, ?_, ?_, ?_, ?_, ?_, ?_⟩
    · rw [e1]
      intro j z hj hz
      rcases hold j z hz with ⟨e, z0, h0, rfl⟩ | ⟨_, hz⟩
      · obtain ⟨_, q, hq⟩ := g.fo t _ e
        have := (List.getElem?_eq_some_iff.1 hq).1
        omega
      · exact h.un j z hj hz
    · rw [e1]
      intro j p z hp hz
      rcases hold j z hz with ⟨e, z0, h0, rfl⟩ | ⟨_, hz⟩
      · have h3 := ((h.ow t j z0 h0).2 e).1
        obtain ⟨k1, k2, k3, k4⟩ := h.st j p z0 hp h0
        refine ⟨k1, by show (1 : Int) ≤ 2; omega, by show (2 : Int) ≤ 4; omega, ?_⟩
        rw [k4, h3]
        simp [rA]
      · exact h.st j p z hp hz
    · rw [e2]
      intro j z hz
      rw [g2]
      rcases hold j z hz with ⟨e, z0, h0, rfl⟩ | ⟨e, hz⟩
      · exact ⟨fun _ => Or.inr e, fun _ => rfl⟩
      · rw [h.co j z hz]
        exact ⟨Or.inl, fun h => h.resolve_right e⟩
    · intro a j z hz
      rw [e3]
      rcases hold j z hz with ⟨e, z0, h0, rfl⟩ | ⟨e, hz⟩
      · refine ⟨fun h => (by cases h.1), fun hm => ?_⟩
        split at hm
        · cases hm
        · rename_i hat
          exact absurd (g.oo a t _ hm e) hat
      · rw [h.ow a j z hz]
        split
        · rename_i hat
          subst hat
          exact ⟨fun h => absurd h e, fun h => by cases h⟩
        · exact Iff.rfl
    · intro j z hz h3
      rcases hold j z hz with ⟨e, z0, h0, rfl⟩ | ⟨e, hz⟩
      · cases h3
      · exact h.ot j z hz h3
    · intro j z hz h3
      rcases hold j z hz with ⟨e, z0, h0, rfl⟩ | ⟨e, hz⟩
      · cases h3
      · exact h.cm j z hz h3
    · intro a
      rw [e3]
      split
      · exact List.Pairwise.nil
      · simp only [hca]
        exact h.cu a
theorem Rl.put (h : Rl pl S Z N) {S1 : SL} {i : Nat} {F : Z4} {p0 : Bool × Int} (hi : S.gs[i]? = some p0) (hic : (i : Int) ∉ S.co) (hio : ∀ t, (i : Int) ∉ S.ow t) (hgs : S1.gs = S.gs.set i (false, F.2.2.2)) (hF : 2 ≤ F.1 ∧ F.1 ≤ 4) (hF2 : 0 ≤ F.2.1 ∧ F.2.1 < 256) (hF3 : F.2.2.1 = (N + 1 : Nat))
    (hco : ∀ j : Nat, (j : Int) ∈ S1.co ↔ (j : Int) ∈ S.co ∨ (j = i ∧ F.1 = 2)) (how : ∀ t j : Nat, (j : Int) ∈ S1.ow t ↔ (j : Int) ∈ S.ow t ∨ (j = i ∧ F.1 = 3 ∧ F.2.1 = (t : Int)))
    (hcu : ∀ t, S1.ow t = S.ow t ∨ S1.ow t = S.ow t ++ [(i : Int)]) (g : Gd pl sz S) : Rl pl S1 (Z.set i F) (N + 1) := by
  have hil := (List.getElem?_eq_some_iff.1 hi).1
  have hgl := g.gl
  have hzl := h.zl
  have hget : ∀ j, (Z.set i F)[j]? = if j = i then some F else Z[j]? := by
    intro j
    rw [List.getElem?_set]
    by_cases e : j = i
    · subst e; rw [if_pos rfl, if_pos rfl, if_pos (by omega)]
    · rw [if_neg (Ne.symm e), if_neg e]
  have hold : ∀ (j : Nat) z, (Z.set i F)[j]? = some z → (j = i ∧ z = F) ∨ (j ≠ i ∧ Z[j]? = some z) := by
    intro j z hj
    rw [hget] at hj
    split at hj
    · rename_i e
      cases hj
      exact Or.inl ⟨e, rfl⟩
    · rename_i e
      exact Or.inr ⟨e, hj⟩
  have hca : ∀ x : Int, 0 ≤ x → x ≠ i → came (Z.set i F) x = came Z x := by
    intro x h0 hx
    unfold came
    rw [hget, if_neg (by omega)]
  have hci : came (Z.set i F) (i : Int) = (N + 1 : Nat) := by
    unfold came
    rw [Int.toNat_natCast, hget, if_pos rfl]
    exact hF3
  refine ⟨by rw [List.length_set]; exact h.zl, ?_, ?_, ?_, ?_, ?_, ?_, ?_⟩
  · intro j z hj hz
    rw [hgs, List.length_set] at hj
    rcases hold j z hz with ⟨e, _⟩ | ⟨_, hz⟩
    · omega
    · exact h.un j z hj hz
  · intro j p z hp hz
    rw [hgs, List.getElem?_set] at hp
    rcases hold j z hz with ⟨e, rfl⟩ | ⟨e, hz⟩
    · subst e
      rw [if_pos rfl, if_pos hil] at hp
      cases hp
      exact ⟨rfl, by omega, by omega, by simp; omega⟩
    · rw [if_neg (Ne.symm e)] at hp
      exact h.st j p z hp hz
  · intro j z hz
    rw [hco]
    rcases hold j z hz with ⟨e, rfl⟩ | ⟨e, hz⟩
    · subst e
      exact ⟨fun h => Or.inr ⟨rfl, h⟩, fun h => (h.resolve_left hic).2⟩
    · rw [h.co j z hz]
      exact ⟨Or.inl, fun h => h.resolve_right (fun h => e h.1)⟩
  · intro t j z hz
    rw [how]
    rcases hold j z hz with ⟨e, rfl⟩ | ⟨e, hz⟩
    · subst e
      exact ⟨fun h => Or.inr ⟨rfl, h⟩, fun h => (h.resolve_left (hio t)).2⟩
    · rw [h.ow t j z hz]
      exact ⟨Or.inl, fun h => h.resolve_right (fun h => e h.1)⟩
  · intro j z hz h3
    rcases hold j z hz with ⟨e, rfl⟩ | ⟨e, hz⟩
    · exact hF2
    · exact h.ot j z hz h3
  · intro j z hz h3
    rcases hold j z hz with ⟨e, rfl⟩ | ⟨e, hz⟩
    · rw [hF3]; omega
    · have := h.cm j z hz h3; omega
  · intro t
    have hb : (S.ow t).Pairwise fun a b => came (Z.set i F) a < came (Z.set i F) b := by
      refine (h.cu t).imp_of_mem fun {a b} ha hb' hab => ?_
      rw [hca a (g.fo t a ha).1 (fun e => hio t (by rw [← e]; exact ha)), hca b (g.fo t b hb').1 (fun e => hio t (by rw [← e]; exact hb'))]
      exact hab
    rcases hcu t with e | e
    · rw [e]; exact hb
    · rw [e, List.pairwise_append]
      refine ⟨hb, List.pairwise_singleton _ _, fun a ha b hb' => ?_⟩
      have : b = i := by simpa using hb'
      subst this
      rw [hci, hca a (g.fo t a ha).1 (fun e => hio t (by rw [← e]; exact ha))]
      obtain ⟨j, z, rfl, hz, _⟩ := h.fol g (g.fo t a ha)
      rw [came_at hz]
      have := (h.cm j z hz ((h.ow t j z hz).2 ha).1).2
      omega
theorem Rl.free (h : Rl pl S Z N) (g : Gd pl sz S) {th i : Nat} {q : Int} (ht : th < 256) (hi : S.gs[i]? = some (true, q)) : Rl pl (S.free sz th i) (Z.set i (freeZ sz th (N + 1 : Nat) q (S.ow th).length)) (N + 1) := by
  obtain ⟨hic, hio⟩ := g.used_off hi
  unfold SL.free freeZ
  rw [hi]
  simp only
  by_cases hq : q = 16777215
  · simp only [if_pos hq]
    refine h.put hi hic hio rfl (by simp only; omega) (by simp only; omega) rfl (fun j => ?_) (fun t j => ?_) (fun t => Or.inl rfl) g
    · exact ⟨Or.inl, fun h => h.resolve_right (fun h => by cases h.2)⟩
    · exact ⟨Or.inl, fun h => h.resolve_right (fun h => by cases h.2.1)⟩
  · simp only [if_neg hq]
    by_cases hl : (S.ow th).length < sz
    · rw [if_pos hl, if_pos (by omega)]
      refine h.put hi hic hio rfl (by simp only; omega) (by simp only; omega) rfl (fun j => ?_) (fun t j => ?_) (fun t => ?_) g
      · exact ⟨Or.inl, fun h => h.resolve_right (fun h => by cases h.2)⟩
      · show (j : Int) ∈ (if t = th then S.ow th ++ [(i : Int)] else S.ow t) ↔ _
        by_cases e : t = th
        · subst e
          rw [if_pos rfl, List.mem_append, List.mem_singleton]
          constructor
          · rintro (h | h)
            · exact Or.inl h
            · exact Or.inr ⟨by omega, rfl, rfl⟩
          · rintro (h | ⟨h, _⟩)
            · exact Or.inl h
            · exact Or.inr (by omega)
        · rw [if_neg e]
          exact ⟨Or.inl, fun h => h.resolve_right (fun h => e (by have := h.2.2; simp only at this; omega))⟩
      · show (if t = th then S.ow th ++ [(i : Int)] else S.ow t) = _ ∨ (if t = th then S.ow th ++ [(i : Int)] else S.ow t) = _
        by_cases e : t = th
        · subst e; rw [if_pos rfl]; exact Or.inr rfl
        · rw [if_neg e]; exact Or.inl rfl
    · rw [if_neg hl, if_neg (by omega)]
      refine h.put hi hic hio rfl (by simp only; omega) (by simp only; omega) rfl (fun j => ?_) (fun t j => ?_) (fun t => Or.inl rfl) g
      · show (j : Int) ∈ insI S.co i ↔ _
        rw [ins_mem]
        constructor
        · rintro (h | h)
          · exact Or.inr ⟨by omega, rfl⟩
          · exact Or.inl h
        · rintro (h | ⟨h, _⟩)
          · exact Or.inr h
          · exact Or.inl (by omega)
      · exact ⟨Or.inl, fun h => h.resolve_right (fun h => by cases h.2.1)⟩
end
end Go.Proofs.Ythcibbfljcfheaa.Abs
