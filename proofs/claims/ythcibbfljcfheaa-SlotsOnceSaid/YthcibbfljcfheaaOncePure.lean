/- How many are where: plain. No condition of its own. -/
import Derived.Test.YthcibbfljcfheaaStepS
namespace Go.Proofs.Ythcibbfljcfheaa.Abs
set_option linter.unusedSimpArgs false
set_option linter.unusedVariables false
abbrev ucn (gs : List (Bool × Int)) : Nat := gs.countP fun p => p.1
theorem ucn_cons (x : Bool × Int) (gs : List (Bool × Int)) : ucn (x :: gs) = ucn gs + (if x.1 then 1 else 0) := List.countP_cons
theorem cP_set : ∀ {gs : List (Bool × Int)} {i : Nat} {p : Bool × Int} (q : Bool × Int), gs[i]? = some p → ucn (gs.set i q) + (if p.1 then 1 else 0) = ucn gs + (if q.1 then 1 else 0)
  | [], i, p, q, h => by simp at h
  | x :: gs, 0, p, q, h => by
    simp at h
    subst h
    rw [List.set_cons_zero, ucn_cons, ucn_cons]
    omega
  | x :: gs, i + 1, p, q, h => by
    have := cP_set (gs := gs) (i := i) (p := p) q (by simpa using h)
    rw [List.set_cons_succ, ucn_cons, ucn_cons]
    omega
theorem inu_cnt (S : SL) : (S.inu S.gs.length).length = ucn S.gs := by
  have h : ∀ k, (S.inu k).length = ucn (S.gs.take k) := by
    intro k
    induction k with
    | zero => rfl
    | succ k ih =>
      unfold SL.inu
      rw [List.length_append, ih, List.take_add_one]
      show _ = (S.gs.take k ++ _).countP _
      rw [List.countP_append]
      congr 1
      have hu : S.usd k = ((S.gs[k]?).map (·.1)).getD false := by unfold SL.usd; rw [Int.toNat_natCast]; simp
      rw [hu]
      cases S.gs[k]? with
      | none => rfl
      | some p =>
        cases hp : p.1
        · simp [hp]
        · simp [hp]
  rw [h, List.take_length]
theorem owN_congr {S S' : SL} (h : S.ow = S'.ow) : ∀ N, S.owN N = S'.owN N
  | 0 => rfl
  | N + 1 => by unfold SL.owN; rw [owN_congr h N, h]
theorem owN_set (S : SL) (th : Nat) (l : List Int) : ∀ N, (S.setOw th l).owN N + (if th < N then (S.ow th).length else 0) = S.owN N + (if th < N then l.length else 0)
  | 0 => by simp [SL.owN]
  | N + 1 => by
    have ih := owN_set S th l N
    have e : (S.setOw th l).ow N = if N = th then l else S.ow N := rfl
    unfold SL.owN
    rw [e]
    by_cases h : N = th
    · subst h
      rw [if_pos rfl]
      rw [if_neg (by omega), if_neg (by omega)] at ih
      rw [if_pos (by omega), if_pos (by omega)]
      omega
    · rw [if_neg h]
      by_cases h2 : th < N
      · rw [if_pos h2, if_pos h2] at ih
        rw [if_pos (by omega), if_pos (by omega)]
        omega
      · rw [if_neg h2, if_neg h2] at ih
        rw [if_neg (by omega), if_neg (by omega)]
        omega
/-- All slots are told of. -/
def Bal (S : SL) : Prop := S.gs.length = S.co.length + S.owN 256 + ucn S.gs
theorem bal_new : Bal SL.new := by
  have : ∀ N, SL.new.owN N = 0 := by
    intro N
    induction N with
    | zero => rfl
    | succ N ih => unfold SL.owN; rw [ih]; rfl
  unfold Bal
  rw [this]
  rfl
theorem ucn_app (gs : List (Bool × Int)) (k : Nat) : ucn (gs ++ List.replicate k (false, 0)) = ucn gs := by
  show (gs ++ _).countP _ = _
  rw [List.countP_append]
  simp [List.countP_replicate]
section
variable {pl sz : Nat} {S : SL}
theorem bal_grow (hb : Bal S) (k : Nat) : Bal (S.growN k) := by
  unfold Bal
  rw [growN_gs, growN_co]
  have e1 : ucn (S.growN k).gs = ucn S.gs := ucn_app S.gs k
  have e2 : (S.growN k).owN 256 = S.owN 256 := owN_congr (by rfl) 256
  rw [e1, e2]
  unfold Bal at hb
  omega
theorem pick_once (g : Gd pl sz S) (hb : Bal S) {th : Nat} (ht : th < 256) : ∃ k, (S.pick pl sz th).2.gs = S.gs ++ List.replicate k (false, 0) ∧ (((S.pick pl sz th).1 = -1 ∧ Bal (S.pick pl sz th).2) ∨ ((S.pick pl sz th).1 ≠ -1 ∧ (S.pick pl sz th).2.gs.length = (S.pick pl sz th).2.co.length + (S.pick pl sz th).2.owN 256 + ucn (S.pick pl sz th).2.gs + 1)) := by
  rcases List.eq_nil_or_concat (S.ow th) with h0 | ⟨l, x, h1⟩
  · have hpk : S.pick pl sz th = (match (if S.co = [] then S.grow pl sz else S).co with
      | [] => (-1, if S.co = [] then S.grow pl sz else S)
      | x :: t => (x, { (if S.co = [] then S.grow pl sz else S) with co := t })) := by
      unfold SL.pick
      rw [h0]
      rfl
    obtain ⟨S1, hS1⟩ : ∃ S1, S1 = if S.co = [] then S.grow pl sz else S := ⟨_, rfl⟩
    have g1 : Gd pl sz S1 := by
      rw [hS1]
      split
      · exact g.grow (by assumption)
      · exact g
    have hk : ∃ k, S1.gs = S.gs ++ List.replicate k (false, 0) ∧ Bal S1 := by
      rw [hS1]
      split
      · exact ⟨min sz (pl - S.gs.length), rfl, bal_grow hb _⟩
      · exact ⟨0, by simp, hb⟩
    obtain ⟨k, hk1, hk2⟩ := hk
    rw [← hS1] at hpk
    rw [hpk]
    refine ⟨k, ?_⟩
    cases hc : S1.co with
    | nil => exact ⟨hk1, Or.inl ⟨rfl, hk2⟩⟩
    | cons x t =>
      refine ⟨hk1, Or.inr ⟨?_, ?_⟩⟩
      · have := (g1.cf x (by rw [hc]; exact List.mem_cons_self ..)).1
        simp only
        omega
      · have e2 : ({ S1 with co := t } : SL).owN 256 = S1.owN 256 := owN_congr (by rfl) 256
        unfold Bal at hk2
        rw [hc] at hk2
        simp only [List.length_cons] at hk2
        show S1.gs.length = t.length + ({ S1 with co := t } : SL).owN 256 + ucn S1.gs + 1
        rw [e2]
        omega
  · rw [List.concat_eq_append] at h1
    have hpk : S.pick pl sz th = (x, S.setOw th l) := by
      unfold SL.pick
      rw [h1, List.getLast?_concat, List.dropLast_concat]
    rw [hpk]
    have hx := (g.fo th x (by rw [h1]; simp)).1
    refine ⟨0, by simp [SL.setOw], Or.inr ⟨by simp only; omega, ?_⟩⟩
    have := owN_set S th l 256
    rw [if_pos ht, if_pos ht, h1] at this
    simp only [List.length_append, List.length_cons, List.length_nil] at this
    unfold Bal at hb
    show S.gs.length = S.co.length + (S.setOw th l).owN 256 + ucn S.gs + 1
    omega
theorem take_once (g : Gd pl sz S) (hb : Bal S) {th : Nat} (ht : th < 256) : ∃ k, ((S.take pl sz th).1 = (0, 0, 11) ∧ (S.take pl sz th).2.gs = S.gs ++ List.replicate k (false, 0) ∧ Bal (S.take pl sz th).2) ∨
    ∃ (i : Nat) (q : Int), (S.gs ++ List.replicate k (false, 0))[i]? = some (false, q) ∧ (S.take pl sz th).1 = ((i : Int), q, 0) ∧ (S.take pl sz th).2.gs = (S.gs ++ List.replicate k (false, 0)).set i (true, q) ∧ Bal (S.take pl sz th).2 := by
  obtain ⟨k, hk, hor⟩ := pick_once g hb ht
  obtain ⟨_, hor2⟩ := g.pick th
  refine ⟨k, ?_⟩
  rcases hor2 with h1 | ⟨i, q, h1, h2, _, _⟩
  · have hbl := hor.resolve_right (fun h => h.1 h1)
    have htk : S.take pl sz th = ((0, 0, 11), (S.pick pl sz th).2) := by
      unfold SL.take
      split
      · rw [if_pos (by rw [h1]; decide)]
      · rfl
    rw [htk]
    exact Or.inl ⟨rfl, hk, hbl.2⟩
  · have hc := (hor.resolve_left (fun h => by rw [h1] at h; have := h.1; omega)).2
    have htk : S.take pl sz th = (((i : Int), q, 0), { (S.pick pl sz th).2 with gs := (S.pick pl sz th).2.gs.set i (true, q) }) := by
      unfold SL.take
      rw [h1, Int.toNat_natCast, h2]
      simp only
      rw [if_neg (by omega)]
    rw [htk]
    refine Or.inr ⟨i, q, by rw [← hk]; exact h2, rfl, by rw [← hk], ?_⟩
    have hs := cP_set (true, q) h2
    simp only [if_true, Bool.false_eq_true, if_false] at hs
    have e2 : ({ (S.pick pl sz th).2 with gs := (S.pick pl sz th).2.gs.set i (true, q) } : SL).owN 256 = (S.pick pl sz th).2.owN 256 := owN_congr (by rfl) 256
    unfold Bal
    rw [e2]
    show ((S.pick pl sz th).2.gs.set i (true, q)).length = (S.pick pl sz th).2.co.length + _ + ucn ((S.pick pl sz th).2.gs.set i (true, q))
    rw [List.length_set]
    omega
theorem free_once (hb : Bal S) {th i : Nat} {q : Int} (ht : th < 256) (hi : S.gs[i]? = some (true, q)) (hq : q < 16777215) : (S.free sz th i).gs = S.gs.set i (false, q + 1) ∧ Bal (S.free sz th i) := by
  have hs := cP_set (false, q + 1) hi
  simp only [if_true, Bool.false_eq_true, if_false] at hs
  unfold Bal at hb
  unfold SL.free
  rw [hi]
  simp only
  rw [if_neg (by omega)]
  split
  · refine ⟨rfl, ?_⟩
    have h1 := owN_set S th (S.ow th ++ [(i : Int)]) 256
    rw [if_pos ht, if_pos ht] at h1
    simp only [List.length_append, List.length_cons, List.length_nil] at h1
    have e2 : ({ S.setOw th (S.ow th ++ [(i : Int)]) with gs := S.gs.set i (false, q + 1) } : SL).owN 256 = (S.setOw th (S.ow th ++ [(i : Int)])).owN 256 := owN_congr (by rfl) 256
    unfold Bal
    rw [e2]
    show (S.gs.set i (false, q + 1)).length = S.co.length + _ + ucn (S.gs.set i (false, q + 1))
    rw [List.length_set]
    omega
  · refine ⟨rfl, ?_⟩
    have e2 : ({ S.share i with gs := S.gs.set i (false, q + 1) } : SL).owN 256 = S.owN 256 := owN_congr (by rfl) 256
    unfold Bal
    rw [e2]
    show (S.gs.set i (false, q + 1)).length = (insI S.co i).length + _ + ucn (S.gs.set i (false, q + 1))
    rw [List.length_set, ins_len]
    omega
theorem flush_once (g : Gd pl sz S) (hb : Bal S) (th : Int) : (S.flush th).gs = S.gs ∧ Bal (S.flush th) := by
  unfold SL.flush
  split
  · exact ⟨rfl, hb⟩
  · rename_i hne
    obtain ⟨g1, g2, g3, g4, g5⟩ := share_fold (S.own th) S g.cs (g.own_nd th) (fun x hx => g.oc _ x (own_ow hx))
    have ht : 0 ≤ th ∧ th < 256 := by
      unfold SL.own at hne
      split at hne
      · assumption
      · exact absurd rfl hne
    have hot : S.own th = S.ow th.toNat := by
      unfold SL.own
      rw [if_pos ht]
    refine ⟨g4, ?_⟩
    have h1 := owN_set ((S.own th).foldl SL.share S) th.toNat [] 256
    rw [if_pos (by omega), if_pos (by omega), g5, ← hot] at h1
    have e2 : ((S.own th).foldl SL.share S).owN 256 = S.owN 256 := owN_congr g5 256
    rw [e2] at h1
    simp only [List.length_nil] at h1
    unfold Bal at hb ⊢
    show ((S.own th).foldl SL.share S).gs.length = ((S.own th).foldl SL.share S).co.length + _ + ucn ((S.own th).foldl SL.share S).gs
    rw [g3, g4]
    omega
theorem left_bal (hb : Bal S) : S.left pl = (pl : Int) - ucn S.gs := by
  unfold SL.left
  unfold Bal at hb
  omega
end
/-- In use, by the slots alone. -/
def usG (gs : List (Bool × Int)) (n : Int) : Bool := decide (0 ≤ n) && ((gs[n.toNat]?).map (·.1)).getD false
theorem usG_app (gs : List (Bool × Int)) (k : Nat) (n : Int) : usG (gs ++ List.replicate k (false, 0)) n = usG gs n := by
  unfold usG
  congr 1
  rw [List.getElem?_append]
  split
  · rfl
  · rename_i h
    rw [List.getElem?_eq_none (l := gs) (by omega), List.getElem?_replicate]
    split <;> rfl
theorem usG_set {gs : List (Bool × Int)} {i : Nat} {p q : Bool × Int} (h : gs[i]? = some p) (n : Int) : usG (gs.set i q) n = if n = i then q.1 else usG gs n := by
  have hlt := (List.getElem?_eq_some_iff.1 h).1
  unfold usG
  by_cases e : n = i
  · subst e
    rw [if_pos rfl, Int.toNat_natCast, List.getElem?_set_self hlt]
    simp
  · rw [if_neg e]
    by_cases h0 : 0 ≤ n
    · rw [List.getElem?_set_ne (by omega)]
    · rw [decide_eq_false h0]; simp
/-- What was told is not told again. -/
def Mt (lm : MP) (gs : List (Bool × Int)) : Prop := ∀ k g, (mget lm (k, g)).isSome = true → ∃ (i : Nat) (u : Bool) (q : Int), k = (i : Int) ∧ gs[i]? = some (u, q) ∧ (g < q ∨ (g = q ∧ u = true))
theorem Mt.app {lm : MP} {gs : List (Bool × Int)} (h : Mt lm gs) (k : Nat) : Mt lm (gs ++ List.replicate k (false, 0)) := by
  intro a g hs
  obtain ⟨i, u, q, h1, h2, h3⟩ := h a g hs
  exact ⟨i, u, q, h1, by rw [List.getElem?_append_left (List.getElem?_eq_some_iff.1 h2).1]; exact h2, h3⟩
theorem Mt.take {lm : MP} {gs : List (Bool × Int)} (h : Mt lm gs) {i : Nat} {q : Int} (hi : gs[i]? = some (false, q)) : mget lm ((i : Int), q) = none ∧ Mt (mput lm ((i : Int), q) (.b true)) (gs.set i (true, q)) := by
  have hlt := (List.getElem?_eq_some_iff.1 hi).1
  refine ⟨?_, ?_⟩
  · cases hm : mget lm ((i : Int), q) with
    | none => rfl
    | some v =>
      obtain ⟨j, u, q', h1, h2, h3⟩ := h i q (by rw [hm]; rfl)
      have : j = i := by omega
      subst this
      rw [hi] at h2
      cases h2
      rcases h3 with h3 | ⟨_, h3⟩
      · omega
      · cases h3
  · intro k g hs
    rw [mget_put] at hs
    by_cases e : (k, g) = ((i : Int), q)
    · cases e
      exact ⟨i, true, q, rfl, List.getElem?_set_self hlt, Or.inr ⟨rfl, rfl⟩⟩
    · rw [if_neg e] at hs
      obtain ⟨j, u, q', h1, h2, h3⟩ := h k g hs
      by_cases e2 : j = i
      · subst e2
        rw [hi] at h2
        cases h2
        rcases h3 with h3 | ⟨_, h3⟩
        · exact ⟨j, true, q, h1, List.getElem?_set_self hlt, Or.inl h3⟩
        · cases h3
      · exact ⟨j, u, q', h1, by rw [List.getElem?_set_ne (Ne.symm e2)]; exact h2, h3⟩
theorem Mt.free {lm : MP} {gs : List (Bool × Int)} (h : Mt lm gs) {i : Nat} {q : Int} (hi : gs[i]? = some (true, q)) : Mt lm (gs.set i (false, q + 1)) := by
  have hlt := (List.getElem?_eq_some_iff.1 hi).1
  intro k g hs
  obtain ⟨j, u, q', h1, h2, h3⟩ := h k g hs
  by_cases e2 : j = i
  · subst e2
    rw [hi] at h2
    cases h2
    exact ⟨j, false, q + 1, h1, List.getElem?_set_self hlt, Or.inl (by omega)⟩
  · exact ⟨j, u, q', h1, by rw [List.getElem?_set_ne (Ne.symm e2)]; exact h2, h3⟩
def Gb (b : Int) (gs : List (Bool × Int)) : Prop := ∀ p ∈ gs, p.2 ≤ b
theorem Gb.app {b : Int} {gs : List (Bool × Int)} (h : Gb b gs) (h0 : 0 ≤ b) (k : Nat) : Gb b (gs ++ List.replicate k (false, 0)) := by
  intro p hp
  rcases List.mem_append.1 hp with hp | hp
  · exact h p hp
  · rw [List.eq_of_mem_replicate hp]; exact h0
theorem Gb.set {b : Int} {gs : List (Bool × Int)} (h : Gb b gs) {i : Nat} {p : Bool × Int} (hp : p.2 ≤ b) : Gb b (gs.set i p) := by
  intro x hx
  rcases List.mem_or_eq_of_mem_set hx with hx | hx
  · exact h x hx
  · rw [hx]; exact hp
theorem Gb.mono {b b' : Int} {gs : List (Bool × Int)} (h : Gb b gs) (hb : b ≤ b') : Gb b' gs := fun p hp => Int.le_trans (h p hp) hb
end Go.Proofs.Ythcibbfljcfheaa.Abs
