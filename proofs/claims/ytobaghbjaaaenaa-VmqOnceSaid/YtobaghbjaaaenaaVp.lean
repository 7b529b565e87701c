/- Requests in order, with who waits for each: plain law of asking. No condition of its own. -/
import Derived.Test.YtobaghbjaaaenaaWr
import Derived.Test.YtobaghbjaaaenaaMp
import Derived.Test.YtobaghbjaaaenaaFlat
namespace Go.Proofs.Ytobaghbjaaaenaa.Abs
set_option linter.unusedSimpArgs false
set_option linter.unusedVariables false
abbrev Rq := Int × Int
abbrev OS := List (Rq × List Int)
abbrev qks (os : OS) : List Rq := os.map (·.1)
def lk : OS → Rq → Option (List Int)
  | [], _ => none
  | (k, ls) :: os, r => if k = r then some ls else lk os r
def wof : OS → Int → Option Rq
  | [], _ => none
  | (r, ls) :: os, t => if t ∈ ls then some r else wof os t
def addT : OS → Rq → List Int → OS
  | [], _, _ => []
  | (k, ls) :: os, r, x => if k = r then (k, ls ++ x) :: os else (k, ls) :: addT os r x
def mayQ (r : Rq) : Bool := if r.1 = 1 then decide (0 ≤ r.2) && decide (r.2 < 65536) else if r.1 = 2 then decide (r.2 = 0) else false
def badA (r : Rq) (t : Int) : Bool := !mayQ r || decide (t < -1) || decide (256 ≤ t)
def tl1 (t : Int) : List Int := if t = -1 then [] else [t]
def ask (os : OS) (r : Rq) (t : Int) : (Bool × Int) × OS :=
  if badA r t = true then ((false, 1), os) else if (wof os t).isSome = true then ((false, 7), os) else
    if r ∈ qks os then ((false, 0), addT os r (tl1 t)) else if os.length = 256 then ((false, 8), os) else ((true, 0), os ++ [(r, tl1 t)])
structure OSok (os : OS) : Prop where
  nd : (qks os).Nodup
  dis : os.Pairwise fun a b => ∀ t ∈ a.2, t ∉ b.2
  le : os.length ≤ 256
theorem lk_none {os : OS} {r : Rq} : lk os r = none ↔ r ∉ qks os := by
  induction os with
  | nil => simp [lk]
  | cons x os ih =>
    obtain ⟨k, ls⟩ := x
    unfold lk
    simp only [List.map_cons, List.mem_cons, not_or]
    split
    · rename_i h; simp [h]
    · rename_i h; rw [ih]; simp [Ne.symm h]
theorem lk_some {os : OS} {r : Rq} (h : r ∈ qks os) : ∃ ls, lk os r = some ls := by
  cases h' : lk os r with
  | some ls => exact ⟨ls, rfl⟩
  | none => exact absurd h (lk_none.1 h')
theorem lk_mem {os : OS} {r : Rq} {ls : List Int} (h : lk os r = some ls) : (r, ls) ∈ os := by
  induction os with
  | nil => cases h
  | cons x os ih =>
    obtain ⟨k, l⟩ := x
    unfold lk at h
    split at h
    · rename_i e; cases h; subst e; exact List.mem_cons_self ..
    · exact List.mem_cons_of_mem _ (ih h)
theorem lk_app {os : OS} {r : Rq} {x : List Int} (h : r ∉ qks os) (k : Rq) : lk (os ++ [(r, x)]) k = if k = r then some x else lk os k := by
  induction os with
  | nil =>
    simp only [List.nil_append, lk]
    split
    · rename_i e; rw [if_pos e.symm]
    · rename_i e; rw [if_neg (Ne.symm e)]
  | cons p os ih =>
    obtain ⟨k', l⟩ := p
    simp only [List.map_cons, List.mem_cons, not_or] at h
    rw [List.cons_append]
    simp only [lk, ih h.2]
    split
    · rename_i e; rw [if_neg (by rw [← e]; exact Ne.symm h.1)]
    · rfl
theorem lk_addT {os : OS} {r : Rq} {x : List Int} (k : Rq) : lk (addT os r x) k = if k = r then (lk os k).map (· ++ x) else lk os k := by
  induction os with
  | nil => simp [addT, lk]
  | cons p os ih =>
    obtain ⟨k', l⟩ := p
    unfold addT
    split
    · rename_i e
      subst e
      simp only [lk]
      split
      · rename_i e; subst e; rw [if_pos rfl]; rfl
      · rename_i e; rw [if_neg (Ne.symm e)]
    · rename_i e
      simp only [lk, ih]
      split
      · rename_i e'; rw [if_neg (by rw [← e']; exact e)]
      · rfl
theorem addT_keys {os : OS} {r : Rq} {x : List Int} : qks (addT os r x) = qks os := by
  induction os with
  | nil => rfl
  | cons p os ih =>
    obtain ⟨k', l⟩ := p
    unfold addT
    split
    · rfl
    · simp only [List.map_cons, List.cons.injEq, true_and]; exact ih
theorem addT_len {os : OS} {r : Rq} {x : List Int} : (addT os r x).length = os.length := by
  have := congrArg List.length (addT_keys (os := os) (r := r) (x := x))
  simpa using this
theorem addT_nil {os : OS} {r : Rq} : addT os r [] = os := by
  induction os with
  | nil => rfl
  | cons p os ih =>
    obtain ⟨k', l⟩ := p
    unfold addT
    split
    · rw [List.append_nil]
    · rw [ih]
theorem addT_app {os : OS} {r : Rq} {x : List Int} (h : r ∉ qks os) : addT (os ++ [(r, [])]) r x = os ++ [(r, x)] := by
  induction os with
  | nil => simp [addT]
  | cons p os ih =>
    obtain ⟨k', l⟩ := p
    simp only [List.map_cons, List.mem_cons, not_or] at h
    rw [List.cons_append]
    unfold addT
    rw [if_neg (Ne.symm h.1), ih h.2]
    rfl
theorem wof_none {os : OS} {t : Int} : wof os t = none ↔ ∀ p ∈ os, t ∉ p.2 := by
  induction os with
  | nil => simp [wof]
  | cons p os ih =>
    obtain ⟨k, ls⟩ := p
    unfold wof
    simp only [List.mem_cons, forall_eq_or_imp]
    split
    · rename_i h; simp [h]
    · rename_i h; rw [ih]; simp [h]
theorem wof_app {os : OS} {r : Rq} (t : Int) : wof (os ++ [(r, [])]) t = wof os t := by
  induction os with
  | nil => simp [wof]
  | cons p os ih =>
    obtain ⟨k, ls⟩ := p
    rw [List.cons_append]
    simp only [wof, ih]
theorem wof_addT {os : OS} {r : Rq} {t : Int} (hr : r ∈ qks os) (hw : wof os t = none) (u : Int) : wof (addT os r [t]) u = if u = t then some r else wof os u := by
  induction os with
  | nil => cases hr
  | cons p os ih =>
    obtain ⟨k, ls⟩ := p
    have hw' := wof_none.1 hw
    have h1 : t ∉ ls := hw' _ (List.mem_cons_self ..)
    have h2 : wof os t = none := wof_none.2 fun q hq => hw' q (List.mem_cons_of_mem _ hq)
    unfold addT
    split
    · rename_i e
      subst e
      simp only [wof, List.mem_append, List.mem_singleton]
      by_cases e : u = t
      · rw [if_pos (Or.inr e), if_pos e]
      · simp only [e, or_false, if_false]
    · rename_i e
      have hr' : r ∈ qks os := by
        simp only [List.map_cons, List.mem_cons] at hr
        exact hr.resolve_left (Ne.symm e)
      simp only [wof, ih hr' h2]
      by_cases e : u = t
      · subst e; rw [if_neg h1]; simp only [if_true]
      · simp only [e, if_false]
theorem wof_tl {r : Rq} {ls : List Int} {os : OS} (h : OSok ((r, ls) :: os)) (u : Int) : wof os u = if u ∈ ls then none else wof ((r, ls) :: os) u := by
  simp only [wof]
  split
  · rename_i e
    exact wof_none.2 fun p hp => (List.pairwise_cons.1 h.dis).1 p hp u e
  · rfl
theorem lk_tl {r : Rq} {ls : List Int} {os : OS} (h : OSok ((r, ls) :: os)) (k : Rq) : lk os k = if k = r then none else lk ((r, ls) :: os) k := by
  have hn : r ∉ qks os := (List.nodup_cons.1 h.nd).1
  simp only [lk]
  split
  · rename_i e; subst e; exact lk_none.2 hn
  · rename_i e; rw [if_neg (Ne.symm e)]
theorem OSok.nil : OSok [] := ⟨List.nodup_nil, List.Pairwise.nil, by simp⟩
theorem OSok.tl {x : Rq × List Int} {os : OS} (h : OSok (x :: os)) : OSok os := ⟨(List.nodup_cons.1 h.nd).2, (List.pairwise_cons.1 h.dis).2, by have := h.le; simp at this; omega⟩
theorem OSok.app {os : OS} (h : OSok os) {r : Rq} (hr : r ∉ qks os) (hl : os.length ≠ 256) : OSok (os ++ [(r, [])]) := by
  refine ⟨?_, ?_, ?_⟩
  · rw [show qks (os ++ [(r, [])]) = qks os ++ [r] from by simp [qks], List.nodup_append]
    refine ⟨h.nd, by simp, fun a ha b hb => ?_⟩
    rw [List.mem_singleton] at hb
    subst hb
    rintro rfl
    exact hr ha
  · rw [List.pairwise_append]
    refine ⟨h.dis, by simp, fun a ha b hb t ht => ?_⟩
    rw [List.mem_singleton] at hb
    subst hb
    simp
  · have := h.le
    rw [List.length_append, List.length_singleton]
    omega
theorem mem_addT {os : OS} {r : Rq} {x : List Int} {p : Rq × List Int} (h : p ∈ addT os r x) : ∃ q ∈ os, q.1 = p.1 ∧ ∀ t ∈ p.2, t ∈ q.2 ∨ t ∈ x := by
  induction os with
  | nil => cases h
  | cons y os ih =>
    obtain ⟨k, ls⟩ := y
    unfold addT at h
    split at h
    · rcases List.mem_cons.1 h with rfl | h
      · exact ⟨_, List.mem_cons_self .., rfl, fun t ht => List.mem_append.1 ht⟩
      · exact ⟨p, List.mem_cons_of_mem _ h, rfl, fun t ht => Or.inl ht⟩
    · rcases List.mem_cons.1 h with rfl | h
      · exact ⟨_, List.mem_cons_self .., rfl, fun t ht => Or.inl ht⟩
      · obtain ⟨q, h1, h2⟩ := ih h
        exact ⟨q, List.mem_cons_of_mem _ h1, h2⟩
theorem dis_addT {os : OS} {r : Rq} {t : Int} (h : os.Pairwise fun a b => ∀ t ∈ a.2, t ∉ b.2) (hn : (qks os).Nodup) (hw : wof os t = none) : (addT os r [t]).Pairwise fun a b => ∀ t ∈ a.2, t ∉ b.2 := by
  induction os with
  | nil => exact h
  | cons y os ih =>
    obtain ⟨k, ls⟩ := y
    have hw' := wof_none.1 hw
    have h1 : t ∉ ls := hw' _ (List.mem_cons_self ..)
    have h2 : wof os t = none := wof_none.2 fun q hq => hw' q (List.mem_cons_of_mem _ hq)
    obtain ⟨g1, g2⟩ := List.pairwise_cons.1 h
    unfold addT
    split
    · refine List.pairwise_cons.2 ⟨fun b hb u hu => ?_, g2⟩
      rcases List.mem_append.1 hu with hu | hu
      · exact g1 b hb u hu
      · rw [List.mem_singleton] at hu
        subst hu
        exact wof_none.1 h2 b hb
    · refine List.pairwise_cons.2 ⟨fun b hb u hu => ?_, ih g2 (List.nodup_cons.1 hn).2 h2⟩
      obtain ⟨q, q1, _, q3⟩ := mem_addT hb
      intro hub
      rcases q3 u hub with h | h
      · exact g1 q q1 u hu h
      · rw [List.mem_singleton] at h
        subst h
        exact h1 hu
theorem OSok.add {os : OS} (h : OSok os) {r : Rq} {t : Int} (hw : wof os t = none) : OSok (addT os r [t]) :=
  ⟨by rw [addT_keys]; exact h.nd, dis_addT h.dis h.nd hw, by rw [addT_len]; exact h.le⟩
/-- The lists of who waits are short. -/
def Sh (os : OS) (K : Nat) : Prop := ∀ p ∈ os, p.2.length ≤ K
theorem sh_addT {os : OS} {K : Nat} (h : Sh os K) {r : Rq} {x : List Int} (hx : x.length ≤ 1) : Sh (addT os r x) (K + 1) := by
  induction os with
  | nil => intro p hp; cases hp
  | cons y os ih =>
    obtain ⟨k, ls⟩ := y
    have h1 : ls.length ≤ K := h _ (List.mem_cons_self ..)
    have h2 : Sh os K := fun p hp => h p (List.mem_cons_of_mem _ hp)
    unfold addT
    intro p hp
    split at hp
    · rcases List.mem_cons.1 hp with rfl | hp
      · simp only [List.length_append]; omega
      · have := h2 p hp; omega
    · rcases List.mem_cons.1 hp with rfl | hp
      · simp only; omega
      · exact ih h2 p hp
theorem sh_ask {os : OS} {K : Nat} (h : Sh os K) (r : Rq) (t : Int) : Sh (ask os r t).2 (K + 1) := by
  have h' : Sh os (K + 1) := fun p hp => Nat.le_succ_of_le (h p hp)
  have ht : (tl1 t).length ≤ 1 := by unfold tl1; split <;> simp
  unfold ask
  split
  · exact h'
  · split
    · exact h'
    · split
      · exact sh_addT h ht
      · split
        · exact h'
        · intro p hp
          rcases List.mem_append.1 hp with hp | hp
          · exact h' p hp
          · rw [List.mem_singleton] at hp
            subst hp
            simp only; omega
theorem ok_ask {os : OS} (h : OSok os) (r : Rq) (t : Int) : OSok (ask os r t).2 := by
  unfold ask
  split
  · exact h
  · split
    · exact h
    · rename_i hw
      have hw' : wof os t = none := by simpa using hw
      split
      · unfold tl1
        split
        · rw [addT_nil]; exact h
        · exact h.add hw'
      · rename_i hr
        split
        · exact h
        · rename_i hl
          unfold tl1
          split
          · exact h.app hr hl
          · rw [← addT_app hr]
            exact (h.app hr hl).add (by rw [wof_app]; exact hw')
end Go.Proofs.Ytobaghbjaaaenaa.Abs
