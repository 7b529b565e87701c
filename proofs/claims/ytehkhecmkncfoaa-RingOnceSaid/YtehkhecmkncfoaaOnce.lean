/- No thread is in a ring twice; each has the count that it came with. No condition of its own. -/
import Derived.Test.YtehkhecmkncfoaaPlaysLaw
import Derived.Test.YtehkhecmkncfoaaMp
namespace Go.Proofs.Ytehkhecmkncfoaa.Abs
set_option linter.unusedSimpArgs false
set_option linter.unusedVariables false
set_option maxRecDepth 100000
set_option maxHeartbeats 8000000
def cnt : List Wt → Int → Int
  | [], _ => 0
  | w :: ws, t => if w.1 = t then w.2 else cnt ws t
theorem cnt_no {ws : List Wt} {t : Int} (h : t ∉ ws.map (·.1)) : cnt ws t = 0 := by
  induction ws with
  | nil => rfl
  | cons w ws ih =>
    simp only [List.map_cons, List.mem_cons, not_or] at h
    unfold cnt
    rw [if_neg (Ne.symm h.1), ih h.2]
theorem cnt_in {ws : List Wt} {w : Wt} (h : w ∈ ws) (hn : (ws.map (·.1)).Nodup) : cnt ws w.1 = w.2 := by
  induction ws with
  | nil => cases h
  | cons x ws ih =>
    simp only [List.map_cons, List.nodup_cons] at hn
    unfold cnt
    rcases List.mem_cons.1 h with rfl | h
    · rw [if_pos rfl]
    · rw [if_neg, ih h hn.2]
      intro e
      exact hn.1 (e ▸ List.mem_map_of_mem h)
theorem cnt_cases (ws : List Wt) (t : Int) : (t ∉ ws.map (·.1) ∧ cnt ws t = 0) ∨ ∃ w ∈ ws, w.1 = t ∧ cnt ws t = w.2 := by
  induction ws with
  | nil => exact Or.inl ⟨by simp, rfl⟩
  | cons x ws ih =>
    unfold cnt
    by_cases h : x.1 = t
    · exact Or.inr ⟨x, List.mem_cons_self .., h, by rw [if_pos h]⟩
    · rw [if_neg h]
      rcases ih with ⟨h1, h2⟩ | ⟨w, h1, h2, h3⟩
      · exact Or.inl ⟨by simp only [List.map_cons, List.mem_cons, not_or]; exact ⟨Ne.symm h, h1⟩, h2⟩
      · exact Or.inr ⟨w, List.mem_cons_of_mem _ h1, h2, h3⟩
theorem cnt_perm {ws vs : List Wt} (hn : (ws.map (·.1)).Nodup) (hv : (vs.map (·.1)).Nodup) (hm : ∀ w, w ∈ ws ↔ w ∈ vs) (t : Int) : cnt ws t = cnt vs t := by
  rcases cnt_cases ws t with ⟨h1, h2⟩ | ⟨w, h1, h2, h3⟩
  · rw [h2, cnt_no]
    intro h
    apply h1
    obtain ⟨w, hw, e⟩ := List.mem_map.1 h
    exact e ▸ List.mem_map_of_mem ((hm w).2 hw)
  · rw [h3, ← h2, cnt_in ((hm w).1 h1) hv]
/-- What is kept by hand of a ring. -/
structure J (ws : List Wt) (ml : ML) : Prop where
  nd : (ws.map (·.1)).Nodup
  pos : ∀ w ∈ ws, 1 ≤ w.2
  c : ∀ t, (mget ml t).getD (.i .i64 0) = .i .i64 (cnt ws t)
theorem J.rem {ws : List Wt} {ml : ML} (h : J ws ml) (k t c : Int) (hk : (k.tmod 4 == 1) = true) : doB ws k t c = decide (0 < cnt ws t) ∧ (0 < cnt ws t → (doW ws k t c).2 = cnt ws t) ∧ J (doL ws k t c) (mput ml t (.i .i64 0)) := by
  have hre := rem_eq (t := t) h.nd
  have hnd := do_nodup h.nd k t c
  unfold doL at hnd ⊢
  unfold doB doW
  rw [if_pos hk] at hnd ⊢
  rw [if_pos hk, if_pos hk]
  refine ⟨?_, ?_, hnd, ?_, ?_⟩
  · unfold remB
    cases hp : pl ws t 0 with
    | none =>
      have := pl_none hp
      rw [cnt_no (fun h => by obtain ⟨w, hw, e⟩ := List.mem_map.1 h; exact this w hw e)]
      rfl
    | some i =>
      obtain ⟨_, w, h1, h2, _⟩ := pl_some hp
      have hw := List.mem_of_getElem? h1
      have := cnt_in hw h.nd
      rw [h2] at this
      rw [this]
      have := h.pos w hw
      simp; omega
  · intro hc
    unfold remW
    cases hp : pl ws t 0 with
    | none =>
      have := pl_none hp
      rw [cnt_no (fun h => by obtain ⟨w, hw, e⟩ := List.mem_map.1 h; exact this w hw e)] at hc
      omega
    | some i =>
      obtain ⟨_, w, h1, h2, _⟩ := pl_some hp
      rw [Nat.sub_zero] at h1
      have hw := List.mem_of_getElem? h1
      have := cnt_in hw h.nd
      rw [h2] at this
      rw [this]
      show (ws.getD i (0, 0)).2 = w.2
      rw [List.getD_eq_getElem?_getD, h1]
      rfl
  · intro w hw
    rw [← hre.1] at hw
    unfold outL at hw
    exact h.pos w (List.mem_filter.1 hw).1
  · intro u
    rw [mget_put]
    rw [← hre.1] at hnd ⊢
    split
    · rename_i e
      subst e
      rw [cnt_no]
      · rfl
      · intro hu
        obtain ⟨w, hw, e⟩ := List.mem_map.1 hu
        unfold outL at hw
        have := (List.mem_filter.1 hw).2
        simp [e] at this
    · rename_i hne
      rw [h.c u]
      congr 1
      rcases cnt_cases ws u with ⟨h1, h2⟩ | ⟨w, h1, h2, h3⟩
      · rw [h2, cnt_no]
        intro hu
        obtain ⟨w, hw, e⟩ := List.mem_map.1 hu
        unfold outL at hw
        exact h1 (e ▸ List.mem_map_of_mem (List.mem_filter.1 hw).1)
      · have hin : w ∈ outL ws t := by
          unfold outL
          rw [List.mem_filter]
          exact ⟨h1, by simp [h2, hne]⟩
        rw [h3, ← cnt_in hin hnd, h2]
theorem J.turn {ws : List Wt} {ml : ML} (h : J ws ml) (k t c : Int) (h1 : (k.tmod 4 == 1) = false) (h2 : (k.tmod 4 == 2) = true) : J (doL ws k t c) ml := by
  have hnd := do_nodup h.nd k t c
  unfold doL at hnd ⊢
  rw [if_neg (by rw [h1]; decide), if_pos h2] at hnd ⊢
  have hm : ∀ w, w ∈ ws ↔ w ∈ turnL ws := by
    intro w
    unfold turnL
    conv => lhs; rw [← List.take_append_drop 1 ws]
    rw [List.mem_append, List.mem_append]
    exact Or.comm
  exact ⟨hnd, fun w hw => h.pos w ((hm w).2 hw), fun u => by rw [h.c u, cnt_perm h.nd hnd hm u]⟩
theorem J.addN {ws : List Wt} {ml : ML} (h : J ws ml) (k t c : Int) (h1 : (k.tmod 4 == 1) = false) (h2 : (k.tmod 4 == 2) = false) (hb : doB ws k t c = false) : J (doL ws k t c) ml := by
  unfold doB at hb
  unfold doL
  rw [if_neg (by rw [h1]; decide), if_neg (by rw [h2]; decide)] at hb ⊢
  unfold addL
  rw [hb]
  exact h
theorem J.addY {ws : List Wt} {ml : ML} (h : J ws ml) (k t c : Int) (h1 : (k.tmod 4 == 1) = false) (h2 : (k.tmod 4 == 2) = false) (hb : doB ws k t c = true) : cnt ws t = 0 ∧ J (doL ws k t c) (mput ml t (.i .i64 c)) := by
  have hnd := do_nodup h.nd k t c
  unfold doB at hb
  unfold doL at hnd ⊢
  rw [if_neg (by rw [h1]; decide), if_neg (by rw [h2]; decide)] at hb hnd ⊢
  unfold addL at hnd ⊢
  rw [hb] at hnd ⊢
  rw [if_pos rfl] at hnd ⊢
  unfold addB okW at hb
  simp only [Bool.and_eq_true, decide_eq_true_eq, Bool.not_eq_true', decide_eq_false_iff_not] at hb
  have hno : t ∉ ws.map (·.1) := by
    have hp : pl ws t 0 = none := by
      rcases plI_cases ws t with ⟨_, h'⟩ | ⟨i, h', _⟩
      · exact h'
      · rw [h'] at hb; omega
    intro h
    obtain ⟨w, hw, e⟩ := List.mem_map.1 h
    exact pl_none hp w hw e
  refine ⟨cnt_no hno, hnd, ?_, ?_⟩
  · intro w hw
    rcases List.mem_append.1 hw with hw | hw
    · exact h.pos w hw
    · rw [List.mem_singleton] at hw
      subst hw
      show 1 ≤ c
      omega
  · intro u
    rw [mget_put]
    split
    · rename_i e
      subst e
      have := cnt_in (w := (u, c)) (ws := ws ++ [(u, c)]) (by simp) hnd
      rw [this]
      rfl
    · rename_i hne
      rw [h.c u]
      congr 1
      rcases cnt_cases ws u with ⟨h1, h2⟩ | ⟨w, h1, h2, h3⟩
      · rw [h2, cnt_no]
        simp only [List.map_append, List.mem_append, not_or]
        exact ⟨h1, by simp; exact hne⟩
      · rw [h3, ← h2, cnt_in (w := w) (List.mem_append_left _ h1) hnd]
end Go.Proofs.Ytehkhecmkncfoaa.Abs
