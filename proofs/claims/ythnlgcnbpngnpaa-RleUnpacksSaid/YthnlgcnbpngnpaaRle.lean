/- Runs, packed and unpacked, in plain Lean. No condition of its own. -/
import Derived.Test.YthnlgcnbpngnpaaWr
namespace Go.Proofs.Ythnlgcnbpngnpaa.Abs
set_option linter.unusedVariables false
set_option linter.unusedSimpArgs false
def runs : List Int → List (Int × Nat)
  | [] => []
  | t :: l => match runs l with
    | [] => [(t, 1)]
    | (u, n) :: rs => if u = t then (t, n + 1) :: rs else (t, 1) :: (u, n) :: rs
theorem runs_head (u : Int) (r : List Int) : ∃ n rs, runs (u :: r) = (u, n) :: rs := by
  unfold runs
  split
  · exact ⟨_, _, rfl⟩
  · split
    · exact ⟨_, _, rfl⟩
    · exact ⟨_, _, rfl⟩
theorem runs_rep {t : Int} {rest : List Int} (h : rest[0]? ≠ some t) : ∀ k : Nat, runs (List.replicate (k + 1) t ++ rest) = (t, k + 1) :: runs rest
  | 0 => by
    show runs (t :: rest) = _
    cases rest with
    | nil => rfl
    | cons u r =>
      obtain ⟨n, rs, e⟩ := runs_head u r
      conv => lhs; unfold runs
      rw [e]
      simp only
      rw [if_neg (by intro e'; exact h (by simp [e']))]
  | k + 1 => by
    rw [List.replicate_succ, List.cons_append]
    conv => lhs; unfold runs
    rw [runs_rep h k]
    simp only [if_true]
theorem drop_rep {l : List Int} {t : Int} : ∀ (k p : Nat), (∀ j, p ≤ j → j < p + k → l[j]? = some t) → l.drop p = List.replicate k t ++ l.drop (p + k)
  | 0, p, _ => by simp
  | k + 1, p, h => by
    have h0 := h p (Nat.le_refl _) (by omega)
    obtain ⟨h1, h2⟩ := List.getElem?_eq_some_iff.1 h0
    rw [List.drop_eq_getElem_cons h1, h2, List.replicate_succ, List.cons_append, drop_rep k (p + 1) (fun j h3 h4 => h j (by omega) (by omega))]
    rw [show p + 1 + k = p + (k + 1) by omega]
def gd (t : Int) : Bool := decide (0 ≤ t) && decide (t ≤ 7)
def good (l : List Int) : Bool := l.all gd
/-- One more place. -/
def stp (bs : List Int) (t : Int) : List Int := match bs.getLast? with
  | some x => if x % 8 = t ∧ x / 8 < 31 then bs.dropLast ++ [x + 8] else bs ++ [t + 8]
  | none => bs ++ [t + 8]
def refB (l : List Int) : List Int := l.foldl stp []
theorem stp_nil (t : Int) : stp [] t = [t + 8] := rfl
theorem stp_more {cs : List Int} {x t : Int} (h : x % 8 = t ∧ x / 8 < 31) : stp (cs ++ [x]) t = cs ++ [x + 8] := by
  unfold stp
  rw [List.getLast?_concat, List.dropLast_concat]
  simp only
  rw [if_pos h]
theorem stp_less {cs : List Int} {x t : Int} (h : ¬ (x % 8 = t ∧ x / 8 < 31)) : stp (cs ++ [x]) t = cs ++ [x] ++ [t + 8] := by
  unfold stp
  rw [List.getLast?_concat]
  simp only
  rw [if_neg h]
/-- Its end goes on with no t. -/
def Off (bs : List Int) (t : Int) : Prop := ∀ x, bs.getLast? = some x → ¬ (x % 8 = t ∧ x / 8 < 31)
theorem stp_off {bs : List Int} {t : Int} (h : Off bs t) : stp bs t = bs ++ [t + 8] := by
  unfold stp
  split
  · rename_i x e
    rw [if_neg (h x e)]
  · rfl
theorem fold_few {t : Int} (ht : 0 ≤ t ∧ t ≤ 7) {bs : List Int} (h : Off bs t) : ∀ k : Nat, k ≤ 30 → (List.replicate (k + 1) t).foldl stp bs = bs ++ [t + 8 * ((k : Int) + 1)]
  | 0, _ => by
    show stp bs t = _
    rw [stp_off h]
    simp
  | k + 1, hk => by
    rw [List.replicate_succ', List.foldl_append, fold_few ht h k (by omega)]
    show stp (bs ++ [t + 8 * ((k : Int) + 1)]) t = _
    rw [stp_more ⟨by omega, by omega⟩]
    congr 2
    push_cast
    omega
def pk (t : Int) (n : Nat) : List Int := if n = 0 then [] else if n ≤ 31 then [t + 8 * (n : Int)] else (t + 248) :: pk t (n - 31)
termination_by n
theorem fold_pk {t : Int} (ht : 0 ≤ t ∧ t ≤ 7) : ∀ (n : Nat) (bs : List Int), Off bs t → (List.replicate n t).foldl stp bs = bs ++ pk t n := by
  intro n
  induction n using Nat.strongRecOn with
  | ind n ih =>
    intro bs h
    unfold pk
    by_cases h0 : n = 0
    · subst h0; simp
    · rw [if_neg h0]
      by_cases h1 : n ≤ 31
      · rw [if_pos h1]
        obtain ⟨k, rfl⟩ : ∃ k, n = k + 1 := ⟨n - 1, by omega⟩
        rw [fold_few ht h k (by omega)]
        rfl
      · rw [if_neg h1]
        have e : List.replicate n t = List.replicate (30 + 1) t ++ List.replicate (n - 31) t := by
          rw [List.replicate_append_replicate]; congr 1; omega
        rw [e, List.foldl_append, fold_few ht h 30 (by omega), ih (n - 31) (by omega)]
        · simp
        · intro x hx
          rw [List.getLast?_concat] at hx
          cases hx
          omega
/-- What the end tells. -/
def EndOf (bs : List Int) (la : Int) (wh : Bool) : Prop := (bs = [] ∧ la = -1 ∧ wh = true) ∨ ∃ cs x, bs = cs ++ [x] ∧ la = x % 8 ∧ wh = (x / 8 == 31)
def bytesOk (bs : List Int) : Prop := ∀ x ∈ bs, 8 ≤ x ∧ x ≤ 255
theorem EndOf.off {bs : List Int} {la t : Int} {wh : Bool} (h : EndOf bs la wh) (hb : bytesOk bs) (hn : ¬ (t = la ∧ wh = false)) : Off bs t := by
  intro x hx
  rcases h with ⟨rfl, _, _⟩ | ⟨cs, y, rfl, rfl, rfl⟩
  · cases hx
  · rw [List.getLast?_concat] at hx
    cases hx
    rintro ⟨h1, h2⟩
    exact hn ⟨h1.symm, by rw [beq_eq_false_iff_ne]; omega⟩
theorem stp_ok {bs : List Int} {t : Int} (ht : 0 ≤ t ∧ t ≤ 7) (h : bytesOk bs) : bytesOk (stp bs t) := by
  intro x hx
  unfold stp at hx
  split at hx
  · rename_i y e
    split at hx
    · rename_i hc
      rcases List.mem_append.1 hx with hx | hx
      · exact h x ((List.dropLast_sublist bs).subset hx)
      · rw [List.mem_singleton] at hx
        have := h y (List.mem_of_getLast? e)
        omega
    · rcases List.mem_append.1 hx with hx | hx
      · exact h x hx
      · rw [List.mem_singleton] at hx
        omega
  · rcases List.mem_append.1 hx with hx | hx
    · exact h x hx
    · rw [List.mem_singleton] at hx
      omega
theorem fold_ok {l : List Int} (hl : good l = true) : ∀ {bs : List Int}, bytesOk bs → bytesOk (l.foldl stp bs) := by
  induction l with
  | nil => intro bs h; exact h
  | cons t l ih =>
    intro bs h
    unfold good gd at hl ih
    simp only [List.all_cons, Bool.and_eq_true, decide_eq_true_eq] at hl
    exact ih (by simpa using hl.2) (stp_ok hl.1 h)
theorem refB_ok {l : List Int} (hl : good l = true) : bytesOk (refB l) := fold_ok hl (fun x h => by cases h)
theorem snocInd {P : List Int → Prop} (h0 : P []) (h1 : ∀ l t, P l → P (l ++ [t])) : ∀ l, P l := by
  have : ∀ m : List Int, P m.reverse := by
    intro m
    induction m with
    | nil => exact h0
    | cons t m ih => rw [List.reverse_cons]; exact h1 _ _ ih
  intro l
  have := this l.reverse
  rwa [List.reverse_reverse] at this
theorem stp_len (bs : List Int) (t : Int) : (stp bs t).length ≤ bs.length + 1 := by
  unfold stp
  split
  · split
    · simp
    · simp
  · simp
theorem fold_len (l : List Int) : ∀ bs : List Int, (l.foldl stp bs).length ≤ bs.length + l.length := by
  induction l with
  | nil => intro bs; simp
  | cons t l ih =>
    intro bs
    have := ih (stp bs t)
    have := stp_len bs t
    simp only [List.foldl_cons, List.length_cons]
    omega
theorem refB_len (l : List Int) : (refB l).length ≤ l.length := by
  have := fold_len l []
  unfold refB
  simpa using this
theorem good_app {l m : List Int} : good (l ++ m) = (good l && good m) := by unfold good; rw [List.all_append]
theorem good_rep {t : Int} {k : Nat} : good (List.replicate (k + 1) t) = gd t := by
  unfold good
  induction k with
  | zero => simp
  | succ k ih => rw [List.replicate_succ, List.all_cons, ih]; simp
theorem good_take {l : List Int} (h : good l = true) (n : Nat) : good (l.take n) = true := by
  have e := (List.take_append_drop n l).symm
  rw [e, good_app, Bool.and_eq_true] at h
  exact h.1
theorem gd_iff {t : Int} : gd t = true ↔ 0 ≤ t ∧ t ≤ 7 := by unfold gd; simp
-- unpacked
def unp : List Int → List Int → Int → Bool → List Int × Int
  | [], acc, _, _ => (acc, 0)
  | x :: xs, acc, la, wh => if x / 8 = 0 ∨ (x % 8 = la ∧ wh = false) then ([], 3)
    else if 100000 < (acc.length : Int) + x / 8 then ([], 5)
    else unp xs (acc ++ List.replicate (x / 8).toNat (x % 8)) (x % 8) (x / 8 == 31)
theorem unp_cons {x : Int} {xs acc : List Int} {la : Int} {wh : Bool} : unp (x :: xs) acc la wh = if x / 8 = 0 ∨ (x % 8 = la ∧ wh = false) then ([], 3) else if 100000 < (acc.length : Int) + x / 8 then ([], 5) else unp xs (acc ++ List.replicate (x / 8).toNat (x % 8)) (x % 8) (x / 8 == 31) := rfl
def unpF (b : List Int) : List Int × Int := match b with
  | [] => ([], 4)
  | m :: xs => if m ≠ 82 then ([], 3) else unp xs [] (-1) true
theorem unp_good : ∀ {xs acc : List Int} {la : Int} {wh : Bool}, (∀ x ∈ xs, 0 ≤ x ∧ x ≤ 255) → good acc = true → acc.length ≤ 100000 → good (unp xs acc la wh).1 = true ∧ (unp xs acc la wh).1.length ≤ 100000
  | [], acc, la, wh, _, h, hl => ⟨h, hl⟩
  | x :: xs, acc, la, wh, hx, h, hl => by
    have h0 := hx x (List.mem_cons_self ..)
    unfold unp
    split
    · exact ⟨rfl, by simp⟩
    · split
      · exact ⟨rfl, by simp⟩
      · refine unp_good (fun y hy => hx y (List.mem_cons_of_mem _ hy)) ?_ ?_
        · rw [good_app, h, Bool.true_and]
          unfold good
          rw [List.all_eq_true]
          intro t ht
          have := List.eq_of_mem_replicate ht
          rw [gd_iff]; omega
        · rw [List.length_append, List.length_replicate]; omega
theorem unp_err : ∀ {xs acc : List Int} {la : Int} {wh : Bool}, (unp xs acc la wh).2 = 0 ∨ ((unp xs acc la wh).1 = [] ∧ ((unp xs acc la wh).2 = 3 ∨ (unp xs acc la wh).2 = 5))
  | [], acc, la, wh => Or.inl rfl
  | x :: xs, acc, la, wh => by
    unfold unp
    split
    · exact Or.inr ⟨rfl, Or.inl rfl⟩
    · split
      · exact Or.inr ⟨rfl, Or.inr rfl⟩
      · exact unp_err
/-- What is unpacked is packed to the same bytes. -/
theorem unp_back : ∀ {xs acc cs k : List Int} {la : Int} {wh : Bool}, (∀ x ∈ xs, 0 ≤ x ∧ x ≤ 255) → refB acc = cs → bytesOk cs → EndOf cs la wh → unp xs acc la wh = (k, 0) → refB k = cs ++ xs
  | [], acc, cs, k, la, wh, _, h, _, _, hu => by
    unfold unp at hu
    cases hu
    rw [h, List.append_nil]
  | x :: xs, acc, cs, k, la, wh, hx, h, hb, he, hu => by
    have h0 := hx x (List.mem_cons_self ..)
    unfold unp at hu
    split at hu
    · cases hu
    · rename_i hc
      split at hu
      · cases hu
      · have h1 : ¬ (x / 8 = 0) := fun e => hc (Or.inl e)
        have h2 : ¬ (x % 8 = la ∧ wh = false) := fun e => hc (Or.inr e)
        obtain ⟨n, hn⟩ : ∃ n : Nat, (x / 8).toNat = n + 1 := ⟨(x / 8).toNat - 1, by omega⟩
        have hf : refB (acc ++ List.replicate (x / 8).toNat (x % 8)) = cs ++ [x] := by
          unfold refB at h ⊢
          rw [List.foldl_append, h, hn, fold_few (by omega) (he.off hb h2) n (by omega)]
          congr 2
          omega
        have := unp_back (cs := cs ++ [x]) (fun y hy => hx y (List.mem_cons_of_mem _ hy)) hf (by
          intro y hy
          rcases List.mem_append.1 hy with hy | hy
          · exact hb y hy
          · rw [List.mem_singleton] at hy; omega) (Or.inr ⟨cs, x, rfl, rfl, rfl⟩) hu
        rw [this]
        simp
/-- What is packed is unpacked. -/
theorem pack_back {l : List Int} (hg : good l = true) (hl : l.length ≤ 100000) : unp (refB l) [] (-1) true = (l, 0) := by
  -- by the last place: the bytes ahead of the last one, and the last one
  have key : ∀ (l : List Int), good l = true → l.length ≤ 100000 → (l = [] ∧ refB l = []) ∨ ∃ cs x acc la wh, refB l = cs ++ [x] ∧ (∀ ys, unp (cs ++ ys) [] (-1) true = unp ys acc la wh) ∧ EndOf cs la wh ∧ l = acc ++ List.replicate (x / 8).toNat (x % 8) ∧ 8 ≤ x ∧ x ≤ 255 ∧ ¬ (x % 8 = la ∧ wh = false) := by
    refine snocInd (fun _ _ => Or.inl ⟨rfl, rfl⟩) ?_
    · intro l t ih hg hl
      rw [good_app, Bool.and_eq_true] at hg
      have ht : 0 ≤ t ∧ t ≤ 7 := by
        have := hg.2
        unfold good at this
        rw [List.all_cons, List.all_nil, Bool.and_true] at this
        exact gd_iff.1 this
      rw [List.length_append, List.length_singleton] at hl
      have hr : refB (l ++ [t]) = stp (refB l) t := by unfold refB; rw [List.foldl_append]; rfl
      right
      rcases ih hg.1 (by omega) with ⟨rfl, h0⟩ | ⟨cs, x, acc, la, wh, h1, h2, h3, h4, h5, h6, h7⟩
      · refine ⟨[], t + 8, [], -1, true, ?_, fun ys => rfl, Or.inl ⟨rfl, rfl, rfl⟩, ?_, by omega, by omega, by omega⟩
        · rw [hr, h0, stp_nil]; rfl
        · rw [show ((t + 8) / 8).toNat = 1 by omega, show (t + 8) % 8 = t by omega]; rfl
      · by_cases hc : x % 8 = t ∧ x / 8 < 31
        · refine ⟨cs, x + 8, acc, la, wh, ?_, h2, h3, ?_, by omega, by omega, ?_⟩
          · rw [hr, h1, stp_more hc]
          · rw [h4, show ((x + 8) / 8).toNat = (x / 8).toNat + 1 by omega, show (x + 8) % 8 = x % 8 by omega, List.replicate_succ', hc.1, List.append_assoc]
          · rw [show (x + 8) % 8 = x % 8 by omega]; exact h7
        · have hu : ∀ ys, unp (cs ++ [x] ++ ys) [] (-1) true = unp ys l (x % 8) (x / 8 == 31) := by
            intro ys
            rw [List.append_assoc, h2]
            show unp (x :: ys) acc la wh = _
            have hlen : (acc.length : Int) + x / 8 ≤ 100000 := by
              have : l.length = acc.length + (x / 8).toNat := by
                conv => lhs; rw [h4]
                rw [List.length_append, List.length_replicate]
              omega
            rw [unp_cons, if_neg (fun h => h.elim (fun h => by omega) h7), if_neg (by omega), ← h4]
          refine ⟨cs ++ [x], t + 8, l, x % 8, x / 8 == 31, ?_, hu, Or.inr ⟨cs, x, rfl, rfl, rfl⟩, ?_, by omega, by omega, ?_⟩
          · rw [hr, h1, stp_less hc]
          · rw [show ((t + 8) / 8).toNat = 1 by omega, show (t + 8) % 8 = t by omega]; rfl
          · rw [show (t + 8) % 8 = t by omega]
            rintro ⟨e1, e2⟩
            rw [beq_eq_false_iff_ne] at e2
            exact hc ⟨e1.symm, by omega⟩
  rcases key l hg hl with ⟨rfl, h0⟩ | ⟨cs, x, acc, la, wh, h1, h2, h3, h4, h5, h6, h7⟩
  · rw [h0]; rfl
  · rw [h1, h2]
    have hlen : (acc.length : Int) + x / 8 ≤ 100000 := by
      have : l.length = acc.length + (x / 8).toNat := by
        conv => lhs; rw [h4]
        rw [List.length_append, List.length_replicate]
      omega
    rw [unp_cons, if_neg (fun h => h.elim (fun h => by omega) h7), if_neg (by omega), ← h4]
    rfl
end Go.Proofs.Ythnlgcnbpngnpaa.Abs
