/- Maps whose keys are whole numbers, or pairs of them: read, put into, deleted from. No condition of their own. -/
import Derived.Test.YthcibbfljcfheaaSp
namespace Go.Proofs.Ythcibbfljcfheaa.Abs
set_option linter.unusedVariables false
set_option linter.unusedSimpArgs false
set_option linter.unusedSectionVars false
abbrev MK (κ : Type) := List (κ × AV)
abbrev ML := MK Int
section
variable {κ : Type} [DecidableEq κ]
def mfind : MK κ → κ → Option (Nat × AV)
  | [], _ => none
  | (k, v) :: l, n => if n = k then some (0, v) else (mfind l n).map fun p => (p.1 + 1, p.2)
def mget : MK κ → κ → Option AV
  | [], _ => none
  | (k, v) :: l, n => if n = k then some v else mget l n
def mput : MK κ → κ → AV → MK κ
  | [], n, v => [(n, v)]
  | (k, u) :: l, n, v => if n = k then (k, v) :: l else (k, u) :: mput l n v
def mdel : MK κ → κ → MK κ
  | [], _ => []
  | (k, u) :: l, n => if n = k then l else (k, u) :: mdel l n
theorem mget_find (l : MK κ) (n : κ) : mget l n = (mfind l n).map Prod.snd := by
  induction l with
  | nil => rfl
  | cons p l ih =>
    obtain ⟨k, v⟩ := p
    unfold mget mfind
    split
    · rfl
    · rw [ih]; cases mfind l n <;> rfl
theorem mdel_none {l : MK κ} {n : κ} (h : mget l n = none) : mdel l n = l := by
  induction l with
  | nil => rfl
  | cons p l ih =>
    obtain ⟨k, u⟩ := p
    unfold mget at h
    unfold mdel
    split at h
    · cases h
    · rename_i hk
      rw [if_neg hk, ih h]
def mkeys (l : MK κ) : List κ := l.map Prod.fst
theorem mget_mem {l : MK κ} {n : κ} : (mget l n).isSome = true ↔ n ∈ mkeys l := by
  induction l with
  | nil => simp [mget, mkeys]
  | cons p l ih =>
    obtain ⟨k, u⟩ := p
    unfold mget mkeys
    rw [List.map_cons, List.mem_cons]
    split
    · rename_i h; simp [h]
    · rename_i h; rw [ih]; simp [h, mkeys]
theorem mget_nmem {l : MK κ} {n : κ} : mget l n = none ↔ n ∉ mkeys l := by
  rw [← mget_mem]; cases mget l n <;> simp
theorem mget_put {l : MK κ} {n : κ} {v : AV} (k : κ) : mget (mput l n v) k = if k = n then some v else mget l k := by
  induction l with
  | nil =>
    unfold mput mget
    split
    · rfl
    · rfl
  | cons p l ih =>
    obtain ⟨k', u⟩ := p
    unfold mput
    split
    · rename_i h
      subst h
      simp only [mget]
      split
      · rfl
      · rfl
    · rename_i h
      simp only [mget, ih]
      split
      · rename_i h1
        subst h1
        rw [if_neg (Ne.symm h)]
      · rfl
theorem keys_put {l : MK κ} {n : κ} {v : AV} : mkeys (mput l n v) = if n ∈ mkeys l then mkeys l else mkeys l ++ [n] := by
  induction l with
  | nil => rfl
  | cons p l ih =>
    obtain ⟨k', u⟩ := p
    unfold mput
    split
    · rename_i h
      subst h
      show n :: mkeys l = if n ∈ n :: mkeys l then n :: mkeys l else n :: mkeys l ++ [n]
      rw [if_pos (List.mem_cons_self ..)]
    · rename_i h
      show k' :: mkeys (mput l n v) = _
      rw [ih]
      show _ = if n ∈ k' :: mkeys l then k' :: mkeys l else k' :: mkeys l ++ [n]
      by_cases h1 : n ∈ mkeys l
      · rw [if_pos h1, if_pos (List.mem_cons_of_mem _ h1)]
      · rw [if_neg h1, if_neg (by simp [h, h1])]; rfl
theorem nodup_put {l : MK κ} {n : κ} {v : AV} (h : (mkeys l).Nodup) : (mkeys (mput l n v)).Nodup := by
  rw [keys_put]
  split
  · exact h
  · rename_i h1
    rw [List.nodup_append]
    refine ⟨h, by simp, fun a ha b hb => ?_⟩
    rw [List.mem_singleton] at hb
    subst hb
    rintro rfl
    exact h1 ha
theorem keys_del {l : MK κ} {n : κ} : mkeys (mdel l n) = (mkeys l).erase n := by
  induction l with
  | nil => rfl
  | cons p l ih =>
    obtain ⟨k', u⟩ := p
    unfold mdel
    split
    · rename_i h
      subst h
      show mkeys l = (n :: mkeys l).erase n
      rw [List.erase_cons_head]
    · rename_i h
      show k' :: mkeys (mdel l n) = (k' :: mkeys l).erase n
      rw [ih, List.erase_cons_tail]
      simpa using fun e => h e.symm
theorem nodup_del {l : MK κ} {n : κ} (h : (mkeys l).Nodup) : (mkeys (mdel l n)).Nodup := by
  rw [keys_del]; exact h.erase n
theorem mget_del {l : MK κ} {n : κ} (h : (mkeys l).Nodup) (k : κ) : mget (mdel l n) k = if k = n then none else mget l k := by
  induction l with
  | nil => simp [mdel, mget]
  | cons p l ih =>
    obtain ⟨k', u⟩ := p
    have h' : k' ∉ mkeys l ∧ (mkeys l).Nodup := List.nodup_cons.1 h
    unfold mdel
    split
    · rename_i h1
      subst h1
      simp only [mget]
      split
      · rename_i h2
        subst h2
        exact mget_nmem.2 h'.1
      · rfl
    · rename_i h1
      simp only [mget, ih h'.2]
      split
      · rename_i h2
        subst h2
        rw [if_neg (Ne.symm h1)]
      · rfl
theorem len_put {l : MK κ} {n : κ} {v : AV} : (mput l n v).length = if (mget l n).isSome then l.length else l.length + 1 := by
  induction l with
  | nil => rfl
  | cons p l ih =>
    obtain ⟨k', u⟩ := p
    unfold mput mget
    split
    · simp
    · rw [List.length_cons, ih]; split <;> simp
theorem len_del {l : MK κ} {n : κ} : (mdel l n).length = if (mget l n).isSome then l.length - 1 else l.length := by
  induction l with
  | nil => rfl
  | cons p l ih =>
    obtain ⟨k', u⟩ := p
    unfold mdel mget
    split
    · simp
    · rw [List.length_cons, ih]
      split
      · rename_i h
        have : 0 < l.length := by
          cases l with
          | nil => cases h
          | cons _ _ => simp
        rw [List.length_cons]; omega
      · simp
theorem mod_mG {E : κ → AV} {l : MK κ} {n : κ} {i : Nat} {v : AV} (w : AV) (h : mfind l n = some (i, v)) : (l.map fun p => (E p.1, p.2)).modify i (fun e => (e.1, w)) = (mput l n w).map fun p => (E p.1, p.2) := by
  induction l generalizing i with
  | nil => cases h
  | cons p l ih =>
    obtain ⟨k, u⟩ := p
    unfold mfind at h
    unfold mput
    rw [List.map_cons]
    split at h
    · rename_i hk
      cases h
      rw [if_pos hk]
      rfl
    · rename_i hk
      rw [if_neg hk]
      cases hm : mfind l n with
      | none => rw [hm] at h; cases h
      | some q =>
        rw [hm] at h
        cases h
        rw [List.modify_succ_cons, List.map_cons, ← ih (i := q.1) (by rw [hm])]
theorem app_mG {E : κ → AV} {l : MK κ} {n : κ} (w : AV) (h : mfind l n = none) : (l.map fun p => (E p.1, p.2)) ++ [(E n, w)] = (mput l n w).map fun p => (E p.1, p.2) := by
  induction l with
  | nil => rfl
  | cons p l ih =>
    obtain ⟨k, u⟩ := p
    unfold mfind at h
    unfold mput
    split at h
    · cases h
    · rename_i hk
      rw [if_neg hk]
      have : mfind l n = none := by
        cases hm : mfind l n with
        | none => rfl
        | some q => rw [hm] at h; cases h
      rw [List.map_cons, List.map_cons, List.cons_append, ih this]
theorem del_mG {E : κ → AV} {l : MK κ} {n : κ} {i : Nat} {v : AV} (h : mfind l n = some (i, v)) : (l.map fun p => (E p.1, p.2)).eraseIdx i = (mdel l n).map fun p => (E p.1, p.2) := by
  induction l generalizing i with
  | nil => cases h
  | cons p l ih =>
    obtain ⟨k, u⟩ := p
    unfold mfind at h
    unfold mdel
    split at h
    · rename_i hk
      cases h
      rw [if_pos hk]
      rfl
    · rename_i hk
      rw [if_neg hk]
      cases hm : mfind l n with
      | none => rw [hm] at h; cases h
      | some q =>
        rw [hm] at h
        cases h
        rw [List.map_cons, List.map_cons, ← ih (i := q.1) (by rw [hm])]
        rfl
-- the numbers of birth
def bput (l : MK κ) (n : κ) (bc : List Nat × Nat) : List Nat × Nat := if (mget l n).isSome then bc else (bc.1 ++ [bc.2], bc.2 + 1)
def bdel (l : MK κ) (n : κ) (bc : List Nat × Nat) : List Nat × Nat := match mfind l n with
  | some (i, _) => (bc.1.eraseIdx i, bc.2)
  | none => bc
/-- The births are as many as the entries, unlike, and past. -/
structure BOk (l : MK κ) (bc : List Nat × Nat) : Prop where
  len : bc.1.length = l.length
  nd : bc.1.Nodup
  lt : ∀ x ∈ bc.1, x < bc.2
theorem mfind_lt {l : MK κ} {n : κ} {i : Nat} {v : AV} (h : mfind l n = some (i, v)) : i < l.length := by
  induction l generalizing i with
  | nil => cases h
  | cons p l ih =>
    obtain ⟨k, u⟩ := p
    unfold mfind at h
    split at h
    · cases h; simp
    · cases hm : mfind l n with
      | none => rw [hm] at h; cases h
      | some q => rw [hm] at h; cases h; have := ih (i := q.1) (by rw [hm]); simp; omega
theorem BOk.nil : BOk ([] : MK κ) ([], 0) := ⟨rfl, List.nodup_nil, by simp⟩
theorem BOk.put {l : MK κ} {bc : List Nat × Nat} (h : BOk l bc) {n : κ} {v : AV} : BOk (mput l n v) (bput l n bc) := by
  unfold bput
  cases hg : (mget l n).isSome
  · rw [if_neg (by simp)]
    refine ⟨?_, ?_, ?_⟩
    · rw [len_put, hg, if_neg (by simp), List.length_append, h.len]; rfl
    · rw [List.nodup_append]
      refine ⟨h.nd, by simp, fun a ha b hb => ?_⟩
      rw [List.mem_singleton] at hb
      have := h.lt a ha
      omega
    · intro x hx
      rcases List.mem_append.1 hx with hx | hx
      · have := h.lt x hx; simp only; omega
      · rw [List.mem_singleton] at hx; simp only; omega
  · rw [if_pos rfl]
    exact ⟨by rw [len_put, hg, if_pos rfl, h.len], h.nd, h.lt⟩
theorem BOk.del {l : MK κ} {bc : List Nat × Nat} (h : BOk l bc) {n : κ} : BOk (mdel l n) (bdel l n bc) := by
  unfold bdel
  cases hm : mfind l n with
  | none =>
    simp only
    rw [mdel_none (by rw [mget_find, hm]; rfl)]
    exact h
  | some q =>
    have hl := mfind_lt (i := q.1) (v := q.2) hm
    simp only
    refine ⟨?_, ?_, fun x hx => h.lt x (List.mem_of_mem_eraseIdx hx)⟩
    · rw [len_del, mget_find, hm, List.length_eraseIdx, h.len, if_pos hl]; rfl
    · exact h.nd.sublist (List.eraseIdx_sublist ..)
end
def mE (l : ML) : List (AV × AV) := l.map fun p => (.i .i64 p.1, p.2)
/-- Keys that are pairs of whole numbers. -/
abbrev MP := MK (Int × Int)
def mP (k1 k2 : IntKind) (l : MP) : List (AV × AV) := l.map fun p => (.agg [.i k1 p.1.1, .i k2 p.1.2], p.2)
theorem afind_mE (l : ML) (n : Int) : afind .i64 n (mE l) = some (mfind l n) := by
  induction l with
  | nil => rfl
  | cons p l ih =>
    obtain ⟨k, v⟩ := p
    show afind .i64 n ((.i .i64 k, v) :: mE l) = _
    unfold afind mfind
    rw [if_pos rfl]
    split
    · rfl
    · rw [ih]; cases mfind l n <;> rfl
theorem aEq2 {k1 k2 : IntKind} {a b c d : Int} : aEqC [0, 0] [.i k1 a, .i k2 b] [.i k1 c, .i k2 d] = some (decide ((a, b) = (c, d))) := by
  by_cases h1 : a = c <;> by_cases h2 : b = d <;> simp [aEqC, h1, h2]
theorem afind_mP {k1 k2 : IntKind} (l : MP) (a b : Int) : afindS [0, 0] [.i k1 a, .i k2 b] (mP k1 k2 l) = some (mfind l (a, b)) := by
  induction l with
  | nil => rfl
  | cons p l ih =>
    obtain ⟨⟨c, d⟩, v⟩ := p
    show afindS [0, 0] [.i k1 a, .i k2 b] ((.agg [.i k1 c, .i k2 d], v) :: mP k1 k2 l) = _
    unfold afindS mfind
    rw [aEq2]
    by_cases h : (a, b) = (c, d)
    · rw [if_pos h, decide_eq_true h]
    · rw [if_neg h, decide_eq_false h]
      simp only
      rw [ih]; cases mfind l (a, b) <;> rfl
/-- A map object. -/
structure IsMp (H : AH) (r : Nat) (l : ML) : Prop where
  o : ∃ bc, H.o r = some (.mapo (mE l) bc)
  lt : r < H.n
  nd : (mkeys l).Nodup
theorem IsMp.keep {H H' : AH} {r : Nat} {l : ML} (h : IsMp H r l) (hn : H.n ≤ H'.n) (ho : H'.o r = H.o r) : IsMp H' r l := ⟨h.o.elim fun bc e => ⟨bc, ho.trans e⟩, Nat.lt_of_lt_of_le h.lt hn, h.nd⟩
theorem IsMp.keeps {H H' : AH} {r : Nat} {l : ML} (h : IsMp H r l) (k : Keeps H H') : IsMp H' r l := h.keep k.1 (k.2 r h.lt)
theorem IsMp.new {H : AH} {r : Nat} {l : ML} (h : IsMp H r l) {x : AObj} : IsMp (H.new x) r l := h.keeps (Keeps.refl _).new
theorem IsMp.off {H : AH} {r b : Nat} {l : ML} (h : IsMp H r l) (hb : r ≠ b) {x : AObj} : IsMp (H.set b x) r l := h.keep (Nat.le_refl _) (by rw [AH_set_o, if_neg hb])
theorem IsMp.mk0 {H : AH} : IsMp (H.new (.mapo [] ([], 0))) H.n [] := ⟨⟨_, by rw [AH_new_o, if_pos rfl]; rfl⟩, Nat.lt_succ_self _, List.nodup_nil⟩
theorem IsMp.put {H : AH} {r : Nat} {l : ML} (h : IsMp H r l) (n : Int) (v : AV) (bc : List Nat × Nat) : IsMp (H.set r (.mapo (mE (mput l n v)) bc)) r (mput l n v) := ⟨⟨bc, by rw [AH_set_o, if_pos rfl]⟩, h.lt, nodup_put h.nd⟩
theorem IsMp.del {H : AH} {r : Nat} {l : ML} (h : IsMp H r l) (n : Int) (bc : List Nat × Nat) : IsMp (H.set r (.mapo (mE (mdel l n)) bc)) r (mdel l n) := ⟨⟨bc, by rw [AH_set_o, if_pos rfl]⟩, h.lt, nodup_del h.nd⟩
/-- A map object whose keys are pairs. -/
structure IsPp (k1 k2 : IntKind) (H : AH) (r : Nat) (l : MP) : Prop where
  o : ∃ bc, H.o r = some (.mapo (mP k1 k2 l) bc) ∧ BOk l bc
  lt : r < H.n
  nd : (mkeys l).Nodup
section
variable {k1 k2 : IntKind} {H H' : AH} {r b : Nat} {l : MP}
theorem IsPp.keep (h : IsPp k1 k2 H r l) (hn : H.n ≤ H'.n) (ho : H'.o r = H.o r) : IsPp k1 k2 H' r l := ⟨h.o.elim fun bc e => ⟨bc, ho.trans e.1, e.2⟩, Nat.lt_of_lt_of_le h.lt hn, h.nd⟩
theorem IsPp.keeps (h : IsPp k1 k2 H r l) (k : Keeps H H') : IsPp k1 k2 H' r l := h.keep k.1 (k.2 r h.lt)
theorem IsPp.off (h : IsPp k1 k2 H r l) (hb : r ≠ b) {x : AObj} : IsPp k1 k2 (H.set b x) r l := h.keep (Nat.le_refl _) (by rw [AH_set_o, if_neg hb])
end
-- in the form in which they rewrite: by what stands there
abbrev FF := List (AV × AV) → Option (Option (Nat × AV))
def lkO (F : FF) (z : AV) (ok : Bool) : Option AObj → Option AV
  | some (.mapo es _) => (match F es with
    | some (some (_, v)) => some (if ok then .tup [v, .b true] else v)
    | some none => some (if ok then .tup [z, .b false] else z)
    | none => none)
  | _ => none
theorem lk_mp {z : AV} {b : Nat} {n : Int} {ok : Bool} {H : AH} : alookup [0] z (.mp (some b)) (.i .i64 n) ok H = lkO (afind .i64 n) z ok (H.o b) := by
  unfold alookup aentries lkO
  simp only [if_true]
  cases H.o b with
  | none => rfl
  | some x => cases x <;> rfl
theorem lk_pp {z : AV} {b : Nat} {x y : AV} {ok : Bool} {H : AH} : alookup [9, 0, 0] z (.mp (some b)) (.agg [x, y]) ok H = lkO (afindS [0, 0] [x, y]) z ok (H.o b) := by
  unfold alookup aentries lkO
  simp only [List.length_cons, List.length_nil, if_true]
  cases H.o b with
  | none => rfl
  | some x => cases x <;> rfl
theorem lk_nil {z : AV} {n : Int} {ok : Bool} {H : AH} : alookup [0] z (.mp none) (.i .i64 n) ok H = some (if ok then .tup [z, .b false] else z) := rfl
theorem lk_pnil {z : AV} {x y : AV} {ok : Bool} {H : AH} : alookup [9, 0, 0] z (.mp none) (.agg [x, y]) ok H = some (if ok then .tup [z, .b false] else z) := rfl
theorem lkO_1 {z : AV} {n : Int} {l : ML} {bc : List Nat × Nat} : lkO (afind .i64 n) z false (some (.mapo (mE l) bc)) = some ((mget l n).getD z) := by
  simp only [lkO, afind_mE]
  rw [mget_find]
  cases mfind l n <;> rfl
theorem lkO_2 {z : AV} {n : Int} {l : ML} {bc : List Nat × Nat} : lkO (afind .i64 n) z true (some (.mapo (mE l) bc)) = some (.tup [(mget l n).getD z, .b (mget l n).isSome]) := by
  simp only [lkO, afind_mE]
  rw [mget_find]
  cases mfind l n <;> rfl
theorem lkP_1 {k1 k2 : IntKind} {z : AV} {x y : Int} {l : MP} {bc : List Nat × Nat} : lkO (afindS [0, 0] [.i k1 x, .i k2 y]) z false (some (.mapo (mP k1 k2 l) bc)) = some ((mget l (x, y)).getD z) := by
  simp only [lkO, afind_mP]
  rw [mget_find]
  cases mfind l (x, y) <;> rfl
theorem lkP_2 {k1 k2 : IntKind} {z : AV} {x y : Int} {l : MP} {bc : List Nat × Nat} : lkO (afindS [0, 0] [.i k1 x, .i k2 y]) z true (some (.mapo (mP k1 k2 l) bc)) = some (.tup [(mget l (x, y)).getD z, .b (mget l (x, y)).isSome]) := by
  simp only [lkO, afind_mP]
  rw [mget_find]
  cases mfind l (x, y) <;> rfl
def muO (F : FF) (k : AV) (b : Nat) (v : AV) (H : AH) : Option AObj → Option AH
  | some (.mapo es bc) => (match F es with
    | some (some (i, _)) => some (H.set b (.mapo (es.modify i fun e => (e.1, v)) bc))
    | some none => some (H.set b (.mapo (es ++ [(k, v)]) (bc.1 ++ [bc.2], bc.2 + 1)))
    | none => none)
  | _ => none
theorem mu_b {b : Nat} {n : Int} {v : Bool} {H : AH} : amapUpdate [0] (.mp (some b)) (.i .i64 n) (.b v) H = muO (afind .i64 n) (.i .i64 n) b (.b v) H (H.o b) := by
  unfold amapUpdate muO; simp only [if_true]; cases H.o b with
  | none => rfl
  | some x => cases x <;> rfl
theorem mu_i {b : Nat} {n : Int} {k : IntKind} {v : Int} {H : AH} : amapUpdate [0] (.mp (some b)) (.i .i64 n) (.i k v) H = muO (afind .i64 n) (.i .i64 n) b (.i k v) H (H.o b) := by
  unfold amapUpdate muO; simp only [if_true]; cases H.o b with
  | none => rfl
  | some x => cases x <;> rfl
theorem mu_a {b : Nat} {n : Int} {v : List AV} {H : AH} : amapUpdate [0] (.mp (some b)) (.i .i64 n) (.agg v) H = muO (afind .i64 n) (.i .i64 n) b (.agg v) H (H.o b) := by
  unfold amapUpdate muO; simp only [if_true]; cases H.o b with
  | none => rfl
  | some x => cases x <;> rfl
theorem mu_sl {b : Nat} {n : Int} {a : Option (Nat × Nat)} {l lo sz : Nat} {ex : Bool} {H : AH} : amapUpdate [0] (.mp (some b)) (.i .i64 n) (.sl a l lo ex sz) H = muO (afind .i64 n) (.i .i64 n) b (.sl a l lo ex sz) H (H.o b) := by
  unfold amapUpdate muO; simp only [if_true]; cases H.o b with
  | none => rfl
  | some x => cases x <;> rfl
theorem mup_b {b : Nat} {x y : AV} {v : Bool} {H : AH} : amapUpdate [9, 0, 0] (.mp (some b)) (.agg [x, y]) (.b v) H = muO (afindS [0, 0] [x, y]) (.agg [x, y]) b (.b v) H (H.o b) := by
  unfold amapUpdate muO; simp only [List.length_cons, List.length_nil, if_true]; cases H.o b with
  | none => rfl
  | some x => cases x <;> rfl
theorem mup_sl {b : Nat} {x y : AV} {a : Option (Nat × Nat)} {l lo sz : Nat} {ex : Bool} {H : AH} : amapUpdate [9, 0, 0] (.mp (some b)) (.agg [x, y]) (.sl a l lo ex sz) H = muO (afindS [0, 0] [x, y]) (.agg [x, y]) b (.sl a l lo ex sz) H (H.o b) := by
  unfold amapUpdate muO; simp only [List.length_cons, List.length_nil, if_true]; cases H.o b with
  | none => rfl
  | some x => cases x <;> rfl
theorem muO_E {b : Nat} {n : Int} {v : AV} {H : AH} {l : ML} {bc : List Nat × Nat} : muO (afind .i64 n) (.i .i64 n) b v H (some (.mapo (mE l) bc)) = some (H.set b (.mapo (mE (mput l n v)) (bput l n bc))) := by
  simp only [muO, afind_mE, bput, mget_find]
  cases hm : mfind l n with
  | none => simp only [mE, app_mG (E := fun n => .i .i64 n) _ hm]; rfl
  | some q => simp only [mE, mod_mG (E := fun n => .i .i64 n) _ hm]; rfl
theorem muO_P {k1 k2 : IntKind} {b : Nat} {x y : Int} {v : AV} {H : AH} {l : MP} {bc : List Nat × Nat} : muO (afindS [0, 0] [.i k1 x, .i k2 y]) (.agg [.i k1 x, .i k2 y]) b v H (some (.mapo (mP k1 k2 l) bc)) = some (H.set b (.mapo (mP k1 k2 (mput l (x, y) v)) (bput l (x, y) bc))) := by
  simp only [muO, afind_mP, bput, mget_find]
  cases hm : mfind l (x, y) with
  | none => simp only [mP, app_mG (E := fun n : Int × Int => .agg [.i k1 n.1, .i k2 n.2]) (n := (x, y)) _ hm]; rfl
  | some q => simp only [mP, mod_mG (E := fun n : Int × Int => .agg [.i k1 n.1, .i k2 n.2]) (n := (x, y)) _ hm]; rfl
def dlO (F : FF) (b : Nat) (H : AH) : Option AObj → Option AH
  | some (.mapo es bc) => (match F es with
    | some (some (i, _)) => some (H.set b (.mapo (es.eraseIdx i) (bc.1.eraseIdx i, bc.2)))
    | some none => some (H.set b (.mapo es bc))
    | none => none)
  | _ => none
theorem dl_mp {b : Nat} {n : Int} {H : AH} : adelete [0] (.mp (some b)) (.i .i64 n) H = dlO (afind .i64 n) b H (H.o b) := by
  unfold adelete dlO; simp only [if_true]; cases H.o b with
  | none => rfl
  | some x => cases x <;> rfl
theorem dl_pp {b : Nat} {x y : AV} {H : AH} : adelete [9, 0, 0] (.mp (some b)) (.agg [x, y]) H = dlO (afindS [0, 0] [x, y]) b H (H.o b) := by
  unfold adelete dlO; simp only [List.length_cons, List.length_nil, if_true]; cases H.o b with
  | none => rfl
  | some x => cases x <;> rfl
theorem dl_nil {n : Int} {H : AH} : adelete [0] (.mp none) (.i .i64 n) H = some H := rfl
theorem dlO_E {b : Nat} {n : Int} {H : AH} {l : ML} {bc : List Nat × Nat} : dlO (afind .i64 n) b H (some (.mapo (mE l) bc)) = some (H.set b (.mapo (mE (mdel l n)) (bdel l n bc))) := by
  simp only [dlO, afind_mE, bdel]
  cases hm : mfind l n with
  | none =>
    simp only
    rw [mdel_none (by rw [mget_find, hm]; rfl)]
  | some q => simp only [mE, del_mG (E := fun n => .i .i64 n) hm]
theorem dlO_P {k1 k2 : IntKind} {b : Nat} {x y : Int} {H : AH} {l : MP} {bc : List Nat × Nat} : dlO (afindS [0, 0] [.i k1 x, .i k2 y]) b H (some (.mapo (mP k1 k2 l) bc)) = some (H.set b (.mapo (mP k1 k2 (mdel l (x, y))) (bdel l (x, y) bc))) := by
  simp only [dlO, afind_mP, bdel]
  cases hm : mfind l (x, y) with
  | none =>
    simp only
    rw [mdel_none (by rw [mget_find, hm]; rfl)]
  | some q => simp only [mP, del_mG (E := fun n : Int × Int => .agg [.i k1 n.1, .i k2 n.2]) (n := (x, y)) hm]
def enO : Option AObj → Option (List (AV × AV))
  | some (.mapo es _) => some es
  | _ => none
theorem en_mp {b : Nat} {H : AH} : aentries (some b) H = enO (H.o b) := by
  unfold aentries enO; simp only; cases H.o b with
  | none => rfl
  | some x => cases x <;> rfl
theorem en_nil {H : AH} : aentries none H = some [] := rfl
theorem enO_E {es : List (AV × AV)} {bc : List Nat × Nat} : enO (some (.mapo es bc)) = some es := rfl
theorem len_mE {l : ML} : (mE l).length = l.length := by simp [mE]
theorem len_mP {k1 k2 : IntKind} {l : MP} : (mP k1 k2 l).length = l.length := by simp [mP]
theorem mE_nil : mE [] = [] := rfl
/-- An entry that is there, taken and filled again. -/
theorem me_there {k1 k2 : IntKind} {H : AH} {r : Nat} {l : MP} {bc : List Nat × Nat} (ho : H.o r = some (.mapo (mP k1 k2 l) bc)) (hb : BOk l bc) {x y : Int} {v : AV} (hg : mget l (x, y) = some v) {a : Option (Nat × Nat)} {len lo sz : Nat} {ex : Bool} :
    ∃ st : Int, aentry [9, 0, 0] (.sl a len lo ex sz) (.mp (some r)) (.agg [.i k1 x, .i k2 y]) H = some (.tup [v, .i .i64 st], H) ∧
      ∀ {H' : AH} {a' : Option (Nat × Nat)} {len' lo' sz' : Nat} {ex' : Bool}, H'.o r = some (.mapo (mP k1 k2 l) bc) → aentst (.mp (some r)) (.i .i64 st) (.sl a' len' lo' ex' sz') H' = some (H'.set r (.mapo (mP k1 k2 (mput l (x, y) (.sl a' len' lo' ex' sz'))) bc)) := by
  rw [mget_find] at hg
  cases hm : mfind l (x, y) with
  | none => rw [hm] at hg; cases hg
  | some q =>
    obtain ⟨i, u⟩ := q
    rw [hm] at hg
    cases hg
    have hi := mfind_lt hm
    have hi' : i < bc.1.length := by rw [hb.len]; exact hi
    refine ⟨bc.1[i], ?_, ?_⟩
    · show ((match H.o r with
        | some (.mapo es bc) => (match afindS [0, 0] [.i k1 x, .i k2 y] es with
          | some (some (i, v)) => (match bc.1[i]? with
            | some st => some (.tup [v, .i .i64 st], H)
            | none => none)
          | some none => some (.tup [.sl a len lo ex sz, .i .i64 bc.2], H.set r (.mapo (es ++ [(.agg [.i k1 x, .i k2 y], .sl a len lo ex sz)]) (bc.1 ++ [bc.2], bc.2 + 1)))
          | none => none)
        | _ => none) : Option (AV × AH)) = _
      simp only [ho, afind_mP, hm, List.getElem?_eq_getElem hi']
    · intro H' a' len' lo' sz' ex' h'
      unfold aentst
      simp only [h']
      have : bc.1.findIdx? (fun z : Nat => (z : Int) == (bc.1[i] : Int)) = some i := by
        rw [List.findIdx?_eq_some_iff_getElem]
        refine ⟨hi', by simp, fun j hj => ?_⟩
        simp only [beq_iff_eq]
        intro e
        have e' : bc.1[j] = bc.1[i] := by omega
        have := (List.getElem_inj hb.nd).1 e'
        omega
      simp only [this]
      simp only [mP, mod_mG (E := fun n : Int × Int => .agg [.i k1 n.1, .i k2 n.2]) (n := (x, y)) _ hm]
theorem mapo_nil {bc : List Nat × Nat} : AObj.mapo [] bc = .mapo (mE []) bc := rfl
end Go.Proofs.Ythcibbfljcfheaa.Abs
