/- Maps whose keys are whole numbers: read, put into, deleted from. No condition of their own. -/
import Derived.Test.YtfbfpiibmgofeaaSp
namespace Go.Proofs.Ytfbfpiibmgofeaa.Abs
set_option linter.unusedVariables false
set_option linter.unusedSimpArgs false
abbrev ML := List (Int × AV)
def mfind : ML → Int → Option (Nat × AV)
  | [], _ => none
  | (k, v) :: l, n => if n = k then some (0, v) else (mfind l n).map fun p => (p.1 + 1, p.2)
def mget : ML → Int → Option AV
  | [], _ => none
  | (k, v) :: l, n => if n = k then some v else mget l n
def mput : ML → Int → AV → ML
  | [], n, v => [(n, v)]
  | (k, u) :: l, n, v => if n = k then (k, v) :: l else (k, u) :: mput l n v
def mdel : ML → Int → ML
  | [], _ => []
  | (k, u) :: l, n => if n = k then l else (k, u) :: mdel l n
def mE (l : ML) : List (AV × AV) := l.map fun p => (.i .i64 p.1, p.2)
theorem mget_find (l : ML) (n : Int) : mget l n = (mfind l n).map Prod.snd := by
  induction l with
  | nil => rfl
  | cons p l ih =>
    obtain ⟨k, v⟩ := p
    unfold mget mfind
    split
    · rfl
    · rw [ih]; cases mfind l n <;> rfl
theorem afind_mE (l : ML) (n : Int) : afind .i64 n (mE l) = some (mfind l n) := by
  induction l with
  | nil => rfl
  | cons p l ih =>
    obtain ⟨k, v⟩ := p
    show afind .i64 n ((.i .i64 k, v) :: mE l) = _
    unfold afind mfind
    rw [if_pos rfl]
    split
    · rfl
    · rw [ih]; cases mfind l n <;> rfl
theorem mod_mE {l : ML} {n : Int} {i : Nat} {v : AV} (w : AV) (h : mfind l n = some (i, v)) : (mE l).modify i (fun e => (e.1, w)) = mE (mput l n w) := by
  induction l generalizing i with
  | nil => cases h
  | cons p l ih =>
    obtain ⟨k, u⟩ := p
    unfold mfind at h
    unfold mput
    show ((AV.i .i64 k, u) :: mE l).modify i _ = _
    split at h
    · rename_i hk
      cases h
      rw [if_pos hk]
      rfl
    · rename_i hk
      rw [if_neg hk]
      cases hm : mfind l n with
      | none => rw [hm] at h; cases h
      | some q =>
        rw [hm] at h
        cases h
        rw [List.modify_succ_cons]
        show _ = (AV.i .i64 k, u) :: mE (mput l n w)
        rw [← ih (i := q.1) (by rw [hm])]
theorem app_mE {l : ML} {n : Int} (w : AV) (h : mfind l n = none) : mE l ++ [(.i .i64 n, w)] = mE (mput l n w) := by
  induction l with
  | nil => rfl
  | cons p l ih =>
    obtain ⟨k, u⟩ := p
    unfold mfind at h
    unfold mput
    split at h
    · cases h
    · rename_i hk
      rw [if_neg hk]
      have : mfind l n = none := by
        cases hm : mfind l n with
        | none => rfl
        | some q => rw [hm] at h; cases h
      show (AV.i .i64 k, u) :: (mE l ++ _) = (AV.i .i64 k, u) :: mE (mput l n w)
      rw [ih this]
theorem del_mE {l : ML} {n : Int} {i : Nat} {v : AV} (h : mfind l n = some (i, v)) : (mE l).eraseIdx i = mE (mdel l n) := by
  induction l generalizing i with
  | nil => cases h
  | cons p l ih =>
    obtain ⟨k, u⟩ := p
    unfold mfind at h
    unfold mdel
    show ((AV.i .i64 k, u) :: mE l).eraseIdx i = _
    split at h
    · rename_i hk
      cases h
      rw [if_pos hk]
      rfl
    · rename_i hk
      rw [if_neg hk]
      cases hm : mfind l n with
      | none => rw [hm] at h; cases h
      | some q =>
        rw [hm] at h
        cases h
        show (AV.i .i64 k, u) :: (mE l).eraseIdx q.1 = (AV.i .i64 k, u) :: mE (mdel l n)
        rw [ih (i := q.1) (by rw [hm])]
theorem mdel_none {l : ML} {n : Int} (h : mget l n = none) : mdel l n = l := by
  induction l with
  | nil => rfl
  | cons p l ih =>
    obtain ⟨k, u⟩ := p
    unfold mget at h
    unfold mdel
    split at h
    · cases h
    · rename_i hk
      rw [if_neg hk, ih h]
def mkeys (l : ML) : List Int := l.map Prod.fst
theorem mget_mem {l : ML} {n : Int} : (mget l n).isSome = true ↔ n ∈ mkeys l := by
  induction l with
  | nil => simp [mget, mkeys]
  | cons p l ih =>
    obtain ⟨k, u⟩ := p
    unfold mget mkeys
    rw [List.map_cons, List.mem_cons]
    split
    · rename_i h; simp [h]
    · rename_i h; rw [ih]; simp [h, mkeys]
theorem mget_nmem {l : ML} {n : Int} : mget l n = none ↔ n ∉ mkeys l := by
  rw [← mget_mem]; cases mget l n <;> simp
theorem mget_put {l : ML} {n : Int} {v : AV} (k : Int) : mget (mput l n v) k = if k = n then some v else mget l k := by
  induction l with
  | nil =>
    unfold mput mget
    split
    · rfl
    · rfl
  | cons p l ih =>
    obtain ⟨k', u⟩ := p
    unfold mput
    split
    · rename_i h
      subst h
      simp only [mget]
      split
      · rfl
      · rfl
    · rename_i h
      simp only [mget, ih]
      split
      · rename_i h1
        subst h1
        rw [if_neg (Ne.symm h)]
      · rfl
theorem keys_put {l : ML} {n : Int} {v : AV} : mkeys (mput l n v) = if n ∈ mkeys l then mkeys l else mkeys l ++ [n] := by
  induction l with
  | nil => rfl
  | cons p l ih =>
    obtain ⟨k', u⟩ := p
    unfold mput
    split
    · rename_i h
      subst h
      show n :: mkeys l = if n ∈ n :: mkeys l then n :: mkeys l else n :: mkeys l ++ [n]
      rw [if_pos (List.mem_cons_self ..)]
    · rename_i h
      show k' :: mkeys (mput l n v) = _
      rw [ih]
      show _ = if n ∈ k' :: mkeys l then k' :: mkeys l else k' :: mkeys l ++ [n]
      by_cases h1 : n ∈ mkeys l
      · rw [if_pos h1, if_pos (List.mem_cons_of_mem _ h1)]
      · rw [if_neg h1, if_neg (by simp [h, h1])]; rfl
theorem nodup_put {l : ML} {n : Int} {v : AV} (h : (mkeys l).Nodup) : (mkeys (mput l n v)).Nodup := by
  rw [keys_put]
  split
  · exact h
  · rename_i h1
    rw [List.nodup_append]
    refine ⟨h, by simp, fun a ha b hb => ?_⟩
    rw [List.mem_singleton] at hb
    subst hb
    rintro rfl
    exact h1 ha
theorem keys_del {l : ML} {n : Int} : mkeys (mdel l n) = (mkeys l).erase n := by
  induction l with
  | nil => rfl
  | cons p l ih =>
    obtain ⟨k', u⟩ := p
    unfold mdel
    split
    · rename_i h
      subst h
      show mkeys l = (n :: mkeys l).erase n
      rw [List.erase_cons_head]
    · rename_i h
      show k' :: mkeys (mdel l n) = (k' :: mkeys l).erase n
      rw [ih, List.erase_cons_tail]
      simpa using fun e => h e.symm
theorem nodup_del {l : ML} {n : Int} (h : (mkeys l).Nodup) : (mkeys (mdel l n)).Nodup := by
  rw [keys_del]; exact h.erase n
theorem mget_del {l : ML} {n : Int} (h : (mkeys l).Nodup) (k : Int) : mget (mdel l n) k = if k = n then none else mget l k := by
  induction l with
  | nil => simp [mdel, mget]
  | cons p l ih =>
    obtain ⟨k', u⟩ := p
    have h' : k' ∉ mkeys l ∧ (mkeys l).Nodup := List.nodup_cons.1 h
    unfold mdel
    split
    · rename_i h1
      subst h1
      simp only [mget]
      split
      · rename_i h2
        subst h2
        exact mget_nmem.2 h'.1
      · rfl
    · rename_i h1
      simp only [mget, ih h'.2]
      split
      · rename_i h2
        subst h2
        rw [if_neg (Ne.symm h1)]
      · rfl
theorem len_put {l : ML} {n : Int} {v : AV} : (mput l n v).length = if (mget l n).isSome then l.length else l.length + 1 := by
  induction l with
  | nil => rfl
  | cons p l ih =>
    obtain ⟨k', u⟩ := p
    unfold mput mget
    split
    · simp
    · rw [List.length_cons, ih]; split <;> simp
theorem len_del {l : ML} {n : Int} : (mdel l n).length = if (mget l n).isSome then l.length - 1 else l.length := by
  induction l with
  | nil => rfl
  | cons p l ih =>
    obtain ⟨k', u⟩ := p
    unfold mdel mget
    split
    · simp
    · rw [List.length_cons, ih]
      split
      · rename_i h
        have : 0 < l.length := by
          cases l with
          | nil => cases h
          | cons _ _ => simp
        rw [List.length_cons]; omega
      · simp
/-- A map object. -/
structure IsMp (H : AH) (r : Nat) (l : ML) : Prop where
  o : H.o r = some (.mapo (mE l))
  lt : r < H.n
  nd : (mkeys l).Nodup
theorem IsMp.keep {H H' : AH} {r : Nat} {l : ML} (h : IsMp H r l) (hn : H.n ≤ H'.n) (ho : H'.o r = H.o r) : IsMp H' r l := ⟨ho.trans h.o, Nat.lt_of_lt_of_le h.lt hn, h.nd⟩
theorem IsMp.keeps {H H' : AH} {r : Nat} {l : ML} (h : IsMp H r l) (k : Keeps H H') : IsMp H' r l := h.keep k.1 (k.2 r h.lt)
theorem IsMp.new {H : AH} {r : Nat} {l : ML} (h : IsMp H r l) {x : AObj} : IsMp (H.new x) r l := h.keeps (Keeps.refl _).new
theorem IsMp.off {H : AH} {r b : Nat} {l : ML} (h : IsMp H r l) (hb : r ≠ b) {x : AObj} : IsMp (H.set b x) r l := h.keep (Nat.le_refl _) (by rw [AH_set_o, if_neg hb])
theorem IsMp.mk0 {H : AH} : IsMp (H.new (.mapo [])) H.n [] := ⟨by rw [AH_new_o, if_pos rfl]; rfl, Nat.lt_succ_self _, List.nodup_nil⟩
theorem IsMp.put {H : AH} {r : Nat} {l : ML} (h : IsMp H r l) (n : Int) (v : AV) : IsMp (H.set r (.mapo (mE (mput l n v)))) r (mput l n v) := ⟨by rw [AH_set_o, if_pos rfl], h.lt, nodup_put h.nd⟩
theorem IsMp.del {H : AH} {r : Nat} {l : ML} (h : IsMp H r l) (n : Int) : IsMp (H.set r (.mapo (mE (mdel l n)))) r (mdel l n) := ⟨by rw [AH_set_o, if_pos rfl], h.lt, nodup_del h.nd⟩
section
variable {H : AH} {r : Nat} {l : ML} {ks : List Nat} {z : AV} {n : Int}
theorem look1 (h : IsMp H r l) : alookup ks z (.mp (some r)) (.i .i64 n) false H = some ((mget l n).getD z) := by
  unfold alookup aentries
  simp only [h.o, afind_mE]
  rw [mget_find]
  cases mfind l n <;> rfl
theorem look2 (h : IsMp H r l) : alookup ks z (.mp (some r)) (.i .i64 n) true H = some (.tup [(mget l n).getD z, .b (mget l n).isSome]) := by
  unfold alookup aentries
  simp only [h.o, afind_mE]
  rw [mget_find]
  cases mfind l n <;> rfl
theorem look1n {H : AH} : alookup ks z (.mp none) (.i .i64 n) false H = some z := rfl
theorem look2n {H : AH} : alookup ks z (.mp none) (.i .i64 n) true H = some (.tup [z, .b false]) := rfl
theorem upd_mp (h : IsMp H r l) {v : AV} (hv : ∀ vs, v ≠ .tup vs) : amapUpdate ks (.mp (some r)) (.i .i64 n) v H = some (H.set r (.mapo (mE (mput l n v)))) := by
  have : ∀ (o : Option (Nat × AV)), mfind l n = o → amapUpdate ks (.mp (some r)) (.i .i64 n) v H = some (H.set r (.mapo (mE (mput l n v)))) := by
    intro o ho
    have e : amapUpdate ks (.mp (some r)) (.i .i64 n) v H = (match H.o r with
      | some (.mapo es) => match afind .i64 n es with
        | some (some (i, _)) => some (H.set r (.mapo (es.modify i fun e => (e.1, v))))
        | some none => some (H.set r (.mapo (es ++ [(.i .i64 n, v)])))
        | none => none
      | _ => none) := by
      cases v <;> first | rfl | exact absurd rfl (hv _)
    rw [e]
    simp only [h.o, afind_mE, ho]
    cases o with
    | none => simp only [app_mE _ ho]
    | some q => simp only [mod_mE _ ho]
  exact this _ rfl
theorem upd_b (h : IsMp H r l) {v : Bool} : amapUpdate ks (.mp (some r)) (.i .i64 n) (.b v) H = some (H.set r (.mapo (mE (mput l n (.b v))))) := upd_mp h (by intro _ e; cases e)
theorem upd_i (h : IsMp H r l) {k : IntKind} {v : Int} : amapUpdate ks (.mp (some r)) (.i .i64 n) (.i k v) H = some (H.set r (.mapo (mE (mput l n (.i k v))))) := upd_mp h (by intro _ e; cases e)
theorem upd_a (h : IsMp H r l) {v : List AV} : amapUpdate ks (.mp (some r)) (.i .i64 n) (.agg v) H = some (H.set r (.mapo (mE (mput l n (.agg v))))) := upd_mp h (by intro _ e; cases e)
theorem del_mp (h : IsMp H r l) : adelete ks (.mp (some r)) (.i .i64 n) H = some (H.set r (.mapo (mE (mdel l n)))) := by
  unfold adelete
  simp only [h.o, afind_mE]
  cases hm : mfind l n with
  | none =>
    simp only
    rw [mdel_none (by rw [mget_find, hm]; rfl)]
  | some q => simp only [del_mE hm]
theorem len_mp (h : IsMp H r l) : aentries (some r) H = some (mE l) := by
  unfold aentries
  simp only [h.o]
theorem len_mE : (mE l).length = l.length := by simp [mE]
end
-- in the form in which they rewrite: by what stands there
def lkO (z : AV) (n : Int) (ok : Bool) : Option AObj → Option AV
  | some (.mapo es) => (match afind .i64 n es with
    | some (some (_, v)) => some (if ok then .tup [v, .b true] else v)
    | some none => some (if ok then .tup [z, .b false] else z)
    | none => none)
  | _ => none
theorem lk_mp {ks : List Nat} {z : AV} {b : Nat} {n : Int} {ok : Bool} {H : AH} : alookup ks z (.mp (some b)) (.i .i64 n) ok H = lkO z n ok (H.o b) := by
  unfold alookup aentries lkO
  simp only
  cases H.o b with
  | none => rfl
  | some x => cases x <;> rfl
theorem lk_nil {ks : List Nat} {z : AV} {n : Int} {ok : Bool} {H : AH} : alookup ks z (.mp none) (.i .i64 n) ok H = some (if ok then .tup [z, .b false] else z) := rfl
theorem lkO_1 {z : AV} {n : Int} {l : ML} : lkO z n false (some (.mapo (mE l))) = some ((mget l n).getD z) := by
  simp only [lkO, afind_mE]
  rw [mget_find]
  cases mfind l n <;> rfl
theorem lkO_2 {z : AV} {n : Int} {l : ML} : lkO z n true (some (.mapo (mE l))) = some (.tup [(mget l n).getD z, .b (mget l n).isSome]) := by
  simp only [lkO, afind_mE]
  rw [mget_find]
  cases mfind l n <;> rfl
def muO (b : Nat) (n : Int) (v : AV) (H : AH) : Option AObj → Option AH
  | some (.mapo es) => (match afind .i64 n es with
    | some (some (i, _)) => some (H.set b (.mapo (es.modify i fun e => (e.1, v))))
    | some none => some (H.set b (.mapo (es ++ [(.i .i64 n, v)])))
    | none => none)
  | _ => none
theorem mu_b {ks : List Nat} {b : Nat} {n : Int} {v : Bool} {H : AH} : amapUpdate ks (.mp (some b)) (.i .i64 n) (.b v) H = muO b n (.b v) H (H.o b) := by
  unfold amapUpdate muO; simp only; cases H.o b with
  | none => rfl
  | some x => cases x <;> rfl
theorem mu_i {ks : List Nat} {b : Nat} {n : Int} {k : IntKind} {v : Int} {H : AH} : amapUpdate ks (.mp (some b)) (.i .i64 n) (.i k v) H = muO b n (.i k v) H (H.o b) := by
  unfold amapUpdate muO; simp only; cases H.o b with
  | none => rfl
  | some x => cases x <;> rfl
theorem mu_a {ks : List Nat} {b : Nat} {n : Int} {v : List AV} {H : AH} : amapUpdate ks (.mp (some b)) (.i .i64 n) (.agg v) H = muO b n (.agg v) H (H.o b) := by
  unfold amapUpdate muO; simp only; cases H.o b with
  | none => rfl
  | some x => cases x <;> rfl
theorem mu_sl {ks : List Nat} {b : Nat} {n : Int} {a : Option (Nat × Nat)} {l lo sz : Nat} {ex : Bool} {H : AH} : amapUpdate ks (.mp (some b)) (.i .i64 n) (.sl a l lo ex sz) H = muO b n (.sl a l lo ex sz) H (H.o b) := by
  unfold amapUpdate muO; simp only; cases H.o b with
  | none => rfl
  | some x => cases x <;> rfl
theorem muO_E {b : Nat} {n : Int} {v : AV} {H : AH} {l : ML} : muO b n v H (some (.mapo (mE l))) = some (H.set b (.mapo (mE (mput l n v)))) := by
  simp only [muO, afind_mE]
  cases hm : mfind l n with
  | none => simp only [app_mE _ hm]
  | some q => simp only [mod_mE _ hm]
def dlO (b : Nat) (n : Int) (H : AH) : Option AObj → Option AH
  | some (.mapo es) => (match afind .i64 n es with
    | some (some (i, _)) => some (H.set b (.mapo (es.eraseIdx i)))
    | some none => some (H.set b (.mapo es))
    | none => none)
  | _ => none
theorem dl_mp {ks : List Nat} {b : Nat} {n : Int} {H : AH} : adelete ks (.mp (some b)) (.i .i64 n) H = dlO b n H (H.o b) := by
  unfold adelete dlO; simp only; cases H.o b with
  | none => rfl
  | some x => cases x <;> rfl
theorem dl_nil {ks : List Nat} {n : Int} {H : AH} : adelete ks (.mp none) (.i .i64 n) H = some H := rfl
theorem dlO_E {b : Nat} {n : Int} {H : AH} {l : ML} : dlO b n H (some (.mapo (mE l))) = some (H.set b (.mapo (mE (mdel l n)))) := by
  simp only [dlO, afind_mE]
  cases hm : mfind l n with
  | none =>
    simp only
    rw [mdel_none (by rw [mget_find, hm]; rfl)]
  | some q => simp only [del_mE hm]
def enO : Option AObj → Option (List (AV × AV))
  | some (.mapo es) => some es
  | _ => none
theorem en_mp {b : Nat} {H : AH} : aentries (some b) H = enO (H.o b) := by
  unfold aentries enO; simp only; cases H.o b with
  | none => rfl
  | some x => cases x <;> rfl
theorem en_nil {H : AH} : aentries none H = some [] := rfl
theorem enO_E {es : List (AV × AV)} : enO (some (.mapo es)) = some es := rfl
theorem mE_nil : mE [] = [] := rfl
theorem mapo_nil : AObj.mapo [] = .mapo (mE []) := rfl
end Go.Proofs.Ytfbfpiibmgofeaa.Abs
