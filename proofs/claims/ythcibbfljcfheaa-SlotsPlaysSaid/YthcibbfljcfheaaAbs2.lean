/- The plain machine without a bound on its steps: what it comes to, and its equations. No condition of their own. -/
import Derived.Test.YthcibbfljcfheaaAbs1
namespace Go.Proofs.Ythcibbfljcfheaa.Abs
set_option linter.unusedVariables false
set_option linter.unusedSimpArgs false

def CLe (c c' : CallF) : Prop := ∀ f a H x, c f a H = some x → c' f a H = some x

theorem CLe.refl (c : CallF) : CLe c c := fun _ _ _ _ h => h

theorem aop_mono {c c' : CallF} (h : CLe c c') {t : Nat → AV} {o : AOp} {H : AH} {x : AV × AH} (hx : aop c t o H = some x) : aop c' t o H = some x := by
  cases o <;> simp only [aop] at hx ⊢ <;> try exact hx
  case call g args => exact h _ _ _ _ hx
  case callv f args =>
    split at hx
    · exact h _ _ _ _ hx
    · cases hx

theorem aops_mono {c c' : CallF} (h : CLe c c') : ∀ (ops : List AOper) {t : Nat → AV} {H : AH} {x}, aops c ops t H = some x → aops c' ops t H = some x
  | [], _, _, _, hx => hx
  | o :: os, t, H, x, hx => by
    simp only [aops] at hx ⊢
    cases hw : awanted o.g t with
    | none => rw [hw] at hx; cases hx
    | some b =>
      rw [hw] at hx
      cases b with
      | false => exact aops_mono h os hx
      | true =>
        simp only at hx ⊢
        cases ho : aop c t o.op H with
        | none => rw [ho] at hx; cases hx
        | some y => rw [ho] at hx; rw [aop_mono h ho]; exact aops_mono h os hx

theorem asame_mono {f g : AH → Option (AV × AH)} (h : ∀ H x, f H = some x → g H = some x) : ∀ (l : List AH) {v : AV}, asame f l = some v → asame g l = some v
  | [], _, hv => hv
  | [H], v, hv => by
    simp only [asame] at hv ⊢
    cases hf : f H with
    | none => rw [hf] at hv; cases hv
    | some y => rw [hf] at hv; rw [h _ _ hf]; exact hv
  | H :: H' :: Hs, v, hv => by
    simp only [asame] at hv ⊢
    cases hf : f H with
    | none => rw [hf] at hv; cases hv
    | some y =>
      rw [hf] at hv
      rw [h _ _ hf]
      cases hs : asame f (H' :: Hs) with
      | none => rw [hs] at hv; cases hv
      | some u => rw [hs] at hv; rw [asame_mono h (H' :: Hs) hs]; exact hv

theorem astill_mono {c c' : CallF} (h : CLe c c') {H : AH} {lds : List (AOp × (Nat → AV) × AV)} : ∀ (l : List Nat), astill c H lds l = true → astill c' H lds l = true
  | [], hv => hv
  | j :: js, hv => by
    simp only [astill] at hv ⊢
    cases hl : lds[j]? with
    | none => rw [hl] at hv; cases hv
    | some y =>
      obtain ⟨o, t, v⟩ := y
      rw [hl] at hv
      simp only at hv ⊢
      cases ho : aop c t o H with
      | none => rw [ho] at hv; cases hv
      | some z =>
        rw [ho] at hv
        rw [aop_mono h ho]
        simp only at hv ⊢
        split
        · rename_i he; rw [if_pos he] at hv; exact astill_mono h js hv
        · rename_i he; rw [if_neg he] at hv; cases hv

theorem adrw_mono {c c' : CallF} (h : CLe c c') : ∀ (ops : List (AOper × List Nat)) {t : Nat → AV} {H : AH} {sn : List AH} {lds} {x}, adrw c ops t H sn lds = some x → adrw c' ops t H sn lds = some x
  | [], _, _, _, _, _, hx => hx
  | (o, pl) :: os, t, H, sn, lds, x, hx => by
    unfold adrw at hx ⊢
    cases hw : awanted o.g t with
    | none => rw [hw] at hx; cases hx
    | some b =>
      rw [hw] at hx
      cases b with
      | false =>
        simp only at hx ⊢
        split at hx
        · exact adrw_mono h os hx
        · split at hx
          · rename_i hs; rw [if_pos (astill_mono h _ hs)]; exact adrw_mono h os hx
          · cases hx
        · exact adrw_mono h os hx
      | true =>
        simp only at hx ⊢
        split at hx
        · split at hx
          · split at hx
            · rename_i hs; rw [asame_mono (fun H x hx => aop_mono h hx) _ hs]; exact adrw_mono h os hx
            · cases hx
          · cases hx
        · cases ho : aop c t o.op H with
          | none => rw [ho] at hx; cases hx
          | some y =>
            rw [ho] at hx
            rw [aop_mono h ho]
            simp only at hx ⊢
            split at hx
            · rename_i hs; rw [if_pos (astill_mono h _ hs)]; exact adrw_mono h os hx
            · cases hx
        · cases ho : aop c t o.op H with
          | none => rw [ho] at hx; cases hx
          | some y => rw [ho] at hx; rw [aop_mono h ho]; exact adrw_mono h os hx

theorem acall_le {T : Tbl} {n m : Nat} (h : ∀ fn k t H x, arun T n fn k t H = some x → arun T m fn k t H = some x) : CLe (acall T n) (acall T m) := by
  intro f a H x hx
  unfold acall at hx ⊢
  split at hx
  · split at hx
    · rename_i hl; rw [if_pos hl]; exact h _ _ _ _ _ hx
    · cases hx
  · exact hx

theorem arun_succ {T : Tbl} : ∀ (n : Nat) {fn : AFun} {k : List AItem} {t : Nat → AV} {H : AH} {x}, arun T n fn k t H = some x → arun T (n + 1) fn k t H = some x
  | 0, _, _, _, _, _, hx => by simp [arun] at hx
  | n + 1, fn, k, t, H, x, hx => by
    have ih : ∀ fn k t H x, arun T n fn k t H = some x → arun T (n + 1) fn k t H = some x := fun _ _ _ _ _ h => arun_succ n h
    have hc := acall_le (T := T) ih
    unfold arun at hx ⊢
    dsimp only at hx ⊢
    split at hx
    · exact hx
    · exact ih _ _ _ _ _ hx
    · exact ih _ _ _ _ _ hx
    · exact ih _ _ _ _ _ hx
    · exact ih _ _ _ _ _ hx
    · split at hx
      · exact ih _ _ _ _ _ hx
      · cases hx
    · exact ih _ _ _ _ _ hx
    · exact ih _ _ _ _ _ hx
    · split at hx
      · exact ih _ _ _ _ _ hx
      · cases hx
    · exact hx
    · cases hx
    · split at hx
      · rename_i ho
        have := aops_mono hc _ ho
        show (match aops (acall T (n + 1)) _ t H with | some (t', H') => arun T (n + 1) fn _ t' H' | none => none) = some x
        rw [this]
        exact ih _ _ _ _ _ hx
      · cases hx
    · split at hx
      · rename_i ho
        have := adrw_mono hc _ ho
        show (match adrw (acall T (n + 1)) _ t H [H] [] with | some (t', H') => arun T (n + 1) fn _ t' H' | none => none) = some x
        rw [this]
        exact ih _ _ _ _ _ hx
      · cases hx

theorem arun_le {T : Tbl} {n m : Nat} (h : n ≤ m) {fn : AFun} {k : List AItem} {t : Nat → AV} {H : AH} {x} (hx : arun T n fn k t H = some x) : arun T m fn k t H = some x := by
  induction h with
  | refl => exact hx
  | step _ ih => exact arun_succ _ ih

open Classical in
/-- What the machine comes to. -/
noncomputable def runR (T : Tbl) (fn : AFun) (k : List AItem) (t : Nat → AV) (H : AH) : Option (AV × AH) :=
  if h : ∃ x, ∃ n, arun T n fn k t H = some x then some (Classical.choose h) else none

theorem runR_some {T : Tbl} {fn : AFun} {k : List AItem} {t : Nat → AV} {H : AH} {x : AV × AH} : runR T fn k t H = some x ↔ ∃ n, arun T n fn k t H = some x := by
  unfold runR
  constructor
  · intro h
    split at h
    · rename_i hx
      injection h with h
      rw [← h]
      exact Classical.choose_spec hx
    · cases h
  · rintro ⟨n, hn⟩
    have hx : ∃ x, ∃ n, arun T n fn k t H = some x := ⟨x, n, hn⟩
    rw [dif_pos hx]
    obtain ⟨m, hm⟩ := Classical.choose_spec hx
    have h1 := arun_le (Nat.le_max_left n m) hn
    have h2 := arun_le (Nat.le_max_right n m) hm
    rw [h1] at h2
    exact h2.symm

noncomputable def callR (T : Tbl) : CallF := fun f args H => match T.f f with
  | some g => if args.length ≤ g.nt then runR T g [.code g.body] (ainit args) H else none
  | none => T.p f args H

theorem callR_some {T : Tbl} {f : FuncId} {args : List AV} {H : AH} {x : AV × AH} : callR T f args H = some x ↔ ∃ n, acall T n f args H = some x := by
  unfold callR acall
  cases T.f f with
  | none => simp
  | some g =>
    simp only
    split
    · exact runR_some
    · simp

theorem acall_CLe {T : Tbl} (n : Nat) : CLe (acall T n) (callR T) := fun _ _ _ _ h => callR_some.mpr ⟨n, h⟩

theorem acall_mono {T : Tbl} {n m : Nat} (h : n ≤ m) : CLe (acall T n) (acall T m) := acall_le fun _ _ _ _ _ hx => arun_le h hx

theorem aop_fin {T : Tbl} {t : Nat → AV} {o : AOp} {H : AH} {x : AV × AH} (hx : aop (callR T) t o H = some x) : ∃ n, aop (acall T n) t o H = some x := by
  cases o <;> simp only [aop] at hx ⊢ <;> try exact ⟨0, hx⟩
  case call g args => exact callR_some.mp hx
  case callv f args =>
    split at hx
    · exact callR_some.mp hx
    · cases hx

theorem aops_fin {T : Tbl} : ∀ (ops : List AOper) {t : Nat → AV} {H : AH} {x}, aops (callR T) ops t H = some x → ∃ n, aops (acall T n) ops t H = some x
  | [], _, _, _, hx => ⟨0, hx⟩
  | o :: os, t, H, x, hx => by
    simp only [aops] at hx ⊢
    cases hw : awanted o.g t with
    | none => rw [hw] at hx; cases hx
    | some b =>
      rw [hw] at hx
      cases b with
      | false => exact aops_fin os hx
      | true =>
        simp only at hx ⊢
        cases ho : aop (callR T) t o.op H with
        | none => rw [ho] at hx; cases hx
        | some y =>
          rw [ho] at hx
          obtain ⟨n, hn⟩ := aop_fin ho
          obtain ⟨m, hm⟩ := aops_fin os hx
          refine ⟨max n m, ?_⟩
          rw [aop_mono (acall_mono (Nat.le_max_left n m)) hn]
          exact aops_mono (acall_mono (Nat.le_max_right n m)) os hm

theorem asame_fin {T : Tbl} {t : Nat → AV} {o : AOp} : ∀ (l : List AH) {v : AV}, asame (aop (callR T) t o) l = some v → ∃ n, asame (aop (acall T n) t o) l = some v
  | [], _, hv => ⟨0, hv⟩
  | [H], v, hv => by
    simp only [asame] at hv ⊢
    cases hf : aop (callR T) t o H with
    | none => rw [hf] at hv; cases hv
    | some y => rw [hf] at hv; obtain ⟨n, hn⟩ := aop_fin hf; refine ⟨n, ?_⟩; rw [hn]; exact hv
  | H :: H' :: Hs, v, hv => by
    simp only [asame] at hv ⊢
    cases hf : aop (callR T) t o H with
    | none => rw [hf] at hv; cases hv
    | some y =>
      rw [hf] at hv
      obtain ⟨n, hn⟩ := aop_fin hf
      cases hs : asame (aop (callR T) t o) (H' :: Hs) with
      | none => rw [hs] at hv; cases hv
      | some u =>
        rw [hs] at hv
        obtain ⟨m, hm⟩ := asame_fin (H' :: Hs) hs
        refine ⟨max n m, ?_⟩
        rw [aop_mono (acall_mono (Nat.le_max_left n m)) hn, asame_mono (fun H x hx => aop_mono (acall_mono (Nat.le_max_right n m)) hx) _ hm]
        exact hv

theorem astill_fin {T : Tbl} {H : AH} {lds : List (AOp × (Nat → AV) × AV)} : ∀ (l : List Nat), astill (callR T) H lds l = true → ∃ n, astill (acall T n) H lds l = true
  | [], hv => ⟨0, hv⟩
  | j :: js, hv => by
    simp only [astill] at hv ⊢
    cases hl : lds[j]? with
    | none => rw [hl] at hv; cases hv
    | some y =>
      obtain ⟨o, t, v⟩ := y
      rw [hl] at hv
      simp only at hv ⊢
      cases ho : aop (callR T) t o H with
      | none => rw [ho] at hv; cases hv
      | some z =>
        rw [ho] at hv
        obtain ⟨n, hn⟩ := aop_fin ho
        simp only at hv
        split at hv
        · rename_i he
          obtain ⟨m, hm⟩ := astill_fin js hv
          refine ⟨max n m, ?_⟩
          rw [aop_mono (acall_mono (Nat.le_max_left n m)) hn]
          simp only [if_pos he]
          exact astill_mono (acall_mono (Nat.le_max_right n m)) js hm
        · cases hv

theorem adrw_fin {T : Tbl} : ∀ (ops : List (AOper × List Nat)) {t : Nat → AV} {H : AH} {sn : List AH} {lds} {x}, adrw (callR T) ops t H sn lds = some x → ∃ n, adrw (acall T n) ops t H sn lds = some x
  | [], _, _, _, _, _, hx => ⟨0, hx⟩
  | (o, pl) :: os, t, H, sn, lds, x, hx => by
    unfold adrw at hx ⊢
    cases hw : awanted o.g t with
    | none => rw [hw] at hx; cases hx
    | some b =>
      rw [hw] at hx
      cases b with
      | false =>
        simp only at hx ⊢
        split at hx
        · exact adrw_fin os hx
        · split at hx
          · rename_i hs
            obtain ⟨n, hn⟩ := astill_fin _ hs
            obtain ⟨m, hm⟩ := adrw_fin os hx
            refine ⟨max n m, ?_⟩
            rw [if_pos (astill_mono (acall_mono (Nat.le_max_left n m)) _ hn)]
            exact adrw_mono (acall_mono (Nat.le_max_right n m)) os hm
          · cases hx
        · exact adrw_fin os hx
      | true =>
        simp only at hx ⊢
        split at hx
        · split at hx
          · split at hx
            · rename_i hs
              obtain ⟨n, hn⟩ := asame_fin _ hs
              obtain ⟨m, hm⟩ := adrw_fin os hx
              refine ⟨max n m, ?_⟩
              rw [asame_mono (fun H x hx => aop_mono (acall_mono (Nat.le_max_left n m)) hx) _ hn]
              exact adrw_mono (acall_mono (Nat.le_max_right n m)) os hm
            · cases hx
          · cases hx
        · cases ho : aop (callR T) t o.op H with
          | none => rw [ho] at hx; cases hx
          | some y =>
            rw [ho] at hx
            obtain ⟨n, hn⟩ := aop_fin ho
            simp only at hx
            split at hx
            · rename_i hs
              obtain ⟨n2, hn2⟩ := astill_fin _ hs
              obtain ⟨m, hm⟩ := adrw_fin os hx
              refine ⟨max n (max n2 m), ?_⟩
              rw [aop_mono (acall_mono (Nat.le_max_left n _)) hn]
              simp only
              rw [if_pos (astill_mono (acall_mono (Nat.le_trans (Nat.le_max_left n2 m) (Nat.le_max_right n _))) _ hn2)]
              exact adrw_mono (acall_mono (Nat.le_trans (Nat.le_max_right n2 m) (Nat.le_max_right n _))) os hm
            · cases hx
        · cases ho : aop (callR T) t o.op H with
          | none => rw [ho] at hx; cases hx
          | some y =>
            rw [ho] at hx
            obtain ⟨n, hn⟩ := aop_fin ho
            obtain ⟨m, hm⟩ := adrw_fin os hx
            refine ⟨max n m, ?_⟩
            rw [aop_mono (acall_mono (Nat.le_max_left n m)) hn]
            exact adrw_mono (acall_mono (Nat.le_max_right n m)) os hm

section
variable {T : Tbl} {fn : AFun} {k : List AItem} {t : Nat → AV} {H : AH}

theorem runR_of {k' : List AItem} {t' : Nat → AV} {H' : AH} (h : ∀ n, arun T (n + 1) fn k t H = arun T n fn k' t' H') : runR T fn k t H = runR T fn k' t' H' := by
  apply Option.ext
  intro x
  show runR T fn k t H = some x ↔ runR T fn k' t' H' = some x
  rw [runR_some, runR_some]
  constructor
  · rintro ⟨n, hn⟩
    cases n with
    | zero => simp [arun] at hn
    | succ n => exact ⟨n, by rw [← h]; exact hn⟩
  · rintro ⟨n, hn⟩
    exact ⟨n + 1, by rw [h]; exact hn⟩

theorem runR_is {y : Option (AV × AH)} (h : ∀ n, arun T (n + 1) fn k t H = y) : runR T fn k t H = y := by
  apply Option.ext
  intro x
  show runR T fn k t H = some x ↔ y = some x
  rw [runR_some]
  constructor
  · rintro ⟨n, hn⟩
    cases n with
    | zero => simp [arun] at hn
    | succ n => rw [← h n]; exact hn
  · intro hy
    exact ⟨1, by rw [h]; exact hy⟩

theorem runR_nil : runR T fn [] t H = afinish fn t H := runR_is fun n => by simp only [arun]
theorem runR_inBlock {id : Nat} : runR T fn (.inBlock id :: k) t H = runR T fn k t H := runR_of fun n => by simp only [arun]
theorem runR_inLoop {c : ACode} : runR T fn (.inLoop c :: k) t H = runR T fn (.code c :: .inLoop c :: k) t H := runR_of fun n => by simp only [arun]
theorem runR_skip : runR T fn (.code .skip :: k) t H = runR T fn k t H := runR_of fun n => by simp only [arun]
theorem runR_seq {a b : ACode} : runR T fn (.code (.seq a b) :: k) t H = runR T fn (.code a :: .code b :: k) t H := runR_of fun n => by simp only [arun]
theorem runR_block {id : Nat} {a : ACode} : runR T fn (.code (.block id a) :: k) t H = runR T fn (.code a :: .inBlock id :: k) t H := runR_of fun n => by simp only [arun]
theorem runR_loop {a : ACode} : runR T fn (.code (.loop a) :: k) t H = runR T fn (.code a :: .inLoop a :: k) t H := runR_of fun n => by simp only [arun]
theorem runR_ret : runR T fn (.code .ret :: k) t H = afinish fn t H := runR_is fun n => by simp only [arun]
theorem runR_exit {id : Nat} {k' : List AItem} (h : aexit id k = some k') : runR T fn (.code (.exit id) :: k) t H = runR T fn k' t H := runR_of fun n => by simp only [arun, h]
theorem runR_cond {c : AX} {a b : ACode} {z : Bool} (h : c.ev t = .b z) : runR T fn (.code (.cond c a b) :: k) t H = if z = true then runR T fn (.code a :: k) t H else runR T fn (.code b :: k) t H := by
  cases z
  · exact runR_of fun n => by simp only [arun, h]; rfl
  · exact runR_of fun n => by simp only [arun, h]; rfl
theorem runR_reg {ops : List AOper} : runR T fn (.code (.reg ops) :: k) t H = (match aops (callR T) ops t H with
    | some (t', H') => runR T fn k t' H'
    | none => none) := by
  have h1 : ∀ n, arun T (n + 1) fn (.code (.reg ops) :: k) t H = (match aops (acall T n) ops t H with
    | some (t', H') => arun T n fn k t' H'
    | none => none) := fun n => by simp only [arun]; rfl
  apply Option.ext
  intro x
  show runR T fn (.code (.reg ops) :: k) t H = some x ↔ _ = some x
  rw [runR_some]
  constructor
  · rintro ⟨n, hn⟩
    cases n with
    | zero => simp [arun] at hn
    | succ n =>
      rw [h1] at hn
      cases ho : aops (acall T n) ops t H with
      | none => rw [ho] at hn; cases hn
      | some y => rw [ho] at hn; rw [aops_mono (acall_CLe n) ops ho]; exact runR_some.mpr ⟨n, hn⟩
  · intro hy
    cases ho : aops (callR T) ops t H with
    | none => rw [ho] at hy; cases hy
    | some y =>
      rw [ho] at hy
      obtain ⟨n, hn⟩ := aops_fin ops ho
      obtain ⟨m, hm⟩ := runR_some.mp hy
      refine ⟨max n m + 1, ?_⟩
      rw [h1, aops_mono (acall_mono (Nat.le_max_left n m)) ops hn]
      exact arun_le (Nat.le_max_right n m) hm
theorem runR_drw {ops : List (AOper × List Nat)} : runR T fn (.code (.drw ops) :: k) t H = (match adrw (callR T) ops t H [H] [] with
    | some (t', H') => runR T fn k t' H'
    | none => none) := by
  have h1 : ∀ n, arun T (n + 1) fn (.code (.drw ops) :: k) t H = (match adrw (acall T n) ops t H [H] [] with
    | some (t', H') => arun T n fn k t' H'
    | none => none) := fun n => by simp only [arun]; rfl
  apply Option.ext
  intro x
  show runR T fn (.code (.drw ops) :: k) t H = some x ↔ _ = some x
  rw [runR_some]
  constructor
  · rintro ⟨n, hn⟩
    cases n with
    | zero => simp [arun] at hn
    | succ n =>
      rw [h1] at hn
      cases ho : adrw (acall T n) ops t H [H] [] with
      | none => rw [ho] at hn; cases hn
      | some y => rw [ho] at hn; rw [adrw_mono (acall_CLe n) ops ho]; exact runR_some.mpr ⟨n, hn⟩
  · intro hy
    cases ho : adrw (callR T) ops t H [H] [] with
    | none => rw [ho] at hy; cases hy
    | some y =>
      rw [ho] at hy
      obtain ⟨n, hn⟩ := adrw_fin ops ho
      obtain ⟨m, hm⟩ := runR_some.mp hy
      refine ⟨max n m + 1, ?_⟩
      rw [h1, adrw_mono (acall_mono (Nat.le_max_left n m)) ops hn]
      exact arun_le (Nat.le_max_right n m) hm
end

/-- Names are not taken back. -/
def CUp (c : CallF) : Prop := ∀ f a H v H', c f a H = some (v, H') → H.n ≤ H'.n

theorem withH_n {H H' : AH} {x : Option AV} {v : AV} (h : withH H x = some (v, H')) : H.n ≤ H'.n := by
  cases x with
  | none => cases h
  | some y => cases h; exact Nat.le_refl _

theorem aop_n {c : CallF} (hc : CUp c) {t : Nat → AV} {o : AOp} {H : AH} {v : AV} {H' : AH} (h : aop c t o H = some (v, H')) : H.n ≤ H'.n := by
  cases o <;> simp only [aop] at h
  case call g args => exact hc _ _ _ _ _ h
  case callv f args => split at h; exact hc _ _ _ _ _ h; cases h
  case st n a x =>
    unfold astore at h
    repeat' (split at h)
    all_goals first | (cases h; done) | (cases h; exact Nat.le_refl _)
  case mu ks m k x =>
    unfold amapUpdate at h
    repeat' (split at h)
    all_goals first | (cases h; done) | (cases h; exact Nat.le_refl _)
  case dl ks m k =>
    unfold adelete at h
    repeat' (split at h)
    all_goals first | (cases h; done) | (cases h; exact Nat.le_refl _)
  case mke ks z m k =>
    unfold aentry at h
    repeat' (split at h)
    all_goals first | (cases h; done) | (cases h; exact Nat.le_refl _)
  case ens m s x =>
    unfold aentst at h
    repeat' (split at h)
    all_goals first | (cases h; done) | (cases h; exact Nat.le_refl _)
  case app z y s x =>
    unfold aappend at h
    repeat' (split at h)
    all_goals first | (cases h; done) | (cases h; simp [AH.new, AH.set, AH.move])
  case apm z y s x =>
    unfold agrow at h
    repeat' (split at h)
    all_goals first | (cases h; done) | (cases h; simp [AH.new, AH.set, AH.move])
  case cpy n d x =>
    unfold acopy at h
    repeat' (split at h)
    all_goals first | (cases h; done) | (cases h; simp [AH.new, AH.set, AH.move])
  case clr z x =>
    unfold aclear at h
    repeat' (split at h)
    all_goals first | (cases h; done) | (cases h; simp [AH.new, AH.set, AH.move])
  case rng x =>
    unfold arng at h
    repeat' (split at h)
    all_goals first | (cases h; done) | (cases h; simp [AH.new])
  case mks z y l c =>
    unfold amakeSlice at h
    repeat' (split at h)
    all_goals first | (cases h; done) | (cases h; simp [AH.new, AH.set, AH.move])
  all_goals
    repeat' (split at h)
    all_goals first | (cases h; done) | (cases h; simp [AH.new]; done) | exact withH_n h

theorem aops_n {c : CallF} (hc : CUp c) : ∀ (os : List AOper) {t : Nat → AV} {H : AH} {t' : Nat → AV} {H' : AH}, aops c os t H = some (t', H') → H.n ≤ H'.n
  | [], _, _, _, _, h => by unfold aops at h; cases h; exact Nat.le_refl _
  | o :: os, t, H, t', H', h => by
    unfold aops at h
    split at h
    · split at h
      · rename_i h1; exact Nat.le_trans (aop_n hc h1) (aops_n hc os h)
      · cases h
    · exact aops_n hc os h
    · cases h

theorem adrw_n {c : CallF} (hc : CUp c) : ∀ (os : List (AOper × List Nat)) {t : Nat → AV} {H : AH} {sn : List AH} {ld} {t' : Nat → AV} {H' : AH}, adrw c os t H sn ld = some (t', H') → H.n ≤ H'.n
  | [], _, _, _, _, _, _, h => by unfold adrw at h; cases h; exact Nat.le_refl _
  | (o, pl) :: os, t, H, sn, ld, t', H', h => by
    unfold adrw at h
    split at h
    · split at h
      · split at h
        · split at h
          · exact adrw_n hc os h
          · cases h
        · cases h
      · split at h
        · rename_i h1
          split at h
          · exact Nat.le_trans (aop_n hc h1) (adrw_n hc os h)
          · cases h
        · cases h
      · split at h
        · rename_i h1; exact Nat.le_trans (aop_n hc h1) (adrw_n hc os h)
        · cases h
    · split at h
      · exact adrw_n hc os h
      · split at h
        · exact adrw_n hc os h
        · cases h
      · exact adrw_n hc os h
    · cases h

theorem arun_n {T : Tbl} : ∀ (n : Nat) {fn : AFun} {k : List AItem} {t : Nat → AV} {H : AH} {v : AV} {H' : AH}, arun T n fn k t H = some (v, H') → H.n ≤ H'.n
  | 0, _, _, _, _, _, _, h => by simp [arun] at h
  | n + 1, fn, k, t, H, v, H', h => by
    have hc : CUp (acall T n) := by
      intro f a H v H' hx
      unfold acall at hx
      split at hx
      · split at hx
        · exact arun_n n hx
        · cases hx
      · exact T.up _ _ _ _ _ hx
    have hfin : ∀ {v : AV} {H' : AH}, afinish fn t H = some (v, H') → H.n ≤ H'.n := by
      intro v H' h
      unfold afinish at h
      split at h
      · cases h; exact Nat.le_refl _
      · cases h
    unfold arun at h
    dsimp only at h
    split at h
    · exact hfin h
    · exact arun_n n h
    · exact arun_n n h
    · exact arun_n n h
    · exact arun_n n h
    · split at h
      · exact arun_n n h
      · cases h
    · exact arun_n n h
    · exact arun_n n h
    · split at h
      · exact arun_n n h
      · cases h
    · exact hfin h
    · cases h
    · split at h
      · rename_i ho
        exact Nat.le_trans (aops_n hc _ ho) (arun_n n h)
      · cases h
    · split at h
      · rename_i ho
        exact Nat.le_trans (adrw_n hc _ ho) (arun_n n h)
      · cases h

theorem acall_up {T : Tbl} (n : Nat) : CUp (acall T n) := by
  intro f a H v H' hx
  unfold acall at hx
  split at hx
  · split at hx
    · exact arun_n n hx
    · cases hx
  · exact T.up _ _ _ _ _ hx

end Go.Proofs.Ythcibbfljcfheaa.Abs
