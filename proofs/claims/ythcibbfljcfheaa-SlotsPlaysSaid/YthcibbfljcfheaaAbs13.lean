/- Each operation of the model, but calls, does what the plain machine's does. No condition of their own. -/
import Derived.Test.YthcibbfljcfheaaAbs12s
namespace Go.Proofs.Ythcibbfljcfheaa.Abs
set_option linter.unusedVariables false
set_option linter.unusedSimpArgs false
open Go.RowKit

section
variable {P : Program} {w0 : World} {ρ : Rn} {H : AH} {w : World}

theorem Done.v2 {q : Nat × Nat × Nat} {H' : AH} {w' : World} {s : Sem Value} {c : Value} {v : AV} (hr : s.run P w = .ok c w') (hv : VRel (ρ.add H.n q) v c) (hs : Sim P w0 (ρ.add H.n q) H' w') (hf : Fr ρ H w (ρ.add H.n q) H' w') : Done P w0 ρ H w ((do Pure.pure (Next.value (← s)) : Sem Next).run P w) v H' 2 :=
  ⟨ρ.add H.n q, w', c, Or.inl (run_v hr), hv, hs, hf, Or.inr (Or.inl ⟨rfl, q, rfl⟩)⟩
theorem Done.v {ρ' : Rn} {H' : AH} {w' : World} {s : Sem Value} {c : Value} {v : AV} (hr : s.run P w = .ok c w') (hv : VRel ρ' v c) (hs : Sim P w0 ρ' H' w') (hf : Fr ρ H w ρ' H' w') : Done P w0 ρ H w ((do Pure.pure (Next.value (← s)) : Sem Next).run P w) v H' 3 :=
  ⟨ρ', w', c, Or.inl (run_v hr), hv, hs, hf, Or.inr (Or.inr rfl)⟩
theorem Done.same (hs : Sim P w0 ρ H w) {s : Sem Value} {v : AV} (h : ∃ c, s.run P w = .ok c w ∧ VRel ρ v c) {k : Nat} : Done P w0 ρ H w ((do Pure.pure (Next.value (← s)) : Sem Next).run P w) v H k :=
  let ⟨c, h1, h2⟩ := h
  ⟨ρ, w, c, Or.inl (run_v h1), h2, hs, Fr.refl _ _ _, Or.inl ⟨rfl, rfl⟩⟩
theorem Done.u {H' : AH} {w' : World} {s : Sem Unit} (hr : s.run P w = .ok () w') (hs : Sim P w0 ρ H' w') (hf : Fr ρ H w ρ H' w') : Done P w0 ρ H w ((do s; Pure.pure Next.skip : Sem Next).run P w) undefA H' 3 :=
  ⟨ρ, w', undef, Or.inr ⟨run_u hr, rfl⟩, undef_rel _, hs, hf, Or.inr (Or.inr rfl)⟩

theorem withH_some {H H' : AH} {x : Option AV} {v : AV} (h : withH H x = some (v, H')) : x = some v ∧ H' = H := by
  cases x with
  | none => cases h
  | some y => cases h; exact ⟨rfl, rfl⟩
theorem withU_some {H' : AH} {x : Option AH} {v : AV} (h : withU x = some (v, H')) : x = some H' ∧ v = undefA := by
  cases x with
  | none => cases h
  | some y => cases h; exact ⟨rfl, rfl⟩

theorem cox_rel {t : Nat → AV} {a : Act} (ht : ∀ k, VRel ρ (t k) (a.tmps.getD k undef)) {x : Option Operand} {ax : Option AX} (h : cox x = some ax) : ORelV ρ (optX t ax) (x.map a.eval) := by
  cases x with
  | none => unfold cox at h; cases h; trivial
  | some x =>
    unfold cox at h
    cases h1 : cx x with
    | none => simp only [h1] at h; cases h
    | some a' => simp only [h1] at h; cases h; exact cx_rel ht h1

theorem omap_some {α β : Type} {f : α → β} {x : Option α} {y : β} (h : x.map f = some y) : ∃ z, x = some z ∧ y = f z := by
  cases x with
  | none => cases h
  | some z => cases h; exact ⟨z, rfl, rfl⟩

def AOp.isCall : AOp → Bool
  | .call _ _ => true
  | .callv _ _ => true
  | _ => false

/-- Comparisons and arithmetic. -/
theorem binop_sound (hs : Sim P w0 ρ H w) {t : Nat → AV} {a : Act} (ht : ∀ k, VRel ρ (t k) (a.tmps.getD k undef)) {op : BinOp} {T : TypeId} {x y : Operand} {ax ay : AX} (hx : cx x = some ax) (hy : cx y = some ay) {ao : AOp} (hc : cbin P op T ax ay = some ao) {call : CallF} {v : AV} {H' : AH} (h : aop call t ao H = some (v, H')) {kk : Nat} :
    Done P w0 ρ H w ((do Pure.pure (Next.value (← (do eqGuard op T x y (a.eval x) (a.eval y); binOp op T (a.eval x) (a.eval y) : Sem Value))) : Sem Next).run P w) v H' kk := by
  have rx := cx_rel ht hx
  have ry := cx_rel ht hy
  unfold cbin at hc
  have hbin : ∀ {ao}, ao = AOp.bin op ax ay → aop call t ao H = some (v, H') → Done P w0 ρ H w ((do Pure.pure (Next.value (← (do eqGuard op T x y (a.eval x) (a.eval y); binOp op T (a.eval x) (a.eval y) : Sem Value))) : Sem Next).run P w) v H' kk := by
    intro ao e h
    subst e
    simp only [aop] at h
    obtain ⟨h1, rfl⟩ := withH_some h
    have := bin_sound (P := P) (w := w) h1 rx ry T x y
    exact Done.same hs ⟨_, this.1, this.2⟩
  have hneg : ∀ (neg : Bool) (r : Bool), op = (if neg then .neq else .eql) → (do eqGuard (if neg then .neq else .eql) T x y (a.eval x) (a.eval y); binOp (if neg then .neq else .eql) T (a.eval x) (a.eval y) : Sem Value).run P w = .ok (.bool (r != neg)) w →
      Done P w0 ρ H w ((do Pure.pure (Next.value (← (do eqGuard op T x y (a.eval x) (a.eval y); binOp op T (a.eval x) (a.eval y) : Sem Value))) : Sem Next).run P w) (.b (r != neg)) H kk := by
    intro neg r e hr
    subst e
    exact Done.same hs ⟨_, hr, by unfold VRel; rfl⟩
  split at hc
  · cases hc; exact hbin rfl h
  · cases hc; exact hbin rfl h
  · rename_i hT
    have hb : ∀ neg, op = (if neg then .neq else .eql) → aop call t (.eqb neg ax ay) H = some (v, H') → Done P w0 ρ H w ((do Pure.pure (Next.value (← (do eqGuard op T x y (a.eval x) (a.eval y); binOp op T (a.eval x) (a.eval y) : Sem Value))) : Sem Next).run P w) v H' kk := by
      intro neg e h
      simp only [aop] at h
      split at h
      · rename_i p q e1 e2
        cases h
        rw [e1] at rx
        rw [e2] at ry
        unfold VRel at rx ry
        refine hneg neg (p == q) e ?_
        rw [rx, ry]
        exact eqb_sound hT x y
      · cases h
    split at hc
    · cases hc; exact hb false rfl h
    · cases hc; exact hb true rfl h
    · cases hc
  · have hb : ∀ ks neg, cflat P T = some ks → op = (if neg then .neq else .eql) → aop call t (.eqc ks neg ax ay) H = some (v, H') → Done P w0 ρ H w ((do Pure.pure (Next.value (← (do eqGuard op T x y (a.eval x) (a.eval y); binOp op T (a.eval x) (a.eval y) : Sem Value))) : Sem Next).run P w) v H' kk := by
      intro ks neg hf e h
      simp only [aop] at h
      split at h
      · rename_i p q e1 e2
        split at h
        · rename_i r hr
          cases h
          rw [e1] at rx
          rw [e2] at ry
          exact hneg neg r e (eqc_sound hf hr rx ry x y)
        · cases h
      · cases h
    split at hc
    · rename_i ks hf
      split at hc
      · cases hc; exact hb ks false hf rfl h
      · cases hc; exact hb ks true hf rfl h
      · cases hc
    · cases hc
  · have hb : ∀ ks neg, cflat P T = some ks → op = (if neg then .neq else .eql) → aop call t (.eqc ks neg ax ay) H = some (v, H') → Done P w0 ρ H w ((do Pure.pure (Next.value (← (do eqGuard op T x y (a.eval x) (a.eval y); binOp op T (a.eval x) (a.eval y) : Sem Value))) : Sem Next).run P w) v H' kk := by
      intro ks neg hf e h
      simp only [aop] at h
      split at h
      · rename_i p q e1 e2
        split at h
        · rename_i r hr
          cases h
          rw [e1] at rx
          rw [e2] at ry
          exact hneg neg r e (eqc_sound hf hr rx ry x y)
        · cases h
      · cases h
    split at hc
    · rename_i ks hf
      split at hc
      · cases hc; exact hb ks false hf rfl h
      · cases hc; exact hb ks true hf rfl h
      · cases hc
    · cases hc
  all_goals first
    | (cases hc; done)
    | (rename_i hT
       have hb : ∀ (d : TypeDesc) (tag : Nat) (neg : Bool), P.underlying T = some d → tagOf d = some tag → op = (if neg then .neq else .eql) → aop call t (.eqn tag neg ax ay) H = some (v, H') → Done P w0 ρ H w ((do Pure.pure (Next.value (← (do eqGuard op T x y (a.eval x) (a.eval y); binOp op T (a.eval x) (a.eval y) : Sem Value))) : Sem Next).run P w) v H' kk := by
         intro d tag neg hd htag e h
         simp only [aop] at h
         split at h
         · rename_i r hr
           cases h
           exact hneg neg r e (eqn_sound hd htag hr rx ry x y)
         · cases h
       split at hc
       · cases hc; exact hb _ _ false hT rfl rfl h
       · cases hc; exact hb _ _ true hT rfl rfl h
       · cases hc)

/-- Builtin functions. -/
theorem builtin_sound (hs : Sim P w0 ρ H w) {t : Nat → AV} {b : Builtin} {ts : List TypeId} {xs : List AX} {ao : AOp} (hc : cbuiltin P b ts xs = some ao) {cs : List Value} (hr : VRels ρ (asX t xs) cs) {call : CallF} {v : AV} {H' : AH} (h : aop call t ao H = some (v, H')) (ty : TypeId) (consts : Array Bool) :
    Done P w0 ρ H w ((builtin b ts.toArray ty consts cs.toArray).run P w) v H' ao.kind := by
  unfold cbuiltin at hc
  split at hc
  · -- len
    rename_i T x
    simp only [asX] at hr
    unfold VRels at hr
    obtain ⟨c, cs', rfl, hx, _⟩ := hr
    have hg : ∀ u, (Builtin.len_ [T].toArray ty (c :: cs').toArray).run P w = .ok u w → VRel ρ v u → H' = H → ∀ kk, Done P w0 ρ H w ((builtin .len [T].toArray ty consts (c :: cs').toArray).run P w) v H' kk := by
      intro u h1 h2 e kk
      subst e
      exact Done.same hs ⟨u, h1, h2⟩
    split at hc
    · rename_i hT
      cases hc
      simp only [aop] at h
      split at h
      · rename_i a n lo ex sz e
        cases h
        rw [e] at hx
        obtain ⟨c', cap, rfl, _⟩ := slice_of (s := .nf) hx
        exact hg _ (by simp [Builtin.len_, run_underlying hT]; rfl) (by unfold VRel; rfl) rfl _
      · rename_i e
        cases h
        rw [e] at hx
        unfold VRel at hx
        obtain ⟨a', cap, rfl⟩ := hx
        exact hg _ (by simp [Builtin.len_, run_underlying hT]; rfl) (by unfold VRel; rfl) rfl _
      · cases h
    · rename_i hT
      cases hc
      simp only [aop] at h
      split at h
      · rename_i s e
        cases h
        rw [e] at hx
        unfold VRel at hx
        subst hx
        exact hg _ (by simp [Builtin.len_, run_underlying hT]; rfl) (by unfold VRel; rfl) rfl _
      · cases h
    · rename_i hT
      cases hc
      simp only [aop] at h
      cases h
      exact hg _ (by simp [Builtin.len_, run_underlying hT]; rfl) (by unfold VRel; rfl) rfl _
    · rename_i K E hT
      cases hc
      simp only [aop] at h
      split at h
      · rename_i r e
        split at h
        · rename_i es hes
          cases h
          rw [e] at hx
          exact hg _ (lenm_sound (P := P) (cs := cs') hs hT hx hes) (by unfold VRel; rfl) rfl _
        · cases h
      · cases h
    · cases hc
  · -- delete
    rename_i T U m k
    simp only [asX] at hr
    unfold VRels at hr
    obtain ⟨c1, cs', rfl, h1, hr⟩ := hr
    unfold VRels at hr
    obtain ⟨c2, cs'', rfl, h2, hr⟩ := hr
    unfold VRels at hr
    subst hr
    split at hc
    · rename_i K E hT
      split at hc
      · rename_i d hK
        cases hc
        simp only [aop] at h
        obtain ⟨h4, rfl⟩ := withU_some h
        obtain ⟨w', k1, k2, k3⟩ := dl_sound (P := P) (U := U) (ty := ty) hs hT hK h1 h2 h4
        exact Done.v k1 (undef_rel _) k2 k3
      · rename_i fs hK
        split at hc
        · rename_i ks hcf
          cases hc
          simp only [aop] at h
          obtain ⟨h4, rfl⟩ := withU_some h
          obtain ⟨w', k1, k2, k3⟩ := dlS_sound (P := P) (U := U) (ty := ty) hs hT hK hcf h1 h2 h4
          exact Done.v k1 (undef_rel _) k2 k3
        · cases hc
      · cases hc
    · cases hc
  · -- cap
    rename_i T x
    simp only [asX] at hr
    unfold VRels at hr
    obtain ⟨c, cs', rfl, hx, _⟩ := hr
    split at hc
    · rename_i hT
      cases hc
      simp only [aop] at h
      split at h
      · rename_i a n lo sz e
        cases h
        rw [e] at hx
        obtain ⟨c', cap, rfl, _, _, h3⟩ := slice_of (s := .nf) hx
        have := h3 rfl
        subst this
        exact Done.same hs (s := Builtin.cap_ [T].toArray ty (Value.slice c' n cap :: cs').toArray) ⟨_, by simp [Builtin.cap_, run_underlying hT]; rfl, by unfold VRel; rfl⟩
      · cases h
    · cases hc
  · -- append
    rename_i T U s x
    simp only [asX] at hr
    unfold VRels at hr
    obtain ⟨c1, cs', rfl, h1, hr⟩ := hr
    unfold VRels at hr
    obtain ⟨c2, cs'', rfl, h2, hr⟩ := hr
    unfold VRels at hr
    subst hr
    split at hc
    · rename_i e e' hT hU
      split at hc
      · rename_i z y hz hy
        split at hc
        · rename_i hy0
          cases hc
          simp only [aop] at h
          obtain ⟨ρ', w', u, k1, k2, k3, k4⟩ := app_sound (P := P) (ty := ty) hs hT hU hz hy hy0 h1 h2 h
          exact Done.v k1 k2 k3 k4
        · cases hc
      · cases hc
    · rename_i e ik hT hU
      split at hc
      · rename_i z y hz hy
        split at hc
        · rename_i hy0
          cases hc
          simp only [aop] at h
          obtain ⟨ρ', w', u, k1, k2, k3, k4⟩ := apm_sound (P := P) (ty := ty) hs hT hU hz hy hy0 h1 h2 h
          exact Done.v k1 k2 k3 k4
        · cases hc
      · cases hc
    · cases hc
  · -- copy
    rename_i T U s x
    simp only [asX] at hr
    unfold VRels at hr
    obtain ⟨c1, cs', rfl, h1, hr⟩ := hr
    unfold VRels at hr
    obtain ⟨c2, cs'', rfl, h2, hr⟩ := hr
    unfold VRels at hr
    subst hr
    split at hc
    · rename_i e e' hT hU
      split at hc
      · rename_i n hn
        cases hc
        simp only [aop] at h
        obtain ⟨w', u, k1, k2, k3, k4⟩ := cpy_sound (P := P) (U := U) (ty := ty) hs hT hn h1 h2 h
        exact Done.v k1 k2 k3 k4
      · cases hc
    · cases hc
  · -- clear
    rename_i T x
    simp only [asX] at hr
    unfold VRels at hr
    obtain ⟨c1, cs', rfl, h1, hr⟩ := hr
    unfold VRels at hr
    subst hr
    split at hc
    · rename_i e hT
      split at hc
      · rename_i z hz
        cases hc
        simp only [aop] at h
        obtain ⟨w', u, k1, k2, k3, k4⟩ := clr_sound (P := P) (ty := ty) hs hT hz h1 h
        exact Done.v k1 k2 k3 k4
      · cases hc
    · cases hc
  · -- min
    cases hc
    simp only [aop] at h
    split at h
    · rename_i x r e
      obtain ⟨h1, rfl⟩ := withH_some h
      rw [e] at hr
      unfold VRels at hr
      obtain ⟨c, cs', rfl, hx, hr⟩ := hr
      obtain ⟨u, k1, k2⟩ := mm_sound (P := P) (w := w) h1 hx hr
      exact Done.same hs (s := Builtin.min_ ts.toArray ty (c :: cs').toArray) ⟨u, k1, k2⟩
    · cases h
  · -- max
    cases hc
    simp only [aop] at h
    split at h
    · rename_i x r e
      obtain ⟨h1, rfl⟩ := withH_some h
      rw [e] at hr
      unfold VRels at hr
      obtain ⟨c, cs', rfl, hx, hr⟩ := hr
      obtain ⟨u, k1, k2⟩ := mm_sound (P := P) (w := w) h1 hx hr
      exact Done.same hs (s := Builtin.max_ ts.toArray ty (c :: cs').toArray) ⟨u, k1, k2⟩
    · cases h
  · cases hc

theorem asX_map {t : Nat → AV} {a : Act} {xs : Array Operand} {as : List AX} (h : VRels ρ (asX t as) (xs.toList.map a.eval)) : VRels ρ (asX t as) (xs.map a.eval).toList := by
  rw [Array.toList_map]; exact h

/-- An iterator over a map. -/
theorem rng_sound (hs : Sim P w0 ρ H w) {T K E : TypeId} (hT : P.underlying T = some (.map K E)) {x : AV} {cx : Value} (hx : VRel ρ x cx) {v : AV} {H' : AH} (h : arng x H = some (v, H')) :
    Done P w0 ρ H w ((do Pure.pure (Next.value (← Instr.range T cx)) : Sem Next).run P w) v H' 3 := by
  have hn : ρ H.n = none := hs.fresh _ (Nat.le_refl _)
  unfold arng at h
  split at h
  · cases h
    unfold VRel at hx
    subst hx
    refine Done.v (ρ' := ρ.add H.n (w.heap.size, 0, 0)) (w' := { w with heap := w.heap.push (.mapIter none 0 #[] 0) }) (c := .pointer (some ⟨w.heap.size, 0, none⟩)) ?_ ?_ (hs.new _ rfl _ _ ?_) (Fr.new hs _ _ _)
    · simp [Instr.range, run_underlying hT, newObj, Sem.run, Result.andThen]
    · unfold VRel
      exact ⟨_, _, _, Rn.add_self _ _ _, rfl⟩
    · exact ⟨rfl, 0, #[], 0, by simp⟩
  · rename_i b
    split at h
    case h_2 => cases h
    rename_i es bc ho
    cases h
    unfold VRel at hx
    obtain ⟨B, base, N, hb, rfl⟩ := hx
    obtain ⟨q, hq, hR⟩ := hs.live _ _ ho
    rw [hb] at hq
    cases hq
    obtain ⟨en, cl, g1, _, _, _, _, rfl, _⟩ := hR
    have g1' : w.heap[B]? = some (.map en cl) := g1
    refine Done.v (ρ' := ρ.add H.n (w.heap.size, 0, 0)) (w' := { w with heap := w.heap.push (.mapIter (some B) cl #[] cl) }) (c := .pointer (some ⟨w.heap.size, 0, none⟩)) ?_ ?_ (hs.new _ rfl _ _ ?_) (Fr.new hs _ _ _)
    · simp only [Instr.range, Sem.run_bind, run_underlying hT, Result.andThen_ok, Go.MapKept.run_getObj_map g1', Sem.run_pure]
      simp [newObj, Sem.run, Result.andThen]
    · unfold VRel
      exact ⟨_, _, _, Rn.add_self _ _ _, rfl⟩
    · exact ⟨rfl, B, base, N, #[], cl, Rn.add_ext hn _ _ hb, by simp, by simp, fun n hn => by simp [hn], nofun⟩
  · cases h

/-- The entry at which it stands. -/
theorem ent_sound (hs : Sim P w0 ρ H w) {x : AV} {cx : Value} (hx : VRel ρ x cx) {v : AV} (h : aent x H = some v) : ∃ c, (Instr.entry cx).run P w = .ok c w ∧ VRel ρ v c := by
  unfold aent at h
  split at h
  case h_2 => cases h
  rename_i i
  split at h
  case h_2 => cases h
  rename_i m cl all left cc hi
  split at h
  case h_2 => cases h
  rename_i es bc hm
  split at h
  case isFalse => cases h
  rename_i hcl
  split at h
  case h_2 => cases h
  rename_i j hj
  split at h
  case h_2 => cases h
  rename_i e hes
  cases h
  obtain ⟨x, hx', hx0, B, base, N, seen, last, hB, hit, hlast, _, hcur⟩ := hs.live _ _ hi
  obtain ⟨r, b0, N0⟩ := x
  simp only at hx0 hit
  subst hx0
  unfold VRel at hx
  obtain ⟨r', b', N', hr', rfl⟩ := hx
  rw [hx'] at hr'
  cases hr'
  obtain ⟨y, hy, en, cl', hen, g2, g3, g4, g5, g6, hbc⟩ := hs.live _ _ hm
  rw [hB] at hy
  cases hy
  subst g6
  simp only at hcl hj
  subst hcl
  have hback := hcur cc rfl
  have hne : seen ≠ #[] := fun e => by rw [e] at hback; simp at hback
  have hl := hlast hne
  subst hl
  have hen' : w.heap[B]? = some (.map en last) := hen
  have hgI : (getObj r).run P w = .ok (.mapIter (some B) last seen last) w := by simp [getObj, Sem.run, hit]
  rw [List.findIdx?_eq_some_iff_getElem] at hj
  obtain ⟨hjl, hj1, hj2⟩ := hj
  simp only [List.length_map, Array.length_toList] at hjl
  have hfind : en.find? (·.born == cc) = some en[j] := by
    rw [← Array.find?_toList]
    rw [List.find?_eq_some_iff_getElem]
    refine ⟨by simpa using hj1, j, by simpa using hjl, by simp, fun k hk => ?_⟩
    have := hj2 k hk
    simpa using this
  have hk : (en.toList.map (·.key))[j]? = some en[j].key := by simp [hjl]
  have hv : (en.toList.map (·.val))[j]? = some en[j].val := by simp [hjl]
  obtain ⟨ka, hka, hkr⟩ := g2.back j hk
  obtain ⟨va, hva, hvr⟩ := g3.back j hv
  rw [List.getElem?_map, hes] at hka hva
  cases hka
  cases hva
  refine ⟨.tuple #[en[j].key, en[j].val], ?_, ?_⟩
  · simp only [Instr.entry, Nat.add_zero, Sem.run_bind, hgI, Result.andThen_ok, hback, Go.MapKept.run_getObj_map hen', hfind, bne_self_eq_false, Bool.false_eq_true, if_false, Sem.run_pure]
  · unfold VRel
    exact ⟨_, rfl, VRels.cons hkr (VRels.cons hvr (VRels.nil _))⟩

set_option maxHeartbeats 1000000 in
/-- Every operation but a call of a function. -/
theorem op_sound0 (hs : Sim P w0 ρ H w) {t : Nat → AV} {a : Act} (ht : ∀ k, VRel ρ (t k) (a.tmps.getD k undef)) {o : Oper} {ao : AOp} (hc : cop0 P o.op = some ao) (hnc : ao.isCall = false) {call : CallF} {v : AV} {H' : AH} (h : aop call t ao H = some (v, H')) :
    Done P w0 ρ H w ((execOp a.eval o).run P w) v H' ao.kind := by
  unfold execOp
  cases hop : o.op <;> rw [hop] at hc <;> simp only [cop0] at hc <;> try (cases hc; done)
  case move x =>
    obtain ⟨ax, h1, rfl⟩ := omap_some hc
    simp only [aop] at h
    cases h
    exact Done.pure hs rfl (cx_rel ht h1)
  case assign x =>
    obtain ⟨ax, h1, rfl⟩ := omap_some hc
    simp only [aop] at h
    cases h
    exact Done.pure hs rfl (cx_rel ht h1)
  case pick c x y =>
    split at hc
    · rename_i ac ax ay h1 h2 h3
      cases hc
      simp only [aop] at h
      have rc := cx_rel ht h1
      split at h
      · rename_i z e
        cases h
        rw [e] at rc
        unfold VRel at rc
        refine Done.pure (c := if z then a.eval x else a.eval y) hs ?_ ?_
        · simp only [rc, asBool, Sem.run_bind, Sem.run_pure, Result.andThen_ok]
        · cases z
          · exact cx_rel ht h3
          · exact cx_rel ht h2
      · cases h
    · cases hc
  case alloc T =>
    obtain ⟨z, h1, rfl⟩ := omap_some hc
    simp only [aop] at h
    cases h
    exact alloc_sound hs h1
  case box T x =>
    obtain ⟨ax, h1, rfl⟩ := omap_some hc
    simp only [aop] at h
    split at h
    · cases h
    · rename_i hnt
      cases h
      exact box_sound hs (cx_rel ht h1) hnt
  case build T parts =>
    split at hc
    · rename_i z fs hz hT
      split at hc
      · rename_i hsz
        obtain ⟨r, hp, rfl⟩ := omap_some hc
        simp only [aop] at h
        split at h
        · rename_i cs hf
          cases h
          exact Done.same hs (build_soundS (w := w) ht hT hz hsz hp hf)
        · cases h
      · cases hc
    · rename_i z len e hz hT
      split at hc
      · rename_i n hn
        obtain ⟨r, hp, rfl⟩ := omap_some hc
        simp only [aop] at h
        split at h
        · rename_i cs hf
          cases h
          exact Done.same hs (build_soundA (w := w) ht hT hz hn hp hf)
        · cases h
      · cases hc
    · cases hc
  case buildSlice T len parts =>
    split at hc
    · rename_i e hT
      split at hc
      · rename_i z hz
        split at hc
        · rename_i hl
          obtain ⟨r, hp, rfl⟩ := omap_some hc
          simp only [aop] at h
          split at h
          · rename_i cs hf
            cases h
            obtain ⟨ρ', w', u, k1, k2, k3, k4⟩ := bsl_sound (P := P) hs ht hT hz hl hp hf
            exact Done.v2 k1 k2 k3 k4
          · cases h
        · cases hc
      · cases hc
    · cases hc
  case load T x =>
    split at hc
    · rename_i n ax hn h1
      cases hc
      simp only [aop] at h
      obtain ⟨h2, rfl⟩ := withH_some h
      exact Done.same hs (load_sound (P := P) hs hn (cx_rel ht h1) h2)
    · cases hc
  case store T x y =>
    split at hc
    · rename_i n ax ay hn h1 h2
      cases hc
      simp only [aop] at h
      obtain ⟨h3, rfl⟩ := withU_some h
      obtain ⟨w', k1, k2, k3⟩ := store_sound (P := P) hs hn (cx_rel ht h1) (cx_rel ht h2) h3
      exact Done.u k1 k2 k3
    · cases hc
  case nilCheck x =>
    obtain ⟨ax, h1, rfl⟩ := omap_some hc
    simp only [aop] at h
    have rx := cx_rel ht h1
    split at h
    · rename_i z e
      cases h
      obtain ⟨b, o'⟩ := z
      rw [e] at rx
      have rx' := rx
      unfold VRel at rx'
      obtain ⟨B, base, N, hb, e2⟩ := rx'
      refine Done.pure (c := a.eval x) hs ?_ rx
      simp only [e2]
      rfl
    · rename_i f p q e
      cases h
      rw [e] at rx
      have rx' := rx
      unfold VRel at rx'
      obtain ⟨xs, ys, e2, _⟩ := rx'
      refine Done.pure (c := a.eval x) hs ?_ rx
      simp only [e2]
      rfl
    · cases h
  case binOp op T x y yT =>
    split at hc
    · rename_i ax ay h1 h2
      exact binop_sound hs ht h1 h2 hc h
    · cases hc
  case unOp op T x =>
    obtain ⟨ax, h1, rfl⟩ := omap_some hc
    simp only [aop] at h
    obtain ⟨h2, rfl⟩ := withH_some h
    have := un_sound (P := P) (w := w) h2 (cx_rel ht h1)
    exact Done.same hs ⟨_, this.1, this.2⟩
  case convert src dst x =>
    split at hc
    case h_2 => cases hc
    rename_i ax h1
    have rx := cx_rel ht h1
    unfold cconv at hc
    split at hc
    · rename_i j k hS hD
      cases hc
      simp only [aop] at h
      split at h
      · rename_i k' n e
        cases h
        rw [e] at rx
        unfold VRel at rx
        refine Done.same hs ⟨_, by rw [rx]; exact cvi_sound hS hD, by unfold VRel; rfl⟩
      · cases h
    · rename_i hS hD
      cases hc
      simp only [aop] at h
      split at h
      · rename_i s e
        cases h
        rw [e] at rx
        unfold VRel at rx
        refine Done.same hs ⟨_, by rw [rx]; exact cvg_sound hS hD, by unfold VRel; rfl⟩
      · cases h
    · rename_i e hS hD
      split at hc
      · rename_i hE
        cases hc
        simp only [aop] at h
        obtain ⟨h2, rfl⟩ := withH_some h
        exact Done.same hs (cvs_sound (P := P) hs hS hE hD rx h2)
      · cases hc
    · cases hc
  case makeFunc fn first caps =>
    split at hc
    · rename_i g af ac h1 h2
      cases hc
      simp only [aop] at h
      cases h
      refine Done.same hs ⟨.func (.func g) (first.map a.eval) (caps.map a.eval), rfl, ?_⟩
      unfold VRel
      exact ⟨_, _, rfl, asX_map (cxs_rel ht h1), asX_map (cxs_rel ht h2)⟩
    · cases hc
  case makeSlice T l c =>
    split at hc
    · rename_i e al ac hT h1 h2
      split at hc
      · rename_i z y hz hy
        cases hc
        simp only [aop] at h
        obtain ⟨ρ', w', u, k1, k2, k3, k4⟩ := mks_sound (P := P) hs hT hz hy (cx_rel ht h1) (cx_rel ht h2) h
        exact Done.v2 k1 k2 k3 k4
      · cases hc
    · cases hc
  case slice T x lo hi mx =>
    split at hc
    · rename_i ax alo ahi amx h1 h2 h3 h4
      have r2 := cox_rel ht h2
      have r3 := cox_rel ht h3
      have r4 := cox_rel ht h4
      split at hc
      · rename_i e hT
        split at hc
        · rename_i n hn
          split at hc
          · cases hc
            simp only [aop] at h
            obtain ⟨h5, rfl⟩ := withH_some h
            exact Done.same hs (sls_sound (P := P) hT hn h5 (cx_rel ht h1) r2 r3 r4)
          · cases hc
        · cases hc
      · rename_i hT
        cases hc
        simp only [aop] at h
        obtain ⟨h5, rfl⟩ := withH_some h
        cases mx with
        | none => exact Done.same hs (slg_sound (P := P) hT h5 (cx_rel ht h1) r2 r3)
        | some q => exact r4.elim
      · cases hc
    · cases hc
  case fieldAddr T x f =>
    split at hc
    · rename_i fs ax hT h1
      split at hc
      · rename_i fld hf
        split at hc
        · rename_i n hn
          cases hc
          simp only [aop] at h
          have rx := cx_rel ht h1
          split at h
          · rename_i b o' e
            cases h
            rw [e] at rx
            exact Done.same hs (fa_sound (P := P) (w := w) hT hf hn rx)
          · cases h
        · cases hc
      · cases hc
    · cases hc
  case field T x f =>
    split at hc
    · rename_i fs ax hT h1
      split at hc
      · rename_i fld hf
        split at hc
        · rename_i n hn
          cases hc
          simp only [aop] at h
          have rx := cx_rel ht h1
          split at h
          · rename_i cs e
            obtain ⟨h2, rfl⟩ := withH_some h
            rw [e] at rx
            exact Done.same hs (fd_sound (P := P) (w := w) hT hf hn rx h2)
          · cases h
        · cases hc
      · cases hc
    · cases hc
  case indexAddr T x j =>
    split at hc
    · rename_i e ax aj hT h1 h2
      obtain ⟨n, hn, rfl⟩ := omap_some hc
      simp only [aop] at h
      have rx := cx_rel ht h1
      have rj := cx_rel ht h2
      split at h
      · rename_i b o' len lo ex sz k j' e1 e2
        split at h
        · rename_i hj
          cases h
          rw [e1] at rx
          rw [e2] at rj
          unfold VRel at rj
          refine Done.same hs (s := Instr.indexAt T (a.eval x) (a.eval j)) ?_
          rw [rj]
          exact (ia_sound (P := P) (w := w) hT hn rx hj)
        · cases h
      · cases h
    · rename_i len e ax aj hT h1 h2
      obtain ⟨n, hn, rfl⟩ := omap_some hc
      simp only [aop] at h
      have rx := cx_rel ht h1
      have rj := cx_rel ht h2
      split at h
      · rename_i b o' k j' e1 e2
        split at h
        · rename_i hj
          cases h
          rw [e1] at rx
          rw [e2] at rj
          unfold VRel at rj
          refine Done.same hs (s := Instr.indexAt T (a.eval x) (a.eval j)) ?_
          rw [rj]
          exact (iaa_sound (P := P) (w := w) hT hn rx hj)
        · cases h
      · cases h
    · cases hc
  case index T x j =>
    split at hc
    · rename_i len e ax aj hT h1 h2
      split at hc
      · rename_i n sz hn hsz
        cases hc
        simp only [aop] at h
        have rx := cx_rel ht h1
        have rj := cx_rel ht h2
        split at h
        · rename_i cs k j' e1 e2
          split at h
          · rename_i hj
            obtain ⟨h3, rfl⟩ := withH_some h
            rw [e1] at rx
            rw [e2] at rj
            unfold VRel at rj
            refine Done.same hs (s := Instr.index T (a.eval x) (a.eval j)) ?_
            rw [rj]
            exact (ix_sound (P := P) (w := w) hT hn hsz rx hj h3)
          · cases h
        · cases h
      · cases hc
    · rename_i ax aj hT h1 h2
      cases hc
      simp only [aop] at h
      have rx := cx_rel ht h1
      have rj := cx_rel ht h2
      split at h
      · rename_i s k j' e1 e2
        split at h
        · rename_i hj
          split at h
          · rename_i c hcc
            cases h
            rw [e1] at rx
            rw [e2] at rj
            unfold VRel at rj rx
            refine Done.same hs (s := Instr.index T (a.eval x) (a.eval j)) ?_
            rw [rj, rx]
            exact ⟨_, ixs_sound (P := P) (w := w) hT hj hcc, by unfold VRel; rfl⟩
          · cases h
        · cases h
      · cases h
    · cases hc
  case makeInterface T x =>
    split at hc
    · cases hc
    · rename_i d ax hni hT h1
      cases hc
      simp only [aop] at h
      cases h
      refine Done.same hs ⟨.iface T (a.eval x), ?_, by unfold VRel; exact ⟨_, rfl, cx_rel ht h1⟩⟩
      simp only [Instr.makeInterface, Sem.run_bind, run_underlying hT, Result.andThen_ok]
      rfl
    · cases hc
  case range T x =>
    split at hc
    · rename_i K E ax hT h1
      cases hc
      simp only [aop] at h
      exact rng_sound hs hT (cx_rel ht h1) h
    · cases hc
  case next x str =>
    cases str with
    | true => simp only [cop0] at hc; cases hc
    | false =>
      simp only [cop0] at hc
      obtain ⟨ax, _, rfl⟩ := omap_some hc
      simp only [aop] at h
      cases h
  case entry x =>
    obtain ⟨ax, h1, rfl⟩ := omap_some hc
    simp only [aop] at h
    obtain ⟨h3, rfl⟩ := withH_some h
    obtain ⟨c, k1, k2⟩ := ent_sound (P := P) hs (cx_rel ht h1) h3
    refine Done.same hs ⟨c, ?_, k2⟩
    simp only [Sem.run_bind, k1, Result.andThen_ok, Sem.run_pure]
  case makeMap T r =>
    cases r with
    | some r => simp only at hc; cases hc
    | none =>
      simp only at hc
      cases hc
      simp only [aop] at h
      cases h
      obtain ⟨q, w', u, k1, k2, k3, k4⟩ := mkm_sound (P := P) hs T
      exact Done.v2 k1 k2 k3 k4
  case lookup T x k ok =>
    split at hc
    · rename_i K E ax ak hT h1 h2
      split at hc
      · rename_i d z hK hz
        cases hc
        simp only [aop] at h
        obtain ⟨h3, rfl⟩ := withH_some h
        exact Done.same hs (lk_sound (P := P) hs hT hK hz (cx_rel ht h1) (cx_rel ht h2) h3)
      · rename_i fs z hK hz
        split at hc
        · rename_i ks hcf
          cases hc
          simp only [aop] at h
          obtain ⟨h3, rfl⟩ := withH_some h
          exact Done.same hs (lkS_sound (P := P) hs hT hK hcf hz (cx_rel ht h1) (cx_rel ht h2) h3)
        · cases hc
      · cases hc
    · cases hc
  case mapUpdate T m k x =>
    split at hc
    · rename_i K E am ak ax hT h1 h2 h3
      split at hc
      · rename_i d hK
        cases hc
        simp only [aop] at h
        obtain ⟨h4, rfl⟩ := withU_some h
        obtain ⟨w', k1, k2, k3⟩ := mu_sound (P := P) hs hT hK (cx_rel ht h1) (cx_rel ht h2) (cx_rel ht h3) h4
        exact Done.u k1 k2 k3
      · rename_i fs hK
        split at hc
        · rename_i ks hcf
          cases hc
          simp only [aop] at h
          obtain ⟨h4, rfl⟩ := withU_some h
          obtain ⟨w', k1, k2, k3⟩ := muS_sound (P := P) hs hT hK hcf (cx_rel ht h1) (cx_rel ht h2) (cx_rel ht h3) h4
          exact Done.u k1 k2 k3
        · cases hc
      · cases hc
    · cases hc
  case mapEntry T m k =>
    split at hc
    · rename_i K E am ak hT h1 h2
      split at hc
      · rename_i d z hK hz
        cases hc
        simp only [aop] at h
        obtain ⟨u, w', k1, k2, k3, k4⟩ := me_sound (P := P) hs hT hK hz (cx_rel ht h1) (cx_rel ht h2) h
        exact Done.v k1 k2 k3 k4
      · rename_i fs z hK hz
        split at hc
        · rename_i ks hcf
          cases hc
          simp only [aop] at h
          obtain ⟨u, w', k1, k2, k3, k4⟩ := meS_sound (P := P) hs hT hK hcf hz (cx_rel ht h1) (cx_rel ht h2) h
          exact Done.v k1 k2 k3 k4
        · cases hc
      · cases hc
    · cases hc
  case entryStore T m s x =>
    split at hc
    · rename_i am as ax h1 h2 h3
      cases hc
      simp only [aop] at h
      obtain ⟨h4, rfl⟩ := withU_some h
      obtain ⟨w', k1, k2, k3⟩ := es_sound (P := P) (T := T) hs (cx_rel ht h1) (cx_rel ht h2) (cx_rel ht h3) h4
      exact Done.u k1 k2 k3
    · cases hc
  case extract x j =>
    obtain ⟨ax, h1, rfl⟩ := omap_some hc
    simp only [aop] at h
    have rx := cx_rel ht h1
    split at h
    · rename_i vs e
      obtain ⟨h2, rfl⟩ := withH_some h
      rw [e] at rx
      exact Done.same hs (ext_sound (P := P) (w := w) rx h2)
    · cases h
  case call c =>
    split at hc
    case h_2 => cases hc
    rename_i args hargs
    split at hc
    · rename_i b hb
      have hr := cxs_rel ht hargs
      have := builtin_sound (P := P) hs hc hr h o.type (c.args.map fun | .const _ => true | _ => false)
      rw [Array.toArray_toList] at this
      simp only [resolve, hb, Sem.run_bind, Sem.run_pure, Result.andThen_ok, invoke]
      have e : (List.map a.eval c.args.toList).toArray = c.args.map a.eval := by apply Array.ext'; simp
      rw [e] at this
      exact this
    · cases hc; cases hnc
    · cases hc; cases hnc
    · cases hc

theorem op_sound (hs : Sim P w0 ρ H w) {t : Nat → AV} {a : Act} (ht : ∀ k, VRel ρ (t k) (a.tmps.getD k undef)) {o : Oper} {ao : AOp} (hc : cop P o.op = some ao) (hnc : ao.isCall = false) {call : CallF} {v : AV} {H' : AH} (h : aop call t ao H = some (v, H')) :
    Done P w0 ρ H w ((execOp a.eval o).run P w) v H' ao.kind := by
  unfold cop at hc
  split at hc
  · rename_i a0 h0
    cases hc
    exact op_sound0 hs ht h0 hnc h
  · split at hc
    · cases hc
    · obtain ⟨xs, _, rfl⟩ := omap_some hc
      simp only [aop] at h
      cases h

end
end Go.Proofs.Ythcibbfljcfheaa.Abs
