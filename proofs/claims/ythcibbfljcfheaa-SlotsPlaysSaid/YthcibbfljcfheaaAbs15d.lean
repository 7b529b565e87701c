/- A drawn region, in whatever order: what holds between two operations. No condition of their own. -/
import Derived.Test.YthcibbfljcfheaaAbs15c
namespace Go.Proofs.Ythcibbfljcfheaa.Abs
set_option linter.unusedVariables false
set_option linter.unusedSimpArgs false
open Go.RowKit

def res (ρ : Rn) (n : Nat) : Rn := fun b => if b < n then ρ b else none
theorem res_ext {ρ : Rn} {n m : Nat} (h : n ≤ m) : Ext (res ρ n) (res ρ m) := by
  intro b x hb
  unfold res at hb ⊢
  split at hb
  · rw [if_pos (by omega)]; exact hb
  · cases hb
theorem res_some {ρ : Rn} {n b : Nat} {x : Nat × Nat × Nat} (h : res ρ n b = some x) : b < n ∧ ρ b = some x := by
  unfold res at h
  split at h
  · rename_i hb; exact ⟨hb, h⟩
  · cases h
theorem res_of {ρ : Rn} {n b : Nat} {x : Nat × Nat × Nat} (hb : b < n) (h : ρ b = some x) : res ρ n b = some x := by unfold res; rw [if_pos hb]; exact h

def lst (L : Array Bool) (i : Nat) : Bool := L.getD i false

theorem lst_set {L : Array Bool} {i : Nat} (hi : i < L.size) (j : Nat) : lst (L.setIfInBounds i true) j = true ↔ j = i ∨ lst L j = true := by
  unfold lst
  by_cases h : i = j
  · subst h
    simp [Array.getD, hi]
  · rw [getD_set_ne false h]
    constructor
    · intro h; exact Or.inr h
    · rintro (e | h1)
      · exact absurd e.symm h
      · exact h1

section
variable {P : Program} {w0 : World} {call : CallF} {nt : Nat} {ops : Array Oper}

theorem DCtx.N_mono (C : DCtx P w0 call nt ops) {i : Nat} : ∀ {j : Nat}, i ≤ j → j ≤ ops.size → C.N i ≤ C.N j := by
  intro j hij
  induction hij with
  | refl => intro _; exact Nat.le_refl _
  | step hij ih =>
    rename_i j
    intro hj
    refine Nat.le_trans (ih (by omega)) ?_
    have ht := C.tr j (by omega)
    unfold DCtx.N
    cases hz : C.wz j with
    | false => rw [(ht.skip hz).2]; exact Nat.le_refl _
    | true =>
      by_cases hk : C.K j = 1
      · rw [(ht.read hz hk).1]; exact Nat.le_refl _
      · exact aop_n (fun f a H v H' h => (C.hcall f a H v H' h).1) (ht.act hz hk)

structure DInv (C : DCtx P w0 call nt ops) (ρ0 : Rn) (w1 : World) (a1 : Act) (L : Array Bool) (a : Act) (w : World) (ρ : Rn) (β : Nat) : Prop where
  lsz : L.size = ops.size
  asz : a.tmps.size = nt
  adef : a.defers = a1.defers
  closed : ∀ i, lst L i = true → ∀ j, (C.B i).testBit j = true → lst L j = true
  hb : β = 0 ∨ ∃ c, β = c + 1 ∧ c < ops.size ∧ lst L c = true ∧ C.K c = 3
  hmax : ∀ c, lst L c = true → C.K c = 3 → c < β
  sim : Sim P w0 (res ρ (C.N β)) (C.st β).H w
  objs : ∀ i, β ≤ i → i < ops.size → lst L i = true → C.wz i = true → C.K i = 2 → ∃ x y, (C.st (i + 1)).H = (C.st i).H.new x ∧ x.rw = true ∧ ρ (C.N i) = some y ∧ ORel P (res ρ (C.N (i + 1))) y w x ∧ w0.heap.size ≤ y.1 ∧ w1.heap.size ≤ y.1 ∧
    (∀ b o z, (C.st β).H.o b = some o → res ρ (C.N β) b = some z → z.1 ≠ y.1)
  dist : ∀ i j y z, β ≤ i → β ≤ j → i < ops.size → j < ops.size → lst L i = true → lst L j = true → C.wz i = true → C.wz j = true → C.K i = 2 → C.K j = 2 → ρ (C.N i) = some y → ρ (C.N j) = some z → y.1 = z.1 → i = j
  dom : ∀ b x, ρ b = some x → b < C.N β ∨ ∃ j, β ≤ j ∧ j < ops.size ∧ lst L j = true ∧ C.wz j = true ∧ C.K j = 2 ∧ b = C.N j
  slots : ∀ j d, j < ops.size → lst L j = true → (C.O j).dst = some d → VRel (res ρ (C.N (max (j + 1) β))) (C.val j) (a.tmps.getD d undef)
  slot0 : ∀ d, (∀ j, j < ops.size → lst L j = true → (C.O j).dst ≠ some d) → VRel ρ0 ((C.st 0).t d) (a.tmps.getD d undef)
  ext : ∀ b x, ρ0 b = some x → ρ b = some x ∧ b < C.N 0
  sz : w1.heap.size ≤ w.heap.size
  same : ∀ k, k < w1.heap.size → ¬ Foot ρ0 (C.st 0).H k → w.heap[k]? = w1.heap[k]?
  foot : ∀ k, Foot (res ρ (C.N β)) (C.st β).H k → Foot ρ0 (C.st 0).H k ∨ w1.heap.size ≤ k

variable {C : DCtx P w0 call nt ops} {ρ0 : Rn} {w1 : World} {a1 : Act} {L : Array Bool} {a : Act} {w : World} {ρ : Rn} {β : Nat}

theorem DInv.b_le (I : DInv C ρ0 w1 a1 L a w ρ β) : β ≤ ops.size := by
  rcases I.hb with rfl | ⟨c, rfl, hc, _⟩
  · exact Nat.zero_le _
  · omega

theorem DInv.lst_lt (I : DInv C ρ0 w1 a1 L a w ρ β) {i : Nat} (h : lst L i = true) : i < ops.size := by
  unfold lst at h
  rcases Nat.lt_or_ge i L.size with h1 | h1
  · rw [I.lsz] at h1; exact h1
  · simp [Array.getD, Nat.not_lt.mpr h1] at h

/-- The state at a later place, if all that makes memory up to there was done. -/
theorem DInv.chain (I : DInv C ρ0 w1 a1 L a w ρ β) : ∀ k, β ≤ k → k ≤ ops.size → (∀ i, β ≤ i → i < k → C.K i ≠ 3) → (∀ i, β ≤ i → i < k → C.K i = 2 → lst L i = true) →
    Sim P w0 (res ρ (C.N k)) (C.st k).H w ∧ ∀ b o z, (C.st k).H.o b = some o → res ρ (C.N k) b = some z → ((C.st β).H.o b = some o ∧ res ρ (C.N β) b = some z) ∨ ∃ i, β ≤ i ∧ i < k ∧ lst L i = true ∧ C.wz i = true ∧ C.K i = 2 ∧ b = C.N i ∧ ρ (C.N i) = some z := by
  intro k hk
  induction hk with
  | refl => intro _ _ _; exact ⟨I.sim, fun b o z h1 h2 => Or.inl ⟨h1, h2⟩⟩
  | step hk ih =>
    rename_i k
    intro hks h3 h2
    obtain ⟨hsim, horig⟩ := ih (by omega) (fun i h1 h4 => h3 i h1 (by omega)) (fun i h1 h4 => h2 i h1 (by omega))
    have ht := C.tr k (by omega)
    by_cases hA : C.wz k = true ∧ C.K k = 2
    · obtain ⟨x, y, e1, hrw, hy, hO, hy0, hy1, hno⟩ := I.objs k hk (by omega) (h2 k hk (by omega) hA.2) hA.1 hA.2
      have hN : C.N (k + 1) = C.N k + 1 := by unfold DCtx.N; rw [e1]; rfl
      have hres : res ρ (C.N (k + 1)) = (res ρ (C.N k)).add (C.N k) y := by
        funext b
        unfold res Rn.add
        rw [hN]
        by_cases hb : b = C.N k
        · rw [if_pos (by omega), if_pos hb, hb, hy]
        · rw [if_neg hb]
          by_cases hb2 : b < C.N k
          · rw [if_pos (by omega)]; show _ = if b < C.N k then ρ b else none; rw [if_pos hb2]
          · rw [if_neg (by omega)]; show _ = if b < C.N k then ρ b else none; rw [if_neg hb2]
      have hnk : ∀ b o z, (C.st k).H.o b = some o → res ρ (C.N k) b = some z → z.1 ≠ y.1 := by
        intro b o z h4 h5 h6
        rcases horig b o z h4 h5 with ⟨h7, h8⟩ | ⟨i, g1, g2, g3, g4, g5, g6, g7⟩
        · exact hno b o z h7 h8 h6
        · have := I.dist i k z y g1 hk (by omega) (by omega) g3 (h2 k hk (by omega) hA.2) g4 hA.1 g5 hA.2 g7 hy h6
          omega
      refine ⟨?_, ?_⟩
      · rw [e1, hres]
        exact hsim.bind x hrw y w (Below.refl _ _) hy0 hnk (fun _ _ _ => rfl) (by show ORel P ((res ρ (C.N k)).add (C.N k) y) y w x; rw [← hres]; exact hO)
      · intro b o z h4 h5
        rw [e1] at h4
        simp only [AH.new] at h4
        split at h4
        · rename_i hb
          have hb' : b = C.N k := hb
          right
          refine ⟨k, hk, by omega, h2 k hk (by omega) hA.2, hA.1, hA.2, hb', ?_⟩
          have := (res_some h5).2
          rw [hb'] at this
          exact this
        · rename_i hb
          have hb' : ¬ b = C.N k := hb
          have h6 := res_some h5
          rw [hN] at h6
          rcases horig b o z h4 (res_of (by omega) h6.2) with h7 | ⟨i, g1, g2, g3⟩
          · exact Or.inl h7
          · exact Or.inr ⟨i, g1, by omega, g3⟩
    · have hsame : (C.st (k + 1)).H = (C.st k).H := by
        cases hz : C.wz k with
        | false => exact (ht.skip hz).2
        | true =>
          by_cases hk1 : C.K k = 1
          · exact (ht.read hz hk1).1
          · have hact := ht.act hz hk1
            have hk3 := h3 k hk (by omega)
            have hk2 : C.K k ≠ 2 := fun e => hA ⟨hz, e⟩
            have hk0 : (C.O k).op.kind = 0 := by
              have : ∀ o : AOp, o.kind = 0 ∨ o.kind = 1 ∨ o.kind = 2 ∨ o.kind = 3 := by intro o; cases o <;> simp [AOp.kind]
              rcases this (C.O k).op with h | h | h | h
              · exact h
              · exact absurd h hk1
              · exact absurd h hk2
              · exact absurd h hk3
            exact (kind0 hk0 hact).1
      have hNN : C.N (k + 1) = C.N k := by unfold DCtx.N; rw [hsame]
      rw [hsame, hNN]
      refine ⟨hsim, ?_⟩
      intro b o z h4 h5
      rcases horig b o z h4 h5 with h7 | ⟨i, g1, g2, g3⟩
      · exact Or.inl h7
      · exact Or.inr ⟨i, g1, by omega, g3⟩

/-- The slot's value in the order of the text. -/
theorem DCtx.t_at (C : DCtx P w0 call nt ops) (k : Nat) : ∀ i, i ≤ ops.size → (∃ j, j < i ∧ (C.O j).dst = some k ∧ (C.st i).t k = C.val j) ∨ ((∀ j, j < i → (C.O j).dst ≠ some k) ∧ (C.st i).t k = (C.st 0).t k)
  | 0, _ => Or.inr ⟨fun j hj => by omega, rfl⟩
  | i + 1, h => by
    have ht := C.tr i (by omega)
    by_cases hd : (C.O i).dst = some k
    · left
      refine ⟨i, by omega, hd, ?_⟩
      rw [ht.slot]
      simp only [hd, put, upd, if_true]
    · have he : (C.st (i + 1)).t k = (C.st i).t k := by
        rw [ht.slot]
        cases hq : (C.O i).dst with
        | none => simp only [hq, put]
        | some d =>
          simp only [hq, put, upd]
          rw [if_neg]
          intro e
          rw [hq, e] at hd
          exact hd rfl
      rcases t_at C k i (by omega) with ⟨j, h1, h2, h3⟩ | ⟨h1, h2⟩
      · exact Or.inl ⟨j, by omega, h2, by rw [he]; exact h3⟩
      · right
        refine ⟨fun j hj => ?_, by rw [he]; exact h2⟩
        by_cases e : j = i
        · rw [e]; exact hd
        · exact h1 j (by omega)

/-- What an operation that is ready reads. -/
theorem DInv.slot_read (I : DInv C ρ0 w1 a1 L a w ρ β) {i : Nat} (hi : i < ops.size) (hL : lst L i = false) (hpre : ∀ j, (C.B i).testBit j = true → lst L j = true) {k : Nat} (hk : k ∈ (C.O i).reads) : VRel (res ρ (C.N (max i β))) ((C.st i).t k) (a.tmps.getD k undef) := by
  have hbl := I.b_le
  rcases C.t_at k i (by omega) with ⟨j, hj, hd, he⟩ | ⟨hno, he⟩
  · have hLj : lst L j = true := by
      rcases (C.plan.apart i j hi hj).2 with h | h
      · exact hpre j h
      · unfold AOper.off at h
        rw [hd] at h
        simp at h
        exact absurd hk h.1.2
    rw [he]
    exact VRel.ext (res_ext (C.N_mono (by omega) (by omega))) _ (I.slots j k (by omega) hLj hd)
  · rw [he]
    have h0 := I.slot0 k (by
      intro j hj hLj hd
      have hij : i < j := by
        rcases Nat.lt_trichotomy j i with h | h | h
        · exact absurd hd (hno j h)
        · rw [h, hL] at hLj; cases hLj
        · exact h
      rcases (C.plan.apart j i hj hij).2 with h | h
      · have := I.closed j hLj i h; rw [hL] at this; cases this
      · unfold AOper.off at h
        rw [hd] at h
        simp at h
        exact absurd hk h.2)
    refine VRel.ext ?_ _ h0
    intro b x hb
    have := I.ext b x hb
    exact res_of (Nat.lt_of_lt_of_le this.2 (C.N_mono (Nat.zero_le _) (by omega))) this.1

end
end Go.Proofs.Ythcibbfljcfheaa.Abs
