/- What was made on the way is forgotten, and one new object named anew: so a function that chooses, and of which the answer is one, is known of by it. No condition of its own. -/
import Derived.Test.YthcibbfljcfheaaAbs21
namespace Go.Proofs.Ythcibbfljcfheaa.Abs
set_option linter.unusedVariables false
set_option linter.unusedSimpArgs false
open Go.RowKit

mutual
theorem VRel.down {ρ ρ2 : Rn} (h : Ext ρ ρ2) : ∀ (a : AV) {v0 v : Value}, VRel ρ a v0 → VRel ρ2 a v → VRel ρ a v
  | .b _, _, _, _, hv => by unfold VRel at hv ⊢; exact hv
  | .i _ _, _, _, _, hv => by unfold VRel at hv ⊢; exact hv
  | .s _, _, _, _, hv => by unfold VRel at hv ⊢; exact hv
  | .p none, _, _, _, hv => by unfold VRel at hv ⊢; exact hv
  | .p (some (b, o)), _, _, h0, hv => by
    unfold VRel at hv h0 ⊢
    obtain ⟨B, base, N, h1, h2⟩ := h0
    obtain ⟨B', base', N', h1', h2'⟩ := hv
    rw [h _ _ h1] at h1'
    cases h1'
    exact ⟨B, base, N, h1, h2'⟩
  | .sl none _ _ _ _, _, _, _, hv => by unfold VRel at hv ⊢; exact hv
  | .sl (some (b, o)) _ _ _ _, _, _, h0, hv => by
    unfold VRel at hv h0 ⊢
    obtain ⟨B, base, N, off, c, h1, h2⟩ := h0
    obtain ⟨B', base', N', off', c', h1', h2'⟩ := hv
    rw [h _ _ h1] at h1'
    cases h1'
    exact ⟨B, base, N, off', c', h1, h2'⟩
  | .fn f first caps, _, _, h0, hv => by
    cases f <;> unfold VRel at hv h0 ⊢
    case yield l =>
      obtain ⟨B, base, N, h1, _⟩ := h0
      obtain ⟨B', base', N', h1', h2'⟩ := hv
      rw [h _ _ h1] at h1'
      cases h1'
      exact ⟨B, base, N, h1, h2'⟩
    all_goals
      obtain ⟨xs, ys, h1, h2, h3⟩ := hv
      obtain ⟨xs0, ys0, k1, k2, k3⟩ := h0
      exact ⟨xs, ys, h1, VRels.down h first k2 h2, VRels.down h caps k3 h3⟩
  | .nf, _, _, _, hv => by unfold VRel at hv ⊢; exact hv
  | .ni, _, _, _, hv => by unfold VRel at hv ⊢; exact hv
  | .ifc t x, _, _, h0, hv => by
    unfold VRel at hv h0 ⊢
    obtain ⟨y0, _, k2⟩ := h0
    obtain ⟨y, h1, h2⟩ := hv
    exact ⟨y, h1, VRel.down h x k2 h2⟩
  | .agg cs, _, _, h0, hv => by
    unfold VRel at hv h0 ⊢
    obtain ⟨_, _, k2, _⟩ := h0
    obtain ⟨xs, h1, h2, h3⟩ := hv
    exact ⟨xs, h1, VRels.down h cs k2 h2, h3⟩
  | .tup vs, _, _, h0, hv => by
    unfold VRel at hv h0 ⊢
    obtain ⟨_, _, k2⟩ := h0
    obtain ⟨xs, h1, h2⟩ := hv
    exact ⟨xs, h1, VRels.down h vs k2 h2⟩
  | .mp none, _, _, _, hv => by unfold VRel at hv ⊢; exact hv
  | .mp (some b), _, _, h0, hv => by
    unfold VRel at hv h0 ⊢
    obtain ⟨B, base, N, h1, h2⟩ := h0
    obtain ⟨B', base', N', h1', h2'⟩ := hv
    rw [h _ _ h1] at h1'
    cases h1'
    exact ⟨B, base, N, h1, h2'⟩
  | .un, _, _, _, hv => by unfold VRel at hv ⊢; exact hv
  | .em, _, _, _, hv => by unfold VRel at hv ⊢; exact hv
theorem VRels.down {ρ ρ2 : Rn} (h : Ext ρ ρ2) : ∀ (as : List AV) {vs0 vs : List Value}, VRels ρ as vs0 → VRels ρ2 as vs → VRels ρ as vs
  | [], _, _, _, hv => by unfold VRels at hv ⊢; exact hv
  | a :: as, _, _, h0, hv => by
    unfold VRels at hv h0 ⊢
    obtain ⟨_, _, _, k2, k3⟩ := h0
    obtain ⟨v, vs', h1, h2, h3⟩ := hv
    exact ⟨v, vs', h1, VRel.down h a k2 h2, VRels.down h as k3 h3⟩
end

theorem ORel.down {P : Program} {ρ ρ2 : Rn} (h : Ext ρ ρ2) {x : Nat × Nat × Nat} {w w2 : World} : ∀ {o : AObj}, ORel P ρ x w o → ORel P ρ2 x w2 o → ORel P ρ x w2 o
  | .row ro cs, ⟨_, _, _, _, _, k3, _⟩, ⟨c, e, f, h1, h2, h3, h4⟩ => ⟨c, e, f, h1, h2, VRels.down h _ k3 h3, h4⟩
  | .mapo es bc, ⟨_, _, _, k2, k3, _⟩, ⟨en, cl, h1, h2, h3, h4⟩ => ⟨en, cl, h1, VRels.down h _ k2 h2, VRels.down h _ k3 h3, h4⟩
  | .lp _ _ _ _ _ _, ⟨_, _, _, _, k4, _⟩, ⟨L, h1, h2, h3, h4, h5⟩ => ⟨L, h1, h2, h3, fun k => VRel.down h _ (k4 k) (h4 k), h5⟩
  | .it none _ _ _ _, _, h1 => h1
  | .it (some m) _ _ _ _, ⟨_, B0, base0, N0, _, _, k1, _⟩, ⟨h0, B, base, N, seen, last, h1, h2⟩ => by
    rw [h _ _ k1] at h1
    cases h1
    exact ⟨h0, B0, base0, N0, seen, last, k1, h2⟩

section
variable {P : Program} {w0 : World} {ρ ρ2 : Rn} {H H0 H2 : AH} {w w2 : World}

/-- All that was made on the way is forgotten. -/
theorem norm_same (hs : Sim P w0 ρ H w) (hs2 : Sim P w0 ρ2 H2 w2) (f : Fr ρ H w ρ2 H2 w2) (hn : H0.n = H.n) (hsub : ∀ b o, H0.o b = some o → H.o b = some o ∧ H2.o b = some o) : Sim P w0 ρ H0 w2 ∧ Fr ρ H w ρ H0 w2 := by
  have hx : ∀ b o z, H0.o b = some o → ρ b = some z → ρ2 b = some z := fun b o z _ h => f.ext _ _ h
  refine ⟨⟨hs2.below, ?_, ?_, ?_, ?_, ?_⟩, ⟨Ext.refl _, f.size, ?_, f.same⟩⟩
  · intro b o h
    obtain ⟨h1, h2⟩ := hsub b o h
    obtain ⟨z, k1, k2⟩ := hs.live _ _ h1
    obtain ⟨z2, m1, m2⟩ := hs2.live _ _ h2
    rw [f.ext _ _ k1] at m1
    cases m1
    exact ⟨z, k1, ORel.down f.ext k2 m2⟩
  · intro b hb
    exact hs.fresh b (by omega)
  · intro b o b' o' x x' h1 h2 h3 h4 h5 h6
    exact hs2.inj _ _ _ _ _ _ (hsub _ _ h1).2 h2 (hsub _ _ h3).2 (f.ext _ _ h4) (f.ext _ _ h5) h6
  · intro b o x h1 h2 h3
    exact hs2.own _ _ _ (hsub _ _ h1).2 h2 (f.ext _ _ h3)
  · intro b o x h1 h2 h3
    exact hs2.ro _ _ _ (hsub _ _ h1).2 h2 (f.ext _ _ h3)
  · rintro k ⟨b, o, x, h1, h2, h3, h4⟩
    exact f.foot k ⟨b, o, x, (hsub _ _ h1).2, h2, f.ext _ _ h3, h4⟩

/-- .. but one object, which has the next name. -/
theorem norm_new (hs : Sim P w0 ρ H w) (hs2 : Sim P w0 ρ2 H2 w2) (f : Fr ρ H w ρ2 H2 w2) (hn : H0.n = H.n) (hsub : ∀ b o, H0.o b = some o → H.o b = some o ∧ H2.o b = some o) {m : Nat} (hm : H.n ≤ m) {cs : List AV} (hx : H2.o m = some (.row false cs)) (hc : ∃ vs, VRels ρ cs vs) :
    ∃ y, ρ2 m = some y ∧ Sim P w0 (ρ.add H.n y) (H0.new (.row false cs)) w2 ∧ Fr ρ H w (ρ.add H.n y) (H0.new (.row false cs)) w2 := by
  obtain ⟨vs0, hvs0⟩ := hc
  obtain ⟨y, hy, hyr⟩ := hs2.live _ _ hx
  have hne : ρ H.n = none := hs.fresh _ (Nat.le_refl _)
  have hext := Rn.add_ext (x := y) hne
  have hlt : ∀ b o, H0.o b = some o → b < H.n := by
    intro b o h
    obtain ⟨z, k1, _⟩ := hs.live _ _ (hsub b o h).1
    rcases Nat.lt_or_ge b H.n with h | h
    · exact h
    · rw [hs.fresh b h] at k1; cases k1
  -- a name of the new heap, in the one that was
  have hto : ∀ b o z, (H0.new (.row false cs)).o b = some o → ρ.add H.n y b = some z → ∃ b2, H2.o b2 = some o ∧ ρ2 b2 = some z ∧ ((b = H.n ∧ b2 = m) ∨ (b ≠ H.n ∧ b2 = b ∧ b < H.n)) := by
    intro b o z h1 h2
    simp only [AH.new, hn] at h1
    unfold Rn.add at h2
    split at h1
    · rename_i e
      rw [if_pos e] at h2
      cases h1
      cases h2
      exact ⟨m, hx, hy, Or.inl ⟨e, rfl⟩⟩
    · rename_i e
      rw [if_neg e] at h2
      exact ⟨b, (hsub _ _ h1).2, f.ext _ _ h2, Or.inr ⟨e, rfl, hlt _ _ h1⟩⟩
  refine ⟨y, hy, ⟨hs2.below, ?_, ?_, ?_, ?_, ?_⟩, ⟨hext, f.size, ?_, f.same⟩⟩
  · intro b o h
    simp only [AH.new, hn] at h
    split at h
    · rename_i e
      subst e
      cases h
      refine ⟨y, Rn.add_self _ _ _, ?_⟩
      obtain ⟨c, e, fz, k1, k2, k3, k4⟩ := hyr
      exact ⟨c, e, fz, k1, k2, VRels.ext hext _ (VRels.down f.ext _ hvs0 k3), k4⟩
    · rename_i e
      obtain ⟨h1, h2⟩ := hsub b o h
      obtain ⟨z, k1, k2⟩ := hs.live _ _ h1
      obtain ⟨z2, m1, m2⟩ := hs2.live _ _ h2
      rw [f.ext _ _ k1] at m1
      cases m1
      exact ⟨z, hext _ _ k1, (ORel.down f.ext k2 m2).ext hext⟩
  · intro b hb
    simp only [AH.new, hn] at hb
    unfold Rn.add
    rw [if_neg (by omega)]
    exact hs.fresh b (by omega)
  · intro b o b' o' x x' h1 h2 h3 h4 h5 h6
    obtain ⟨c1, k1, k2, k3⟩ := hto _ _ _ h1 h4
    obtain ⟨c2, m1, m2, m3⟩ := hto _ _ _ h3 h5
    have := hs2.inj _ _ _ _ _ _ k1 h2 m1 k2 m2 h6
    rcases k3 with ⟨rfl, rfl⟩ | ⟨_, rfl, k4⟩ <;> rcases m3 with ⟨rfl, rfl⟩ | ⟨_, rfl, m4⟩
    · rfl
    · omega
    · omega
    · exact this
  · intro b o x h1 h2 h3
    obtain ⟨c1, k1, k2, _⟩ := hto _ _ _ h1 h3
    exact hs2.own _ _ _ k1 h2 k2
  · intro b o x h1 h2 h3
    obtain ⟨c1, k1, k2, _⟩ := hto _ _ _ h1 h3
    exact hs2.ro _ _ _ k1 h2 k2
  · rintro k ⟨b, o, x, h1, h2, h3, h4⟩
    obtain ⟨c1, k1, k2, _⟩ := hto _ _ _ h1 h3
    exact f.foot k ⟨c1, o, x, k1, h2, k2, h4⟩

/-- What a choice came to, told as (v, H'). -/
def Nz (P : Program) (H : AH) (v2 : AV) (H2 : AH) (v : AV) (H' : AH) : Prop :=
  ∀ (w0 : World) (ρ ρ2 : Rn) (w w2 : World) (c : Value), Sim P w0 ρ H w → VRel ρ2 v2 c → Sim P w0 ρ2 H2 w2 → Fr ρ H w ρ2 H2 w2 → ∃ ρ', VRel ρ' v c ∧ Sim P w0 ρ' H' w2 ∧ Fr ρ H w ρ' H' w2

/-- A call that may choose, and comes to one thing. -/
theorem calls_of_ev (hm : P.follows .mixedOrders = true) {T : Tbl} {E : FuncId → Option AFun} (hcall : CallOk P w0 (callR T)) (hE : ∀ f a, E f = some a → cfun P f = some a) {f : FuncId} {args : List AV} {v : AV} {H' : AH} {R : Out → Prop} (h : Ev T E (.c f args H) R) (hR : ∀ v2 H2, R (.v v2 H2) → Nz P H v2 H2 v H') {cargs : Array Value} (hs : Sim P w0 ρ H w) (hargs : VRels ρ args cargs.toList) : CallsTo P w0 f cargs ρ H w v H' := by
  obtain ⟨h1, h2⟩ := ev_sound hm hcall hE h ρ w cargs hs hargs
  refine Or.inl ⟨h1, h2.mono ?_⟩
  rintro e w' ⟨ρ2, c, v2, H2, rfl, k1, k2, k3, k4⟩
  obtain ⟨ρ', m1, m2, m3⟩ := hR _ _ k4 w0 ρ ρ2 w w' c hs k1 k2 k3
  exact ⟨ρ', c, rfl, m1, m2, m3⟩
end
end Go.Proofs.Ythcibbfljcfheaa.Abs
