/- Operations by what they do to memory; what they look at. No condition of their own. -/
import Derived.Test.YthcibbfljcfheaaAbs14
namespace Go.Proofs.Ythcibbfljcfheaa.Abs
set_option linter.unusedVariables false
set_option linter.unusedSimpArgs false

theorem withH_ap {H H' : AH} {x : Option AV} {v : AV} (h : withH H x = some (v, H')) : H' = H ∧ ∀ H2, withH H2 x = some (v, H2) := by
  cases x with
  | none => cases h
  | some y => cases h; exact ⟨rfl, fun _ => rfl⟩

theorem kind0 {c : CallF} {t : Nat → AV} {o : AOp} (hk : o.kind = 0) {H : AH} {v : AV} {H' : AH} (h : aop c t o H = some (v, H')) : H' = H ∧ ∀ H2, aop c t o H2 = some (v, H2) := by
  cases o <;> simp only [AOp.kind] at hk <;> (try cases hk) <;> simp only [aop] at h ⊢
  all_goals
    repeat' (split at h)
    all_goals first
      | (cases h; done)
      | exact withH_ap h
      | (cases h; exact ⟨rfl, fun _ => rfl⟩)
      | (cases h; refine ⟨rfl, fun _ => ?_⟩; simp_all)
      | (obtain ⟨h1, h2⟩ := withH_ap h; refine ⟨h1, fun H2 => ?_⟩; simp_all)

theorem afirst_n {n m : Nat} {x : AV} {H : AH} : afirst n x ⟨m, H.o⟩ = afirst n x H := by
  unfold afirst; rfl

theorem kind1 {c : CallF} {t : Nat → AV} {o : AOp} (hk : o.kind = 1) {H : AH} {v : AV} {H' : AH} (h : aop c t o H = some (v, H')) : H' = H ∧ ∀ n, aop c t o ⟨n, H.o⟩ = some (v, ⟨n, H.o⟩) := by
  cases o <;> simp only [AOp.kind] at hk <;> (try cases hk) <;> simp only [aop] at h ⊢
  case ld n a =>
    obtain ⟨h1, h2⟩ := withH_ap h
    exact ⟨h1, fun n => h2 ⟨n, H.o⟩⟩
  case lk ks z x k ok =>
    obtain ⟨h1, h2⟩ := withH_ap h
    exact ⟨h1, fun n => h2 ⟨n, H.o⟩⟩
  case cvs x =>
    obtain ⟨h1, h2⟩ := withH_ap h
    exact ⟨h1, fun n => h2 ⟨n, H.o⟩⟩
  case lenm x =>
    split at h
    · rename_i r e
      split at h
      · rename_i es he
        cases h
        refine ⟨rfl, fun n => ?_⟩
        have he' : aentries r ⟨n, H.o⟩ = some es := he
        simp only [he']
      · cases h
    · cases h

theorem kind2 {c : CallF} {t : Nat → AV} {o : AOp} (hk : o.kind = 2) {H : AH} {v : AV} {H' : AH} (h : aop c t o H = some (v, H')) : ∃ x, H' = H.new x ∧ x.rw = true ∧ ∀ o2, aop c t o ⟨H.n, o2⟩ = some (v, (⟨H.n, o2⟩ : AH).new x) := by
  cases o <;> simp only [AOp.kind] at hk <;> (try cases hk) <;> simp only [aop] at h ⊢
  case alloc z => cases h; exact ⟨_, rfl, rfl, fun _ => rfl⟩
  case mkm => cases h; exact ⟨_, rfl, rfl, fun _ => rfl⟩
  case box x =>
    split at h
    · cases h
    · rename_i hn
      cases h
      exact ⟨_, rfl, rfl, fun _ => rfl⟩
  case bsl z l p =>
    split at h
    · rename_i cs hcs
      cases h
      exact ⟨_, rfl, rfl, fun _ => rfl⟩
    · cases h
  case mks z y l c =>
    unfold amakeSlice at h
    repeat' (split at h)
    all_goals first
      | (cases h; done)
      | (cases h; refine ⟨_, rfl, rfl, fun _ => ?_⟩; unfold amakeSlice; simp_all)

theorem ev_congr {x : AX} {t t2 : Nat → AV} (h : ∀ k ∈ x.slots, t k = t2 k) : x.ev t = x.ev t2 := by
  cases x with
  | t k => exact h k (by simp [AX.slots])
  | c v => rfl
theorem opt_congr {x : Option AX} {t t2 : Nat → AV} (h : ∀ k ∈ oslots x, t k = t2 k) : optX t x = optX t2 x := by
  cases x with
  | none => rfl
  | some x => simp only [optX]; rw [ev_congr h]
theorem asX_congr {t t2 : Nat → AV} : ∀ {xs : List AX}, (∀ k ∈ xslots xs, t k = t2 k) → asX t xs = asX t2 xs
  | [], _ => rfl
  | x :: xs, h => by
    simp only [xslots, List.mem_append] at h
    simp only [asX]
    rw [ev_congr (fun k hk => h k (Or.inl hk)), asX_congr (fun k hk => h k (Or.inr hk))]
theorem fill_congr {t t2 : Nat → AV} : ∀ {ps : List (Nat × Nat × AX)} {cs : List AV}, (∀ k ∈ pslots ps, t k = t2 k) → afill t cs ps = afill t2 cs ps
  | [], _, _ => rfl
  | (a, b, x) :: ps, cs, h => by
    simp only [pslots, List.mem_append] at h
    simp only [afill]
    rw [ev_congr (fun k hk => h k (Or.inl hk))]
    split
    · rfl
    · split
      · exact fill_congr (fun k hk => h k (Or.inr hk))
      · rfl

theorem aop_congr {c : CallF} {t t2 : Nat → AV} {o : AOp} {H : AH} (h : ∀ k ∈ o.slots, t k = t2 k) : aop c t o H = aop c t2 o H := by
  cases o <;> simp only [AOp.slots, List.mem_append] at h <;> simp only [aop]
  case val x => rw [ev_congr h]
  case pick a b d => rw [ev_congr (x := a) (fun k hk => h k (Or.inl (Or.inl hk))), ev_congr (x := b) (fun k hk => h k (Or.inl (Or.inr hk))), ev_congr (x := d) (fun k hk => h k (Or.inr hk))]
  case box x => rw [ev_congr h]
  case build z ps => rw [fill_congr h]
  case bsl z l ps => rw [fill_congr h]
  case ld n x => rw [ev_congr h]
  case st n a x => rw [ev_congr (x := a) (fun k hk => h k (Or.inl hk)), ev_congr (x := x) (fun k hk => h k (Or.inr hk))]
  case nilc x => rw [ev_congr h]
  case bin op a x => rw [ev_congr (x := a) (fun k hk => h k (Or.inl hk)), ev_congr (x := x) (fun k hk => h k (Or.inr hk))]
  case eqc ks n a x => rw [ev_congr (x := a) (fun k hk => h k (Or.inl hk)), ev_congr (x := x) (fun k hk => h k (Or.inr hk))]
  case eqb n a x => rw [ev_congr (x := a) (fun k hk => h k (Or.inl hk)), ev_congr (x := x) (fun k hk => h k (Or.inr hk))]
  case eqn tg n a x => rw [ev_congr (x := a) (fun k hk => h k (Or.inl hk)), ev_congr (x := x) (fun k hk => h k (Or.inr hk))]
  case un op x => rw [ev_congr h]
  case cvi k x => rw [ev_congr h]
  case cvs x => rw [ev_congr h]
  case cvg x => rw [ev_congr h]
  case mkf f a b => rw [asX_congr (xs := a) (fun k hk => h k (Or.inl hk)), asX_congr (xs := b) (fun k hk => h k (Or.inr hk))]
  case mks z y a x => rw [ev_congr (x := a) (fun k hk => h k (Or.inl hk)), ev_congr (x := x) (fun k hk => h k (Or.inr hk))]
  case sls n x lo hi mx => rw [ev_congr (x := x) (fun k hk => h k (Or.inl (Or.inl (Or.inl hk)))), opt_congr (x := lo) (fun k hk => h k (Or.inl (Or.inl (Or.inr hk)))), opt_congr (x := hi) (fun k hk => h k (Or.inl (Or.inr hk))), opt_congr (x := mx) (fun k hk => h k (Or.inr hk))]
  case slg x lo hi => rw [ev_congr (x := x) (fun k hk => h k (Or.inl (Or.inl hk))), opt_congr (x := lo) (fun k hk => h k (Or.inl (Or.inr hk))), opt_congr (x := hi) (fun k hk => h k (Or.inr hk))]
  case fa o x => rw [ev_congr h]
  case fd n o x => rw [ev_congr h]
  case ia n a x => rw [ev_congr (x := a) (fun k hk => h k (Or.inl hk)), ev_congr (x := x) (fun k hk => h k (Or.inr hk))]
  case iaa l n a x => rw [ev_congr (x := a) (fun k hk => h k (Or.inl hk)), ev_congr (x := x) (fun k hk => h k (Or.inr hk))]
  case ix n l s a x => rw [ev_congr (x := a) (fun k hk => h k (Or.inl hk)), ev_congr (x := x) (fun k hk => h k (Or.inr hk))]
  case ixs a x => rw [ev_congr (x := a) (fun k hk => h k (Or.inl hk)), ev_congr (x := x) (fun k hk => h k (Or.inr hk))]
  case lk ks z a x ok => rw [ev_congr (x := a) (fun k hk => h k (Or.inl hk)), ev_congr (x := x) (fun k hk => h k (Or.inr hk))]
  case mu ks a b d => rw [ev_congr (x := a) (fun k hk => h k (Or.inl (Or.inl hk))), ev_congr (x := b) (fun k hk => h k (Or.inl (Or.inr hk))), ev_congr (x := d) (fun k hk => h k (Or.inr hk))]
  case dl ks a x => rw [ev_congr (x := a) (fun k hk => h k (Or.inl hk)), ev_congr (x := x) (fun k hk => h k (Or.inr hk))]
  case mke ks z a x => rw [ev_congr (x := a) (fun k hk => h k (Or.inl hk)), ev_congr (x := x) (fun k hk => h k (Or.inr hk))]
  case ens a b d => rw [ev_congr (x := a) (fun k hk => h k (Or.inl (Or.inl hk))), ev_congr (x := b) (fun k hk => h k (Or.inl (Or.inr hk))), ev_congr (x := d) (fun k hk => h k (Or.inr hk))]
  case mki T x => rw [ev_congr h]
  case rng x => rw [ev_congr h]
  case ent x => rw [ev_congr h]
  case ext x j => rw [ev_congr h]
  case len x => rw [ev_congr h]
  case lens x => rw [ev_congr h]
  case lenm x => rw [ev_congr h]
  case cap x => rw [ev_congr h]
  case app z y a x => rw [ev_congr (x := a) (fun k hk => h k (Or.inl hk)), ev_congr (x := x) (fun k hk => h k (Or.inr hk))]
  case apm z y a x => rw [ev_congr (x := a) (fun k hk => h k (Or.inl hk)), ev_congr (x := x) (fun k hk => h k (Or.inr hk))]
  case cpy n a x => rw [ev_congr (x := a) (fun k hk => h k (Or.inl hk)), ev_congr (x := x) (fun k hk => h k (Or.inr hk))]
  case clr z x => rw [ev_congr h]
  case mm b xs => rw [asX_congr h]
  case call g xs => rw [asX_congr h]
  case callv f xs => rw [ev_congr (x := f) (fun k hk => h k (Or.inl hk)), asX_congr (fun k hk => h k (Or.inr hk))]

/-- The slots of an operand. -/
def osl : Operand → List Nat
  | .tmp k => [k]
  | _ => []

theorem cx_slots {x : Operand} {ax : AX} (h : cx x = some ax) : osl x = ax.slots := by
  unfold cx at h
  split at h
  · cases h; rfl
  · split at h
    · cases h; rfl
    · cases h
  · cases h; rfl
  · cases h
theorem cox_slots {x : Option Operand} {ax : Option AX} (h : cox x = some ax) : x.toList.flatMap osl = oslots ax := by
  cases x with
  | none => unfold cox at h; cases h; rfl
  | some x =>
    unfold cox at h
    cases h1 : cx x with
    | none => simp only [h1] at h; cases h
    | some a => simp only [h1] at h; cases h; simp [oslots, cx_slots h1]
theorem cxs_slots : ∀ {xs : List Operand} {as : List AX}, cxs xs = some as → xs.flatMap osl = xslots as
  | [], as, h => by unfold cxs at h; cases h; rfl
  | x :: xs, as, h => by
    unfold cxs at h
    split at h
    · rename_i h1 h2; cases h; simp [xslots, cx_slots h1, cxs_slots h2]
    · cases h
theorem cpartsA_slots {n : Nat} : ∀ {l : List (Nat × Operand)} {r : List (Nat × Nat × AX)}, cpartsA n l = some r → (l.map (·.2)).flatMap osl = pslots r
  | [], r, h => by unfold cpartsA at h; cases h; rfl
  | (i, x) :: l, r, h => by
    unfold cpartsA at h
    split at h
    · rename_i h1 h2; cases h; simp [pslots, cx_slots h1, ← cpartsA_slots h2]
    · cases h
theorem cpartsS_slots {P : Program} {fs : Array Field} : ∀ {l : List (Nat × Operand)} {r : List (Nat × Nat × AX)}, cpartsS P fs l = some r → (l.map (·.2)).flatMap osl = pslots r
  | [], r, h => by unfold cpartsS at h; cases h; rfl
  | (i, x) :: l, r, h => by
    unfold cpartsS at h
    split at h
    · rename_i h1 h2 h3
      split at h
      · cases h; simp [pslots, cx_slots h1, ← cpartsS_slots h3]
      · cases h
    · cases h

theorem mem2 {α : Type} {x a b : α} (h : x ∈ #[a, b]) : x = a ∨ x = b := by simpa using h
theorem mem3 {α : Type} {x a b c : α} (h : x ∈ #[a, b, c]) : x = a ∨ x = b ∨ x = c := by simpa using h

theorem cbin_slots {P : Program} {op : BinOp} {T : TypeId} {x y : AX} {ao : AOp} (h : cbin P op T x y = some ao) : ao.slots = x.slots ++ y.slots := by
  unfold cbin at h
  repeat' (split at h)
  all_goals (cases h; try rfl)

theorem cbuiltin_slots {P : Program} {b : Builtin} {ts : List TypeId} {xs : List AX} {ao : AOp} (h : cbuiltin P b ts xs = some ao) : ∀ k ∈ xslots xs, k ∈ ao.slots := by
  unfold cbuiltin at h
  repeat' (split at h)
  all_goals first
    | (cases h; done)
    | (cases h; intro k hk; simpa [xslots, AOp.slots] using hk)

theorem cop_slots0 {P : Program} {o : Op} {ao : AOp} (hc : cop0 P o = some ao) : ∀ x ∈ o.operands, ∀ k ∈ osl x, k ∈ ao.slots := by
  intro x hx k hk
  cases o <;> simp only [cop0] at hc <;> (try (cases hc; done)) <;> simp only [Op.operands] at hx
  case move y =>
    obtain ⟨ax, h1, rfl⟩ := omap_some hc
    simp at hx; subst hx; rw [cx_slots h1] at hk; exact hk
  case assign y =>
    obtain ⟨ax, h1, rfl⟩ := omap_some hc
    simp at hx; subst hx; rw [cx_slots h1] at hk; exact hk
  case pick c a b =>
    split at hc
    · rename_i h1 h2 h3
      cases hc
      simp only [AOp.slots, List.mem_append]
      rcases mem3 hx with rfl | rfl | rfl
      · rw [cx_slots h1] at hk; exact Or.inl (Or.inl hk)
      · rw [cx_slots h2] at hk; exact Or.inl (Or.inr hk)
      · rw [cx_slots h3] at hk; exact Or.inr hk
    · cases hc
  case alloc T => simp at hx
  case box T y =>
    obtain ⟨ax, h1, rfl⟩ := omap_some hc
    simp at hx; subst hx; rw [cx_slots h1] at hk; exact hk
  case build T parts =>
    have hm : k ∈ (parts.toList.map (·.2)).flatMap osl := List.mem_flatMap.mpr ⟨x, by simpa using hx, hk⟩
    split at hc
    · split at hc
      · obtain ⟨r, hp, rfl⟩ := omap_some hc
        rw [cpartsS_slots hp] at hm; exact hm
      · cases hc
    · split at hc
      · obtain ⟨r, hp, rfl⟩ := omap_some hc
        rw [cpartsA_slots hp] at hm; exact hm
      · cases hc
    · cases hc
  case buildSlice T len parts =>
    have hm : k ∈ (parts.toList.map (·.2)).flatMap osl := List.mem_flatMap.mpr ⟨x, by simpa using hx, hk⟩
    split at hc
    · split at hc
      · split at hc
        · obtain ⟨r, hp, rfl⟩ := omap_some hc
          rw [cpartsA_slots hp] at hm; exact hm
        · cases hc
      · cases hc
    · cases hc
  case load T y =>
    split at hc
    · rename_i h1 h2; cases hc; simp at hx; subst hx; rw [cx_slots h2] at hk; exact hk
    · cases hc
  case store T y z =>
    split at hc
    · rename_i h1 h2 h3
      cases hc
      simp only [AOp.slots, List.mem_append]
      rcases mem2 hx with rfl | rfl
      · rw [cx_slots h2] at hk; exact Or.inl hk
      · rw [cx_slots h3] at hk; exact Or.inr hk
    · cases hc
  case nilCheck y =>
    obtain ⟨ax, h1, rfl⟩ := omap_some hc
    simp at hx; subst hx; rw [cx_slots h1] at hk; exact hk
  case binOp op T y z yT =>
    split at hc
    · rename_i h1 h2
      rw [cbin_slots hc, List.mem_append]
      rcases mem2 hx with rfl | rfl
      · rw [cx_slots h1] at hk; exact Or.inl hk
      · rw [cx_slots h2] at hk; exact Or.inr hk
    · cases hc
  case unOp op T y =>
    obtain ⟨ax, h1, rfl⟩ := omap_some hc
    simp at hx; subst hx; rw [cx_slots h1] at hk; exact hk
  case convert s d y =>
    split at hc
    · rename_i h1
      simp at hx; subst hx
      rw [cx_slots h1] at hk
      unfold cconv at hc
      repeat' (split at hc)
      all_goals first
        | (cases hc; done)
        | (cases hc; exact hk)
    · cases hc
  case range T y =>
    split at hc
    · rename_i h1 h2; cases hc; simp at hx; subst hx; rw [cx_slots h2] at hk; exact hk
    · cases hc
  case next y b =>
    cases b with
    | true => simp only [cop0] at hc; cases hc
    | false =>
      simp only [cop0] at hc
      obtain ⟨ax, h1, rfl⟩ := omap_some hc
      simp at hx; subst hx; rw [cx_slots h1] at hk; exact hk
  case makeFunc fn first caps =>
    split at hc
    · rename_i g f c h1 h2
      cases hc
      simp only [AOp.slots, List.mem_append]
      rcases Array.mem_append.mp hx with hx | hx
      · left; rw [← cxs_slots h1]; exact List.mem_flatMap.mpr ⟨x, by simpa using hx, hk⟩
      · right; rw [← cxs_slots h2]; exact List.mem_flatMap.mpr ⟨x, by simpa using hx, hk⟩
    · cases hc
  case makeSlice T l c =>
    split at hc
    · rename_i h1 h2 h3
      split at hc
      · cases hc
        simp only [AOp.slots, List.mem_append]
        rcases mem2 hx with rfl | rfl
        · rw [cx_slots h2] at hk; exact Or.inl hk
        · rw [cx_slots h3] at hk; exact Or.inr hk
      · cases hc
    · cases hc
  case slice T y lo hi mx =>
    have hx' : x = y ∨ x ∈ lo.toList ∨ x ∈ hi.toList ∨ x ∈ mx.toList := by
      simp only [Array.mem_append] at hx
      rcases hx with ((hx | hx) | hx) | hx
      · left; simpa using hx
      · right; left; simpa using hx
      · right; right; left; simpa using hx
      · right; right; right; simpa using hx
    split at hc
    · rename_i ax alo ahi amx h1 h2 h3 h4
      have hsl : k ∈ ax.slots ∨ k ∈ oslots alo ∨ k ∈ oslots ahi ∨ k ∈ oslots amx := by
        rcases hx' with rfl | hx | hx | hx
        · left; rw [cx_slots h1] at hk; exact hk
        · right; left; rw [← cox_slots h2]; exact List.mem_flatMap.mpr ⟨x, hx, hk⟩
        · right; right; left; rw [← cox_slots h3]; exact List.mem_flatMap.mpr ⟨x, hx, hk⟩
        · right; right; right; rw [← cox_slots h4]; exact List.mem_flatMap.mpr ⟨x, hx, hk⟩
      split at hc
      · split at hc
        · split at hc
          · cases hc
            simp only [AOp.slots, List.mem_append]
            rcases hsl with h | h | h | h <;> simp [h]
          · cases hc
        · cases hc
      · cases hc
        simp only [AOp.slots, List.mem_append]
        rcases hsl with h | h | h | h
        · simp [h]
        · simp [h]
        · simp [h]
        · simp [oslots] at h
      · cases hc
    · cases hc
  case fieldAddr T y f =>
    split at hc
    · rename_i h1 h2
      split at hc
      · split at hc
        · cases hc; simp at hx; subst hx; rw [cx_slots h2] at hk; exact hk
        · cases hc
      · cases hc
    · cases hc
  case field T y f =>
    split at hc
    · rename_i h1 h2
      split at hc
      · split at hc
        · cases hc; simp at hx; subst hx; rw [cx_slots h2] at hk; exact hk
        · cases hc
      · cases hc
    · cases hc
  case indexAddr T y j =>
    split at hc
    · rename_i h1 h2 h3
      obtain ⟨n, hn, rfl⟩ := omap_some hc
      simp only [AOp.slots, List.mem_append]
      rcases mem2 hx with rfl | rfl
      · rw [cx_slots h2] at hk; exact Or.inl hk
      · rw [cx_slots h3] at hk; exact Or.inr hk
    · rename_i h1 h2 h3
      obtain ⟨n, hn, rfl⟩ := omap_some hc
      simp only [AOp.slots, List.mem_append]
      rcases mem2 hx with rfl | rfl
      · rw [cx_slots h2] at hk; exact Or.inl hk
      · rw [cx_slots h3] at hk; exact Or.inr hk
    · cases hc
  case index T y j =>
    split at hc
    · rename_i h1 h2 h3
      split at hc
      · cases hc
        simp only [AOp.slots, List.mem_append]
        rcases mem2 hx with rfl | rfl
        · rw [cx_slots h2] at hk; exact Or.inl hk
        · rw [cx_slots h3] at hk; exact Or.inr hk
      · cases hc
    · rename_i h1 h2 h3
      cases hc
      simp only [AOp.slots, List.mem_append]
      rcases mem2 hx with rfl | rfl
      · rw [cx_slots h2] at hk; exact Or.inl hk
      · rw [cx_slots h3] at hk; exact Or.inr hk
    · cases hc
  case entry y =>
    obtain ⟨ax, h1, rfl⟩ := omap_some hc
    simp at hx; subst hx; rw [cx_slots h1] at hk; exact hk
  case makeInterface T y =>
    split at hc
    · cases hc
    · rename_i h1 h2; cases hc; simp at hx; subst hx; rw [cx_slots h2] at hk; exact hk
    · cases hc
  case extract y j =>
    obtain ⟨ax, h1, rfl⟩ := omap_some hc
    simp at hx; subst hx; rw [cx_slots h1] at hk; exact hk
  case makeMap T r =>
    cases r with
    | none => simp at hx
    | some r => cases hc
  case lookup T y j ok =>
    split at hc
    · rename_i K E ax ak hT h1 h2
      split at hc
      · cases hc
        simp only [AOp.slots, List.mem_append]
        rcases mem2 hx with rfl | rfl
        · rw [cx_slots h1] at hk; exact Or.inl hk
        · rw [cx_slots h2] at hk; exact Or.inr hk
      · split at hc
        · cases hc
          simp only [AOp.slots, List.mem_append]
          rcases mem2 hx with rfl | rfl
          · rw [cx_slots h1] at hk; exact Or.inl hk
          · rw [cx_slots h2] at hk; exact Or.inr hk
        · cases hc
      · cases hc
    · cases hc
  case mapUpdate T m j y =>
    split at hc
    · rename_i K E am ak ax hT h1 h2 h3
      split at hc
      · cases hc
        simp only [AOp.slots, List.mem_append]
        rcases mem3 hx with rfl | rfl | rfl
        · rw [cx_slots h1] at hk; exact Or.inl (Or.inl hk)
        · rw [cx_slots h2] at hk; exact Or.inl (Or.inr hk)
        · rw [cx_slots h3] at hk; exact Or.inr hk
      · split at hc
        · cases hc
          simp only [AOp.slots, List.mem_append]
          rcases mem3 hx with rfl | rfl | rfl
          · rw [cx_slots h1] at hk; exact Or.inl (Or.inl hk)
          · rw [cx_slots h2] at hk; exact Or.inl (Or.inr hk)
          · rw [cx_slots h3] at hk; exact Or.inr hk
        · cases hc
      · cases hc
    · cases hc
  case mapEntry T y j =>
    split at hc
    · rename_i K E ax ak hT h1 h2
      split at hc
      · cases hc
        simp only [AOp.slots, List.mem_append]
        rcases mem2 hx with rfl | rfl
        · rw [cx_slots h1] at hk; exact Or.inl hk
        · rw [cx_slots h2] at hk; exact Or.inr hk
      · split at hc
        · cases hc
          simp only [AOp.slots, List.mem_append]
          rcases mem2 hx with rfl | rfl
          · rw [cx_slots h1] at hk; exact Or.inl hk
          · rw [cx_slots h2] at hk; exact Or.inr hk
        · cases hc
      · cases hc
    · cases hc
  case entryStore T m j y =>
    split at hc
    · rename_i am ak ax h1 h2 h3
      cases hc
      simp only [AOp.slots, List.mem_append]
      rcases mem3 hx with rfl | rfl | rfl
      · rw [cx_slots h1] at hk; exact Or.inl (Or.inl hk)
      · rw [cx_slots h2] at hk; exact Or.inl (Or.inr hk)
      · rw [cx_slots h3] at hk; exact Or.inr hk
    · cases hc
  case call c =>
    split at hc
    case h_2 => cases hc
    rename_i args hargs
    have hargsl := cxs_slots hargs
    split at hc
    · rename_i b hb
      have hx' : x ∈ c.args := by simpa [Call.operands, hb] using hx
      have hm : k ∈ xslots args := by rw [← hargsl]; exact List.mem_flatMap.mpr ⟨x, by simpa using hx', hk⟩
      exact cbuiltin_slots hc k hm
    · rename_i g hg
      cases hc
      have hx' : x = .func g ∨ x ∈ c.args := by simpa [Call.operands, hg] using hx
      rcases hx' with rfl | hx'
      · simp [osl] at hk
      · show k ∈ xslots args
        rw [← hargsl]; exact List.mem_flatMap.mpr ⟨x, by simpa using hx', hk⟩
    · rename_i j hj
      cases hc
      have hx' : x = .tmp j ∨ x ∈ c.args := by simpa [Call.operands, hj] using hx
      simp only [AOp.slots, List.mem_append]
      rcases hx' with rfl | hx'
      · left; exact hk
      · right; rw [← hargsl]; exact List.mem_flatMap.mpr ⟨x, by simpa using hx', hk⟩
    · cases hc

theorem cop_slots {P : Program} {o : Op} {ao : AOp} (hc : cop P o = some ao) : ∀ x ∈ o.operands, ∀ k ∈ osl x, k ∈ ao.slots := by
  unfold cop at hc
  split at hc
  · rename_i a0 h0
    cases hc
    exact cop_slots0 h0
  · split at hc
    · cases hc
    · obtain ⟨xs, h1, rfl⟩ := omap_some hc
      intro x hx k hk
      show k ∈ xslots xs
      rw [← cxs_slots h1]
      exact List.mem_flatMap.mpr ⟨x, by simpa using hx, hk⟩

end Go.Proofs.Ythcibbfljcfheaa.Abs
