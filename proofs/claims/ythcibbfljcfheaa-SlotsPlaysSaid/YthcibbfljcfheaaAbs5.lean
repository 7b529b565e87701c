/- Each operation of the model does what the plain machine's does: the operations that compute, read, make, and store. No condition of their own. -/
import Derived.Test.YthcibbfljcfheaaAbs4
import Derived.Laws.CopyOwn
namespace Go.Proofs.Ythcibbfljcfheaa.Abs
set_option linter.unusedVariables false
open Go.RowKit

/-- The blocks that may be written. -/
def Foot (ρ : Rn) (H : AH) (k : Nat) : Prop := ∃ b o x, H.o b = some o ∧ o.rw = true ∧ ρ b = some x ∧ x.1 = k

/-- From one state to a later one: names stay, and what is not among the blocks that may be written stays. -/
structure Fr (ρ : Rn) (H : AH) (w : World) (ρ' : Rn) (H' : AH) (w' : World) : Prop where
  ext : Ext ρ ρ'
  size : w.heap.size ≤ w'.heap.size
  foot : ∀ k, Foot ρ' H' k → Foot ρ H k ∨ w.heap.size ≤ k
  same : ∀ k, k < w.heap.size → ¬ Foot ρ H k → w'.heap[k]? = w.heap[k]?

theorem Fr.refl (ρ : Rn) (H : AH) (w : World) : Fr ρ H w ρ H w := ⟨Ext.refl _, Nat.le_refl _, fun _ h => Or.inl h, fun _ _ _ => rfl⟩
theorem Fr.trans {ρ ρ1 ρ2 : Rn} {H H1 H2 : AH} {w w1 w2 : World} (h : Fr ρ H w ρ1 H1 w1) (k : Fr ρ1 H1 w1 ρ2 H2 w2) : Fr ρ H w ρ2 H2 w2 := by
  refine ⟨h.ext.trans k.ext, Nat.le_trans h.size k.size, ?_, ?_⟩
  · intro b hb
    rcases k.foot b hb with h1 | h1
    · exact h.foot b h1
    · exact Or.inr (Nat.le_trans h.size h1)
  · intro b hb hn
    rw [k.same b (Nat.lt_of_lt_of_le hb h.size) ?_, h.same b hb hn]
    intro hf
    rcases h.foot b hf with h1 | h1
    · exact hn h1
    · omega
theorem Fr.drawn {ρ : Rn} {H : AH} {w : World} {ρ' : Rn} {H' : AH} {w' : World} {n : Nat} (h : Fr ρ H { w with drawn := n } ρ' H' w') : Fr ρ H w ρ' H' w' := ⟨h.ext, h.size, h.foot, h.same⟩

/-- A new object. -/
theorem Fr.new {P : Program} {w0 : World} {ρ : Rn} {H : AH} {w : World} (h : Sim P w0 ρ H w) (x : AObj) (o : Obj) (N : Nat) : Fr ρ H w (ρ.add H.n (w.heap.size, 0, N)) (H.new x) { w with heap := w.heap.push o } := by
  have hn : ρ H.n = none := h.fresh _ (Nat.le_refl _)
  refine ⟨Rn.add_ext hn, by simp, ?_, fun k hk _ => heap_push_old _ _ _ hk⟩
  rintro k ⟨b, o', y, h1, h2, h3, h4⟩
  simp only [AH.new] at h1
  unfold Rn.add at h3
  split at h1
  · rename_i e
    rw [if_pos e] at h3
    cases h3
    right
    simp at h4
    omega
  · rename_i e
    rw [if_neg e] at h3
    exact Or.inl ⟨b, o', y, h1, h2, h3, h4⟩

/-- An object that is turned. -/
theorem Fr.turn {ρ : Rn} {H : AH} {w w' : World} {b : Nat} {o o' : AObj} {x : Nat × Nat × Nat} (ho : H.o b = some o) (hrw : o.rw = true) (hx : ρ b = some x)
    (hs : w.heap.size ≤ w'.heap.size) (hother : ∀ k, k ≠ x.1 → w'.heap[k]? = w.heap[k]?) : Fr ρ H w ρ (H.set b o') w' := by
  refine ⟨Ext.refl _, hs, ?_, ?_⟩
  · rintro k ⟨b1, o1, y, h1, h2, h3, h4⟩
    simp only [AH.set] at h1
    split at h1
    · rename_i e
      subst e
      exact Or.inl ⟨b1, o, y, ho, hrw, h3, h4⟩
    · exact Or.inl ⟨b1, o1, y, h1, h2, h3, h4⟩
  · intro k hk hn
    apply hother
    intro e
    exact hn ⟨b, o, x, ho, hrw, hx, e.symm⟩

/-- What an operation comes to. -/
def Done (P : Program) (w0 : World) (ρ : Rn) (H : AH) (w : World) (r : Result Next) (v : AV) (H' : AH) (k : Nat) : Prop :=
  ∃ ρ' w' c, (r = .ok (.value c) w' ∨ (r = .ok .skip w' ∧ c = undef)) ∧ VRel ρ' v c ∧ Sim P w0 ρ' H' w' ∧ Fr ρ H w ρ' H' w' ∧ ((ρ' = ρ ∧ w' = w) ∨ (k = 2 ∧ ∃ q, ρ' = ρ.add H.n q) ∨ k = 3)

section
variable {P : Program} {w0 : World} {ρ : Rn} {H : AH} {w : World}

theorem Done.pure (hs : Sim P w0 ρ H w) {r : Result Next} {v : AV} {c : Value} (hr : r = .ok (.value c) w) (hv : VRel ρ v c) {k : Nat} : Done P w0 ρ H w r v H k :=
  ⟨ρ, w, c, Or.inl hr, hv, hs, Fr.refl _ _ _, Or.inl ⟨rfl, rfl⟩⟩

/-- A run of a value. -/
theorem run_v {s : Sem Value} {c : Value} {w w' : World} (h : s.run P w = .ok c w') : (do Pure.pure (Next.value (← s)) : Sem Next).run P w = .ok (.value c) w' := by
  simp only [Sem.run_bind, h, Result.andThen_ok, Sem.run_pure]
theorem run_u {s : Sem Unit} {w w' : World} (h : s.run P w = .ok () w') : (do s; Pure.pure Next.skip : Sem Next).run P w = .ok .skip w' := by
  simp only [Sem.run_bind, h, Result.andThen_ok, Sem.run_pure]

theorem run_typeInfo' {t : TypeId} {i : TypeInfo} (h : P.info? t = some i) (w : World) : (typeInfo t).run P w = .ok i w := by
  simp [typeInfo, h]
theorem run_sizeOf' {t : TypeId} {n : Nat} (h : csize P t = some n) (w : World) : (sizeOf t).run P w = .ok n w := by
  unfold csize at h
  cases hi : P.info? t with
  | none => rw [hi] at h; cases h
  | some i => rw [hi] at h; injection h with h; simp [sizeOf, run_typeInfo' hi, h]
theorem run_zeroValue' {t : TypeId} {z : List AV} (h : czero P t = some z) (w : World) : ∃ v, (zeroValue t).run P w = .ok v w ∧ toAVs v.cells.toList = some z ∧ csize P t = some z.length ∧ 0 < z.length := by
  unfold czero at h
  cases hi : P.info? t with
  | none => rw [hi] at h; cases h
  | some i =>
    rw [hi] at h
    cases hz : i.zero with
    | none => simp only [hz] at h; cases h
    | some v =>
      simp only [hz] at h
      cases ha : toAVs v.cells.toList with
      | none => simp only [ha] at h; cases h
      | some z' =>
        simp only [ha] at h
        split at h
        · rename_i hc
          cases h
          refine ⟨v, ?_, ha, ?_, by omega⟩
          · simp [zeroValue, run_typeInfo' hi, hz]
          · simp [csize, hi, hc.1]
        · cases h

/-- How a type's value lies. -/
theorem cn_spec {t : TypeId} {n : Option Nat} (h : cn P t = some n) (w : World) : (match n with
    | some n => (isAgg t).run P w = .ok true w ∧ csize P t = some n
    | none => (isAgg t).run P w = .ok false w ∧ csize P t = some 1) := by
  unfold cn at h
  split at h
  · rename_i h1 h2; cases h; exact ⟨by simp [isAgg, run_underlying h1], h2⟩
  · rename_i h1 h2; cases h; exact ⟨by simp [isAgg, run_underlying h1], h2⟩
  · rename_i d hn1 hn2 h1 h2
    cases h
    refine ⟨?_, h2⟩
    simp only [isAgg, Sem.run_bind, run_underlying h1, Result.andThen_ok]
    cases d <;> first | rfl | exact (hn1 _ rfl).elim | exact (hn2 _ _ rfl).elim
  · cases h

theorem cell_of (w : World) {B o : Nat} {c : Array Value} {e : TypeId} {f : Nat × Nat} (h : w.heap[B]? = some (.cells c e f)) : w.cell? ⟨B, o, none⟩ = c[o]? := by
  simp [World.cell?, h]

theorem addr_add (B o j : Nat) : (⟨B, o, none⟩ : Addr).add j = ⟨B, o + j, none⟩ := by
  unfold Addr.add
  split
  · rename_i h; subst h; rfl
  · rfl

theorem cx_rel {t : Nat → AV} {a : Act} (ht : ∀ k, VRel ρ (t k) (a.tmps.getD k undef)) {x : Operand} {ax : AX} (h : cx x = some ax) : VRel ρ (ax.ev t) (a.eval x) := by
  unfold cx at h
  split at h
  · cases h; exact ht _
  · rename_i v
    cases hv : toAV v with
    | none => rw [hv] at h; cases h
    | some y => rw [hv] at h; cases h; exact toAV_rel hv
  · cases h; unfold AX.ev VRel; exact ⟨#[], #[], rfl, VRels.nil _, VRels.nil _⟩
  · cases h

theorem cxs_rel {t : Nat → AV} {a : Act} (ht : ∀ k, VRel ρ (t k) (a.tmps.getD k undef)) : ∀ {xs : List Operand} {as : List AX}, cxs xs = some as → VRels ρ (asX t as) (xs.map a.eval)
  | [], as, h => by unfold cxs at h; cases h; exact VRels.nil _
  | x :: xs, as, h => by
    unfold cxs at h
    split at h
    · rename_i y ys h1 h2
      cases h
      exact VRels.cons (cx_rel ht h1) (cxs_rel ht h2)
    · cases h

/-- A row's cells, from a place on. -/
theorem ORel.cells {x : Nat × Nat × Nat} {ro : Bool} {cs : List AV} (h : ORel P ρ x w (.row ro cs)) : ∃ L : List Value, VRels ρ cs L ∧ (∀ j v, L[j]? = some v → w.cell? ⟨x.1, x.2.1 + j, none⟩ = some v) ∧ ∀ a ∈ cs, a.one = true := by
  obtain ⟨c, e, f, h1, h2, h3, h4⟩ := h
  refine ⟨_, h3, ?_, h4⟩
  intro j v hj
  rw [cell_of w h1]
  rw [List.getElem?_take] at hj
  split at hj
  · rw [List.getElem?_drop] at hj; simpa using hj
  · cases hj

theorem apart_rel {cs : List AV} {L : List Value} (hr : VRels ρ cs L) (h1 : ∀ a ∈ cs, a.one = true) {n : Option Nat} {off : Nat} {v : AV} (h : apart n cs off = some v) : (match n with
    | some n => ((L.drop off).take n).length = n
    | none => True) ∧ (match n with
    | some n => VRel ρ v (.agg ((L.drop off).take n).toArray)
    | none => ∃ u, L[off]? = some u ∧ VRel ρ v u) := by
  cases n with
  | some n =>
    unfold apart at h
    simp only at h ⊢
    split at h
    · rename_i hl
      cases h
      have := hr.length
      refine ⟨by simp; omega, ?_⟩
      unfold VRel
      refine ⟨_, rfl, ?_, ?_⟩
      · simpa using VRels.take n (VRels.drop off hr)
      · intro c hc
        exact h1 c (List.mem_of_mem_drop (List.mem_of_mem_take hc))
    · cases h
  | none =>
    unfold apart at h
    exact ⟨trivial, hr.get _ h⟩

theorem load_sound (hs : Sim P w0 ρ H w) {T : TypeId} {n : Option Nat} (hT : cn P T = some n) {a v : AV} {c : Value} (ha : VRel ρ a c) (h : aload n a H = some v) : ∃ u, (Instr.loadAt T c).run P w = .ok u w ∧ VRel ρ v u := by
  unfold aload at h
  split at h
  · rename_i b o
    unfold VRel at ha
    obtain ⟨B, base, N, hb, rfl⟩ := ha
    split at h
    · rename_i ro cs ho
      obtain ⟨x, hx, hR⟩ := hs.live _ _ ho
      rw [hb] at hx
      cases hx
      obtain ⟨L, hL, hc, h1⟩ := hR.cells
      have hp := apart_rel hL h1 h
      have hT' := cn_spec hT w
      cases n with
      | some n =>
        simp only at hp hT' 
        refine ⟨_, ?_, hp.2⟩
        have hl := run_loadCells_list (P := P) w ⟨B, base + o, none⟩ ((L.drop o).take n) (by
          intro j u hj
          rw [addr_add]
          rw [List.getElem?_take] at hj
          split at hj
          · rw [List.getElem?_drop] at hj
            have := hc _ _ hj
            rwa [← Nat.add_assoc] at this
          · cases hj)
        rw [hp.1] at hl
        simp [Instr.loadAt, Instr.sureAddr, loadVar, hT'.1, run_sizeOf' hT'.2, hl]
      | none =>
        simp only at hp hT'
        obtain ⟨u, hu, hv⟩ := hp.2
        refine ⟨u, ?_, hv⟩
        simp [Instr.loadAt, Instr.sureAddr, loadVar, hT'.1, hc _ _ hu]
    · cases h
  · cases h

end
end Go.Proofs.Ythcibbfljcfheaa.Abs
