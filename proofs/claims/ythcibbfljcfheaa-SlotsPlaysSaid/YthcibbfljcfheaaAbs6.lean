/- Each operation of the model does what the plain machine's does: stores, new objects, numbers, slices. No condition of their own. -/
import Derived.Test.YthcibbfljcfheaaAbs5
namespace Go.Proofs.Ythcibbfljcfheaa.Abs
set_option linter.unusedVariables false
open Go.RowKit

section
variable {P : Program} {w0 : World} {ρ : Rn} {H : AH} {w : World}

theorem below_setRow' {B g : Nat} {w : World} (hBg : B ≤ g) (cs : Array Value) : Below B w (w.setRow g cs) := below_setRow (Below.refl _ _) hBg cs

theorem setR_length {cs : List AV} {o : Nat} {vs : List AV} (h : o + vs.length ≤ cs.length) : (setR cs o vs).length = cs.length := by
  unfold setR; simp; omega

theorem take_drop_set {α : Type} (c : List α) (base o n : Nat) (vs : List α) (h : o + vs.length ≤ n) (hn : base + n ≤ c.length) :
    ((c.take (base + o) ++ vs ++ c.drop (base + o + vs.length)).drop base).take n = ((c.drop base).take n).take o ++ vs ++ ((c.drop base).take n).drop (o + vs.length) := by
  apply List.ext_getElem?
  intro j
  simp only [List.getElem?_take, List.getElem?_drop, List.getElem?_append, List.length_take, List.length_drop, List.length_append]
  grind

/-- Cells stored into an object of our own. -/
theorem row_store (hs : Sim P w0 ρ H w) {b : Nat} {cs : List AV} (ho : H.o b = some (.row false cs)) {B base N : Nat} (hb : ρ b = some (B, base, N)) {o : Nat} {as : List AV} {vs : List Value} (hr : VRels ρ as vs)
    (h1 : ∀ c ∈ as, c.one = true) (hl : o + as.length ≤ cs.length) :
    ∃ w', (storeCells ⟨B, base + o, none⟩ vs).run P w = .ok () w' ∧ Sim P w0 ρ (H.set b (.row false (setR cs o as))) w' ∧ Fr ρ H w ρ (H.set b (.row false (setR cs o as))) w' := by
  obtain ⟨x, hx, hR⟩ := hs.live _ _ ho
  rw [hb] at hx
  cases hx
  obtain ⟨c, e, f, g1, g2, g3, g4⟩ := hR
  obtain ⟨rfl, g2, g5⟩ := g2 rfl
  dsimp only at g1 g2 g3 g5
  have hlen := hr.length
  have hl3 := g3.length
  simp only [List.length_take, List.length_drop, Array.length_toList] at hl3
  have hst := run_storeCells_at P B (base + o) e vs 0 c w g1 (by omega) (hr.oneCell h1)
  refine ⟨_, hst, ?_, ?_⟩
  · refine hs.turn ho rfl hb (below_setRow' (hs.own _ _ _ ho rfl hb) _) (fun k hk => setRow_other _ _ _ _ hk) rfl ?_
    refine ⟨_, e, (0, 0), setRow_heap _ _ _ _ _ _ g1, fun _ => ⟨rfl, ?_, ?_⟩, ?_, ?_⟩
    · simp; omega
    · rw [setR_length hl]; exact g5
    · rw [setR_length hl]
      have := take_drop_set c.toList base o cs.length vs (by omega) (by simp; omega)
      simp only [Nat.add_zero]
      rw [this]
      unfold setR
      rw [hlen]
      exact (VRels.append (VRels.append (VRels.take o g3) hr) (VRels.drop _ g3))
    · intro a ha
      unfold setR at ha
      simp only [List.mem_append] at ha
      rcases ha with (ha | ha) | ha
      · exact g4 _ (List.mem_of_mem_take ha)
      · exact h1 _ ha
      · exact g4 _ (List.mem_of_mem_drop ha)
  · exact Fr.turn ho rfl hb (by simp) (fun k hk => setRow_other _ _ _ _ hk)

theorem store_sound (hs : Sim P w0 ρ H w) {T : TypeId} {n : Nat} (hT : csize P T = some n) {a v : AV} {ca cv : Value} (ha : VRel ρ a ca) (hv : VRel ρ v cv) {H' : AH} (h : astore n a v H = some H') :
    ∃ w', (Instr.storeAt T ca cv).run P w = .ok () w' ∧ Sim P w0 ρ H' w' ∧ Fr ρ H w ρ H' w' := by
  unfold astore at h
  split at h
  · rename_i b o
    unfold VRel at ha
    obtain ⟨B, base, N, hb, rfl⟩ := ha
    split at h
    · cases h
    · rename_i hnt
      split at h
      · rename_i cs ho
        split at h
        · rename_i hc
          cases h
          have hcells := hv.cells hnt
          obtain ⟨w', h1, h2, h3⟩ := row_store (P := P) (o := o) hs ho hb hcells.1 hcells.2 (by omega)
          refine ⟨w', ?_, h2, h3⟩
          have hl := hcells.1.length
          simp only [Array.length_toList] at hl
          simp [Instr.storeAt, Instr.sureAddr, storeVar, run_sizeOf' hT, ← hl, hc.1, h1]
        · cases h
      · cases h
  · cases h

/-- A new row. -/
theorem row_new (hs : Sim P w0 ρ H w) {as : List AV} {cells : Array Value} (hr : VRels ρ as cells.toList) (h1 : ∀ c ∈ as, c.one = true) (e : TypeId) :
    (newRow e cells).run P w = .ok ⟨w.heap.size, 0, none⟩ { w with heap := w.heap.push (.cells cells e) } ∧
    Sim P w0 (ρ.add H.n (w.heap.size, 0, cells.size)) (H.new (.row false as)) { w with heap := w.heap.push (.cells cells e) } ∧
    Fr ρ H w (ρ.add H.n (w.heap.size, 0, cells.size)) (H.new (.row false as)) { w with heap := w.heap.push (.cells cells e) } := by
  have hn : ρ H.n = none := hs.fresh _ (Nat.le_refl _)
  refine ⟨by simp [newRow], ?_, Fr.new hs _ _ _⟩
  refine hs.new _ rfl _ _ ?_
  refine ⟨cells, e, (0, 0), by simp, fun _ => ⟨rfl, rfl, by have := hr.length; simp at this ⊢; omega⟩, ?_, h1⟩
  have hl := hr.length
  simp only [List.drop_zero]
  rw [List.take_of_length_le (by omega)]
  exact VRels.ext (Rn.add_ext hn) _ hr

theorem ptr_new (ρ : Rn) (n B N : Nat) : VRel (ρ.add n (B, 0, N)) (.p (some (n, 0))) (.pointer (some ⟨B, 0, none⟩)) := by
  unfold VRel; exact ⟨B, 0, N, Rn.add_self _ _ _, rfl⟩

theorem alloc_sound (hs : Sim P w0 ρ H w) {T : TypeId} {z : List AV} (hT : czero P T = some z) :
    Done P w0 ρ H w ((do Pure.pure (Next.value (← Instr.alloc T true (.tuple #[]))) : Sem Next).run P w) (.p (some (H.n, 0))) (H.new (.row false z)) 2 := by
  obtain ⟨v, hv, hz, hsz, hpos⟩ := run_zeroValue' hT w
  have hr := toAVs_rel (ρ := ρ) hz
  obtain ⟨h1, h2, h3⟩ := row_new (P := P) hs hr.1 hr.2 T
  refine ⟨_, _, _, Or.inl (run_v ?_), ptr_new _ _ _ _, h2, h3, Or.inr (Or.inl ⟨rfl, _, rfl⟩)⟩
  have h1' : (newVar T v).run P w = _ := h1
  simp only [Instr.alloc, Sem.run_bind, hv, Result.andThen_ok, h1', Sem.run_pure]

theorem box_sound (hs : Sim P w0 ρ H w) {T : TypeId} {x : AV} {c : Value} (hx : VRel ρ x c) (hnt : ∀ vs, x ≠ .tup vs) :
    Done P w0 ρ H w ((do Pure.pure (Next.value (← Instr.box T c)) : Sem Next).run P w) (.p (some (H.n, 0))) (H.new (.row false x.cells)) 2 := by
  have hr := hx.cells hnt
  obtain ⟨h1, h2, h3⟩ := row_new (P := P) hs hr.1 hr.2 T
  refine ⟨_, _, _, Or.inl (run_v ?_), ptr_new _ _ _ _, h2, h3, Or.inr (Or.inl ⟨rfl, _, rfl⟩)⟩
  have h1' : (newVar T c).run P w = _ := h1
  simp only [Instr.box, Sem.run_bind, h1', Result.andThen_ok, Sem.run_pure]

/-- The model's value of a number, a bool, a string. -/
def sv : AV → Value
  | .i k n => .int k n
  | .b x => .bool x
  | .s x => .string x
  | _ => undef

theorem aInt_sound {op : BinOp} {k k' : IntKind} {a b : Int} (hk : BinOp.isShift op = true ∨ k = k') {v : AV} (h : aInt op k a b = some v) (T : TypeId) :
    (binOp op T (.int k a) (.int k' b)).run P w = .ok (sv v) w ∧ VRel ρ v (sv v) := by
  cases op <;> simp only [BinOp.isShift, Bool.false_eq_true, false_or] at hk <;> simp only [aInt] at h
  case shl => split at h <;> cases h; rename_i hb; exact ⟨by simp only [binOp, Op.shift, if_neg hb]; rfl, by unfold VRel; rfl⟩
  case shr => split at h <;> cases h; rename_i hb; exact ⟨by simp only [binOp, Op.shift, if_neg hb]; rfl, by unfold VRel; rfl⟩
  case quo => split at h <;> cases h; rename_i hb; subst hk; exact ⟨by simp only [binOp, Op.intDiv, if_neg hb, ne_eq, not_true_eq_false, if_false]; rfl, by unfold VRel; rfl⟩
  case rem => split at h <;> cases h; rename_i hb; subst hk; exact ⟨by simp only [binOp, Op.intDiv, if_neg hb, ne_eq, not_true_eq_false, if_false]; rfl, by unfold VRel; rfl⟩
  all_goals (subst hk; cases h; exact ⟨by simp only [binOp, ne_eq, not_true_eq_false, if_false]; rfl, by unfold VRel; rfl⟩)

theorem eqGuard_int {op : BinOp} {T : TypeId} {x y : Operand} {k k' : IntKind} {a b : Int} : (eqGuard op T x y (.int k a) (.int k' b)).run P w = .ok () w := by
  cases op <;> simp [eqGuard]
theorem eqGuard_bool {op : BinOp} {T : TypeId} {x y : Operand} {a b : Bool} : (eqGuard op T x y (.bool a) (.bool b)).run P w = .ok () w := by
  cases op <;> simp [eqGuard]
theorem eqGuard_string {op : BinOp} {T : TypeId} {x y : Operand} {a b : ByteArray} : (eqGuard op T x y (.string a) (.string b)).run P w = .ok () w := by
  cases op <;> simp [eqGuard]

end
end Go.Proofs.Ythcibbfljcfheaa.Abs
