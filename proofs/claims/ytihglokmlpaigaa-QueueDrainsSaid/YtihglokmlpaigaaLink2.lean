/- Two slices that came in. No condition of its own. -/
import Derived.Test.YtihglokmlpaigaaOpen
namespace Go.Proofs.Ytihglokmlpaigaa.Abs
open Go.RowKit
set_option linter.unusedVariables false
theorem ins_row {W : World} {A : Option Addr} {len cap sz : Nat} {cs : List AV} (hin : InS W A len cap sz cs) : ∃ xs : List ((Nat × Nat × Nat) × List AV), (∀ p, p ∈ xs → ORel Try.prog ρN p.1 W (.row true p.2) ∧ p.1.1 < W.heap.size) ∧
    ∀ (k : Nat) (ρ : Rn) (H : AH), (∀ j p, xs[j]? = some p → ρ (k + j) = some p.1 ∧ H.o (k + j) = some (.row true p.2) ∧ k + j < H.n) → ∃ x, IsIn H x sz len cs ∧ VRel ρ x (.slice A len cap) := by
  rcases hin with ⟨rfl, rfl, rfl, rfl⟩ | ⟨B, off, rfl, hle, hB, ho⟩
  · refine ⟨[], by simp, fun k ρ H _ => ⟨.sl none 0 0 true sz, Or.inl ⟨rfl, rfl⟩, ?_⟩⟩
    unfold VRel
    exact ⟨rfl, rfl, rfl, rfl⟩
  · refine ⟨[((B, off, off + cap * sz), cs)], by simpa using ⟨ho, hB⟩, fun k ρ H h => ?_⟩
    obtain ⟨h1, h2, h3⟩ := h 0 _ rfl
    rw [Nat.add_zero] at h1 h2 h3
    refine ⟨.sl (some (k, 0)) len len false sz, Or.inr ⟨k, rfl, h3, h2⟩, ?_⟩
    unfold VRel
    exact ⟨B, off, off + cap * sz, off, cap, h1, rfl, Or.inl rfl, Nat.le_refl _, hle, (fun h => by cases h), Nat.le_refl _⟩
theorem link2 {n : FuncId} {pre mid post : List AV} {W : World} {vpre vmid vpost : List Value} {A1 A2 : Option Addr} {len1 cap1 sz1 len2 cap2 sz2 : Nat} {cs1 cs2 : List AV} (hpre : VRels ρN pre vpre) (hin1 : InS W A1 len1 cap1 sz1 cs1) (hmid : VRels ρN mid vmid) (hin2 : InS W A2 len2 cap2 sz2 cs2) (hpost : VRels ρN post vpost)
    (h : ∀ H x y, IsIn H x sz1 len1 cs1 → IsIn H y sz2 len2 cs2 → ∃ H', callR tbl n (pre ++ x :: (mid ++ y :: post)) H = some (.b true, H')) (hn : (tblF n).isSome = true := by rfl) :
    Calls Try.prog n (vpre ++ .slice A1 len1 cap1 :: (vmid ++ .slice A2 len2 cap2 :: vpost)).toArray W fun e W' => e = .returned (.bool true) ∧ Below W.heap.size W W' := by
  obtain ⟨xs1, r1, g1⟩ := ins_row hin1
  obtain ⟨xs2, r2, g2⟩ := ins_row hin2
  have hs := sim_ro (W := W) (xs1 ++ xs2) (fun p hp => (List.mem_append.1 hp).elim (r1 p) (r2 p))
  obtain ⟨x, hx, vx⟩ := g1 0 (fun b => ((xs1 ++ xs2)[b]?).map (·.1)) ⟨(xs1 ++ xs2).length, fun b => ((xs1 ++ xs2)[b]?).map fun p => .row true p.2⟩ (fun j p hj => by
    have hl := (List.getElem?_eq_some_iff.1 hj).1
    have e : (xs1 ++ xs2)[0 + j]? = some p := by rw [Nat.zero_add, List.getElem?_append_left hl]; exact hj
    exact ⟨by simp only [e]; rfl, by simp only [e]; rfl, by simp; omega⟩)
  obtain ⟨y, hy, vy⟩ := g2 xs1.length (fun b => ((xs1 ++ xs2)[b]?).map (·.1)) ⟨(xs1 ++ xs2).length, fun b => ((xs1 ++ xs2)[b]?).map fun p => .row true p.2⟩ (fun j p hj => by
    have hl := (List.getElem?_eq_some_iff.1 hj).1
    have e : (xs1 ++ xs2)[xs1.length + j]? = some p := by rw [List.getElem?_append_right (by omega), Nat.add_sub_cancel_left]; exact hj
    exact ⟨by simp only [e]; rfl, by simp only [e]; rfl, by simp; omega⟩)
  obtain ⟨H', hh⟩ := h _ x y hx hy
  exact link hs (VRels.append (VRels.ext (fun _ _ h => by cases h) _ hpre) (VRels.cons vx (VRels.append (VRels.ext (fun _ _ h => by cases h) _ hmid) (VRels.cons vy (VRels.ext (fun _ _ h => by cases h) _ hpost))))) hh hn
end Go.Proofs.Ytihglokmlpaigaa.Abs
