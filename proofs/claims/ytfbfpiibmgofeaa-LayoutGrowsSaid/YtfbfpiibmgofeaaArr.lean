/- Arrays of whole numbers that came in by value. No condition of its own. -/
import Derived.Test.YtfbfpiibmgofeaaOpen
namespace Go.Proofs.Ytfbfpiibmgofeaa.Abs
open Go.RowKit
set_option linter.unusedVariables false
section
variable {H : Type} {enc : TypeId × Value → H} {P : Program} {W : World}
theorem rd_arr {t e : TypeId} {n : Nat} {k : IntKind} (ht : P.underlying t = some (.array n e)) (he : P.underlying e = some (.int k)) (hc : P.cellsOf e = 1) (hct : P.cellsOf t = n) : Rd enc P W t (fun xs : List Int => xs.map (AV.i k)) (fun xs => xs.length = n ∧ ∀ x ∈ xs, (Lit.int k x).wf = true) := by
  intro fuel cs x h
  obtain ⟨xs, m, _, _, hl, hlen, hf⟩ := DataW.trod_array ht h
  have hl' : cs.length = n := hl.trans hct
  obtain ⟨ys, hyl, hq⟩ := list_of_all (Q := fun i y => cs[i]? = some (.int k y) ∧ (Lit.int k y).wf = true) n (fun i hi => by
    have e0 := hf i hi
    rw [List.getElem?_eq_getElem (by omega)] at e0
    obtain ⟨a, ha, _, hw⟩ := DataW.trod_int he e0
    refine ⟨a, ?_, hw⟩
    rw [hc, Nat.mul_one] at ha
    have := congrArg (fun l => l[0]?) ha
    simpa [List.getElem?_take, List.getElem?_drop] using this)
  refine ⟨ys, ?_, hyl, fun y hy => ?_⟩
  · have e : cs = ys.map (Value.int k) := by
      apply List.ext_getElem?
      intro i
      by_cases hi : i < n
      · have hx : ys[i]? = some ys[i] := List.getElem?_eq_getElem (by omega)
        rw [(hq i _ hx).1, List.getElem?_map, hx]; rfl
      · rw [List.getElem?_eq_none (by omega), List.getElem?_eq_none (by simp; omega)]
    rw [e]
    clear hq hyl hf hlen hl hl' h e
    induction ys with
    | nil => exact VRels.nil _
    | cons y ys ih => exact VRels.cons rel_int ih
  · obtain ⟨i, hi⟩ := List.mem_iff_getElem?.1 hy
    exact (hq i y hi).2
theorem okWide_array {w : World} {r : Reach} {base : Nat} {t : TypeId} {v : Value} {n : Nat} {e : TypeId} (ht : P.underlying t = some (.array n e)) (h : Value.okWide P w r base t v) : ∃ cs, v = .agg cs ∧ cs.size = P.cellsOf t := by
  simp only [Value.okWide, ht] at h
  obtain ⟨cs, h1, h2, _⟩ := h
  exact ⟨cs, h1, h2⟩
end
end Go.Proofs.Ytfbfpiibmgofeaa.Abs
