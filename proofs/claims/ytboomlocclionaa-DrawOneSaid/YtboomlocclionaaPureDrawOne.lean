/- DrawOne: no two numbers are stirred to one, at every input; no condition of its own. -/
import Derived.Test.YtboomlocclionaaDraw
import Derived.Test.YtboomlocclionaaQ2
namespace Go.Proofs.Ytboomlocclionaa.Pure
open Go.RowKit Go.Proofs.Ytboomlocclionaa.Q Go.Proofs.YtboomlocclionaaW.PrintWords Go.Proofs.YtboomlocclionaaW.PrintLast Fut
theorem stir_one {a b : Nat} (ha : a < 2 ^ 64) (hb : b < 2 ^ 64) (h : stirN a = stirN b) : a = b := by
  have h1 := back_eq a 400 ha (by decide)
  rw [h, back_eq b 400 hb (by decide)] at h1
  have := Option.some.inj h1
  omega
theorem DrawOne : futtocklaw05_DrawOne.Pure := by
  intro a b ha hb
  obtain ⟨a, rfl, h⟩ := nat_u64 ha
  obtain ⟨b, rfl, h'⟩ := nat_u64 hb
  refine ⟨400, ?_⟩
  unfold futtocklaw05_DrawOne.f
  rw [stir_eq a 400 h (by decide), stir_eq b 400 h' (by decide)]
  simp only [Option.bind_some]
  rw [back_eq a 400 h (by decide)]
  simp only [Option.bind_some]
  rw [if_pos trivial]
  have e : (((stirN a : Nat) : Int) == ((stirN b : Nat) : Int)) = ((a : Int) == (b : Int)) := by
    by_cases e : a = b
    · subst e; rw [beq_self_eq_true, beq_self_eq_true]
    · have : stirN a ≠ stirN b := fun x => e (stir_one h h' x)
      have h1 : ((stirN a : Nat) : Int) ≠ ((stirN b : Nat) : Int) := by omega
      have h2 : (a : Int) ≠ (b : Int) := by omega
      rw [beq_false_of_ne h1, beq_false_of_ne h2]
  rw [e, if_pos (beq_self_eq_true _), alive_eq 400 (by decide)]; rfl
end Go.Proofs.Ytboomlocclionaa.Pure
