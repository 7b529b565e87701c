/- DrawStirs: any number stirred is the document's, at every input; no condition of its own. -/
import Derived.Test.YtboomlocclionaaDraw
namespace Go.Proofs.Ytboomlocclionaa.Pure
open Go.RowKit Go.Proofs.Ytboomlocclionaa.Q Go.Proofs.YtboomlocclionaaW.PrintWords Go.Proofs.YtboomlocclionaaW.PrintLast Fut
theorem DrawStirs : futtocklaw05_DrawStirs.Pure := by
  intro a ha
  obtain ⟨a, rfl, h⟩ := nat_u64 ha
  refine ⟨100, ?_⟩
  unfold futtocklaw05_DrawStirs.f
  rw [stir_eq a 100 h (by decide), rstir_eq a 100 h (by decide)]
  simp only [Option.bind_some]
  rw [if_pos trivial, alive_eq 100 (by decide)]; rfl
end Go.Proofs.Ytboomlocclionaa.Pure
