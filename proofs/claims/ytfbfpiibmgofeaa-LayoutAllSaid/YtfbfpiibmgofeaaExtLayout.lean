/- At, What and alive of layer 20, as functions with the proof of it, in the form of the seat's other functions. -/
import Derived.Test.YtfbfpiibmgofeaaWalkCells
namespace Go.Proofs.Ytfbfpiibmgofeaa.Q
open Go.RowKit Go.Proofs.YtfbfpiibmgofeaaW.PrintWords
def layout_What.f (a0 : Int) : Option (Int × Int × Int) := if (Lit.int .i64 a0).wf = true then some (whatN a0) else none
theorem layout_What.calls (a0 : Int) (r1 : Int) (r2 : Int) (r3 : Int) (w : World) (h : layout_What.f a0 = some (r1, r2, r3)) :
    Calls Try.prog 7 #[.int .i64 a0] w fun e w' => e = .returned (.tuple #[.int .i64 r1, .int .i64 r2, .int .i64 r3]) ∧ Below w.heap.size w w' := by
  unfold layout_What.f at h
  split at h
  · rename_i hw
    have := what_walk a0 hw w
    rw [Option.some.inj h] at this
    exact this
  · cases h
def layout_At.f (a0 : Int) (a1 : Int) (a2 : Int) : Option Int := if (Lit.int .i64 a1).wf = true ∧ (Lit.int .i64 a2).wf = true then some (atN a0 a1 a2) else none
theorem layout_At.calls (a0 : Int) (a1 : Int) (a2 : Int) (r : Int) (w : World) (h : layout_At.f a0 a1 a2 = some r) :
    Calls Try.prog 9 #[.int .i64 a0, .int .i64 a1, .int .i64 a2] w fun e w' => e = .returned (.int .i64 r) ∧ Below w.heap.size w w' := by
  unfold layout_At.f at h
  split at h
  · rename_i hw
    have := at_walk a0 a1 a2 hw.1 hw.2 w
    rw [Option.some.inj h] at this
    exact this
  · cases h
def futtocklaw20_alive.f : Option Bool := some true
theorem futtocklaw20_alive.calls (r : Bool) (w : World) (h : futtocklaw20_alive.f = some r) : Calls Try.prog 11 #[] w fun e w' => e = .returned (.bool r) ∧ Below w.heap.size w w' := by
  obtain rfl := Option.some.inj h
  exact alive_walk w
end Go.Proofs.Ytfbfpiibmgofeaa.Q
