/- All of layer 20, as a function with the proof of it, in the form of the seat's other functions. -/
import Derived.Test.YtfbfpiibmgofeaaWalkAll
namespace Go.Proofs.Ytfbfpiibmgofeaa.Q
open Go.RowKit Go.Proofs.YtfbfpiibmgofeaaW.PrintWords
def layout_All.f (a0 : Int) (a1 : Int) (a2 : Int) (a3 : Int) : Option (List Int) := some (allN a0 a1 a2 a3 128)
theorem layout_All.calls (a0 : Int) (a1 : Int) (a2 : Int) (a3 : Int) (r : List Int) (w : World) (h : layout_All.f a0 a1 a2 a3 = some r) :
    Calls Try.prog 12 #[.int .i64 a0, .int .i64 a1, .int .i64 a2, .int .i64 a3] w fun e w' => ∃ v0_ : Value, e = .returned (v0_) ∧ Kd.R (Kd.int .i64) 3 w' w.heap.size (fun _ => True) v0_ r ∧ Below w.heap.size w w' := by
  obtain rfl := Option.some.inj h
  exact all_walk a0 a1 a2 a3 w
end Go.Proofs.Ytfbfpiibmgofeaa.Q
