/- The walk of FieldPuts, at every input: it returns true, and nothing that was there is turned. -/
import Derived.Test.YtnjoadchhkhleaaPurePuts
namespace Go.Proofs.Ytnjoadchhkhleaa.Q
open Go.RowKit Go.Proofs.YtnjoadchhkhleaaW.PrintWords
theorem puts_walk (W : World) (a d : Int) (wa : (Lit.int .u8 a).wf = true) (wd : (Lit.int .u8 d).wf = true) (w : Int) (ww : (Lit.int .u64 w).wf = true) (v : Int) (wv : (Lit.int .u64 v).wf = true) :
    Calls Try.prog 3 #[.agg #[.int .u8 a, .int .u8 d], .int .u64 w, .int .u64 v] W fun e W' => e = .returned (.bool true) ∧ Below W.heap.size W W' := by
  obtain ⟨a, rfl, ha⟩ := nat_u8 wa
  obtain ⟨d, rfl, hd⟩ := nat_u8 wd
  obtain ⟨w, rfl, hw⟩ := nat_u64 ww
  obtain ⟨v, rfl, hv⟩ := nat_u64 wv
  exact futtocklaw01_FieldPuts.calls 200 _ _ _ _ true W (puts_pure a d w v ha hd hw hv)
end Go.Proofs.Ytnjoadchhkhleaa.Q
