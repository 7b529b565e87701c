/- FieldGets, at every input: it returns true, and nothing that was there is turned. -/
import Derived.Test.YtnjoadchhkhleaaPureField
import Derived.Test.YtnjoadchhkhleaaQ4
namespace Go.Proofs.Ytnjoadchhkhleaa.Q
open Go.RowKit Go.Proofs.YtnjoadchhkhleaaW.PrintWords Fut
theorem gets_pure (a d w : Nat) (ha2 : a < 256) (hd2 : d < 256) (hw : w < 18446744073709551616) : futtocklaw01_FieldGets.f 250 a d w = some true := by
  unfold futtocklaw01_FieldGets.f
  rw [may_eq _ _ (by omega) (by omega) (by omega) (by omega), rmay_eq _ _ (by omega) (by omega) (by omega) (by omega), most_eq a d ha2 hd2, rmost_eq a d _ ha2 hd2 (by omega), mask_eq a d ha2 hd2, rmask_eq a d _ ha2 hd2 (by omega), get_eq a d w ha2 hd2 hw, rget_eq a d w _ ha2 hd2 hw (by omega), signed_eq a d w ha2 hd2 hw, rsigned_eq a d w _ ha2 hd2 hw (by omega), fits_eq a d w ha2 hd2, rfits_eq a d w _ ha2 hd2 (by omega)]
  simp only [Option.bind_some, if_true, beq_self_eq_true]
  rw [alive_eq]; rfl
theorem gets_walk (W : World) (a d : Int) (wa : (Lit.int .u8 a).wf = true) (wd : (Lit.int .u8 d).wf = true) (w : Int) (ww : (Lit.int .u64 w).wf = true) :
    Calls Try.prog 4 #[.agg #[.int .u8 a, .int .u8 d], .int .u64 w] W fun e W' => e = .returned (.bool true) ∧ Below W.heap.size W W' := by
  obtain ⟨a, rfl, ha⟩ := nat_u8 wa
  obtain ⟨d, rfl, hd⟩ := nat_u8 wd
  obtain ⟨w, rfl, hw⟩ := nat_u64 ww
  exact futtocklaw01_FieldGets.calls 250 _ _ _ true W (gets_pure a d w ha hd hw) rfl
end Go.Proofs.Ytnjoadchhkhleaa.Q
