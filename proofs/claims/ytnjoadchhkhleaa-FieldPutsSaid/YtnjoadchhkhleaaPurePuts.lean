/- The plain law of FieldPuts: the document's and the program's answers are one. -/
import Derived.Test.YtnjoadchhkhleaaPureField
namespace Go.Proofs.Ytnjoadchhkhleaa.Q
open Go.RowKit Fut
theorem puts_pure (a d w v : Nat) (ha2 : a < 256) (hd2 : d < 256) (hw : w < 18446744073709551616) (hv : v < 18446744073709551616) : futtocklaw01_FieldPuts.f 200 a d w v = some true := by
  unfold futtocklaw01_FieldPuts.f
  rw [put_eq a d w v ha2 hd2 hw, rput_eq a d w v 200 ha2 hd2 hw hv (by omega)]
  simp only [Option.bind_some, if_true]
  rw [alive_eq]; rfl
end Go.Proofs.Ytnjoadchhkhleaa.Q
