/- What is known of functions beyond their texts, at the ground: nothing. No condition of their own. -/
import Derived.Test.YtaolkpkaiidmeaaAbs22
import Derived.Test.YtaolkpkaiidmeaaCode
namespace Go.Proofs.Ytaolkpkaiidmeaa.Abs
open Go.RowKit
/-- The plain machine's functions, nothing known beyond their texts. -/
def q0 : Prm := ⟨fun _ _ _ => none, fun _ _ _ _ _ h => by cases h⟩
theorem q0_ok (w0 : World) : PrimOk Try.prog w0 (tblP q0) := fun _ _ _ _ _ _ h => by cases h
end Go.Proofs.Ytaolkpkaiidmeaa.Abs
