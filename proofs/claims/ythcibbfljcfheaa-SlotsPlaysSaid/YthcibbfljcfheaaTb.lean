/- The functions, and nothing known beyond their texts. No condition of its own. -/
import Derived.Test.YthcibbfljcfheaaEvK
namespace Go.Proofs.Ythcibbfljcfheaa.Abs
abbrev tbl : Tbl := tblP q0
theorem prim_ok (w0 : World) : PrimOk Try.prog w0 tbl := q0_ok w0
end Go.Proofs.Ythcibbfljcfheaa.Abs
