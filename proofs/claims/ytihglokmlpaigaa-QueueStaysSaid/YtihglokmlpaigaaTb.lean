/- The functions; Drain known of by what it comes to. No condition of its own. -/
import Derived.Test.YtihglokmlpaigaaDrain
namespace Go.Proofs.Ytihglokmlpaigaa.Abs
/-- What is said of Drain. -/
def SDr (f : FuncId) (args : List AV) (H : AH) (v : AV) (H' : AH) : Prop := f = 14 ∧ ∀ q c l ch, args = [q, c] → IsQ H q l → Ch H c ch → ∃ v', v = .tup [v', .i .i64 ((dr l ch).2 : Nat)] ∧ IsQ H' v' (dr l ch).1 ∧ Keeps H H' ∧ Pv H q v'
noncomputable abbrev tbl : Tbl := tblP (qS SDr)
theorem prim_ok (w0 : World) : PrimOk Try.prog w0 tbl := qS_ok SDr w0
end Go.Proofs.Ytihglokmlpaigaa.Abs
