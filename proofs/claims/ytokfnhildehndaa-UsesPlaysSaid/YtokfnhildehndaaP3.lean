/- Pairs, as three whole numbers. No condition of its own. -/
import Derived.Test.YtokfnhildehndaaMp
import Derived.Test.YtokfnhildehndaaWr
import Derived.Test.YtokfnhildehndaaFlat
namespace Go.Proofs.Ytokfnhildehndaa.Abs
abbrev P3 := Int × Int × Int
def cells3 (x : P3) : List AV := [.i .i64 x.1, .i .i64 x.2.1, .i .i64 x.2.2]
end Go.Proofs.Ytokfnhildehndaa.Abs
