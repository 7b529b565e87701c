/-
  No cell of these rows narrows 'for every input' (looked for: loops, veiled, ifaces, maps, wideKeys, modest, calm, conditions, laid).
  DERIVED. THE GIVEN ROWS OF THIS SEAT. 4 by the template 'for every input the law returns true; each argument reads behind the call as it read before'; 0 by the template 'total and deterministic' (their statements: YtldbijgldfeolaaTotals.lean).
  GIVEN WITH THE SEED: the statements are not yours to turn. If you find one false, say at which input.
  Laid BY PROGRAM, IN A SANDBOX (cutbox-rows.mjs): the forced cells as the released guide's own fill.sh prints them over the translation b4d87db995a75abc… (all of the seat's roots in one cut). By AI agents, Wed Nov 11 2026. No macro, syntax, notation, axiom, sorry.
-/
import Derived.Test.YtldbijgldfeolaaChecked
import GoSem.Claim
import GoSem.ClaimJoined
import GoSem.ClaimMapViews
import Derived.JoinedTies
import Derived.KernelRfl
namespace Go.Proofs.Ytldbijgldfeolaa
/- THE CELL 'sum', in the pinned program and in every row, IS THE sha256 OF THE DUMP (.gsa) THAT YtldbijgldfeolaaProg.lean LOADS. Nothing in Lean hashes anything: it is a label: what it is worth is what the hold of that sum in a sandbox is worth. -/
noncomputable def Try.pinned : Pinned := { name := "ytldbijgldfeolaa", sum := "b4d87db995a75abc898cfe90196ff5250b7ace2fba137873e299d4ed9f86558b", checked := Try.checked }
namespace Rows
def none {H : Type} : Left H := { results := [], args := [] }

/-- 'futtocklaw33.AdaptEnds': WHATEVER THE INPUT: true; the input reads as it did. -/
def adaptEndsSpec : ChangeSpec := { name := "adaptEnds", fn := fun _ => fun
  | [d1, d2] => { results := [.lit (.bool true)], args := [d1, d2] }
  | _ => none }
def adaptEndsRow : OpenClaim := { program := "ytldbijgldfeolaa", sum := "b4d87db995a75abc898cfe90196ff5250b7ace2fba137873e299d4ed9f86558b", func := "futtock/futtocklaw33.AdaptEnds", spec := "adaptEnds", apart := false }
def AdaptEndsSaid : Prop := adaptEndsRow.holds Try.pinned (OpenSpec.ofChange adaptEndsSpec)

/-- ITS FALSE NEIGHBOUR: 'it returns false'. Refute it at one input. -/
def adaptEndsWrong : ChangeSpec := { name := "adaptEnds", fn := fun _ => fun
  | [d1, d2] => { results := [.lit (.bool false)], args := [d1, d2] }
  | _ => none }
def AdaptEndsWrongFalsely : Prop := adaptEndsRow.holds Try.pinned (OpenSpec.ofChange adaptEndsWrong)

/-- 'futtocklaw33.AdaptPlays': WHATEVER THE INPUT: true; the input reads as it did. -/
def adaptPlaysSpec : ChangeSpec := { name := "adaptPlays", fn := fun _ => fun
  | [d1, d2] => { results := [.lit (.bool true)], args := [d1, d2] }
  | _ => none }
def adaptPlaysRow : OpenClaim := { program := "ytldbijgldfeolaa", sum := "b4d87db995a75abc898cfe90196ff5250b7ace2fba137873e299d4ed9f86558b", func := "futtock/futtocklaw33.AdaptPlays", spec := "adaptPlays", apart := false }
def AdaptPlaysSaid : Prop := adaptPlaysRow.holds Try.pinned (OpenSpec.ofChange adaptPlaysSpec)

/-- ITS FALSE NEIGHBOUR: 'it returns false'. Refute it at one input. -/
def adaptPlaysWrong : ChangeSpec := { name := "adaptPlays", fn := fun _ => fun
  | [d1, d2] => { results := [.lit (.bool false)], args := [d1, d2] }
  | _ => none }
def AdaptPlaysWrongFalsely : Prop := adaptPlaysRow.holds Try.pinned (OpenSpec.ofChange adaptPlaysWrong)

/-- 'futtocklaw33.AdaptBounds': WHATEVER THE INPUT: true; the input reads as it did. -/
def adaptBoundsSpec : ChangeSpec := { name := "adaptBounds", fn := fun _ => fun
  | [d1, d2, d3] => { results := [.lit (.bool true)], args := [d1, d2, d3] }
  | _ => none }
def adaptBoundsRow : OpenClaim := { program := "ytldbijgldfeolaa", sum := "b4d87db995a75abc898cfe90196ff5250b7ace2fba137873e299d4ed9f86558b", func := "futtock/futtocklaw33.AdaptBounds", spec := "adaptBounds", apart := false }
def AdaptBoundsSaid : Prop := adaptBoundsRow.holds Try.pinned (OpenSpec.ofChange adaptBoundsSpec)

/-- ITS FALSE NEIGHBOUR: 'it returns false'. Refute it at one input. -/
def adaptBoundsWrong : ChangeSpec := { name := "adaptBounds", fn := fun _ => fun
  | [d1, d2, d3] => { results := [.lit (.bool false)], args := [d1, d2, d3] }
  | _ => none }
def AdaptBoundsWrongFalsely : Prop := adaptBoundsRow.holds Try.pinned (OpenSpec.ofChange adaptBoundsWrong)

/-- 'futtocklaw33.AdaptNobody': WHATEVER THE INPUT: true; the input reads as it did. -/
def adaptNobodySpec : ChangeSpec := { name := "adaptNobody", fn := fun _ => fun
  | [d] => { results := [.lit (.bool true)], args := [d] }
  | _ => none }
def adaptNobodyRow : OpenClaim := { program := "ytldbijgldfeolaa", sum := "b4d87db995a75abc898cfe90196ff5250b7ace2fba137873e299d4ed9f86558b", func := "futtock/futtocklaw33.AdaptNobody", spec := "adaptNobody", apart := false }
def AdaptNobodySaid : Prop := adaptNobodyRow.holds Try.pinned (OpenSpec.ofChange adaptNobodySpec)

/-- ITS FALSE NEIGHBOUR: 'it returns false'. Refute it at one input. -/
def adaptNobodyWrong : ChangeSpec := { name := "adaptNobody", fn := fun _ => fun
  | [d] => { results := [.lit (.bool false)], args := [d] }
  | _ => none }
def AdaptNobodyWrongFalsely : Prop := adaptNobodyRow.holds Try.pinned (OpenSpec.ofChange adaptNobodyWrong)

/- THE SECOND FORM. 'bulk': how many values and letters a reading holds, each counted each time it is reached (what is shared counts as often as it is met; a slice's spare places count too). A statement '..UptoSaid' is the law's where the arguments, and the package variables that the reading takes, are together of bulk at most 1048576: NARROWER than '..Said'. Prove '..Said' where nothing that the law and all that it calls make is longer than what came in: it says more and counts as full. Else prove '..UptoSaid'. A law counts once. -/
mutual
def uptoBulk {H : Type} : DataW H → Nat
  | .lit (.string bytes) => bytes.length + 1
  | .lit _ => 1
  | .nil => 1
  | .ptr d => uptoBulk d + 1
  | .slice elems spare => uptoBulkAll elems + uptoBulkAll spare + 1
  | .agg parts => uptoBulkAll parts + 1
  | .iface _ d => uptoBulk d + 1
  | .map entries => uptoBulkEntries entries + 1
  | .held _ => 1
def uptoBulkAll {H : Type} : List (DataW H) → Nat
  | [] => 0
  | d :: r => uptoBulk d + uptoBulkAll r
def uptoBulkEntries {H : Type} : List (Lit × DataW H) → Nat
  | [] => 0
  | x :: r => uptoBulkEntry x + uptoBulkEntries r
def uptoBulkEntry {H : Type} : Lit × DataW H → Nat
  | (.string bytes, d) => bytes.length + uptoBulk d + 1
  | (_, d) => uptoBulk d + 1
 end
def uptoSmall : (H : Type) → List (DataW H) → Bool := fun _ ds => decide (uptoBulkAll ds ≤ 1048576)
def OpenSpec.upto (s : _root_.Go.ChangeSpec) : _root_.Go.OpenSpec := { _root_.Go.OpenSpec.ofChange s with cond := some uptoSmall }

/-- 'futtocklaw33.AdaptEnds', WHERE WHAT IT READS IS OF BULK AT MOST 1048576: true; the input reads as it did. -/
def adaptEndsUptoRow : OpenClaim := { program := "ytldbijgldfeolaa", sum := "b4d87db995a75abc898cfe90196ff5250b7ace2fba137873e299d4ed9f86558b", func := "futtock/futtocklaw33.AdaptEnds", spec := "adaptEnds", apart := false, narrowed := true }
def AdaptEndsUptoSaid : Prop := adaptEndsUptoRow.holds Try.pinned (OpenSpec.upto adaptEndsSpec)

/-- 'futtocklaw33.AdaptPlays', WHERE WHAT IT READS IS OF BULK AT MOST 1048576: true; the input reads as it did. -/
def adaptPlaysUptoRow : OpenClaim := { program := "ytldbijgldfeolaa", sum := "b4d87db995a75abc898cfe90196ff5250b7ace2fba137873e299d4ed9f86558b", func := "futtock/futtocklaw33.AdaptPlays", spec := "adaptPlays", apart := false, narrowed := true }
def AdaptPlaysUptoSaid : Prop := adaptPlaysUptoRow.holds Try.pinned (OpenSpec.upto adaptPlaysSpec)

/-- 'futtocklaw33.AdaptBounds', WHERE WHAT IT READS IS OF BULK AT MOST 1048576: true; the input reads as it did. -/
def adaptBoundsUptoRow : OpenClaim := { program := "ytldbijgldfeolaa", sum := "b4d87db995a75abc898cfe90196ff5250b7ace2fba137873e299d4ed9f86558b", func := "futtock/futtocklaw33.AdaptBounds", spec := "adaptBounds", apart := false, narrowed := true }
def AdaptBoundsUptoSaid : Prop := adaptBoundsUptoRow.holds Try.pinned (OpenSpec.upto adaptBoundsSpec)

/-- 'futtocklaw33.AdaptNobody', WHERE WHAT IT READS IS OF BULK AT MOST 1048576: true; the input reads as it did. -/
def adaptNobodyUptoRow : OpenClaim := { program := "ytldbijgldfeolaa", sum := "b4d87db995a75abc898cfe90196ff5250b7ace2fba137873e299d4ed9f86558b", func := "futtock/futtocklaw33.AdaptNobody", spec := "adaptNobody", apart := false, narrowed := true }
def AdaptNobodyUptoSaid : Prop := adaptNobodyUptoRow.holds Try.pinned (OpenSpec.upto adaptNobodySpec)

end Rows
end Go.Proofs.Ytldbijgldfeolaa
