/-
  No cell of these rows narrows 'for every input' (looked for: loops, veiled, ifaces, maps, wideKeys, modest, calm, conditions, laid).
  DERIVED. THE GIVEN ROWS OF THIS SEAT. 4 by the template 'for every input the law returns true; each argument reads behind the call as it read before'; 0 by the template 'total and deterministic' (their statements: YtboomlocclionaaTotals.lean).
  GIVEN WITH THE SEED: the statements are not yours to turn. If you find one false, say at which input.
  Laid BY PROGRAM, IN A SANDBOX (cutbox-rows.mjs): the forced cells as the released guide's own fill.sh prints them over the translation 08d34b0f354bc174… (all of the seat's roots in one cut). By AI agents, Wed Nov 11 2026. No macro, syntax, notation, axiom, sorry.
-/
import Derived.Test.YtboomlocclionaaChecked
import GoSem.Claim
import GoSem.ClaimJoined
import GoSem.ClaimMapViews
import Derived.JoinedTies
import Derived.KernelRfl
namespace Go.Proofs.Ytboomlocclionaa
/- THE CELL 'sum', in the pinned program and in every row, IS THE sha256 OF THE DUMP (.gsa) THAT YtboomlocclionaaProg.lean LOADS. Nothing in Lean hashes anything: it is a label: what it is worth is what the hold of that sum in a sandbox is worth. -/
noncomputable def Try.pinned : Pinned := { name := "ytboomlocclionaa", sum := "08d34b0f354bc174eb686eb382b77e5b1f7e44687d4c37b15ba9948f5ff5feb8", checked := Try.checked }
namespace Rows
def none {H : Type} : Left H := { results := [], args := [] }

/-- 'futtocklaw05.DrawStirs': WHATEVER THE INPUT: true; the input reads as it did. -/
def drawStirsSpec : ChangeSpec := { name := "drawStirs", fn := fun _ => fun
  | [d] => { results := [.lit (.bool true)], args := [d] }
  | _ => none }
def drawStirsRow : OpenClaim := { program := "ytboomlocclionaa", sum := "08d34b0f354bc174eb686eb382b77e5b1f7e44687d4c37b15ba9948f5ff5feb8", func := "futtock/futtocklaw05.DrawStirs", spec := "drawStirs", apart := false }
def DrawStirsSaid : Prop := drawStirsRow.holds Try.pinned (OpenSpec.ofChange drawStirsSpec)

/-- ITS FALSE NEIGHBOUR: 'it returns false'. Refute it at one input. -/
def drawStirsWrong : ChangeSpec := { name := "drawStirs", fn := fun _ => fun
  | [d] => { results := [.lit (.bool false)], args := [d] }
  | _ => none }
def DrawStirsWrongFalsely : Prop := drawStirsRow.holds Try.pinned (OpenSpec.ofChange drawStirsWrong)

/-- 'futtocklaw05.DrawOne': WHATEVER THE INPUT: true; the input reads as it did. -/
def drawOneSpec : ChangeSpec := { name := "drawOne", fn := fun _ => fun
  | [d1, d2] => { results := [.lit (.bool true)], args := [d1, d2] }
  | _ => none }
def drawOneRow : OpenClaim := { program := "ytboomlocclionaa", sum := "08d34b0f354bc174eb686eb382b77e5b1f7e44687d4c37b15ba9948f5ff5feb8", func := "futtock/futtocklaw05.DrawOne", spec := "drawOne", apart := false }
def DrawOneSaid : Prop := drawOneRow.holds Try.pinned (OpenSpec.ofChange drawOneSpec)

/-- ITS FALSE NEIGHBOUR: 'it returns false'. Refute it at one input. -/
def drawOneWrong : ChangeSpec := { name := "drawOne", fn := fun _ => fun
  | [d1, d2] => { results := [.lit (.bool false)], args := [d1, d2] }
  | _ => none }
def DrawOneWrongFalsely : Prop := drawOneRow.holds Try.pinned (OpenSpec.ofChange drawOneWrong)

/-- 'futtocklaw05.DrawHashes': WHATEVER THE INPUT: true; the input reads as it did. -/
def drawHashesSpec : ChangeSpec := { name := "drawHashes", fn := fun _ => fun
  | [d1, d2] => { results := [.lit (.bool true)], args := [d1, d2] }
  | _ => none }
def drawHashesRow : OpenClaim := { program := "ytboomlocclionaa", sum := "08d34b0f354bc174eb686eb382b77e5b1f7e44687d4c37b15ba9948f5ff5feb8", func := "futtock/futtocklaw05.DrawHashes", spec := "drawHashes", apart := false }
def DrawHashesSaid : Prop := drawHashesRow.holds Try.pinned (OpenSpec.ofChange drawHashesSpec)

/-- ITS FALSE NEIGHBOUR: 'it returns false'. Refute it at one input. -/
def drawHashesWrong : ChangeSpec := { name := "drawHashes", fn := fun _ => fun
  | [d1, d2] => { results := [.lit (.bool false)], args := [d1, d2] }
  | _ => none }
def DrawHashesWrongFalsely : Prop := drawHashesRow.holds Try.pinned (OpenSpec.ofChange drawHashesWrong)

/-- 'futtocklaw05.DrawSame': WHATEVER THE INPUT: true; the input reads as it did. -/
def drawSameSpec : ChangeSpec := { name := "drawSame", fn := fun _ => fun
  | [d1, d2] => { results := [.lit (.bool true)], args := [d1, d2] }
  | _ => none }
def drawSameRow : OpenClaim := { program := "ytboomlocclionaa", sum := "08d34b0f354bc174eb686eb382b77e5b1f7e44687d4c37b15ba9948f5ff5feb8", func := "futtock/futtocklaw05.DrawSame", spec := "drawSame", apart := false }
def DrawSameSaid : Prop := drawSameRow.holds Try.pinned (OpenSpec.ofChange drawSameSpec)

/-- ITS FALSE NEIGHBOUR: 'it returns false'. Refute it at one input. -/
def drawSameWrong : ChangeSpec := { name := "drawSame", fn := fun _ => fun
  | [d1, d2] => { results := [.lit (.bool false)], args := [d1, d2] }
  | _ => none }
def DrawSameWrongFalsely : Prop := drawSameRow.holds Try.pinned (OpenSpec.ofChange drawSameWrong)

/- THE SECOND FORM. 'bulk': how many values and letters a reading holds, each counted each time it is reached (what is shared counts as often as it is met; a slice's spare places count too). A statement '..UptoSaid' is the law's where the arguments, and the package variables that the reading takes, are together of bulk at most 1048576: NARROWER than '..Said'. Prove '..Said' where nothing that the law and all that it calls make is longer than what came in: it says more and counts as full. Else prove '..UptoSaid'. A law counts once. -/
mutual
def uptoBulk {H : Type} : DataW H → Nat
  | .lit (.string bytes) => bytes.length + 1
  | .lit _ => 1
  | .nil => 1
  | .ptr d => uptoBulk d + 1
  | .slice elems spare => uptoBulkAll elems + uptoBulkAll spare + 1
  | .agg parts => uptoBulkAll parts + 1
  | .iface _ d => uptoBulk d + 1
  | .map entries => uptoBulkEntries entries + 1
  | .held _ => 1
def uptoBulkAll {H : Type} : List (DataW H) → Nat
  | [] => 0
  | d :: r => uptoBulk d + uptoBulkAll r
def uptoBulkEntries {H : Type} : List (Lit × DataW H) → Nat
  | [] => 0
  | x :: r => uptoBulkEntry x + uptoBulkEntries r
def uptoBulkEntry {H : Type} : Lit × DataW H → Nat
  | (.string bytes, d) => bytes.length + uptoBulk d + 1
  | (_, d) => uptoBulk d + 1
 end
def uptoSmall : (H : Type) → List (DataW H) → Bool := fun _ ds => decide (uptoBulkAll ds ≤ 1048576)
def OpenSpec.upto (s : _root_.Go.ChangeSpec) : _root_.Go.OpenSpec := { _root_.Go.OpenSpec.ofChange s with cond := some uptoSmall }

/-- 'futtocklaw05.DrawStirs', WHERE WHAT IT READS IS OF BULK AT MOST 1048576: true; the input reads as it did. -/
def drawStirsUptoRow : OpenClaim := { program := "ytboomlocclionaa", sum := "08d34b0f354bc174eb686eb382b77e5b1f7e44687d4c37b15ba9948f5ff5feb8", func := "futtock/futtocklaw05.DrawStirs", spec := "drawStirs", apart := false, narrowed := true }
def DrawStirsUptoSaid : Prop := drawStirsUptoRow.holds Try.pinned (OpenSpec.upto drawStirsSpec)

/-- 'futtocklaw05.DrawOne', WHERE WHAT IT READS IS OF BULK AT MOST 1048576: true; the input reads as it did. -/
def drawOneUptoRow : OpenClaim := { program := "ytboomlocclionaa", sum := "08d34b0f354bc174eb686eb382b77e5b1f7e44687d4c37b15ba9948f5ff5feb8", func := "futtock/futtocklaw05.DrawOne", spec := "drawOne", apart := false, narrowed := true }
def DrawOneUptoSaid : Prop := drawOneUptoRow.holds Try.pinned (OpenSpec.upto drawOneSpec)

/-- 'futtocklaw05.DrawHashes', WHERE WHAT IT READS IS OF BULK AT MOST 1048576: true; the input reads as it did. -/
def drawHashesUptoRow : OpenClaim := { program := "ytboomlocclionaa", sum := "08d34b0f354bc174eb686eb382b77e5b1f7e44687d4c37b15ba9948f5ff5feb8", func := "futtock/futtocklaw05.DrawHashes", spec := "drawHashes", apart := false, narrowed := true }
def DrawHashesUptoSaid : Prop := drawHashesUptoRow.holds Try.pinned (OpenSpec.upto drawHashesSpec)

/-- 'futtocklaw05.DrawSame', WHERE WHAT IT READS IS OF BULK AT MOST 1048576: true; the input reads as it did. -/
def drawSameUptoRow : OpenClaim := { program := "ytboomlocclionaa", sum := "08d34b0f354bc174eb686eb382b77e5b1f7e44687d4c37b15ba9948f5ff5feb8", func := "futtock/futtocklaw05.DrawSame", spec := "drawSame", apart := false, narrowed := true }
def DrawSameUptoSaid : Prop := drawSameUptoRow.holds Try.pinned (OpenSpec.upto drawSameSpec)

end Rows
end Go.Proofs.Ytboomlocclionaa
