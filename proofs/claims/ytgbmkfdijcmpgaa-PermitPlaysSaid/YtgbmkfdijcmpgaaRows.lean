/-
  No cell of these rows narrows 'for every input' (looked for: loops, veiled, ifaces, maps, wideKeys, modest, calm, conditions, laid).
  DERIVED. THE GIVEN ROWS OF THIS SEAT. 4 by the template 'for every input the law returns true; each argument reads behind the call as it read before'; 0 by the template 'total and deterministic' (their statements: YtgbmkfdijcmpgaaTotals.lean).
  GIVEN WITH THE SEED: the statements are not yours to turn. If you find one false, say at which input.
  Laid BY PROGRAM, IN A SANDBOX (cutbox-rows.mjs): the forced cells as the released guide's own fill.sh prints them over the translation edee044ad00f9c55… (all of the seat's roots in one cut). By AI agents, Wed Nov 11 2026. No macro, syntax, notation, axiom, sorry.
-/
import Derived.Test.YtgbmkfdijcmpgaaChecked
import GoSem.Claim
import GoSem.ClaimJoined
import GoSem.ClaimMapViews
import Derived.JoinedTies
import Derived.KernelRfl
namespace Go.Proofs.Ytgbmkfdijcmpgaa
/- THE CELL 'sum', in the pinned program and in every row, IS THE sha256 OF THE DUMP (.gsa) THAT YtgbmkfdijcmpgaaProg.lean LOADS. Nothing in Lean hashes anything: it is a label: what it is worth is what the hold of that sum in a sandbox is worth. -/
noncomputable def Try.pinned : Pinned := { name := "ytgbmkfdijcmpgaa", sum := "edee044ad00f9c5510ce699957e55dcf065f9b85309f6c1c99e9a9301d8d1686", checked := Try.checked }
namespace Rows
def none {H : Type} : Left H := { results := [], args := [] }

/-- 'futtocklaw08.PermitKept': WHATEVER THE INPUT: true; the input reads as it did. -/
def permitKeptSpec : ChangeSpec := { name := "permitKept", fn := fun _ => fun
  | [d] => { results := [.lit (.bool true)], args := [d] }
  | _ => none }
def permitKeptRow : OpenClaim := { program := "ytgbmkfdijcmpgaa", sum := "edee044ad00f9c5510ce699957e55dcf065f9b85309f6c1c99e9a9301d8d1686", func := "futtock/futtocklaw08.PermitKept", spec := "permitKept", unfollowed := true, recurses := true, apart := false }
def PermitKeptSaid : Prop := permitKeptRow.holds Try.pinned (OpenSpec.ofChange permitKeptSpec)

/-- ITS FALSE NEIGHBOUR: 'it returns false'. Refute it at one input. -/
def permitKeptWrong : ChangeSpec := { name := "permitKept", fn := fun _ => fun
  | [d] => { results := [.lit (.bool false)], args := [d] }
  | _ => none }
def PermitKeptWrongFalsely : Prop := permitKeptRow.holds Try.pinned (OpenSpec.ofChange permitKeptWrong)

/-- 'futtocklaw08.PermitFlags': WHATEVER THE INPUT: true; the input reads as it did. -/
def permitFlagsSpec : ChangeSpec := { name := "permitFlags", fn := fun _ => fun
  | [d] => { results := [.lit (.bool true)], args := [d] }
  | _ => none }
def permitFlagsRow : OpenClaim := { program := "ytgbmkfdijcmpgaa", sum := "edee044ad00f9c5510ce699957e55dcf065f9b85309f6c1c99e9a9301d8d1686", func := "futtock/futtocklaw08.PermitFlags", spec := "permitFlags", unfollowed := true, recurses := true, apart := false }
def PermitFlagsSaid : Prop := permitFlagsRow.holds Try.pinned (OpenSpec.ofChange permitFlagsSpec)

/-- ITS FALSE NEIGHBOUR: 'it returns false'. Refute it at one input. -/
def permitFlagsWrong : ChangeSpec := { name := "permitFlags", fn := fun _ => fun
  | [d] => { results := [.lit (.bool false)], args := [d] }
  | _ => none }
def PermitFlagsWrongFalsely : Prop := permitFlagsRow.holds Try.pinned (OpenSpec.ofChange permitFlagsWrong)

/-- 'futtocklaw08.PermitPlays': WHATEVER THE INPUT: true; the input reads as it did. -/
def permitPlaysSpec : ChangeSpec := { name := "permitPlays", fn := fun _ => fun
  | [d1, d2] => { results := [.lit (.bool true)], args := [d1, d2] }
  | _ => none }
def permitPlaysRow : OpenClaim := { program := "ytgbmkfdijcmpgaa", sum := "edee044ad00f9c5510ce699957e55dcf065f9b85309f6c1c99e9a9301d8d1686", func := "futtock/futtocklaw08.PermitPlays", spec := "permitPlays", unfollowed := true, recurses := true, apart := false }
def PermitPlaysSaid : Prop := permitPlaysRow.holds Try.pinned (OpenSpec.ofChange permitPlaysSpec)

/-- ITS FALSE NEIGHBOUR: 'it returns false'. Refute it at one input. -/
def permitPlaysWrong : ChangeSpec := { name := "permitPlays", fn := fun _ => fun
  | [d1, d2] => { results := [.lit (.bool false)], args := [d1, d2] }
  | _ => none }
def PermitPlaysWrongFalsely : Prop := permitPlaysRow.holds Try.pinned (OpenSpec.ofChange permitPlaysWrong)

/-- 'futtocklaw08.PermitNobody': WHATEVER THE INPUT: true; the input reads as it did. -/
def permitNobodySpec : ChangeSpec := { name := "permitNobody", fn := fun _ => fun
  | [d] => { results := [.lit (.bool true)], args := [d] }
  | _ => none }
def permitNobodyRow : OpenClaim := { program := "ytgbmkfdijcmpgaa", sum := "edee044ad00f9c5510ce699957e55dcf065f9b85309f6c1c99e9a9301d8d1686", func := "futtock/futtocklaw08.PermitNobody", spec := "permitNobody", unfollowed := true, recurses := true, apart := false }
def PermitNobodySaid : Prop := permitNobodyRow.holds Try.pinned (OpenSpec.ofChange permitNobodySpec)

/-- ITS FALSE NEIGHBOUR: 'it returns false'. Refute it at one input. -/
def permitNobodyWrong : ChangeSpec := { name := "permitNobody", fn := fun _ => fun
  | [d] => { results := [.lit (.bool false)], args := [d] }
  | _ => none }
def PermitNobodyWrongFalsely : Prop := permitNobodyRow.holds Try.pinned (OpenSpec.ofChange permitNobodyWrong)

/- THE SECOND FORM. 'bulk': how many values and letters a reading holds, each counted each time it is reached (what is shared counts as often as it is met; a slice's spare places count too). A statement '..UptoSaid' is the law's where the arguments, and the package variables that the reading takes, are together of bulk at most 1048576: NARROWER than '..Said'. Prove '..Said' where nothing that the law and all that it calls make is longer than what came in: it says more and counts as full. Else prove '..UptoSaid'. A law counts once. -/
mutual
def uptoBulk {H : Type} : DataW H → Nat
  | .lit (.string bytes) => bytes.length + 1
  | .lit _ => 1
  | .nil => 1
  | .ptr d => uptoBulk d + 1
  | .slice elems spare => uptoBulkAll elems + uptoBulkAll spare + 1
  | .agg parts => uptoBulkAll parts + 1
  | .iface _ d => uptoBulk d + 1
  | .map entries => uptoBulkEntries entries + 1
  | .held _ => 1
def uptoBulkAll {H : Type} : List (DataW H) → Nat
  | [] => 0
  | d :: r => uptoBulk d + uptoBulkAll r
def uptoBulkEntries {H : Type} : List (Lit × DataW H) → Nat
  | [] => 0
  | x :: r => uptoBulkEntry x + uptoBulkEntries r
def uptoBulkEntry {H : Type} : Lit × DataW H → Nat
  | (.string bytes, d) => bytes.length + uptoBulk d + 1
  | (_, d) => uptoBulk d + 1
 end
def uptoSmall : (H : Type) → List (DataW H) → Bool := fun _ ds => decide (uptoBulkAll ds ≤ 1048576)
def OpenSpec.upto (s : _root_.Go.ChangeSpec) : _root_.Go.OpenSpec := { _root_.Go.OpenSpec.ofChange s with cond := some uptoSmall }

/-- 'futtocklaw08.PermitKept', WHERE WHAT IT READS IS OF BULK AT MOST 1048576: true; the input reads as it did. -/
def permitKeptUptoRow : OpenClaim := { program := "ytgbmkfdijcmpgaa", sum := "edee044ad00f9c5510ce699957e55dcf065f9b85309f6c1c99e9a9301d8d1686", func := "futtock/futtocklaw08.PermitKept", spec := "permitKept", unfollowed := true, recurses := true, apart := false, narrowed := true }
def PermitKeptUptoSaid : Prop := permitKeptUptoRow.holds Try.pinned (OpenSpec.upto permitKeptSpec)

/-- 'futtocklaw08.PermitFlags', WHERE WHAT IT READS IS OF BULK AT MOST 1048576: true; the input reads as it did. -/
def permitFlagsUptoRow : OpenClaim := { program := "ytgbmkfdijcmpgaa", sum := "edee044ad00f9c5510ce699957e55dcf065f9b85309f6c1c99e9a9301d8d1686", func := "futtock/futtocklaw08.PermitFlags", spec := "permitFlags", unfollowed := true, recurses := true, apart := false, narrowed := true }
def PermitFlagsUptoSaid : Prop := permitFlagsUptoRow.holds Try.pinned (OpenSpec.upto permitFlagsSpec)

/-- 'futtocklaw08.PermitPlays', WHERE WHAT IT READS IS OF BULK AT MOST 1048576: true; the input reads as it did. -/
def permitPlaysUptoRow : OpenClaim := { program := "ytgbmkfdijcmpgaa", sum := "edee044ad00f9c5510ce699957e55dcf065f9b85309f6c1c99e9a9301d8d1686", func := "futtock/futtocklaw08.PermitPlays", spec := "permitPlays", unfollowed := true, recurses := true, apart := false, narrowed := true }
def PermitPlaysUptoSaid : Prop := permitPlaysUptoRow.holds Try.pinned (OpenSpec.upto permitPlaysSpec)

/-- 'futtocklaw08.PermitNobody', WHERE WHAT IT READS IS OF BULK AT MOST 1048576: true; the input reads as it did. -/
def permitNobodyUptoRow : OpenClaim := { program := "ytgbmkfdijcmpgaa", sum := "edee044ad00f9c5510ce699957e55dcf065f9b85309f6c1c99e9a9301d8d1686", func := "futtock/futtocklaw08.PermitNobody", spec := "permitNobody", unfollowed := true, recurses := true, apart := false, narrowed := true }
def PermitNobodyUptoSaid : Prop := permitNobodyUptoRow.holds Try.pinned (OpenSpec.upto permitNobodySpec)

end Rows
end Go.Proofs.Ytgbmkfdijcmpgaa
