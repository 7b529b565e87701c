/-
  No cell of these rows narrows 'for every input' (looked for: loops, veiled, ifaces, maps, wideKeys, modest, calm, conditions, laid).
  DERIVED. THE GIVEN ROWS OF THIS SEAT. 4 by the template 'for every input the law returns true; each argument reads behind the call as it read before'; 0 by the template 'total and deterministic' (their statements: YtlcmfjiinnddpaaTotals.lean).
  GIVEN WITH THE SEED: the statements are not yours to turn. If you find one false, say at which input.
  Laid BY PROGRAM, IN A SANDBOX (cutbox-rows.mjs): the forced cells as the released guide's own fill.sh prints them over the translation bf8287386f316241… (all of the seat's roots in one cut). By AI agents, Wed Nov 11 2026. No macro, syntax, notation, axiom, sorry.
-/
import Derived.Test.YtlcmfjiinnddpaaChecked
import GoSem.Claim
import GoSem.ClaimJoined
import GoSem.ClaimMapViews
import Derived.JoinedTies
import Derived.KernelRfl
namespace Go.Proofs.Ytlcmfjiinnddpaa
/- THE CELL 'sum', in the pinned program and in every row, IS THE sha256 OF THE DUMP (.gsa) THAT YtlcmfjiinnddpaaProg.lean LOADS. Nothing in Lean hashes anything: it is a label: what it is worth is what the hold of that sum in a sandbox is worth. -/
noncomputable def Try.pinned : Pinned := { name := "ytlcmfjiinnddpaa", sum := "bf8287386f316241adcd640905c583c57cc64d53295656a94ec4d770e5247907", checked := Try.checked }
namespace Rows
def none {H : Type} : Left H := { results := [], args := [] }

/-- 'futtocklaw04.LockMakes': WHATEVER THE INPUT: true; the input reads as it did. -/
def lockMakesSpec : ChangeSpec := { name := "lockMakes", fn := fun _ => fun
  | [d1, d2, d3] => { results := [.lit (.bool true)], args := [d1, d2, d3] }
  | _ => none }
def lockMakesRow : OpenClaim := { program := "ytlcmfjiinnddpaa", sum := "bf8287386f316241adcd640905c583c57cc64d53295656a94ec4d770e5247907", func := "futtock/futtocklaw04.LockMakes", spec := "lockMakes", unfollowed := true, recurses := true, apart := false }
def LockMakesSaid : Prop := lockMakesRow.holds Try.pinned (OpenSpec.ofChange lockMakesSpec)

/-- ITS FALSE NEIGHBOUR: 'it returns false'. Refute it at one input. -/
def lockMakesWrong : ChangeSpec := { name := "lockMakes", fn := fun _ => fun
  | [d1, d2, d3] => { results := [.lit (.bool false)], args := [d1, d2, d3] }
  | _ => none }
def LockMakesWrongFalsely : Prop := lockMakesRow.holds Try.pinned (OpenSpec.ofChange lockMakesWrong)

/-- 'futtocklaw04.LockParts': WHATEVER THE INPUT: true; the input reads as it did. -/
def lockPartsSpec : ChangeSpec := { name := "lockParts", fn := fun _ => fun
  | [d] => { results := [.lit (.bool true)], args := [d] }
  | _ => none }
def lockPartsRow : OpenClaim := { program := "ytlcmfjiinnddpaa", sum := "bf8287386f316241adcd640905c583c57cc64d53295656a94ec4d770e5247907", func := "futtock/futtocklaw04.LockParts", spec := "lockParts", unfollowed := true, recurses := true, apart := false }
def LockPartsSaid : Prop := lockPartsRow.holds Try.pinned (OpenSpec.ofChange lockPartsSpec)

/-- ITS FALSE NEIGHBOUR: 'it returns false'. Refute it at one input. -/
def lockPartsWrong : ChangeSpec := { name := "lockParts", fn := fun _ => fun
  | [d] => { results := [.lit (.bool false)], args := [d] }
  | _ => none }
def LockPartsWrongFalsely : Prop := lockPartsRow.holds Try.pinned (OpenSpec.ofChange lockPartsWrong)

/-- 'futtocklaw04.LockTurns': WHATEVER THE INPUT: true; the input reads as it did. -/
def lockTurnsSpec : ChangeSpec := { name := "lockTurns", fn := fun _ => fun
  | [d1, d2, d3] => { results := [.lit (.bool true)], args := [d1, d2, d3] }
  | _ => none }
def lockTurnsRow : OpenClaim := { program := "ytlcmfjiinnddpaa", sum := "bf8287386f316241adcd640905c583c57cc64d53295656a94ec4d770e5247907", func := "futtock/futtocklaw04.LockTurns", spec := "lockTurns", unfollowed := true, recurses := true, apart := false }
def LockTurnsSaid : Prop := lockTurnsRow.holds Try.pinned (OpenSpec.ofChange lockTurnsSpec)

/-- ITS FALSE NEIGHBOUR: 'it returns false'. Refute it at one input. -/
def lockTurnsWrong : ChangeSpec := { name := "lockTurns", fn := fun _ => fun
  | [d1, d2, d3] => { results := [.lit (.bool false)], args := [d1, d2, d3] }
  | _ => none }
def LockTurnsWrongFalsely : Prop := lockTurnsRow.holds Try.pinned (OpenSpec.ofChange lockTurnsWrong)

/-- 'futtocklaw04.LockEdges': WHATEVER THE INPUT: true; the input reads as it did. -/
def lockEdgesSpec : ChangeSpec := { name := "lockEdges", fn := fun _ => fun
  | [d1, d2, d3] => { results := [.lit (.bool true)], args := [d1, d2, d3] }
  | _ => none }
def lockEdgesRow : OpenClaim := { program := "ytlcmfjiinnddpaa", sum := "bf8287386f316241adcd640905c583c57cc64d53295656a94ec4d770e5247907", func := "futtock/futtocklaw04.LockEdges", spec := "lockEdges", unfollowed := true, recurses := true, apart := false }
def LockEdgesSaid : Prop := lockEdgesRow.holds Try.pinned (OpenSpec.ofChange lockEdgesSpec)

/-- ITS FALSE NEIGHBOUR: 'it returns false'. Refute it at one input. -/
def lockEdgesWrong : ChangeSpec := { name := "lockEdges", fn := fun _ => fun
  | [d1, d2, d3] => { results := [.lit (.bool false)], args := [d1, d2, d3] }
  | _ => none }
def LockEdgesWrongFalsely : Prop := lockEdgesRow.holds Try.pinned (OpenSpec.ofChange lockEdgesWrong)

/- THE SECOND FORM. 'bulk': how many values and letters a reading holds, each counted each time it is reached (what is shared counts as often as it is met; a slice's spare places count too). A statement '..UptoSaid' is the law's where the arguments, and the package variables that the reading takes, are together of bulk at most 1048576: NARROWER than '..Said'. Prove '..Said' where nothing that the law and all that it calls make is longer than what came in: it says more and counts as full. Else prove '..UptoSaid'. A law counts once. -/
mutual
def uptoBulk {H : Type} : DataW H → Nat
  | .lit (.string bytes) => bytes.length + 1
  | .lit _ => 1
  | .nil => 1
  | .ptr d => uptoBulk d + 1
  | .slice elems spare => uptoBulkAll elems + uptoBulkAll spare + 1
  | .agg parts => uptoBulkAll parts + 1
  | .iface _ d => uptoBulk d + 1
  | .map entries => uptoBulkEntries entries + 1
  | .held _ => 1
def uptoBulkAll {H : Type} : List (DataW H) → Nat
  | [] => 0
  | d :: r => uptoBulk d + uptoBulkAll r
def uptoBulkEntries {H : Type} : List (Lit × DataW H) → Nat
  | [] => 0
  | x :: r => uptoBulkEntry x + uptoBulkEntries r
def uptoBulkEntry {H : Type} : Lit × DataW H → Nat
  | (.string bytes, d) => bytes.length + uptoBulk d + 1
  | (_, d) => uptoBulk d + 1
 end
def uptoSmall : (H : Type) → List (DataW H) → Bool := fun _ ds => decide (uptoBulkAll ds ≤ 1048576)
def OpenSpec.upto (s : _root_.Go.ChangeSpec) : _root_.Go.OpenSpec := { _root_.Go.OpenSpec.ofChange s with cond := some uptoSmall }

/-- 'futtocklaw04.LockMakes', WHERE WHAT IT READS IS OF BULK AT MOST 1048576: true; the input reads as it did. -/
def lockMakesUptoRow : OpenClaim := { program := "ytlcmfjiinnddpaa", sum := "bf8287386f316241adcd640905c583c57cc64d53295656a94ec4d770e5247907", func := "futtock/futtocklaw04.LockMakes", spec := "lockMakes", unfollowed := true, recurses := true, apart := false, narrowed := true }
def LockMakesUptoSaid : Prop := lockMakesUptoRow.holds Try.pinned (OpenSpec.upto lockMakesSpec)

/-- 'futtocklaw04.LockParts', WHERE WHAT IT READS IS OF BULK AT MOST 1048576: true; the input reads as it did. -/
def lockPartsUptoRow : OpenClaim := { program := "ytlcmfjiinnddpaa", sum := "bf8287386f316241adcd640905c583c57cc64d53295656a94ec4d770e5247907", func := "futtock/futtocklaw04.LockParts", spec := "lockParts", unfollowed := true, recurses := true, apart := false, narrowed := true }
def LockPartsUptoSaid : Prop := lockPartsUptoRow.holds Try.pinned (OpenSpec.upto lockPartsSpec)

/-- 'futtocklaw04.LockTurns', WHERE WHAT IT READS IS OF BULK AT MOST 1048576: true; the input reads as it did. -/
def lockTurnsUptoRow : OpenClaim := { program := "ytlcmfjiinnddpaa", sum := "bf8287386f316241adcd640905c583c57cc64d53295656a94ec4d770e5247907", func := "futtock/futtocklaw04.LockTurns", spec := "lockTurns", unfollowed := true, recurses := true, apart := false, narrowed := true }
def LockTurnsUptoSaid : Prop := lockTurnsUptoRow.holds Try.pinned (OpenSpec.upto lockTurnsSpec)

/-- 'futtocklaw04.LockEdges', WHERE WHAT IT READS IS OF BULK AT MOST 1048576: true; the input reads as it did. -/
def lockEdgesUptoRow : OpenClaim := { program := "ytlcmfjiinnddpaa", sum := "bf8287386f316241adcd640905c583c57cc64d53295656a94ec4d770e5247907", func := "futtock/futtocklaw04.LockEdges", spec := "lockEdges", unfollowed := true, recurses := true, apart := false, narrowed := true }
def LockEdgesUptoSaid : Prop := lockEdgesUptoRow.holds Try.pinned (OpenSpec.upto lockEdgesSpec)

end Rows
end Go.Proofs.Ytlcmfjiinnddpaa
