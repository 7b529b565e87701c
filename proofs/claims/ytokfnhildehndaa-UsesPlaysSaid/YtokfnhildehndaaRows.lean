/-
  No cell of these rows narrows 'for every input' (looked for: loops, veiled, ifaces, maps, wideKeys, modest, calm, conditions, laid).
  DERIVED. THE GIVEN ROWS OF THIS SEAT. 4 by the template 'for every input the law returns true; each argument reads behind the call as it read before'; 0 by the template 'total and deterministic' (their statements: YtokfnhildehndaaTotals.lean).
  GIVEN WITH THE SEED: the statements are not yours to turn. If you find one false, say at which input.
  Laid BY PROGRAM, IN A SANDBOX (cutbox-rows.mjs): the forced cells as the released guide's own fill.sh prints them over the translation bbd23c2ba9d693cb… (all of the seat's roots in one cut). By AI agents, Wed Nov 11 2026. No macro, syntax, notation, axiom, sorry.
-/
import Derived.Test.YtokfnhildehndaaChecked
import GoSem.Claim
import GoSem.ClaimJoined
import GoSem.ClaimMapViews
import Derived.JoinedTies
import Derived.KernelRfl
namespace Go.Proofs.Ytokfnhildehndaa
/- THE CELL 'sum', in the pinned program and in every row, IS THE sha256 OF THE DUMP (.gsa) THAT YtokfnhildehndaaProg.lean LOADS. Nothing in Lean hashes anything: it is a label: what it is worth is what the hold of that sum in a sandbox is worth. -/
noncomputable def Try.pinned : Pinned := { name := "ytokfnhildehndaa", sum := "bbd23c2ba9d693cb726792a4e3c1435c2ee8e460dc4423278876571590d9b196", checked := Try.checked }
namespace Rows
def none {H : Type} : Left H := { results := [], args := [] }

/-- 'futtocklaw11.UsesLead': WHATEVER THE INPUT: true; the input reads as it did. -/
def usesLeadSpec : ChangeSpec := { name := "usesLead", fn := fun _ => fun
  | [d1, d2] => { results := [.lit (.bool true)], args := [d1, d2] }
  | _ => none }
def usesLeadRow : OpenClaim := { program := "ytokfnhildehndaa", sum := "bbd23c2ba9d693cb726792a4e3c1435c2ee8e460dc4423278876571590d9b196", func := "futtock/futtocklaw11.UsesLead", spec := "usesLead", unfollowed := true, recurses := true, apart := false }
def UsesLeadSaid : Prop := usesLeadRow.holds Try.pinned (OpenSpec.ofChange usesLeadSpec)

/-- ITS FALSE NEIGHBOUR: 'it returns false'. Refute it at one input. -/
def usesLeadWrong : ChangeSpec := { name := "usesLead", fn := fun _ => fun
  | [d1, d2] => { results := [.lit (.bool false)], args := [d1, d2] }
  | _ => none }
def UsesLeadWrongFalsely : Prop := usesLeadRow.holds Try.pinned (OpenSpec.ofChange usesLeadWrong)

/-- 'futtocklaw11.UsesOnce': WHATEVER THE INPUT: true; the input reads as it did. -/
def usesOnceSpec : ChangeSpec := { name := "usesOnce", fn := fun _ => fun
  | [d] => { results := [.lit (.bool true)], args := [d] }
  | _ => none }
def usesOnceRow : OpenClaim := { program := "ytokfnhildehndaa", sum := "bbd23c2ba9d693cb726792a4e3c1435c2ee8e460dc4423278876571590d9b196", func := "futtock/futtocklaw11.UsesOnce", spec := "usesOnce", unfollowed := true, recurses := true, apart := false }
def UsesOnceSaid : Prop := usesOnceRow.holds Try.pinned (OpenSpec.ofChange usesOnceSpec)

/-- ITS FALSE NEIGHBOUR: 'it returns false'. Refute it at one input. -/
def usesOnceWrong : ChangeSpec := { name := "usesOnce", fn := fun _ => fun
  | [d] => { results := [.lit (.bool false)], args := [d] }
  | _ => none }
def UsesOnceWrongFalsely : Prop := usesOnceRow.holds Try.pinned (OpenSpec.ofChange usesOnceWrong)

/-- 'futtocklaw11.UsesPlays': WHATEVER THE INPUT: true; the input reads as it did. -/
def usesPlaysSpec : ChangeSpec := { name := "usesPlays", fn := fun _ => fun
  | [d] => { results := [.lit (.bool true)], args := [d] }
  | _ => none }
def usesPlaysRow : OpenClaim := { program := "ytokfnhildehndaa", sum := "bbd23c2ba9d693cb726792a4e3c1435c2ee8e460dc4423278876571590d9b196", func := "futtock/futtocklaw11.UsesPlays", spec := "usesPlays", unfollowed := true, recurses := true, apart := false }
def UsesPlaysSaid : Prop := usesPlaysRow.holds Try.pinned (OpenSpec.ofChange usesPlaysSpec)

/-- ITS FALSE NEIGHBOUR: 'it returns false'. Refute it at one input. -/
def usesPlaysWrong : ChangeSpec := { name := "usesPlays", fn := fun _ => fun
  | [d] => { results := [.lit (.bool false)], args := [d] }
  | _ => none }
def UsesPlaysWrongFalsely : Prop := usesPlaysRow.holds Try.pinned (OpenSpec.ofChange usesPlaysWrong)

/-- 'futtocklaw11.UsesNobody': WHATEVER THE INPUT: true; the input reads as it did. -/
def usesNobodySpec : ChangeSpec := { name := "usesNobody", fn := fun _ => fun
  | [d] => { results := [.lit (.bool true)], args := [d] }
  | _ => none }
def usesNobodyRow : OpenClaim := { program := "ytokfnhildehndaa", sum := "bbd23c2ba9d693cb726792a4e3c1435c2ee8e460dc4423278876571590d9b196", func := "futtock/futtocklaw11.UsesNobody", spec := "usesNobody", unfollowed := true, recurses := true, apart := false }
def UsesNobodySaid : Prop := usesNobodyRow.holds Try.pinned (OpenSpec.ofChange usesNobodySpec)

/-- ITS FALSE NEIGHBOUR: 'it returns false'. Refute it at one input. -/
def usesNobodyWrong : ChangeSpec := { name := "usesNobody", fn := fun _ => fun
  | [d] => { results := [.lit (.bool false)], args := [d] }
  | _ => none }
def UsesNobodyWrongFalsely : Prop := usesNobodyRow.holds Try.pinned (OpenSpec.ofChange usesNobodyWrong)

/- THE SECOND FORM. 'bulk': how many values and letters a reading holds, each counted each time it is reached (what is shared counts as often as it is met; a slice's spare places count too). A statement '..UptoSaid' is the law's where the arguments, and the package variables that the reading takes, are together of bulk at most 1048576: NARROWER than '..Said'. Prove '..Said' where nothing that the law and all that it calls make is longer than what came in: it says more and counts as full. Else prove '..UptoSaid'. A law counts once. -/
mutual
def uptoBulk {H : Type} : DataW H → Nat
  | .lit (.string bytes) => bytes.length + 1
  | .lit _ => 1
  | .nil => 1
  | .ptr d => uptoBulk d + 1
  | .slice elems spare => uptoBulkAll elems + uptoBulkAll spare + 1
  | .agg parts => uptoBulkAll parts + 1
  | .iface _ d => uptoBulk d + 1
  | .map entries => uptoBulkEntries entries + 1
  | .held _ => 1
def uptoBulkAll {H : Type} : List (DataW H) → Nat
  | [] => 0
  | d :: r => uptoBulk d + uptoBulkAll r
def uptoBulkEntries {H : Type} : List (Lit × DataW H) → Nat
  | [] => 0
  | x :: r => uptoBulkEntry x + uptoBulkEntries r
def uptoBulkEntry {H : Type} : Lit × DataW H → Nat
  | (.string bytes, d) => bytes.length + uptoBulk d + 1
  | (_, d) => uptoBulk d + 1
 end
def uptoSmall : (H : Type) → List (DataW H) → Bool := fun _ ds => decide (uptoBulkAll ds ≤ 1048576)
def OpenSpec.upto (s : _root_.Go.ChangeSpec) : _root_.Go.OpenSpec := { _root_.Go.OpenSpec.ofChange s with cond := some uptoSmall }

/-- 'futtocklaw11.UsesLead', WHERE WHAT IT READS IS OF BULK AT MOST 1048576: true; the input reads as it did. -/
def usesLeadUptoRow : OpenClaim := { program := "ytokfnhildehndaa", sum := "bbd23c2ba9d693cb726792a4e3c1435c2ee8e460dc4423278876571590d9b196", func := "futtock/futtocklaw11.UsesLead", spec := "usesLead", unfollowed := true, recurses := true, apart := false, narrowed := true }
def UsesLeadUptoSaid : Prop := usesLeadUptoRow.holds Try.pinned (OpenSpec.upto usesLeadSpec)

/-- 'futtocklaw11.UsesOnce', WHERE WHAT IT READS IS OF BULK AT MOST 1048576: true; the input reads as it did. -/
def usesOnceUptoRow : OpenClaim := { program := "ytokfnhildehndaa", sum := "bbd23c2ba9d693cb726792a4e3c1435c2ee8e460dc4423278876571590d9b196", func := "futtock/futtocklaw11.UsesOnce", spec := "usesOnce", unfollowed := true, recurses := true, apart := false, narrowed := true }
def UsesOnceUptoSaid : Prop := usesOnceUptoRow.holds Try.pinned (OpenSpec.upto usesOnceSpec)

/-- 'futtocklaw11.UsesPlays', WHERE WHAT IT READS IS OF BULK AT MOST 1048576: true; the input reads as it did. -/
def usesPlaysUptoRow : OpenClaim := { program := "ytokfnhildehndaa", sum := "bbd23c2ba9d693cb726792a4e3c1435c2ee8e460dc4423278876571590d9b196", func := "futtock/futtocklaw11.UsesPlays", spec := "usesPlays", unfollowed := true, recurses := true, apart := false, narrowed := true }
def UsesPlaysUptoSaid : Prop := usesPlaysUptoRow.holds Try.pinned (OpenSpec.upto usesPlaysSpec)

/-- 'futtocklaw11.UsesNobody', WHERE WHAT IT READS IS OF BULK AT MOST 1048576: true; the input reads as it did. -/
def usesNobodyUptoRow : OpenClaim := { program := "ytokfnhildehndaa", sum := "bbd23c2ba9d693cb726792a4e3c1435c2ee8e460dc4423278876571590d9b196", func := "futtock/futtocklaw11.UsesNobody", spec := "usesNobody", unfollowed := true, recurses := true, apart := false, narrowed := true }
def UsesNobodyUptoSaid : Prop := usesNobodyUptoRow.holds Try.pinned (OpenSpec.upto usesNobodySpec)

end Rows
end Go.Proofs.Ytokfnhildehndaa
