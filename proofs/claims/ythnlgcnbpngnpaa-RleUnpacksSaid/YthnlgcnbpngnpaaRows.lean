/-
  No cell of these rows narrows 'for every input' (looked for: loops, veiled, ifaces, maps, wideKeys, modest, calm, conditions, laid).
  DERIVED. THE GIVEN ROWS OF THIS SEAT. 4 by the template 'for every input the law returns true; each argument reads behind the call as it read before'; 0 by the template 'total and deterministic' (their statements: YthnlgcnbpngnpaaTotals.lean).
  GIVEN WITH THE SEED: the statements are not yours to turn. If you find one false, say at which input.
  Laid BY PROGRAM, IN A SANDBOX (cutbox-rows.mjs): the forced cells as the released guide's own fill.sh prints them over the translation c31d67be970fcfd6… (all of the seat's roots in one cut). By AI agents, Wed Nov 11 2026. No macro, syntax, notation, axiom, sorry.
-/
import Derived.Test.YthnlgcnbpngnpaaChecked
import GoSem.Claim
import GoSem.ClaimJoined
import GoSem.ClaimMapViews
import Derived.JoinedTies
import Derived.KernelRfl
namespace Go.Proofs.Ythnlgcnbpngnpaa
/- THE CELL 'sum', in the pinned program and in every row, IS THE sha256 OF THE DUMP (.gsa) THAT YthnlgcnbpngnpaaProg.lean LOADS. Nothing in Lean hashes anything: it is a label: what it is worth is what the hold of that sum in a sandbox is worth. -/
noncomputable def Try.pinned : Pinned := { name := "ythnlgcnbpngnpaa", sum := "c31d67be970fcfd67445ec0ef827d4de6b9cdcef02ecc98ce2c15b45f629c315", checked := Try.checked }
namespace Rows
def none {H : Type} : Left H := { results := [], args := [] }

/-- 'futtocklaw34.RlePacks': WHATEVER THE INPUT: true; the input reads as it did. -/
def rlePacksSpec : ChangeSpec := { name := "rlePacks", fn := fun _ => fun
  | [d] => { results := [.lit (.bool true)], args := [d] }
  | _ => none }
def rlePacksRow : OpenClaim := { program := "ythnlgcnbpngnpaa", sum := "c31d67be970fcfd67445ec0ef827d4de6b9cdcef02ecc98ce2c15b45f629c315", func := "futtock/futtocklaw34.RlePacks", spec := "rlePacks", unfollowed := true, recurses := true, apart := false }
def RlePacksSaid : Prop := rlePacksRow.holds Try.pinned (OpenSpec.ofChange rlePacksSpec)

/-- ITS FALSE NEIGHBOUR: 'it returns false'. Refute it at one input. -/
def rlePacksWrong : ChangeSpec := { name := "rlePacks", fn := fun _ => fun
  | [d] => { results := [.lit (.bool false)], args := [d] }
  | _ => none }
def RlePacksWrongFalsely : Prop := rlePacksRow.holds Try.pinned (OpenSpec.ofChange rlePacksWrong)

/-- 'futtocklaw34.RleShort': WHATEVER THE INPUT: true; the input reads as it did. -/
def rleShortSpec : ChangeSpec := { name := "rleShort", fn := fun _ => fun
  | [d] => { results := [.lit (.bool true)], args := [d] }
  | _ => none }
def rleShortRow : OpenClaim := { program := "ythnlgcnbpngnpaa", sum := "c31d67be970fcfd67445ec0ef827d4de6b9cdcef02ecc98ce2c15b45f629c315", func := "futtock/futtocklaw34.RleShort", spec := "rleShort", unfollowed := true, recurses := true, apart := false }
def RleShortSaid : Prop := rleShortRow.holds Try.pinned (OpenSpec.ofChange rleShortSpec)

/-- ITS FALSE NEIGHBOUR: 'it returns false'. Refute it at one input. -/
def rleShortWrong : ChangeSpec := { name := "rleShort", fn := fun _ => fun
  | [d] => { results := [.lit (.bool false)], args := [d] }
  | _ => none }
def RleShortWrongFalsely : Prop := rleShortRow.holds Try.pinned (OpenSpec.ofChange rleShortWrong)

/-- 'futtocklaw34.RleBack': WHATEVER THE INPUT: true; the input reads as it did. -/
def rleBackSpec : ChangeSpec := { name := "rleBack", fn := fun _ => fun
  | [d1, d2] => { results := [.lit (.bool true)], args := [d1, d2] }
  | _ => none }
def rleBackRow : OpenClaim := { program := "ythnlgcnbpngnpaa", sum := "c31d67be970fcfd67445ec0ef827d4de6b9cdcef02ecc98ce2c15b45f629c315", func := "futtock/futtocklaw34.RleBack", spec := "rleBack", unfollowed := true, recurses := true, apart := false }
def RleBackSaid : Prop := rleBackRow.holds Try.pinned (OpenSpec.ofChange rleBackSpec)

/-- ITS FALSE NEIGHBOUR: 'it returns false'. Refute it at one input. -/
def rleBackWrong : ChangeSpec := { name := "rleBack", fn := fun _ => fun
  | [d1, d2] => { results := [.lit (.bool false)], args := [d1, d2] }
  | _ => none }
def RleBackWrongFalsely : Prop := rleBackRow.holds Try.pinned (OpenSpec.ofChange rleBackWrong)

/-- 'futtocklaw34.RleUnpacks': WHATEVER THE INPUT: true; the input reads as it did. -/
def rleUnpacksSpec : ChangeSpec := { name := "rleUnpacks", fn := fun _ => fun
  | [d1, d2] => { results := [.lit (.bool true)], args := [d1, d2] }
  | _ => none }
def rleUnpacksRow : OpenClaim := { program := "ythnlgcnbpngnpaa", sum := "c31d67be970fcfd67445ec0ef827d4de6b9cdcef02ecc98ce2c15b45f629c315", func := "futtock/futtocklaw34.RleUnpacks", spec := "rleUnpacks", unfollowed := true, recurses := true, apart := false }
def RleUnpacksSaid : Prop := rleUnpacksRow.holds Try.pinned (OpenSpec.ofChange rleUnpacksSpec)

/-- ITS FALSE NEIGHBOUR: 'it returns false'. Refute it at one input. -/
def rleUnpacksWrong : ChangeSpec := { name := "rleUnpacks", fn := fun _ => fun
  | [d1, d2] => { results := [.lit (.bool false)], args := [d1, d2] }
  | _ => none }
def RleUnpacksWrongFalsely : Prop := rleUnpacksRow.holds Try.pinned (OpenSpec.ofChange rleUnpacksWrong)

/- THE SECOND FORM. 'bulk': how many values and letters a reading holds, each counted each time it is reached (what is shared counts as often as it is met; a slice's spare places count too). A statement '..UptoSaid' is the law's where the arguments, and the package variables that the reading takes, are together of bulk at most 1048576: NARROWER than '..Said'. Prove '..Said' where nothing that the law and all that it calls make is longer than what came in: it says more and counts as full. Else prove '..UptoSaid'. A law counts once. -/
mutual
def uptoBulk {H : Type} : DataW H → Nat
  | .lit (.string bytes) => bytes.length + 1
  | .lit _ => 1
  | .nil => 1
  | .ptr d => uptoBulk d + 1
  | .slice elems spare => uptoBulkAll elems + uptoBulkAll spare + 1
  | .agg parts => uptoBulkAll parts + 1
  | .iface _ d => uptoBulk d + 1
  | .map entries => uptoBulkEntries entries + 1
  | .held _ => 1
def uptoBulkAll {H : Type} : List (DataW H) → Nat
  | [] => 0
  | d :: r => uptoBulk d + uptoBulkAll r
def uptoBulkEntries {H : Type} : List (Lit × DataW H) → Nat
  | [] => 0
  | x :: r => uptoBulkEntry x + uptoBulkEntries r
def uptoBulkEntry {H : Type} : Lit × DataW H → Nat
  | (.string bytes, d) => bytes.length + uptoBulk d + 1
  | (_, d) => uptoBulk d + 1
 end
def uptoSmall : (H : Type) → List (DataW H) → Bool := fun _ ds => decide (uptoBulkAll ds ≤ 1048576)
def OpenSpec.upto (s : _root_.Go.ChangeSpec) : _root_.Go.OpenSpec := { _root_.Go.OpenSpec.ofChange s with cond := some uptoSmall }

/-- 'futtocklaw34.RlePacks', WHERE WHAT IT READS IS OF BULK AT MOST 1048576: true; the input reads as it did. -/
def rlePacksUptoRow : OpenClaim := { program := "ythnlgcnbpngnpaa", sum := "c31d67be970fcfd67445ec0ef827d4de6b9cdcef02ecc98ce2c15b45f629c315", func := "futtock/futtocklaw34.RlePacks", spec := "rlePacks", unfollowed := true, recurses := true, apart := false, narrowed := true }
def RlePacksUptoSaid : Prop := rlePacksUptoRow.holds Try.pinned (OpenSpec.upto rlePacksSpec)

/-- 'futtocklaw34.RleShort', WHERE WHAT IT READS IS OF BULK AT MOST 1048576: true; the input reads as it did. -/
def rleShortUptoRow : OpenClaim := { program := "ythnlgcnbpngnpaa", sum := "c31d67be970fcfd67445ec0ef827d4de6b9cdcef02ecc98ce2c15b45f629c315", func := "futtock/futtocklaw34.RleShort", spec := "rleShort", unfollowed := true, recurses := true, apart := false, narrowed := true }
def RleShortUptoSaid : Prop := rleShortUptoRow.holds Try.pinned (OpenSpec.upto rleShortSpec)

/-- 'futtocklaw34.RleBack', WHERE WHAT IT READS IS OF BULK AT MOST 1048576: true; the input reads as it did. -/
def rleBackUptoRow : OpenClaim := { program := "ythnlgcnbpngnpaa", sum := "c31d67be970fcfd67445ec0ef827d4de6b9cdcef02ecc98ce2c15b45f629c315", func := "futtock/futtocklaw34.RleBack", spec := "rleBack", unfollowed := true, recurses := true, apart := false, narrowed := true }
def RleBackUptoSaid : Prop := rleBackUptoRow.holds Try.pinned (OpenSpec.upto rleBackSpec)

/-- 'futtocklaw34.RleUnpacks', WHERE WHAT IT READS IS OF BULK AT MOST 1048576: true; the input reads as it did. -/
def rleUnpacksUptoRow : OpenClaim := { program := "ythnlgcnbpngnpaa", sum := "c31d67be970fcfd67445ec0ef827d4de6b9cdcef02ecc98ce2c15b45f629c315", func := "futtock/futtocklaw34.RleUnpacks", spec := "rleUnpacks", unfollowed := true, recurses := true, apart := false, narrowed := true }
def RleUnpacksUptoSaid : Prop := rleUnpacksUptoRow.holds Try.pinned (OpenSpec.upto rleUnpacksSpec)

end Rows
end Go.Proofs.Ythnlgcnbpngnpaa
