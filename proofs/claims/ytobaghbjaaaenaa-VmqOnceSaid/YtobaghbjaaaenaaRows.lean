/-
  No cell of these rows narrows 'for every input' (looked for: loops, veiled, ifaces, maps, wideKeys, modest, calm, conditions, laid).
  DERIVED. THE GIVEN ROWS OF THIS SEAT. 4 by the template 'for every input the law returns true; each argument reads behind the call as it read before'; 0 by the template 'total and deterministic' (their statements: YtobaghbjaaaenaaTotals.lean).
  GIVEN WITH THE SEED: the statements are not yours to turn. If you find one false, say at which input.
  Laid BY PROGRAM, IN A SANDBOX (cutbox-rows.mjs): the forced cells as the released guide's own fill.sh prints them over the translation 9907a4446294d61a… (all of the seat's roots in one cut). By AI agents, Wed Nov 11 2026. No macro, syntax, notation, axiom, sorry.
-/
import Derived.Test.YtobaghbjaaaenaaChecked
import GoSem.Claim
import GoSem.ClaimJoined
import GoSem.ClaimMapViews
import Derived.JoinedTies
import Derived.KernelRfl
namespace Go.Proofs.Ytobaghbjaaaenaa
/- THE CELL 'sum', in the pinned program and in every row, IS THE sha256 OF THE DUMP (.gsa) THAT YtobaghbjaaaenaaProg.lean LOADS. Nothing in Lean hashes anything: it is a label: what it is worth is what the hold of that sum in a sandbox is worth. -/
noncomputable def Try.pinned : Pinned := { name := "ytobaghbjaaaenaa", sum := "9907a4446294d61aaaef0b6f18be3004adf32ea24db62d36ba5c29c4d3a3a161", checked := Try.checked }
namespace Rows
def none {H : Type} : Left H := { results := [], args := [] }

/-- 'futtocklaw18.VmqPlays': WHATEVER THE INPUT: true; the input reads as it did. -/
def vmqPlaysSpec : ChangeSpec := { name := "vmqPlays", fn := fun _ => fun
  | [d] => { results := [.lit (.bool true)], args := [d] }
  | _ => none }
def vmqPlaysRow : OpenClaim := { program := "ytobaghbjaaaenaa", sum := "9907a4446294d61aaaef0b6f18be3004adf32ea24db62d36ba5c29c4d3a3a161", func := "futtock/futtocklaw18.VmqPlays", spec := "vmqPlays", plainKeys := false, apart := false }
def VmqPlaysSaid : Prop := vmqPlaysRow.holds Try.pinned (OpenSpec.ofChange vmqPlaysSpec)

/-- ITS FALSE NEIGHBOUR: 'it returns false'. Refute it at one input. -/
def vmqPlaysWrong : ChangeSpec := { name := "vmqPlays", fn := fun _ => fun
  | [d] => { results := [.lit (.bool false)], args := [d] }
  | _ => none }
def VmqPlaysWrongFalsely : Prop := vmqPlaysRow.holds Try.pinned (OpenSpec.ofChange vmqPlaysWrong)

/-- 'futtocklaw18.VmqOnce': WHATEVER THE INPUT: true; the input reads as it did. -/
def vmqOnceSpec : ChangeSpec := { name := "vmqOnce", fn := fun _ => fun
  | [d] => { results := [.lit (.bool true)], args := [d] }
  | _ => none }
def vmqOnceRow : OpenClaim := { program := "ytobaghbjaaaenaa", sum := "9907a4446294d61aaaef0b6f18be3004adf32ea24db62d36ba5c29c4d3a3a161", func := "futtock/futtocklaw18.VmqOnce", spec := "vmqOnce", unfollowed := true, recurses := true, plainKeys := false, apart := false }
def VmqOnceSaid : Prop := vmqOnceRow.holds Try.pinned (OpenSpec.ofChange vmqOnceSpec)

/-- ITS FALSE NEIGHBOUR: 'it returns false'. Refute it at one input. -/
def vmqOnceWrong : ChangeSpec := { name := "vmqOnce", fn := fun _ => fun
  | [d] => { results := [.lit (.bool false)], args := [d] }
  | _ => none }
def VmqOnceWrongFalsely : Prop := vmqOnceRow.holds Try.pinned (OpenSpec.ofChange vmqOnceWrong)

/-- 'futtocklaw18.VmqNobody': WHATEVER THE INPUT: true; the input reads as it did. -/
def vmqNobodySpec : ChangeSpec := { name := "vmqNobody", fn := fun _ => fun
  | [d] => { results := [.lit (.bool true)], args := [d] }
  | _ => none }
def vmqNobodyRow : OpenClaim := { program := "ytobaghbjaaaenaa", sum := "9907a4446294d61aaaef0b6f18be3004adf32ea24db62d36ba5c29c4d3a3a161", func := "futtock/futtocklaw18.VmqNobody", spec := "vmqNobody", plainKeys := false, apart := false }
def VmqNobodySaid : Prop := vmqNobodyRow.holds Try.pinned (OpenSpec.ofChange vmqNobodySpec)

/-- ITS FALSE NEIGHBOUR: 'it returns false'. Refute it at one input. -/
def vmqNobodyWrong : ChangeSpec := { name := "vmqNobody", fn := fun _ => fun
  | [d] => { results := [.lit (.bool false)], args := [d] }
  | _ => none }
def VmqNobodyWrongFalsely : Prop := vmqNobodyRow.holds Try.pinned (OpenSpec.ofChange vmqNobodyWrong)

/-- 'futtocklaw18.VmqRooms': WHATEVER THE INPUT: true; the input reads as it did. -/
def vmqRoomsSpec : ChangeSpec := { name := "vmqRooms", fn := fun _ => fun
  | [d1, d2] => { results := [.lit (.bool true)], args := [d1, d2] }
  | _ => none }
def vmqRoomsRow : OpenClaim := { program := "ytobaghbjaaaenaa", sum := "9907a4446294d61aaaef0b6f18be3004adf32ea24db62d36ba5c29c4d3a3a161", func := "futtock/futtocklaw18.VmqRooms", spec := "vmqRooms", plainKeys := false, apart := false }
def VmqRoomsSaid : Prop := vmqRoomsRow.holds Try.pinned (OpenSpec.ofChange vmqRoomsSpec)

/-- ITS FALSE NEIGHBOUR: 'it returns false'. Refute it at one input. -/
def vmqRoomsWrong : ChangeSpec := { name := "vmqRooms", fn := fun _ => fun
  | [d1, d2] => { results := [.lit (.bool false)], args := [d1, d2] }
  | _ => none }
def VmqRoomsWrongFalsely : Prop := vmqRoomsRow.holds Try.pinned (OpenSpec.ofChange vmqRoomsWrong)

/- THE SECOND FORM. 'bulk': how many values and letters a reading holds, each counted each time it is reached (what is shared counts as often as it is met; a slice's spare places count too). A statement '..UptoSaid' is the law's where the arguments, and the package variables that the reading takes, are together of bulk at most 1048576: NARROWER than '..Said'. Prove '..Said' where nothing that the law and all that it calls make is longer than what came in: it says more and counts as full. Else prove '..UptoSaid'. A law counts once. -/
mutual
def uptoBulk {H : Type} : DataW H → Nat
  | .lit (.string bytes) => bytes.length + 1
  | .lit _ => 1
  | .nil => 1
  | .ptr d => uptoBulk d + 1
  | .slice elems spare => uptoBulkAll elems + uptoBulkAll spare + 1
  | .agg parts => uptoBulkAll parts + 1
  | .iface _ d => uptoBulk d + 1
  | .map entries => uptoBulkEntries entries + 1
  | .held _ => 1
def uptoBulkAll {H : Type} : List (DataW H) → Nat
  | [] => 0
  | d :: r => uptoBulk d + uptoBulkAll r
def uptoBulkEntries {H : Type} : List (Lit × DataW H) → Nat
  | [] => 0
  | x :: r => uptoBulkEntry x + uptoBulkEntries r
def uptoBulkEntry {H : Type} : Lit × DataW H → Nat
  | (.string bytes, d) => bytes.length + uptoBulk d + 1
  | (_, d) => uptoBulk d + 1
 end
def uptoSmall : (H : Type) → List (DataW H) → Bool := fun _ ds => decide (uptoBulkAll ds ≤ 1048576)
def OpenSpec.upto (s : _root_.Go.ChangeSpec) : _root_.Go.OpenSpec := { _root_.Go.OpenSpec.ofChange s with cond := some uptoSmall }

/-- 'futtocklaw18.VmqPlays', WHERE WHAT IT READS IS OF BULK AT MOST 1048576: true; the input reads as it did. -/
def vmqPlaysUptoRow : OpenClaim := { program := "ytobaghbjaaaenaa", sum := "9907a4446294d61aaaef0b6f18be3004adf32ea24db62d36ba5c29c4d3a3a161", func := "futtock/futtocklaw18.VmqPlays", spec := "vmqPlays", plainKeys := false, apart := false, narrowed := true }
def VmqPlaysUptoSaid : Prop := vmqPlaysUptoRow.holds Try.pinned (OpenSpec.upto vmqPlaysSpec)

/-- 'futtocklaw18.VmqOnce', WHERE WHAT IT READS IS OF BULK AT MOST 1048576: true; the input reads as it did. -/
def vmqOnceUptoRow : OpenClaim := { program := "ytobaghbjaaaenaa", sum := "9907a4446294d61aaaef0b6f18be3004adf32ea24db62d36ba5c29c4d3a3a161", func := "futtock/futtocklaw18.VmqOnce", spec := "vmqOnce", unfollowed := true, recurses := true, plainKeys := false, apart := false, narrowed := true }
def VmqOnceUptoSaid : Prop := vmqOnceUptoRow.holds Try.pinned (OpenSpec.upto vmqOnceSpec)

/-- 'futtocklaw18.VmqNobody', WHERE WHAT IT READS IS OF BULK AT MOST 1048576: true; the input reads as it did. -/
def vmqNobodyUptoRow : OpenClaim := { program := "ytobaghbjaaaenaa", sum := "9907a4446294d61aaaef0b6f18be3004adf32ea24db62d36ba5c29c4d3a3a161", func := "futtock/futtocklaw18.VmqNobody", spec := "vmqNobody", plainKeys := false, apart := false, narrowed := true }
def VmqNobodyUptoSaid : Prop := vmqNobodyUptoRow.holds Try.pinned (OpenSpec.upto vmqNobodySpec)

/-- 'futtocklaw18.VmqRooms', WHERE WHAT IT READS IS OF BULK AT MOST 1048576: true; the input reads as it did. -/
def vmqRoomsUptoRow : OpenClaim := { program := "ytobaghbjaaaenaa", sum := "9907a4446294d61aaaef0b6f18be3004adf32ea24db62d36ba5c29c4d3a3a161", func := "futtock/futtocklaw18.VmqRooms", spec := "vmqRooms", plainKeys := false, apart := false, narrowed := true }
def VmqRoomsUptoSaid : Prop := vmqRoomsUptoRow.holds Try.pinned (OpenSpec.upto vmqRoomsSpec)

end Rows
end Go.Proofs.Ytobaghbjaaaenaa
