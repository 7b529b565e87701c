/- slices.Insert's contracts of the shelf at this program: the renaming, and what it asks. No condition of its own. -/
import Derived.Shelf.Spec.SlicesInsertGrow
import Derived.Test.YthcibbfljcfheaaProg
namespace Go.Proofs
open Go.Shelf
def Try.ins36_ren : Go.Shelf.Ren := ⟨fun | 21 => 36 | 27 => 41 | 28 => 42 | 35 => 44 | 39 => 45 | n => n, fun | 22 => 36 | n => n, fun | n => n⟩
theorem Try.ins36 : Go.Proofs.Lays2.n21 Try.prog Try.ins36_ren := {
  mixed := by kernel_rfl
  f21 := Try.func36.trans (congrArg some (by kernel_rfl))
  f27 := Try.func41.trans (congrArg some (by kernel_rfl))
  f28 := Try.func42.trans (congrArg some (by kernel_rfl))
  f35 := Try.func44.trans (congrArg some (by kernel_rfl))
  f39 := Try.func45.trans (congrArg some (by kernel_rfl))
  t0 := Try.underlying0
  a0 := Try.isAgg0
  z0 := Try.sizeOf0
  v0 := Try.zeroValue0
  t3 := Try.underlying3
  a3 := Try.isAgg3
  z3 := Try.sizeOf3
  v3 := Try.zeroValue3
  t4 := Try.underlying4
  a4 := Try.isAgg4
  z4 := Try.sizeOf4
  v4 := Try.zeroValue4
  t22 := Try.underlying36
  a22 := Try.isAgg36
  z22 := Try.sizeOf36
  v22 := Try.zeroValue36
  i3 := by kernel_rfl }
end Go.Proofs
