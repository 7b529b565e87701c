/- alive answers true; how long the bytes are. No condition of its own. -/
import Derived.Test.YthnlgcnbpngnpaaQ5
namespace Go.Proofs.Ythnlgcnbpngnpaa.Q
open Go.RowKit Go.Proofs.YthnlgcnbpngnpaaW.PrintWords Go.Proofs.YthnlgcnbpngnpaaW.PrintLast Go.Proofs.YthnlgcnbpngnpaaW.PrintMore
theorem calls110 : callsN [1, 1, 0] ([1, 1, 0] : List Int).length = [(1, 2), (0, 1)] := by decide
theorem bs110 : bsN [(1, 2), (0, 1)] = [82, 17, 8] := by
  show ([82] ++ bytesF 1 2) ++ bytesF 0 1 = _
  rw [bytesF_pos 1 (by decide), bytesF_nil 1 (by decide), bytesF_pos 0 (by decide), bytesF_nil 0 (by decide)]
  decide
theorem alive_true : futtocklaw34_alive.f = some true := by
  unfold futtocklaw34_alive.f rle_Pack.f rle_Longest.f rle_Runs.f
  rw [calls110, bs110]
  decide
theorem bsN_many (l : List Int) : ∀ i, (callsN l i).length + 1 ≤ (bsN (callsN l i)).length
  | 0 => Nat.le_refl 1
  | i + 1 => by
    have h := bsN_many l i
    have hf := fromN_le l i
    simp only [callsN]
    split
    · rw [bsN_snoc, List.length_append, List.length_append, List.length_singleton, bytesF_pos _ (by omega), List.length_cons]
      omega
    · exact h
end Go.Proofs.Ythnlgcnbpngnpaa.Q
