/- Slices that came in, in the plain machine's heap. No condition of its own. -/
import Derived.Test.YthcibbfljcfheaaCode
import Derived.Test.YthcibbfljcfheaaKeeps
namespace Go.Proofs.Ythcibbfljcfheaa.Abs
set_option linter.unusedVariables false

/-- A slice of the plain machine that came in: n elements of sz cells, cs. -/
def IsIn (H : AH) (x : AV) (sz n : Nat) (cs : List AV) : Prop :=
  (n = 0 ∧ x = .sl none 0 0 true sz) ∨ ∃ b, x = .sl (some (b, 0)) n n false sz ∧ b < H.n ∧ H.o b = some (.row true cs)

/-- An element of a slice of elements of sz cells. -/
theorem flat_at {α : Type} {f : α → List AV} {sz : Nat} (hf : ∀ a, (f a).length = sz) : ∀ (l : List α) (i : Nat) (a : α), l[i]? = some a → ((l.flatMap f).drop (i * sz)).take sz = f a ∧ i * sz + sz ≤ (l.flatMap f).length
  | [], i, a, h => by simp at h
  | x :: l, 0, a, h => by
    simp at h
    subst h
    rw [Nat.zero_mul, List.drop_zero, List.flatMap_cons, List.take_left' (hf x)]
    exact ⟨rfl, by simp [hf]⟩
  | x :: l, i + 1, a, h => by
    have := flat_at hf l i a (by simpa using h)
    rw [List.flatMap_cons, show (i + 1) * sz = (f x).length + i * sz by rw [hf, Nat.succ_mul]; omega, ← List.drop_drop, List.drop_left]
    refine ⟨this.1, ?_⟩
    rw [List.length_append, Nat.add_assoc]
    exact Nat.add_le_add_left this.2 _
end Go.Proofs.Ythcibbfljcfheaa.Abs
