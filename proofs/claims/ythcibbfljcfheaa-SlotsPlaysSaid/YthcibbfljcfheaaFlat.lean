/- Rows of elements of some cells each: one cell read, some cells turned. No condition of their own. -/
import Derived.Test.YthcibbfljcfheaaIsin
namespace Go.Proofs.Ythcibbfljcfheaa.Abs
set_option linter.unusedVariables false
theorem flat_length {α : Type} {f : α → List AV} {sz : Nat} (hf : ∀ a, (f a).length = sz) : ∀ l : List α, (l.flatMap f).length = l.length * sz
  | [] => by simp
  | a :: l => by rw [List.flatMap_cons, List.length_append, hf, flat_length hf l, List.length_cons, Nat.succ_mul]; omega
theorem flat_get {α : Type} {f : α → List AV} {sz : Nat} (hf : ∀ a, (f a).length = sz) {l : List α} {i j : Nat} {a : α} (h : l[i]? = some a) (hj : j < sz) : (l.flatMap f)[i * sz + j]? = (f a)[j]? := by
  have := (flat_at hf l i a h).1
  rw [← this, List.getElem?_take, if_pos hj, List.getElem?_drop]
theorem flat_set {α : Type} {f : α → List AV} {sz : Nat} (hf : ∀ a, (f a).length = sz) {l : List α} {i j : Nat} {a a' : α} {vs : List AV} (h : l[i]? = some a) (hj : j + vs.length ≤ sz) (ha : f a' = setR (f a) j vs) :
    setR (l.flatMap f) (i * sz + j) vs = (l.set i a').flatMap f := by
  have hi : i < l.length := (List.getElem?_eq_some_iff.1 h).1
  have ha0 : l[i] = a := (List.getElem?_eq_some_iff.1 h).2
  have hl : l = l.take i ++ a :: l.drop (i + 1) := by
    rw [← ha0, ← List.drop_eq_getElem_cons hi, List.take_append_drop]
  have hp : ((l.take i).flatMap f).length = i * sz := by rw [flat_length hf, List.length_take, Nat.min_eq_left (by omega)]
  rw [List.set_eq_take_append_cons_drop, if_pos hi, List.flatMap_append, List.flatMap_cons, ha]
  conv => lhs; rw [hl]
  rw [List.flatMap_append, List.flatMap_cons]
  unfold setR
  rw [← hp, List.take_append, List.take_of_length_le (by omega), Nat.add_sub_cancel_left, List.take_append_of_le_length (by rw [hf]; omega)]
  rw [Nat.add_assoc, ← List.drop_drop, List.drop_left, List.drop_append_of_le_length (by rw [hf]; omega)]
  simp only [List.append_assoc]
end Go.Proofs.Ythcibbfljcfheaa.Abs
