/- What was there is there still. No condition of its own. -/
import Derived.Test.YthcibbfljcfheaaEval
namespace Go.Proofs.Ythcibbfljcfheaa.Abs
/-- What was there is there still. -/
def Keeps (H H' : AH) : Prop := H.n ≤ H'.n ∧ ∀ b, b < H.n → H'.o b = H.o b
theorem Keeps.refl (H : AH) : Keeps H H := ⟨Nat.le_refl _, fun _ _ => rfl⟩
theorem Keeps.trans {H1 H2 H3 : AH} (h : Keeps H1 H2) (k : Keeps H2 H3) : Keeps H1 H3 := ⟨Nat.le_trans h.1 k.1, fun b hb => (k.2 b (Nat.lt_of_lt_of_le hb h.1)).trans (h.2 b hb)⟩
theorem Keeps.new {H H' : AH} (h : Keeps H H') {x : AObj} : Keeps H (H'.new x) := ⟨Nat.le_trans h.1 (Nat.le_succ _), fun b hb => by rw [AH_new_o, if_neg (by have := h.1; omega)]; exact h.2 b hb⟩
theorem Keeps.set {H H' : AH} (h : Keeps H H') {a : Nat} {x : AObj} (ha : H.n ≤ a) : Keeps H (H'.set a x) := ⟨h.1, fun b hb => by rw [AH_set_o, if_neg (by omega)]; exact h.2 b hb⟩
theorem Keeps.all {r : Option (AV × AH)} {v : AV} {H : AH} (h : ∃ H', r = some (v, H') ∧ Keeps H H') : ∃ H', r = some (v, H') := h.elim fun H' h => ⟨H', h.1⟩
end Go.Proofs.Ythcibbfljcfheaa.Abs
