/- Objects that are none of the table's. No condition of its own. -/
import Derived.Test.YtldbijgldfeolaaTell
namespace Go.Proofs.Ytldbijgldfeolaa.Abs
set_option linter.unusedSimpArgs false
set_option linter.unusedVariables false
/-- An object that is none of the table's. -/
structure Fix (H : AH) (m r : Nat) (v : AV) (c : Nat) : Prop where
  lt : c < H.n
  m : c ≠ m
  r : c ≠ r
  v : blk v ≠ some c
section
variable {H H' : AH} {m r c : Nat} {v v' : AV} {S : Set4} {L : List OR} {ex : Option Int}
theorem Fix.after (h : Fix H m r v c) (n2 : H.n ≤ H'.n) (b2 : ∀ b, blk v' = some b → blk v = some b ∨ H.n ≤ b) : Fix H' m r v' c :=
  ⟨Nat.lt_of_lt_of_le h.lt n2, h.m, h.r, fun e => (b2 c e).elim h.v (fun h' => by have := h.lt; omega)⟩
theorem Fix.keeps (h : Fix H m r v c) (k : Keeps H H') : Fix H' m r v c := ⟨Nat.lt_of_lt_of_le h.lt k.1, h.m, h.r, h.v⟩
theorem IsT.fix (h : IsT H m r v S L ex) {cs : List AV} (hc : H.o c = some (.row true cs)) (lt : c < H.n) : Fix H m r v c := by
  refine ⟨lt, ?_, ?_, ?_⟩
  · rintro rfl; rw [h.o] at hc; cases hc
  · rintro rfl; obtain ⟨ml, h1, _⟩ := h.p; rw [h1.o] at hc; cases hc
  · intro e
    rcases h.t.2 with ⟨e', _⟩ | ⟨b, o, lo, ex, full, e', _, hr, _⟩
    · rw [e'] at e; cases e
    · rw [e'] at e; cases e; rw [hc] at hr; cases hr
theorem IsT.fixN (h : IsT H m r v S L ex) {x : AObj} : Fix (H.new x) m r v H.n := by
  have h1 := h.lm
  have h2 := h.lr
  exact ⟨Nat.lt_succ_self _, by omega, by omega, fun e => by have := h.t.old e; omega⟩
end
theorem RowsOk.help {S : Set4} {L : List OR} (h : RowsOk S L) (hS : S.ok) (hnd : (kys L).Nodup) (o n : Int) : RowsOk S (helpL S L o n) := by
  unfold helpL
  split
  · rename_i hb
    unfold helpB at hb
    simp only [Bool.and_eq_true, Bool.not_eq_true', decide_eq_false_iff_not] at hb
    exact h.note hnd o ((h.get hS o).hlpd hS (by omega))
  · exact h
theorem RowsOk.fail {S : Set4} {L : List OR} (h : RowsOk S L) (hS : S.ok) (hnd : (kys L).Nodup) (o : Int) : RowsOk S (failL S L o) := by
  unfold failL
  split
  · exact h.note hnd o ((h.get hS o).fld hS)
  · exact h
end Go.Proofs.Ytldbijgldfeolaa.Abs
