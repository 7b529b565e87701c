/- Each operation of the model does what the plain machine's does: comparisons, conversions, parts, places. No condition of their own. -/
import Derived.Test.YthcibbfljcfheaaAbs6
namespace Go.Proofs.Ythcibbfljcfheaa.Abs
set_option linter.unusedVariables false
set_option linter.unusedSimpArgs false
open Go.RowKit

section
variable {P : Program} {w0 : World} {ρ : Rn} {H : AH} {w : World}

theorem str_sound {op : BinOp} {a b : ByteArray} {v : AV} (h : aStr op a b = some v) (T : TypeId) :
    (binOp op T (.string a) (.string b)).run P w = .ok (sv v) w ∧ VRel ρ v (sv v) := by
  cases op <;> simp only [aStr] at h <;> try cases h
  case add =>
    split at h
    · cases h
    · rename_i hn
      cases h
      exact ⟨by simp only [binOp, Op.stringOp, if_neg hn]; rfl, by unfold VRel; rfl⟩
  all_goals exact ⟨rfl, by unfold VRel; rfl⟩

/-- Arithmetic and comparisons of numbers and strings. -/
theorem bin_sound {op : BinOp} {x y v : AV} (h : aBin op x y = some v) {cx cy : Value} (hx : VRel ρ x cx) (hy : VRel ρ y cy) (T : TypeId) (ox oy : Operand) :
    (do eqGuard op T ox oy cx cy; binOp op T cx cy : Sem Value).run P w = .ok (sv v) w ∧ VRel ρ v (sv v) := by
  unfold aBin at h
  split at h
  · unfold VRel at hx hy
    subst hx; subst hy
    split at h
    · rename_i hk
      have := aInt_sound (P := P) (ρ := ρ) (w := w) hk h T
      exact ⟨by simp only [Sem.run_bind, eqGuard_int, Result.andThen_ok, this.1], this.2⟩
    · cases h
  · unfold VRel at hx hy
    subst hx; subst hy
    have := str_sound (P := P) (ρ := ρ) (w := w) h T
    exact ⟨by simp only [Sem.run_bind, eqGuard_string, Result.andThen_ok, this.1], this.2⟩
  · cases h

theorem bne_tf (r : Bool) : (r != true) = !r := by cases r <;> rfl
theorem bne_ff (r : Bool) : (r != false) = r := by cases r <;> rfl

/-- What '==' and '!=' come to, out of equality. -/
theorem eql_run {T : TypeId} {cx cy : Value} {r neg : Bool} (he : (Op.equal T cx cy).run P w = .ok r w)
    (hb : ∀ op, binOp op T cx cy = (match op with
      | .eql => (do pure (.bool (← Op.equal T cx cy)) : Sem Value)
      | .neq => (do pure (.bool (!(← Op.equal T cx cy))) : Sem Value)
      | op => binOp op T cx cy)) :
    (binOp (if neg then .neq else .eql) T cx cy).run P w = .ok (.bool (r != neg)) w := by
  cases neg
  · rw [hb]
    simp only [Bool.false_eq_true, if_false, Sem.run_bind, he, Result.andThen_ok, Sem.run_pure, bne_ff]
  · rw [hb]
    simp only [if_true, Sem.run_bind, he, Result.andThen_ok, Sem.run_pure, bne_tf]

theorem equal_run {T : TypeId} {cx cy : Value} {r : Bool} (h : ∀ d, (Op.equalIn (d + 1) T cx cy).run P w = .ok r w) : (Op.equal T cx cy).run P w = .ok r w := h 9999

theorem eqb_sound {T : TypeId} (hT : P.underlying T = some .bool) {neg : Bool} {a b : Bool} (ox oy : Operand) :
    (do eqGuard (if neg then .neq else .eql) T ox oy (.bool a) (.bool b); binOp (if neg then .neq else .eql) T (.bool a) (.bool b) : Sem Value).run P w = .ok (.bool ((a == b) != neg)) w := by
  have he : (Op.equal T (.bool a) (.bool b)).run P w = .ok (a == b) w := equal_run fun d => by simp only [Op.equalIn, Sem.run_bind, run_underlying hT, Result.andThen_ok, Sem.run_pure]
  simp only [Sem.run_bind, eqGuard_bool, Result.andThen_ok]
  exact eql_run he (fun op => by cases op <;> rfl)

/-- The types at which a value is compared with nil. -/
def tagOf : TypeDesc → Option Nat
  | .pointer _ => some 0
  | .slice _ => some 1
  | .map _ _ => some 2
  | .func _ _ _ => some 3
  | .interface _ => some 4
  | _ => none

theorem eqn_sound {T : TypeId} {d : TypeDesc} (hT : P.underlying T = some d) {tag : Nat} (htag : tagOf d = some tag) {neg : Bool} {x y : AV} {r : Bool} (h : aEqN tag x y = some r) {cx cy : Value} (hx : VRel ρ x cx) (hy : VRel ρ y cy) (ox oy : Operand) :
    (do eqGuard (if neg then .neq else .eql) T ox oy cx cy; binOp (if neg then .neq else .eql) T cx cy : Sem Value).run P w = .ok (.bool (r != neg)) w := by
  have hg : ∀ cx cy : Value, (∀ a, cx ≠ .agg a) → (cx ≠ .nilIface ∨ cy ≠ .nilIface) → (eqGuard (if neg then .neq else .eql) T ox oy cx cy).run P w = .ok () w := by
    intro cx cy h1 h2
    cases neg <;> (simp only [eqGuard, Bool.false_eq_true, if_false, if_true, Bool.not_true, Sem.run_bind, Sem.run_pure, Result.andThen_ok]; split <;> simp_all)
  have hb : ∀ (cx cy : Value), (∀ k n, cx ≠ .int k n) → (∀ k n, cx ≠ .float k n) → (∀ k n m, cx ≠ .complex k n m) → (∀ n, cx ≠ .string n) → ∀ op : BinOp, binOp op T cx cy = (match op with
      | .eql => (do pure (.bool (← Op.equal T cx cy)) : Sem Value)
      | .neq => (do pure (.bool (!(← Op.equal T cx cy))) : Sem Value)
      | op => binOp op T cx cy) := by
    intro cx cy h1 h2 h3 h4 op
    cases op <;> (try rfl) <;> (cases cx <;> first | rfl | exact absurd rfl (h1 _ _) | exact absurd rfl (h2 _ _) | exact absurd rfl (h3 _ _ _) | exact absurd rfl (h4 _))
  have hfin : ∀ cx cy : Value, ∀ r : Bool, (∀ a, cx ≠ .agg a) → (cx ≠ .nilIface ∨ cy ≠ .nilIface) → (∀ k n, cx ≠ .int k n) → (∀ k n, cx ≠ .float k n) → (∀ k n m, cx ≠ .complex k n m) → (∀ n, cx ≠ .string n) → (∀ d, (Op.equalIn (d + 1) T cx cy).run P w = .ok r w) →
      (do eqGuard (if neg then .neq else .eql) T ox oy cx cy; binOp (if neg then .neq else .eql) T cx cy : Sem Value).run P w = .ok (.bool (r != neg)) w := by
    intro cx cy r h1 h2 h3 h4 h5 h6 he
    simp only [Sem.run_bind, hg cx cy h1 h2, Result.andThen_ok]
    exact eql_run (equal_run he) (hb cx cy h3 h4 h5 h6)
  unfold aEqN at h
  split at h <;> (try cases h)
  · rename_i b
    cases d <;> simp only [tagOf] at htag <;> try cases htag
    unfold VRel at hx
    subst hx
    cases b with
    | none => unfold VRel at hy; subst hy; exact hfin _ _ _ (by simp) (by simp) (by simp) (by simp) (by simp) (by simp) fun d => by simp only [Op.equalIn, Sem.run_bind, run_underlying hT, Result.andThen_ok, Sem.run_pure]; rfl
    | some z => obtain ⟨b, o⟩ := z; unfold VRel at hy; obtain ⟨_, _, _, _, rfl⟩ := hy; exact hfin _ _ _ (by simp) (by simp) (by simp) (by simp) (by simp) (by simp) fun d => by simp only [Op.equalIn, Sem.run_bind, run_underlying hT, Result.andThen_ok, Sem.run_pure]; rfl
  · rename_i z
    cases d <;> simp only [tagOf] at htag <;> try cases htag
    obtain ⟨b, o⟩ := z
    unfold VRel at hx hy
    obtain ⟨_, _, _, _, rfl⟩ := hx
    subst hy
    exact hfin _ _ _ (by simp) (by simp) (by simp) (by simp) (by simp) (by simp) fun d => by simp only [Op.equalIn, Sem.run_bind, run_underlying hT, Result.andThen_ok, Sem.run_pure]
  · rename_i b _ _ _ _
    cases d <;> simp only [tagOf] at htag <;> try cases htag
    unfold VRel at hx
    obtain ⟨_, _, _, rfl⟩ := hx
    cases b with
    | none => unfold VRel at hy; obtain ⟨_, _, _, rfl⟩ := hy; exact hfin _ _ _ (by simp) (by simp) (by simp) (by simp) (by simp) (by simp) fun d => by simp only [Op.equalIn, Sem.run_bind, run_underlying hT, Result.andThen_ok, Sem.run_pure]; rfl
    | some z => obtain ⟨b, o⟩ := z; unfold VRel at hy; obtain ⟨_, _, _, _, _, _, rfl, _⟩ := hy; exact hfin _ _ _ (by simp) (by simp) (by simp) (by simp) (by simp) (by simp) fun d => by simp only [Op.equalIn, Sem.run_bind, run_underlying hT, Result.andThen_ok, Sem.run_pure]; rfl
  · rename_i z _ _ _ _ _ _ _ _
    cases d <;> simp only [tagOf] at htag <;> try cases htag
    obtain ⟨b, o⟩ := z
    unfold VRel at hx hy
    obtain ⟨_, _, _, _, _, _, rfl, _⟩ := hx
    obtain ⟨_, _, _, rfl⟩ := hy
    exact hfin _ _ _ (by simp) (by simp) (by simp) (by simp) (by simp) (by simp) fun d => by simp only [Op.equalIn, Sem.run_bind, run_underlying hT, Result.andThen_ok, Sem.run_pure]
  · rename_i b
    cases d <;> simp only [tagOf] at htag <;> try cases htag
    unfold VRel at hx
    subst hx
    cases b with
    | none => unfold VRel at hy; subst hy; exact hfin _ _ _ (by simp) (by simp) (by simp) (by simp) (by simp) (by simp) fun d => by simp only [Op.equalIn, Sem.run_bind, run_underlying hT, Result.andThen_ok, Sem.run_pure]
    | some z => unfold VRel at hy; obtain ⟨_, _, _, _, rfl⟩ := hy; exact hfin _ _ _ (by simp) (by simp) (by simp) (by simp) (by simp) (by simp) fun d => by simp only [Op.equalIn, Sem.run_bind, run_underlying hT, Result.andThen_ok, Sem.run_pure]; rfl
  · rename_i z
    cases d <;> simp only [tagOf] at htag <;> try cases htag
    unfold VRel at hx hy
    obtain ⟨_, _, _, _, rfl⟩ := hx
    subst hy
    exact hfin _ _ _ (by simp) (by simp) (by simp) (by simp) (by simp) (by simp) fun d => by simp only [Op.equalIn, Sem.run_bind, run_underlying hT, Result.andThen_ok, Sem.run_pure]
  · cases d <;> simp only [tagOf] at htag <;> try cases htag
    unfold VRel at hx hy
    subst hx; subst hy
    exact hfin _ _ _ (by simp) (by simp) (by simp) (by simp) (by simp) (by simp) fun d => by simp only [Op.equalIn, Sem.run_bind, run_underlying hT, Result.andThen_ok, Sem.run_pure]
  · cases d <;> simp only [tagOf] at htag <;> try cases htag
    obtain ⟨_, _, _, rfl⟩ := hy.fn_is
    unfold VRel at hx
    subst hx
    exact hfin _ _ _ (by simp) (by simp) (by simp) (by simp) (by simp) (by simp) fun d => by simp only [Op.equalIn, Sem.run_bind, run_underlying hT, Result.andThen_ok, Sem.run_pure]
  · cases d <;> simp only [tagOf] at htag <;> try cases htag
    obtain ⟨_, _, _, rfl⟩ := hx.fn_is
    unfold VRel at hy
    subst hy
    exact hfin _ _ _ (by simp) (by simp) (by simp) (by simp) (by simp) (by simp) fun d => by simp only [Op.equalIn, Sem.run_bind, run_underlying hT, Result.andThen_ok, Sem.run_pure]
  · cases d <;> simp only [tagOf] at htag <;> try cases htag
    unfold VRel at hx hy
    subst hx
    obtain ⟨_, rfl, _⟩ := hy
    exact hfin _ _ _ (by simp) (by simp) (by simp) (by simp) (by simp) (by simp) fun d => by simp only [Op.equalIn, Sem.run_bind, run_underlying hT, Result.andThen_ok, Sem.run_pure]
  · cases d <;> simp only [tagOf] at htag <;> try cases htag
    unfold VRel at hx hy
    subst hy
    obtain ⟨_, rfl, _⟩ := hx
    exact hfin _ _ _ (by simp) (by simp) (by simp) (by simp) (by simp) (by simp) fun d => by simp only [Op.equalIn, Sem.run_bind, run_underlying hT, Result.andThen_ok, Sem.run_pure]

end
end Go.Proofs.Ythcibbfljcfheaa.Abs
