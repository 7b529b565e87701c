/- Each operation of the model does what the plain machine's does: equality of structs and arrays of scalars. No condition of their own. -/
import Derived.Test.YthcibbfljcfheaaAbs11
import Derived.Laws.StructEq
import Derived.ChangeKeysEq
namespace Go.Proofs.Ythcibbfljcfheaa.Abs
set_option linter.unusedVariables false
set_option linter.unusedSimpArgs false
open Go.RowKit

section
variable {P : Program} {w0 : World} {ρ : Rn} {H : AH} {w : World}

/-- A scalar's type is no aggregate. -/
theorem scalar_agg {t : TypeId} {k : Nat} (h : cscalar P t = some k) (w : World) : (isAgg t).run P w = .ok false w := by
  unfold cscalar at h
  split at h <;> (try cases h) <;> (rename_i h1; simp [isAgg, run_underlying h1])

/-- The scalar of a kind. -/
def isK : Nat → AV → Prop
  | 0, .i _ _ => True
  | 1, .b _ => True
  | 2, .s _ => True
  | _, _ => False

/-- Equality of two scalars. -/
theorem scalar_eq {t : TypeId} {k : Nat} (h : cscalar P t = some k) {x y : AV} {r : Bool} {ks : List Nat} {xs ys : List AV} (he : aEqC (k :: ks) (x :: xs) (y :: ys) = some r) {cx cy : Value} (hx : VRel ρ x cx) (hy : VRel ρ y cy) (d : Nat) :
    ∃ q r', (Op.equalIn (d + 1) t cx cy).run P w = .ok q w ∧ aEqC ks xs ys = some r' ∧ r = (q && r') := by
  unfold cscalar at h
  split at h <;> (try cases h)
  · rename_i k h1
    cases x <;> cases y <;> simp only [aEqC] at he <;> try cases he
    rename_i k1 a k2 b
    split at he
    · rename_i hk
      subst hk
      split at he
      · rename_i r' hr'
        cases he
        unfold VRel at hx hy
        subst hx; subst hy
        exact ⟨a == b, r', by simp only [Op.equalIn, Sem.run_bind, run_underlying h1, Result.andThen_ok, if_true, Sem.run_pure], hr', rfl⟩
      · cases he
    · cases he
  · rename_i h1
    cases x <;> cases y <;> simp only [aEqC] at he <;> try cases he
    rename_i a b
    split at he
    · rename_i r' hr'
      cases he
      unfold VRel at hx hy
      subst hx; subst hy
      exact ⟨a == b, r', by simp only [Op.equalIn, Sem.run_bind, run_underlying h1, Result.andThen_ok, Sem.run_pure], hr', rfl⟩
    · cases he
  · rename_i h1
    cases x <;> cases y <;> simp only [aEqC] at he <;> try cases he
    rename_i a b
    split at he
    · rename_i r' hr'
      cases he
      unfold VRel at hx hy
      subst hx; subst hy
      exact ⟨a == b, r', by simp only [Op.equalIn, Sem.run_bind, run_underlying h1, Result.andThen_ok, Sem.run_pure], hr', rfl⟩
    · cases he

theorem aEqC_len : ∀ {ks : List Nat} {xs ys : List AV} {r : Bool}, aEqC ks xs ys = some r → xs.length = ks.length ∧ ys.length = ks.length := by
  intro ks xs ys
  fun_induction aEqC ks xs ys <;> intro r h <;> simp_all

theorem eqF_sound {xs ys : List AV} {cx cy : Array Value} (hx : VRels ρ xs cx.toList) (hy : VRels ρ ys cy.toList) (d : Nat) : ∀ (fs : List Field) (o : Nat) {ks : List Nat} {r : Bool}, cflatF P o fs = some ks → aEqC ks (xs.drop o) (ys.drop o) = some r →
    (Op.eqFields (d + 1) cx cy fs).run P w = .ok r w
  | [], o, ks, r, h, he => by
    unfold cflatF at h
    cases h
    have hl := aEqC_len he
    rw [List.length_eq_zero_iff.mp hl.1, List.length_eq_zero_iff.mp hl.2] at he
    unfold aEqC at he
    cases he
    rfl
  | f :: fs, o, ks, r, h, he => by
    unfold cflatF at h
    split at h
    case h_2 => cases h
    rename_i k ks' h1 h2
    split at h
    case isFalse => cases h
    rename_i hc
    cases h
    have hl := aEqC_len he
    simp only [List.length_drop, List.length_cons] at hl
    have ex : xs.drop o = xs[o] :: xs.drop (o + 1) := (List.drop_eq_getElem_cons (by omega))
    have ey : ys.drop o = ys[o] :: ys.drop (o + 1) := (List.drop_eq_getElem_cons (by omega))
    rw [ex, ey] at he
    obtain ⟨vx, hvx, hrx⟩ := hx.get o (List.getElem?_eq_getElem (by omega))
    obtain ⟨vy, hvy, hry⟩ := hy.get o (List.getElem?_eq_getElem (by omega))
    obtain ⟨q, r', e1, e2, e3⟩ := scalar_eq (P := P) (w := w) h1 he hrx hry d
    have hvx' : cx[f.offset]? = some vx := by rw [← Array.getElem?_toList, hc.1]; exact hvx
    have hvy' : cy[f.offset]? = some vy := by rw [← Array.getElem?_toList, hc.1]; exact hvy
    have hn : f.name ≠ "_" := by intro e; rw [e] at hc; simp at hc
    simp only [Op.eqFields, if_pos hn, Sem.run_bind, part, scalar_agg h1, Result.andThen_ok, Bool.false_eq_true, if_false, hvx', hvy', Sem.run_pure, e1]
    cases q with
    | true =>
      simp only [Bool.not_true, Bool.false_eq_true, if_false]
      rw [eqF_sound hx hy d fs (o + 1) h2 e2, e3]
      rfl
    | false =>
      simp only [Bool.not_false, if_true, Sem.run_pure, e3, Bool.false_and]

theorem eqI_sound {xs ys : List AV} {cx cy : Array Value} (hx : VRels ρ xs cx.toList) (hy : VRels ρ ys cy.toList) {e : TypeId} {k : Nat} (hk : cscalar P e = some k) (d : Nat) : ∀ (n o : Nat) {r : Bool}, aEqC (List.replicate n k) (xs.drop o) (ys.drop o) = some r →
    (Op.eqItems (d + 1) e 1 cx cy (List.range' o n)).run P w = .ok r w
  | 0, o, r, he => by
    have hl := aEqC_len he
    simp only [List.replicate_zero, List.length_nil] at hl
    rw [List.length_eq_zero_iff.mp hl.1, List.length_eq_zero_iff.mp hl.2] at he
    simp only [List.replicate_zero, aEqC] at he
    cases he
    rfl
  | n + 1, o, r, he => by
    rw [List.replicate_succ] at he
    have hl := aEqC_len he
    simp only [List.length_drop, List.length_cons, List.length_replicate] at hl
    have ex : xs.drop o = xs[o] :: xs.drop (o + 1) := (List.drop_eq_getElem_cons (by omega))
    have ey : ys.drop o = ys[o] :: ys.drop (o + 1) := (List.drop_eq_getElem_cons (by omega))
    rw [ex, ey] at he
    obtain ⟨vx, hvx, hrx⟩ := hx.get o (List.getElem?_eq_getElem (by omega))
    obtain ⟨vy, hvy, hry⟩ := hy.get o (List.getElem?_eq_getElem (by omega))
    obtain ⟨q, r', e1, e2, e3⟩ := scalar_eq (P := P) (w := w) hk he hrx hry d
    have hvx' : cx[o * 1]? = some vx := by rw [← Array.getElem?_toList, Nat.mul_one]; exact hvx
    have hvy' : cy[o * 1]? = some vy := by rw [← Array.getElem?_toList, Nat.mul_one]; exact hvy
    rw [List.range'_succ]
    simp only [Op.eqItems, Sem.run_bind, part, scalar_agg hk, Result.andThen_ok, Bool.false_eq_true, if_false, hvx', hvy', Sem.run_pure, e1]
    cases q with
    | true =>
      simp only [Bool.not_true, Bool.false_eq_true, if_false]
      rw [eqI_sound hx hy hk d n (o + 1) e2, e3]
      rfl
    | false =>
      simp only [Bool.not_false, if_true, Sem.run_pure, e3, Bool.false_and]

theorem flat_eq {T : TypeId} {ks : List Nat} (hT : cflat P T = some ks) {xs ys : List AV} {r : Bool} (h : aEqC ks xs ys = some r) {cx cy : Value} (hx : VRel ρ (.agg xs) cx) (hy : VRel ρ (.agg ys) cy) (d : Nat) :
    (Op.equalIn (d + 2) T cx cy).run P w = .ok r w := by
  unfold VRel at hx hy
  obtain ⟨ax, rfl, hrx, _⟩ := hx
  obtain ⟨ay, rfl, hry, _⟩ := hy
  unfold cflat at hT
  split at hT
  · rename_i fs hu
    split at hT
    · cases hT
    · rename_i hst
      have hu' : P.underlying T = some (.struct (P.fieldsOf T)) := by unfold Program.fieldsOf; rw [hu]
      rw [run_equalIn_struct w (d + 1) T ax ay hu' (by simpa using hst)]
      have e : P.fieldsOf T = fs := by unfold Program.fieldsOf; rw [hu]
      rw [e]
      exact eqF_sound hrx hry d fs.toList 0 hT (by simpa using h)
  · rename_i len e hu
    split at hT
    · rename_i k hk
      split at hT
      · rename_i hsz
        cases hT
        unfold csize at hsz
        cases hi : P.info? e with
        | none => rw [hi] at hsz; cases hsz
        | some i =>
          rw [hi] at hsz
          injection hsz with hsz
          rw [run_equalIn_array w (d + 1) ax ay hu hi]
          have e1 : P.cellsOf e = 1 := by simp [Program.cellsOf, hi, hsz]
          rw [e1, List.range_eq_range']
          exact eqI_sound hrx hry hk d len 0 (by simpa using h)
      · cases hT
    · cases hT
  · cases hT

/-- No guard at such a type. -/
theorem flat_guard {T : TypeId} {ks : List Nat} (hT : cflat P T = some ks) : P.eqGuardType P.depth T = false := by
  have hs : ∀ (d : Nat) (t : TypeId) (k : Nat), cscalar P t = some k → P.eqGuardType (d + 1) t = false := by
    intro d t k h
    unfold cscalar at h
    split at h <;> (try cases h) <;> (rename_i h1; simp [Program.eqGuardType, h1])
  have hf : ∀ (fs : List Field) (o : Nat) (ks : List Nat) (d : Nat), cflatF P o fs = some ks → fs.any (fun f => f.name != "_" && P.eqGuardType (d + 1) f.type) = false := by
    intro fs
    induction fs with
    | nil => intro o ks d _; rfl
    | cons f fs ih =>
      intro o ks d h
      unfold cflatF at h
      split at h
      · rename_i h1 h2
        split at h
        · rw [List.any_cons, hs d _ _ h1, ih _ _ _ h2]; simp
        · cases h
      · cases h
  have hd : P.depth = (2 * (P.types.size + Made.depth)) + 1 + 1 := rfl
  rw [hd]
  unfold cflat at hT
  split at hT
  · rename_i fs hu
    split at hT
    · cases hT
    · simp only [Program.eqGuardType, hu]
      rw [← Array.any_toList]
      exact hf _ _ _ _ hT
  · rename_i len e hu
    split at hT
    · rename_i k hk
      split at hT
      · simp only [Program.eqGuardType, hu]
        exact hs _ _ _ hk
      · cases hT
    · cases hT
  · cases hT

theorem eqc_sound {T : TypeId} {ks : List Nat} (hT : cflat P T = some ks) {neg : Bool} {xs ys : List AV} {r : Bool} (h : aEqC ks xs ys = some r) {cx cy : Value} (hx : VRel ρ (.agg xs) cx) (hy : VRel ρ (.agg ys) cy) (ox oy : Operand) :
    (do eqGuard (if neg then .neq else .eql) T ox oy cx cy; binOp (if neg then .neq else .eql) T cx cy : Sem Value).run P w = .ok (.bool (r != neg)) w := by
  have he : (Op.equal T cx cy).run P w = .ok r w := flat_eq (w := w) hT h hx hy 9998
  have hx' := hx
  have hy' := hy
  unfold VRel at hx' hy'
  obtain ⟨ax, rfl, _⟩ := hx'
  obtain ⟨ay, rfl, _⟩ := hy'
  simp only [Sem.run_bind, run_eqGuard_agg w _ T ox oy ax ay (flat_guard hT), Result.andThen_ok]
  exact eql_run he (fun op => by cases op <;> rfl)

end
end Go.Proofs.Ythcibbfljcfheaa.Abs
