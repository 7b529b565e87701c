/- slices.SortFunc of pairs as a function known of by what it comes to. No condition of its own. -/
import Derived.Test.YtokfnhildehndaaSortOk
namespace Go.Proofs.Ytokfnhildehndaa.Abs
open Go.RowKit
set_option linter.unusedVariables false
set_option linter.unusedSimpArgs false
/-- Cells read as pairs. -/
def dec3 : List AV → Option (List P3)
  | [] => some []
  | .i .i64 a :: .i .i64 b :: .i .i64 c :: r => (dec3 r).map fun l => (a, b, c) :: l
  | _ => none
theorem dec3_cells : ∀ ts : List P3, dec3 (ts.flatMap cells3) = some ts
  | [] => rfl
  | x :: ts => by
    rw [List.flatMap_cons]
    show (dec3 (ts.flatMap cells3)).map _ = _
    rw [dec3_cells ts]
    rfl
theorem dec3_some : ∀ {cs : List AV} {ts : List P3}, dec3 cs = some ts → cs = ts.flatMap cells3 := by
  intro cs
  fun_induction dec3 cs with
  | case1 => intro ts h; cases h; rfl
  | case2 a b c r ih =>
    intro ts h
    obtain ⟨l, h1, rfl⟩ := Option.map_eq_some_iff.1 h
    rw [List.flatMap_cons, ← ih h1]
    rfl
  | case3 => intro ts h; cases h
def pSort : PrimF := fun f args H =>
  match f, args with
  | 32, [.sl none _ _ _ _, .fn (.func 27) [] []] => some (.tup [], H)
  | 32, [.sl (some (b, o)) n lo ex 3, .fn (.func 27) [] []] => (match H.o b with
    | some (.row false full) => (match dec3 ((full.drop o).take (n * 3)) with
      | some ts => if ts.length = n ∧ (ts.map (·.1)).Nodup ∧ o + n * 3 ≤ full.length ∧ n ≤ 1000000 ∧ 0 < n then some (.tup [], H.set b (.row false (setR full o ((srt ts).flatMap cells3)))) else none
      | none => none)
    | _ => none)
  | _, _ => none
def q0 : Prm := ⟨pSort, fun f args H v H' h => by
  unfold pSort at h
  split at h
  · cases h; exact Nat.le_refl _
  · repeat' (split at h)
    all_goals first | (cases h; done) | (cases h; exact Nat.le_refl _)
  · cases h⟩
theorem fn27 {ρ : Rn} {v : Value} (h : VRel ρ (.fn (.func 27) [] []) v) : v = .func (.func 27) #[] #[] := by
  unfold VRel at h
  obtain ⟨xs, ys, rfl, h1, h2⟩ := h
  unfold VRels at h1 h2
  have e1 : xs = #[] := by simpa using h1
  have e2 : ys = #[] := by simpa using h2
  rw [e1, e2]
theorem two {ρ : Rn} {a b : AV} {vs : Array Value} (h : VRels ρ [a, b] vs.toList) : ∃ x y, vs = #[x, y] ∧ VRel ρ a x ∧ VRel ρ b y := by
  unfold VRels at h
  obtain ⟨x, l1, e, h1, h⟩ := h
  unfold VRels at h
  obtain ⟨y, l2, rfl, h2, h⟩ := h
  unfold VRels at h
  subst h
  refine ⟨x, y, ?_, h1, h2⟩
  cases vs
  simp at e
  rw [e]
theorem q0_ok (w0 : World) : PrimOk Try.prog w0 (tblP q0) := by
  intro f args H v H' hf h ρ w cargs hs hargs
  have h : pSort f args H = some (v, H') := h
  unfold pSort at h
  have eg : ∀ args w, (callFunc 32 args).run Try.prog w = .ok (.enter 32 args) w := enters_of Try.func32 (by kernel_rfl) rfl
  split at h
  · cases h
    obtain ⟨x, y, rfl, hx, hy⟩ := two hargs
    rw [fn27 hy]
    unfold VRel at hx
    obtain ⟨_, _, _, rfl⟩ := hx
    refine Or.inl ⟨eg _ _, ?_⟩
    have hcon := AnyF.slices_SortFunc_none Try.sort32 none 0 (.func (.func 27) #[] #[]) w
    change Calls Try.prog 32 _ _ _ at hcon
    refine hcon.mono ?_
    rintro e w' ⟨rfl, rfl⟩
    exact ⟨ρ, _, rfl, by unfold VRel; exact ⟨#[], rfl, VRels.nil _⟩, hs, Fr.refl _ _ _⟩
  · rename_i b o n lo ex _
    split at h
    case h_2 => cases h
    rename_i full hb
    split at h
    case h_2 => cases h
    rename_i ts hts
    split at h
    case isFalse => cases h
    rename_i hc
    obtain ⟨h1, h2, h3, h4, h5⟩ := hc
    cases h
    obtain ⟨x, y, rfl, hx, hy⟩ := two hargs
    rw [fn27 hy]
    unfold VRel at hx
    obtain ⟨B, base, N, off, c, k1, rfl, k3, k4, k5, k6, k7⟩ := hx
    have hoff : off = base + o := by
      rcases k3 with k3 | k3
      · exact k3
      · omega
    subst hoff
    refine Or.inl ⟨eg _ _, ?_⟩
    refine (sort_world (c := c) hs hb (dec3_some hts) h1 h2 h3 h4 k1).mono ?_
    rintro e w' ⟨rfl, g1, g2⟩
    exact ⟨ρ, _, rfl, by unfold VRel; exact ⟨#[], rfl, VRels.nil _⟩, g1, g2⟩
  · cases h
/-- Sorted: a slice of pairs. -/
theorem sort_spec {H : AH} {b o n lo : Nat} {ex : Bool} {full : List AV} {ts : List P3} (hb : H.o b = some (.row false full)) (hts : (full.drop o).take (n * 3) = ts.flatMap cells3) (hl : ts.length = n) (hnd : (ts.map (·.1)).Nodup) (hle : o + n * 3 ≤ full.length) (hn : n ≤ 1000000) (h0 : 0 < n) :
    callR (tblP q0) 32 [.sl (some (b, o)) n lo ex 3, .fn (.func 27) [] []] H = some (.tup [], H.set b (.row false (setR full o ((srt ts).flatMap cells3)))) := by
  unfold callR
  have e : (tblP q0).f 32 = none := rfl
  rw [e]
  show pSort 32 [.sl (some (b, o)) n lo ex 3, .fn (.func 27) [] []] H = _
  simp only [pSort, hb, hts, dec3_cells, hl, hnd, hle, hn, h0, and_self, if_true]
theorem sort_nil {H : AH} {n lo sz : Nat} {ex : Bool} : callR (tblP q0) 32 [.sl none n lo ex sz, .fn (.func 27) [] []] H = some (.tup [], H) := by
  unfold callR
  have e : (tblP q0).f 32 = none := rfl
  rw [e]
  rfl
end Go.Proofs.Ytokfnhildehndaa.Abs
