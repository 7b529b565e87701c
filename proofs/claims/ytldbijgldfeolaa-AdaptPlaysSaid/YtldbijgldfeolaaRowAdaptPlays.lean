/- The row of AdaptPlays: for every input the law returns true, and its arguments read as before. No condition of its own: the walk and the pure part are proved in the texts that it imports. -/
import Derived.Test.YtldbijgldfeolaaRows
import Derived.Test.YtldbijgldfeolaaOpen
import Derived.Test.YtldbijgldfeolaaPlaysLaw
import Derived.WalkKit
import Derived.ProofKit
import Derived.OpenShut
import Derived.ShutString
import Derived.ChangeOld
import Derived.Below
import Derived.SizedLaws
namespace Go.Proofs.Ytldbijgldfeolaa.adaptPlays
open Go.ChangeShapes Go.WideShapes Go.ChangeAt Go.RowKit
open Go.ChangeMaps (open_string shut_string)
open Go.Proofs.Ytldbijgldfeolaa.Abs
set_option linter.unusedVariables false
theorem own : ownKnob Try.prog.godebug = none := by kernel_rfl
theorem laidOut : laidOutB Try.prog = true := by kernel_rfl
set_option maxRecDepth 100000 in
theorem lifted (os : Os) (started : os.Started) (H : Type) (enc : TypeId × Value → H) :
    ReturnsInHanded {} Try.checked os 4 .any (Rows.adaptPlaysSpec.pre6 enc Try.prog Try.f4 Rows.adaptPlaysRow.domain false) (Rows.adaptPlaysSpec.post enc Try.prog Try.f4 false true false false) := by
  refine returnsInHanded_of_change_sized (C := Try.checked) own started (by kernel_rfl) Try.func4
    (ChangeSpec.witness6 (enc := enc) (C := Try.checked) false ⟨#[], #[.agg #[.int .i64 0, .int .i64 0, .int .i64 0, .int .i64 0], .slice none 0 0], []⟩ 8 (by kernel_rfl) (by kernel_rfl) (by kernel_rfl) (by kernel_rfl)) ?_
  intro W base args ds gs before hval0 hW hcnd hsz0 _
  have hval : ∀ (j : Nat) t v, Try.f4.params[j]? = some t → args[j]? = some v → Value.okWide Try.prog W .any base t v := hval0
  have hW' := hW
  obtain ⟨p, q, hA0, hV, rfl, hfz, hnd⟩ := hW
  have hA : DataW.TrodAll enc Try.prog W 0 (fun _ => true) true Try.f4.params.toList args.toList ds p := hA0
  rw [Try.params4] at hA hval
  obtain ⟨v0, vs0, d0, ds0, p0, q0, hargs, rfl, rfl, h0, r0⟩ := trodAll_cons hA
  obtain ⟨v1, vs1, d1, ds1, p1, q1, rfl, rfl, rfl, h1, r1⟩ := trodAll_cons r0
  obtain ⟨rfl, rfl, rfl⟩ := trodAll_nil r1
  obtain rfl : args = #[v0, v1] := by cases args; simp_all
  obtain ⟨rfl, rfl⟩ := trodVars_none hV
  obtain ⟨cs0, rfl, _⟩ := okWide_struct Try.underlying23 (hval 0 23 v0 rfl rfl)
  obtain ⟨a0, K0, w0⟩ := open_agg (rd_struct4 Try.underlying23 rfl (by kernel_rfl) (by kernel_rfl) (by kernel_rfl) (by kernel_rfl) (rd_int Try.underlying3) (rd_int Try.underlying3) (rd_int Try.underlying3) (rd_int Try.underlying3)) h0
  have lt0 : ∀ x ∈ p0, x.block < W.heap.size := by obtain ⟨m, hm⟩ := h0; exact DataW.trod_lt m _ _ _ hm
  have hv1 := (hval 1 37 v1 rfl rfl)
  obtain ⟨A1, len1, c1, rfl⟩ := okWide_slice Try.underlying37 hv1
  obtain ⟨l1, hl1, o1, C1⟩ := open_row (sz := 3) Try.underlying37 (by kernel_rfl) (fun _ => rfl) (by intro a c hc; simp at hc; rcases hc with rfl | rfl | rfl <;> rfl) (rd_struct3 Try.underlying44 rfl (by kernel_rfl) (by kernel_rfl) (by kernel_rfl) (rd_bool Try.underlying4) (rd_int Try.underlying3) (rd_int Try.underlying3)) hv1 h1
  subst hl1
  have lt1 : ∀ x ∈ p1, x.block < W.heap.size := by obtain ⟨m, hm⟩ := h1; exact DataW.trod_lt m _ _ _ hm
  refine (link1 (VRels.cons (rel_agg K0 (by intro c hc; simp at hc; rcases hc with rfl | rfl | rfl | rfl <;> rfl)) (VRels.nil _)) C1 (VRels.nil _) (fun H x hx => plays_law a0 w0 l1 o1 H x hx)).mono fun e W' ⟨he, bel⟩ => ?_
  subst he
  exact ⟨_, rfl, _, _, _, [], _, [], hW', trodAll_mk1 (shut_bool Try.underlying4 _), (trodAll_cons_mk (Below.trod laidOut (by kernel_rfl) (of_decide_eq_true (by kernel_rfl)) h0 bel lt0) (trodAll_cons_mk (Below.trod laidOut (by kernel_rfl) (of_decide_eq_true (by kernel_rfl)) h1 bel lt1) trodAll_mk0)), rfl, bel.frame _, fun h => by cases h⟩
theorem over : Rows.adaptPlaysRow.holds Try.pinned (OpenSpec.ofChange Rows.adaptPlaysSpec) :=
  OpenClaim.holds_of_wide 4 Try.f4 rfl rfl rfl rfl rfl rfl rfl ⟨rfl, rfl, rfl, rfl, rfl⟩ rfl rfl rfl rfl rfl (by kernel_rfl) Try.func4 (by kernel_rfl)
    (of_decide_eq_true (by kernel_rfl)) (by unfold Func.isWrapper; first | (rw [if_pos (by decide +kernel)]; kernel_rfl) | (rw [if_neg (by decide +kernel)]; exact ⟨rfl, rfl⟩))
    (fun os started H enc _ => lifted os started H enc)
theorem proved : Rows.AdaptPlaysSaid := over
#print axioms proved
end Go.Proofs.Ytldbijgldfeolaa.adaptPlays
namespace Go.Proofs.Ytldbijgldfeolaa
/-- The row, under a short name, for the claim. -/
theorem adaptPlays_holds : Rows.AdaptPlaysSaid := adaptPlays.proved
end Go.Proofs.Ytldbijgldfeolaa
