/- The row of LayoutAll: for every input the law returns true, and its arguments read as before. No condition of its own: the walk and the pure part are proved in the texts that it imports. -/
import Derived.Test.YtfbfpiibmgofeaaRows
import Derived.Test.YtfbfpiibmgofeaaOpens
import Derived.Test.YtfbfpiibmgofeaaRefAll
import Derived.WalkKit
import Derived.ProofKit
import Derived.OpenShut
import Derived.ShutString
import Derived.ChangeOld
import Derived.Below
import Derived.SizedLaws
namespace Go.Proofs.Ytfbfpiibmgofeaa.layoutAll
open Go.ChangeShapes Go.WideShapes Go.ChangeAt Go.RowKit
open Go.ChangeMaps (open_string shut_string)
open Go.Proofs.Ytfbfpiibmgofeaa.Opens Go.Proofs.YtfbfpiibmgofeaaW.PrintWords
set_option linter.unusedVariables false
theorem own : ownKnob Try.prog.godebug = none := by kernel_rfl
theorem laidOut : laidOutB Try.prog = true := by kernel_rfl
set_option maxRecDepth 100000 in
theorem lifted (os : Os) (started : os.Started) (H : Type) (enc : TypeId × Value → H) :
    ReturnsInHanded {} Try.checked os 5 .any (Rows.layoutAllSpec.pre6 enc Try.prog Try.f5 Rows.layoutAllRow.domain false) (Rows.layoutAllSpec.post enc Try.prog Try.f5 false true false false) := by
  refine returnsInHanded_of_change_sized (C := Try.checked) own started (by kernel_rfl) Try.func5
    (ChangeSpec.witness6 (enc := enc) (C := Try.checked) false ⟨#[], #[.agg #[.int .i64 0, .int .i64 0, .int .i64 0, .int .i64 0]], []⟩ 8 (by kernel_rfl) (by kernel_rfl) (by kernel_rfl) (by kernel_rfl)) ?_
  intro W base args ds gs before hval0 hW hcnd hsz0 _
  have hval : ∀ (j : Nat) t v, Try.f5.params[j]? = some t → args[j]? = some v → Value.okWide Try.prog W .any base t v := hval0
  have hW' := hW
  obtain ⟨p, q, hA0, hV, rfl, hfz, hnd⟩ := hW
  have hA : DataW.TrodAll enc Try.prog W 0 (fun _ => true) true Try.f5.params.toList args.toList ds p := hA0
  rw [Try.params5] at hA hval
  obtain ⟨v0, vs0, d0, ds0, p0, q0, hargs, rfl, rfl, h0, r0⟩ := trodAll_cons hA
  obtain ⟨rfl, rfl, rfl⟩ := trodAll_nil r0
  obtain rfl : args = #[v0] := by cases args; simp_all
  obtain ⟨rfl, rfl⟩ := trodVars_none hV
  obtain ⟨cs0, rfl, _⟩ := okWide_array Try.underlying29 (hval 0 29 v0 rfl rfl)
  obtain ⟨xs0, hx0, hcs0, ox0⟩ := open_arr Try.underlying29 (by kernel_rfl) (by kernel_rfl) Try.underlying3 h0
  obtain ⟨a0_0, a0_1, a0_2, a0_3, rfl⟩ : ∃ a0_0 a0_1 a0_2 a0_3, xs0 = [a0_0, a0_1, a0_2, a0_3] := by
    match xs0, hx0 with
    | [a0_0, a0_1, a0_2, a0_3], _ => exact ⟨_, _, _, _, rfl⟩
  obtain rfl : cs0 = #[.int .i64 a0_0, .int .i64 a0_1, .int .i64 a0_2, .int .i64 a0_3] := hcs0
  have lt0 : ∀ x ∈ p0, x.block < W.heap.size := by obtain ⟨m, hm⟩ := h0; exact DataW.trod_lt m _ _ _ hm
  refine (Q.all_law W a0_0 a0_1 a0_2 a0_3 (ox0 _ (by simp)) (ox0 _ (by simp)) (ox0 _ (by simp)) (ox0 _ (by simp))).mono fun e W' ⟨he, bel⟩ => ?_
  subst he
  exact ⟨_, rfl, _, _, _, [], _, [], hW', trodAll_mk1 (shut_bool Try.underlying4 _), (trodAll_cons_mk (Below.trod laidOut (by kernel_rfl) (of_decide_eq_true (by kernel_rfl)) h0 bel lt0) trodAll_mk0), rfl, bel.frame _, fun h => by cases h⟩
theorem over : Rows.layoutAllRow.holds Try.pinned (OpenSpec.ofChange Rows.layoutAllSpec) :=
  OpenClaim.holds_of_wide 5 Try.f5 rfl rfl rfl rfl rfl rfl rfl ⟨rfl, rfl, rfl, rfl, rfl⟩ rfl rfl rfl rfl rfl (by kernel_rfl) Try.func5 (by kernel_rfl)
    (of_decide_eq_true (by kernel_rfl)) (by unfold Func.isWrapper; first | (rw [if_pos (by decide +kernel)]; kernel_rfl) | (rw [if_neg (by decide +kernel)]; exact ⟨rfl, rfl⟩))
    (fun os started H enc _ => lifted os started H enc)
theorem proved : Rows.LayoutAllSaid := over
#print axioms proved
end Go.Proofs.Ytfbfpiibmgofeaa.layoutAll
namespace Go.Proofs.Ytfbfpiibmgofeaa
/-- The row, under a short name, for the claim. -/
theorem layoutAll_holds : Rows.LayoutAllSaid := layoutAll.proved
end Go.Proofs.Ytfbfpiibmgofeaa
