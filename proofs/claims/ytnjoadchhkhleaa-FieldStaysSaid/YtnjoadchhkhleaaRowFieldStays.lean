/- The row of FieldStays: for every input the law returns true, and its arguments read as before. No condition of its own: the walk and the pure part are proved in the texts that it imports. -/
import Derived.Test.YtnjoadchhkhleaaRows
import Derived.Test.YtnjoadchhkhleaaOpens
import Derived.Test.YtnjoadchhkhleaaWalkStays
import Derived.WalkKit
import Derived.ProofKit
import Derived.OpenShut
import Derived.ShutString
import Derived.ChangeOld
import Derived.Below
import Derived.SizedLaws
namespace Go.Proofs.Ytnjoadchhkhleaa.fieldStays
open Go.ChangeShapes Go.WideShapes Go.ChangeAt Go.RowKit
open Go.ChangeMaps (open_string shut_string)
open Go.Proofs.Ytnjoadchhkhleaa.Opens Go.Proofs.YtnjoadchhkhleaaW.PrintWords Go.Proofs.Ytnjoadchhkhleaa.Q
set_option linter.unusedVariables false
theorem own : ownKnob Try.prog.godebug = none := by kernel_rfl
theorem laidOut : laidOutB Try.prog = true := by kernel_rfl
set_option maxRecDepth 100000 in
theorem lifted (os : Os) (started : os.Started) (H : Type) (enc : TypeId × Value → H) :
    ReturnsInHanded {} Try.checked os 5 .any (Rows.fieldStaysSpec.pre6 enc Try.prog Try.f5 Rows.fieldStaysRow.domain false) (Rows.fieldStaysSpec.post enc Try.prog Try.f5 false true false false) := by
  refine returnsInHanded_of_change_sized (C := Try.checked) own started (by kernel_rfl) Try.func5
    (ChangeSpec.witness6 (enc := enc) (C := Try.checked) false ⟨#[], #[.agg #[.int .u8 0, .int .u8 0], .agg #[.int .u8 0, .int .u8 0], .agg #[.int .u64 0, .int .u64 0]], []⟩ 8 (by kernel_rfl) (by kernel_rfl) (by kernel_rfl) (by kernel_rfl)) ?_
  intro W base args ds gs before hval0 hW hcnd hsz0 _
  have hval : ∀ (j : Nat) t v, Try.f5.params[j]? = some t → args[j]? = some v → Value.okWide Try.prog W .any base t v := hval0
  have hW' := hW
  obtain ⟨p, q, hA0, hV, rfl, hfz, hnd⟩ := hW
  have hA : DataW.TrodAll enc Try.prog W 0 (fun _ => true) true Try.f5.params.toList args.toList ds p := hA0
  rw [Try.params5] at hA hval
  obtain ⟨v0, vs0, d0, ds0, p0, q0, hargs, rfl, rfl, h0, r0⟩ := trodAll_cons hA
  obtain ⟨v1, vs1, d1, ds1, p1, q1, rfl, rfl, rfl, h1, r1⟩ := trodAll_cons r0
  obtain ⟨v2, vs2, d2, ds2, p2, q2, rfl, rfl, rfl, h2, r2⟩ := trodAll_cons r1
  obtain ⟨rfl, rfl, rfl⟩ := trodAll_nil r2
  obtain rfl : args = #[v0, v1, v2] := by cases args; simp_all
  obtain ⟨rfl, rfl⟩ := trodVars_none hV
  obtain ⟨cs0, rfl, _⟩ := okWide_struct Try.underlying23 (hval 0 23 v0 rfl rfl)
  obtain ⟨⟨a0_0, a0_1⟩, hK0, ⟨w0_0, w0_1⟩⟩ := open_agg (rd_struct2 Try.underlying23 rfl (by kernel_rfl) (by kernel_rfl) (rd_int Try.underlying5) (rd_int Try.underlying5)) h0
  obtain ⟨_, _, hc0, rfl, rfl⟩ := hK0
  obtain rfl : cs0 = #[.int .u8 a0_0, .int .u8 a0_1] := by cases cs0; simpa using hc0
  have lt0 : ∀ x ∈ p0, x.block < W.heap.size := by obtain ⟨m, hm⟩ := h0; exact DataW.trod_lt m _ _ _ hm
  obtain ⟨cs1, rfl, _⟩ := okWide_struct Try.underlying23 (hval 1 23 v1 rfl rfl)
  obtain ⟨⟨a1_0, a1_1⟩, hK1, ⟨w1_0, w1_1⟩⟩ := open_agg (rd_struct2 Try.underlying23 rfl (by kernel_rfl) (by kernel_rfl) (rd_int Try.underlying5) (rd_int Try.underlying5)) h1
  obtain ⟨_, _, hc1, rfl, rfl⟩ := hK1
  obtain rfl : cs1 = #[.int .u8 a1_0, .int .u8 a1_1] := by cases cs1; simpa using hc1
  have lt1 : ∀ x ∈ p1, x.block < W.heap.size := by obtain ⟨m, hm⟩ := h1; exact DataW.trod_lt m _ _ _ hm
  obtain ⟨cs2, rfl, _⟩ := okWide_array Try.underlying39 (hval 2 39 v2 rfl rfl)
  obtain ⟨xs2, hx2, hcs2, ox2⟩ := open_arr Try.underlying39 (by kernel_rfl) (by kernel_rfl) Try.underlying24 h2
  obtain ⟨a2_0, a2_1, rfl⟩ : ∃ a2_0 a2_1, xs2 = [a2_0, a2_1] := by
    match xs2, hx2 with
    | [a2_0, a2_1], _ => exact ⟨_, _, rfl⟩
  obtain rfl : cs2 = #[.int .u64 a2_0, .int .u64 a2_1] := hcs2
  have lt2 : ∀ x ∈ p2, x.block < W.heap.size := by obtain ⟨m, hm⟩ := h2; exact DataW.trod_lt m _ _ _ hm
  refine (Q.stays_walk W a0_0 a0_1 w0_0 w0_1 a1_0 a1_1 w1_0 w1_1 a2_0 a2_1 (ox2 _ (by simp)) (ox2 _ (by simp))).mono fun e W' ⟨he, bel⟩ => ?_
  subst he
  exact ⟨_, rfl, _, _, _, [], _, [], hW', trodAll_mk1 (shut_bool Try.underlying4 _), (trodAll_cons_mk (Below.trod laidOut (by kernel_rfl) (of_decide_eq_true (by kernel_rfl)) h0 bel lt0) (trodAll_cons_mk (Below.trod laidOut (by kernel_rfl) (of_decide_eq_true (by kernel_rfl)) h1 bel lt1) (trodAll_cons_mk (Below.trod laidOut (by kernel_rfl) (of_decide_eq_true (by kernel_rfl)) h2 bel lt2) trodAll_mk0))), rfl, bel.frame _, fun h => by cases h⟩
theorem over : Rows.fieldStaysRow.holds Try.pinned (OpenSpec.ofChange Rows.fieldStaysSpec) :=
  OpenClaim.holds_of_wide 5 Try.f5 rfl rfl rfl rfl rfl rfl rfl ⟨rfl, rfl, rfl, rfl, rfl⟩ rfl rfl rfl rfl rfl (by kernel_rfl) Try.func5 (by kernel_rfl)
    (of_decide_eq_true (by kernel_rfl)) (by unfold Func.isWrapper; first | (rw [if_pos (by decide +kernel)]; kernel_rfl) | (rw [if_neg (by decide +kernel)]; exact ⟨rfl, rfl⟩))
    (fun os started H enc _ => lifted os started H enc)
theorem proved : Rows.FieldStaysSaid := over
#print axioms proved
end Go.Proofs.Ytnjoadchhkhleaa.fieldStays
namespace Go.Proofs.Ytnjoadchhkhleaa
/-- The row, under a short name, for the claim. -/
theorem fieldStays_holds : Rows.FieldStaysSaid := fieldStays.proved
end Go.Proofs.Ytnjoadchhkhleaa
