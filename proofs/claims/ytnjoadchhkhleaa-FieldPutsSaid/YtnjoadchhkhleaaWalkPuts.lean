/- The walk of FieldPuts, at every input: it returns true, and nothing that was there is turned. -/
import Derived.Test.YtnjoadchhkhleaaPurePuts
namespace Go.Proofs.Ytnjoadchhkhleaa.Q
open Go.RowKit Go.Proofs.YtnjoadchhkhleaaW.PrintWords

theorem bd_u8 {a : Int} (h : (Lit.int .u8 a).wf = true) : 0 ≤ a ∧ a < 256 := by
  simp [Lit.wf, IntKind.min, IntKind.max, IntKind.signed, IntKind.bits] at h; omega
theorem bd_u64 {a : Int} (h : (Lit.int .u64 a).wf = true) : 0 ≤ a ∧ a < 18446744073709551616 := by
  simp [Lit.wf, IntKind.min, IntKind.max, IntKind.signed, IntKind.bits] at h; omega

theorem puts_walk (a d : Int) (wa : (Lit.int .u8 a).wf = true) (wd : (Lit.int .u8 d).wf = true) (w : Int) (ww : (Lit.int .u64 w).wf = true) (v : Int) (wv : (Lit.int .u64 v).wf = true) (W : World) :
    Calls Try.prog 3 #[.agg #[.int .u8 a, .int .u8 d], .int .u64 w, .int .u64 v] W fun e W' => e = .returned (.bool true) ∧ Below W.heap.size W W' := by
  obtain ⟨a, rfl⟩ := Int.eq_ofNat_of_zero_le (bd_u8 wa).1
  obtain ⟨d, rfl⟩ := Int.eq_ofNat_of_zero_le (bd_u8 wd).1
  obtain ⟨w, rfl⟩ := Int.eq_ofNat_of_zero_le (bd_u64 ww).1
  obtain ⟨v, rfl⟩ := Int.eq_ofNat_of_zero_le (bd_u64 wv).1
  have h := puts_pure a d w v (by have := (bd_u8 wa).2; omega) (by have := (bd_u8 wd).2; omega) (by have := (bd_u64 ww).2; omega) (by have := (bd_u64 wv).2; omega)
  exact futtocklaw01_FieldPuts.calls 200 _ _ _ _ true W h
end Go.Proofs.Ytnjoadchhkhleaa.Q
