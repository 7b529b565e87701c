/- The walks of layer 20 (layout): parts, At and What, at every input; no condition of their own. -/
import Derived.Test.YtfbfpiibmgofeaaQ8
import Derived.StillTailTactics
import Derived.WalkSpells
import Derived.WalkLawsBesides
import Derived.Laws.Tables
import Derived.Laws.Rows
import Derived.Laws.CopyOwn
namespace Go.Proofs.Ytfbfpiibmgofeaa.Q
open Go.RowKit Go.Proofs.YtfbfpiibmgofeaaW.PrintWords Go.Proofs.YtfbfpiibmgofeaaW.PrintLast Go.Proofs.YtfbfpiibmgofeaaW.PrintMore
set_option linter.unusedVariables false

set_option maxHeartbeats 400000 in
theorem parts_walk (w : World) : Calls Try.prog 14 #[] w fun e w' => e = .returned (.agg #[.int .i64 0, .int .i64 0, .int .i64 0, .int .i64 0, .int .i64 8, .int .i64 1, .int .i64 8, .int .i64 4, .int .i64 1, .int .i64 16, .int .i64 16, .int .i64 1, .int .i64 32, .int .i64 16, .int .i64 1, .int .i64 48, .int .i64 8, .int .i64 1, .int .i64 56, .int .i64 8, .int .i64 1, .int .i64 64, .int .i64 8, .int .i64 8]) ∧ Below w.heap.size w w' := by
  go_enter Try.func14, Try.ntmps14
  refine wp_seq ?_
  go_wp2_with (first | ((with_reducible refine gate_dst (N := 0) rfl ?_); refine box_event ?hg (N := 0) ?hd (cs := #[.int .i64 0, .int .i64 0, .int .i64 0, .int .i64 0, .int .i64 0, .int .i64 0, .int .i64 0, .int .i64 0, .int .i64 0, .int .i64 0, .int .i64 0, .int .i64 0, .int .i64 0, .int .i64 0, .int .i64 0, .int .i64 0, .int .i64 0, .int .i64 0, .int .i64 0, .int .i64 0, .int .i64 0, .int .i64 0, .int .i64 0, .int .i64 0]) (t := 38) ?hr ?_; (case hd => rfl); (case hg => rfl); (case hr => kernel_rfl); intro g hg w1 hb hbel; have HB := Aside0.mk hb; have HE := Aside0.mk hbel; have HG := Aside0.mk hg; clear hb hbel hg) | ((with_reducible refine gate_dst (N := 9) rfl ?_); refine Kd.event_run (v := .agg #[.int .i64 0, .int .i64 0, .int .i64 0, .int .i64 0, .int .i64 8, .int .i64 1, .int .i64 8, .int .i64 4, .int .i64 1, .int .i64 16, .int .i64 16, .int .i64 1, .int .i64 32, .int .i64 16, .int .i64 1, .int .i64 48, .int .i64 8, .int .i64 1, .int .i64 56, .int .i64 8, .int .i64 1, .int .i64 64, .int .i64 8, .int .i64 8]) (w1 := w1) rfl ?hr ?_; (case hr => kernel_rfl)) | ((with_reducible refine gate_store (t := 38) (p := 0) rfl ?_); refine wpList_store_row rfl 38 _ _ rfl g #[.int .i64 0, .int .i64 0, .int .i64 0, .int .i64 0, .int .i64 8, .int .i64 1, .int .i64 8, .int .i64 4, .int .i64 1, .int .i64 16, .int .i64 16, .int .i64 1, .int .i64 32, .int .i64 16, .int .i64 1, .int .i64 48, .int .i64 8, .int .i64 1, .int .i64 56, .int .i64 8, .int .i64 1, .int .i64 64, .int .i64 8, .int .i64 8] ?x1 ?x2 38 _ HB.out ?x3 ?x4 ?x5 ?_; (case x1 => rfl); (case x2 => kernel_rfl); (case x3 => kernel_rfl); (case x4 => rfl); (case x5 => kernel_rfl)))
  refine bodyPost_ret (v := .agg #[.int .i64 0, .int .i64 0, .int .i64 0, .int .i64 0, .int .i64 8, .int .i64 1, .int .i64 8, .int .i64 4, .int .i64 1, .int .i64 16, .int .i64 16, .int .i64 1, .int .i64 32, .int .i64 16, .int .i64 1, .int .i64 48, .int .i64 8, .int .i64 1, .int .i64 56, .int .i64 8, .int .i64 1, .int .i64 64, .int .i64 8, .int .i64 8]) (results_cell_row (p := 0) (ty := 38) rfl _ _ g 38 _ (0, 0) _ rfl (setRow_heap _ _ _ _ _ _ HB.out) Try.underlying38 rfl (by kernel_rfl)) rfl ⟨rfl, below_setRow HE.out (by rw [HG.out]; exact Nat.le_refl _) _⟩

/-- What a cell is of: its kind and places; 0 of nothing. -/
def whatN (a : Int) : Int × Int × Int :=
  if 0 ≤ a ∧ a < 8 then (1, a - 0, 0)
  else if 8 ≤ a ∧ a < 12 then (2, a - 8, 0)
  else if 16 ≤ a ∧ a < 32 then (3, a - 16, 0)
  else if 32 ≤ a ∧ a < 48 then (4, a - 32, 0)
  else if 48 ≤ a ∧ a < 56 then (5, a - 48, 0)
  else if 56 ≤ a ∧ a < 64 then (6, a - 56, 0)
  else if 64 ≤ a ∧ a < 128 then (7, (a - 64) / 8, (a - 64) % 8)
  else (0, 0, 0)

def noneB (a : Int) (i : Nat) : Prop := ∀ k, k < i → match k with
  | 0 => True
  | 1 => ¬ (0 ≤ a ∧ a < 8)
  | 2 => ¬ (8 ≤ a ∧ a < 12)
  | 3 => ¬ (16 ≤ a ∧ a < 32)
  | 4 => ¬ (32 ≤ a ∧ a < 48)
  | 5 => ¬ (48 ≤ a ∧ a < 56)
  | 6 => ¬ (56 ≤ a ∧ a < 64)
  | 7 => ¬ (64 ≤ a ∧ a < 128)
  | _ => True

theorem below_drewN_ {B : Nat} {w W : World} (h : Below B w W) {n : Nat} : Below B w (W.drewN n) := pw_below_drewN h n
set_option maxRecDepth 100000 in
set_option maxHeartbeats 4000000 in
theorem what_walk (a : Int) (ha : (Lit.int .i64 a).wf = true) (w : World) : Calls Try.prog 7 #[.int .i64 a] w fun e w' => e = .returned (.tuple #[.int .i64 (whatN a).1, .int .i64 (whatN a).2.1, .int .i64 (whatN a).2.2]) ∧ Below w.heap.size w w' := by
  have hu37 := Try.underlying37
  have bd : -9223372036854775808 ≤ a ∧ a ≤ 9223372036854775807 := by
    simp [Lit.wf, IntKind.min, IntKind.max, IntKind.signed, IntKind.bits] at ha; omega
  have HBD := Aside0.mk bd
  clear ha bd
  go_enter Try.func7, Try.ntmps7
  go_wp2_with (first | (go_at_call 14; refine (parts_walk _).mono ?_; rintro e w1 ⟨rfl, hb1⟩; have HB := Aside0.mk hb1; clear hb1))
  go_loopw [9] (fun v9 wr => ∃ i : Nat, i ≤ 8 ∧ v9 = .int .i64 i ∧ Aside0 (noneB a i) ∧ Aside0 (Below w.heap.size w wr)) (fun v9 _ => 8 - (intOf v9).toNat)
  case atStart => exact ⟨0, by omega, rfl, ⟨fun k hk => absurd hk (by omega)⟩, HB⟩
  case round =>
    clear HB
    obtain ⟨i, hi, rfl, HN, HB⟩ := hrel
    have hi9 : i = 0 ∨ i = 1 ∨ i = 2 ∨ i = 3 ∨ i = 4 ∨ i = 5 ∨ i = 6 ∨ i = 7 ∨ i = 8 := by omega
    clear hi
    rcases hi9 with rfl | rfl | rfl | rfl | rfl | rfl | rfl | rfl | rfl
    · have ix : ∀ w, (Instr.index 38 (.agg #[.int .i64 0, .int .i64 0, .int .i64 0, .int .i64 0, .int .i64 8, .int .i64 1, .int .i64 8, .int .i64 4, .int .i64 1, .int .i64 16, .int .i64 16, .int .i64 1, .int .i64 32, .int .i64 16, .int .i64 1, .int .i64 48, .int .i64 8, .int .i64 1, .int .i64 56, .int .i64 8, .int .i64 1, .int .i64 64, .int .i64 8, .int .i64 8]) (.int .i64 0)).run Try.prog w = .ok (.agg #[.int .i64 0, .int .i64 0, .int .i64 0]) w := fun _ => by kernel_rfl
      by_cases hlo : a < 0
      · go_wp2
        go_roundw
        case rel => exact ⟨1, by omega, rfl, ⟨fun k hk => by have hk' : k = 0 ∨ k = 1 ∨ k = 2 ∨ k = 3 ∨ k = 4 ∨ k = 5 ∨ k = 6 ∨ k = 7 := (by omega); rcases Nat.lt_or_ge k 0 with h | h; exact HN.out k h; obtain rfl : k = 0 := (by omega); first | trivial | (show ¬ _; omega)⟩, ⟨below_alloc HB.out _⟩⟩
        case measure => simp [intOf]
      · have hge : 0 ≤ a := by omega
        clear hlo
        by_cases hin : a < 0
        · exact absurd hin (by omega)
        · have hout : 0 ≤ a := by omega
          clear hin
          have hup := HBD.out.2
          go_wp2
          go_roundw
          case rel => exact ⟨1, by omega, rfl, ⟨fun k hk => by have hk' : k = 0 ∨ k = 1 ∨ k = 2 ∨ k = 3 ∨ k = 4 ∨ k = 5 ∨ k = 6 ∨ k = 7 := (by omega); rcases Nat.lt_or_ge k 0 with h | h; exact HN.out k h; obtain rfl : k = 0 := (by omega); first | trivial | (show ¬ _; omega)⟩, ⟨below_alloc HB.out _⟩⟩
          case measure => simp [intOf]
    · have ix : ∀ w, (Instr.index 38 (.agg #[.int .i64 0, .int .i64 0, .int .i64 0, .int .i64 0, .int .i64 8, .int .i64 1, .int .i64 8, .int .i64 4, .int .i64 1, .int .i64 16, .int .i64 16, .int .i64 1, .int .i64 32, .int .i64 16, .int .i64 1, .int .i64 48, .int .i64 8, .int .i64 1, .int .i64 56, .int .i64 8, .int .i64 1, .int .i64 64, .int .i64 8, .int .i64 8]) (.int .i64 1)).run Try.prog w = .ok (.agg #[.int .i64 0, .int .i64 8, .int .i64 1]) w := fun _ => by kernel_rfl
      by_cases hlo : a < 0
      · go_wp2
        go_roundw
        case rel => exact ⟨2, by omega, rfl, ⟨fun k hk => by have hk' : k = 0 ∨ k = 1 ∨ k = 2 ∨ k = 3 ∨ k = 4 ∨ k = 5 ∨ k = 6 ∨ k = 7 := (by omega); rcases Nat.lt_or_ge k 1 with h | h; exact HN.out k h; obtain rfl : k = 1 := (by omega); first | trivial | (show ¬ _; omega)⟩, ⟨below_alloc HB.out _⟩⟩
        case measure => simp [intOf]
      · have hge : 0 ≤ a := by omega
        clear hlo
        by_cases hin : a < 8
        · go_wp2
          go_quiet (fail)
          go_wp2
          go_ret3
          have ew : whatN a = (1, a - 0, 0) := by unfold whatN;  rw [if_pos (by omega)]
          rw [ew]
          exact ⟨by first | rfl | simp, below_drewN_ (below_alloc HB.out _)⟩
        · have hout : 8 ≤ a := by omega
          clear hin
          have hup := HBD.out.2
          go_wp2
          go_roundw
          case rel => exact ⟨2, by omega, rfl, ⟨fun k hk => by have hk' : k = 0 ∨ k = 1 ∨ k = 2 ∨ k = 3 ∨ k = 4 ∨ k = 5 ∨ k = 6 ∨ k = 7 := (by omega); rcases Nat.lt_or_ge k 1 with h | h; exact HN.out k h; obtain rfl : k = 1 := (by omega); first | trivial | (show ¬ _; omega)⟩, ⟨below_alloc HB.out _⟩⟩
          case measure => simp [intOf]
    · have ix : ∀ w, (Instr.index 38 (.agg #[.int .i64 0, .int .i64 0, .int .i64 0, .int .i64 0, .int .i64 8, .int .i64 1, .int .i64 8, .int .i64 4, .int .i64 1, .int .i64 16, .int .i64 16, .int .i64 1, .int .i64 32, .int .i64 16, .int .i64 1, .int .i64 48, .int .i64 8, .int .i64 1, .int .i64 56, .int .i64 8, .int .i64 1, .int .i64 64, .int .i64 8, .int .i64 8]) (.int .i64 2)).run Try.prog w = .ok (.agg #[.int .i64 8, .int .i64 4, .int .i64 1]) w := fun _ => by kernel_rfl
      by_cases hlo : a < 8
      · go_wp2
        go_roundw
        case rel => exact ⟨3, by omega, rfl, ⟨fun k hk => by have hk' : k = 0 ∨ k = 1 ∨ k = 2 ∨ k = 3 ∨ k = 4 ∨ k = 5 ∨ k = 6 ∨ k = 7 := (by omega); rcases Nat.lt_or_ge k 2 with h | h; exact HN.out k h; obtain rfl : k = 2 := (by omega); first | trivial | (show ¬ _; omega)⟩, ⟨below_alloc HB.out _⟩⟩
        case measure => simp [intOf]
      · have hge : 8 ≤ a := by omega
        clear hlo
        by_cases hin : a < 12
        · go_wp2
          go_quiet (fail)
          go_wp2
          go_ret3
          have ew : whatN a = (2, a - 8, 0) := by unfold whatN; rw [if_neg (by omega)]; rw [if_pos (by omega)]
          rw [ew]
          exact ⟨by first | rfl | simp, below_drewN_ (below_alloc HB.out _)⟩
        · have hout : 12 ≤ a := by omega
          clear hin
          have hup := HBD.out.2
          go_wp2
          go_roundw
          case rel => exact ⟨3, by omega, rfl, ⟨fun k hk => by have hk' : k = 0 ∨ k = 1 ∨ k = 2 ∨ k = 3 ∨ k = 4 ∨ k = 5 ∨ k = 6 ∨ k = 7 := (by omega); rcases Nat.lt_or_ge k 2 with h | h; exact HN.out k h; obtain rfl : k = 2 := (by omega); first | trivial | (show ¬ _; omega)⟩, ⟨below_alloc HB.out _⟩⟩
          case measure => simp [intOf]
    · have ix : ∀ w, (Instr.index 38 (.agg #[.int .i64 0, .int .i64 0, .int .i64 0, .int .i64 0, .int .i64 8, .int .i64 1, .int .i64 8, .int .i64 4, .int .i64 1, .int .i64 16, .int .i64 16, .int .i64 1, .int .i64 32, .int .i64 16, .int .i64 1, .int .i64 48, .int .i64 8, .int .i64 1, .int .i64 56, .int .i64 8, .int .i64 1, .int .i64 64, .int .i64 8, .int .i64 8]) (.int .i64 3)).run Try.prog w = .ok (.agg #[.int .i64 16, .int .i64 16, .int .i64 1]) w := fun _ => by kernel_rfl
      by_cases hlo : a < 16
      · go_wp2
        go_roundw
        case rel => exact ⟨4, by omega, rfl, ⟨fun k hk => by have hk' : k = 0 ∨ k = 1 ∨ k = 2 ∨ k = 3 ∨ k = 4 ∨ k = 5 ∨ k = 6 ∨ k = 7 := (by omega); rcases Nat.lt_or_ge k 3 with h | h; exact HN.out k h; obtain rfl : k = 3 := (by omega); first | trivial | (show ¬ _; omega)⟩, ⟨below_alloc HB.out _⟩⟩
        case measure => simp [intOf]
      · have hge : 16 ≤ a := by omega
        clear hlo
        by_cases hin : a < 32
        · go_wp2
          go_quiet (fail)
          go_wp2
          go_ret3
          have ew : whatN a = (3, a - 16, 0) := by unfold whatN; rw [if_neg (by omega)]; rw [if_neg (by omega)]; rw [if_pos (by omega)]
          rw [ew]
          exact ⟨by first | rfl | simp, below_drewN_ (below_alloc HB.out _)⟩
        · have hout : 32 ≤ a := by omega
          clear hin
          have hup := HBD.out.2
          go_wp2
          go_roundw
          case rel => exact ⟨4, by omega, rfl, ⟨fun k hk => by have hk' : k = 0 ∨ k = 1 ∨ k = 2 ∨ k = 3 ∨ k = 4 ∨ k = 5 ∨ k = 6 ∨ k = 7 := (by omega); rcases Nat.lt_or_ge k 3 with h | h; exact HN.out k h; obtain rfl : k = 3 := (by omega); first | trivial | (show ¬ _; omega)⟩, ⟨below_alloc HB.out _⟩⟩
          case measure => simp [intOf]
    · have ix : ∀ w, (Instr.index 38 (.agg #[.int .i64 0, .int .i64 0, .int .i64 0, .int .i64 0, .int .i64 8, .int .i64 1, .int .i64 8, .int .i64 4, .int .i64 1, .int .i64 16, .int .i64 16, .int .i64 1, .int .i64 32, .int .i64 16, .int .i64 1, .int .i64 48, .int .i64 8, .int .i64 1, .int .i64 56, .int .i64 8, .int .i64 1, .int .i64 64, .int .i64 8, .int .i64 8]) (.int .i64 4)).run Try.prog w = .ok (.agg #[.int .i64 32, .int .i64 16, .int .i64 1]) w := fun _ => by kernel_rfl
      by_cases hlo : a < 32
      · go_wp2
        go_roundw
        case rel => exact ⟨5, by omega, rfl, ⟨fun k hk => by have hk' : k = 0 ∨ k = 1 ∨ k = 2 ∨ k = 3 ∨ k = 4 ∨ k = 5 ∨ k = 6 ∨ k = 7 := (by omega); rcases Nat.lt_or_ge k 4 with h | h; exact HN.out k h; obtain rfl : k = 4 := (by omega); first | trivial | (show ¬ _; omega)⟩, ⟨below_alloc HB.out _⟩⟩
        case measure => simp [intOf]
      · have hge : 32 ≤ a := by omega
        clear hlo
        by_cases hin : a < 48
        · go_wp2
          go_quiet (fail)
          go_wp2
          go_ret3
          have ew : whatN a = (4, a - 32, 0) := by unfold whatN; rw [if_neg (by omega)]; rw [if_neg (by omega)]; rw [if_neg (by omega)]; rw [if_pos (by omega)]
          rw [ew]
          exact ⟨by first | rfl | simp, below_drewN_ (below_alloc HB.out _)⟩
        · have hout : 48 ≤ a := by omega
          clear hin
          have hup := HBD.out.2
          go_wp2
          go_roundw
          case rel => exact ⟨5, by omega, rfl, ⟨fun k hk => by have hk' : k = 0 ∨ k = 1 ∨ k = 2 ∨ k = 3 ∨ k = 4 ∨ k = 5 ∨ k = 6 ∨ k = 7 := (by omega); rcases Nat.lt_or_ge k 4 with h | h; exact HN.out k h; obtain rfl : k = 4 := (by omega); first | trivial | (show ¬ _; omega)⟩, ⟨below_alloc HB.out _⟩⟩
          case measure => simp [intOf]
    · have ix : ∀ w, (Instr.index 38 (.agg #[.int .i64 0, .int .i64 0, .int .i64 0, .int .i64 0, .int .i64 8, .int .i64 1, .int .i64 8, .int .i64 4, .int .i64 1, .int .i64 16, .int .i64 16, .int .i64 1, .int .i64 32, .int .i64 16, .int .i64 1, .int .i64 48, .int .i64 8, .int .i64 1, .int .i64 56, .int .i64 8, .int .i64 1, .int .i64 64, .int .i64 8, .int .i64 8]) (.int .i64 5)).run Try.prog w = .ok (.agg #[.int .i64 48, .int .i64 8, .int .i64 1]) w := fun _ => by kernel_rfl
      by_cases hlo : a < 48
      · go_wp2
        go_roundw
        case rel => exact ⟨6, by omega, rfl, ⟨fun k hk => by have hk' : k = 0 ∨ k = 1 ∨ k = 2 ∨ k = 3 ∨ k = 4 ∨ k = 5 ∨ k = 6 ∨ k = 7 := (by omega); rcases Nat.lt_or_ge k 5 with h | h; exact HN.out k h; obtain rfl : k = 5 := (by omega); first | trivial | (show ¬ _; omega)⟩, ⟨below_alloc HB.out _⟩⟩
        case measure => simp [intOf]
      · have hge : 48 ≤ a := by omega
        clear hlo
        by_cases hin : a < 56
        · go_wp2
          go_quiet (fail)
          go_wp2
          go_ret3
          have ew : whatN a = (5, a - 48, 0) := by unfold whatN; rw [if_neg (by omega)]; rw [if_neg (by omega)]; rw [if_neg (by omega)]; rw [if_neg (by omega)]; rw [if_pos (by omega)]
          rw [ew]
          exact ⟨by first | rfl | simp, below_drewN_ (below_alloc HB.out _)⟩
        · have hout : 56 ≤ a := by omega
          clear hin
          have hup := HBD.out.2
          go_wp2
          go_roundw
          case rel => exact ⟨6, by omega, rfl, ⟨fun k hk => by have hk' : k = 0 ∨ k = 1 ∨ k = 2 ∨ k = 3 ∨ k = 4 ∨ k = 5 ∨ k = 6 ∨ k = 7 := (by omega); rcases Nat.lt_or_ge k 5 with h | h; exact HN.out k h; obtain rfl : k = 5 := (by omega); first | trivial | (show ¬ _; omega)⟩, ⟨below_alloc HB.out _⟩⟩
          case measure => simp [intOf]
    · have ix : ∀ w, (Instr.index 38 (.agg #[.int .i64 0, .int .i64 0, .int .i64 0, .int .i64 0, .int .i64 8, .int .i64 1, .int .i64 8, .int .i64 4, .int .i64 1, .int .i64 16, .int .i64 16, .int .i64 1, .int .i64 32, .int .i64 16, .int .i64 1, .int .i64 48, .int .i64 8, .int .i64 1, .int .i64 56, .int .i64 8, .int .i64 1, .int .i64 64, .int .i64 8, .int .i64 8]) (.int .i64 6)).run Try.prog w = .ok (.agg #[.int .i64 56, .int .i64 8, .int .i64 1]) w := fun _ => by kernel_rfl
      by_cases hlo : a < 56
      · go_wp2
        go_roundw
        case rel => exact ⟨7, by omega, rfl, ⟨fun k hk => by have hk' : k = 0 ∨ k = 1 ∨ k = 2 ∨ k = 3 ∨ k = 4 ∨ k = 5 ∨ k = 6 ∨ k = 7 := (by omega); rcases Nat.lt_or_ge k 6 with h | h; exact HN.out k h; obtain rfl : k = 6 := (by omega); first | trivial | (show ¬ _; omega)⟩, ⟨below_alloc HB.out _⟩⟩
        case measure => simp [intOf]
      · have hge : 56 ≤ a := by omega
        clear hlo
        by_cases hin : a < 64
        · go_wp2
          go_quiet (fail)
          go_wp2
          go_ret3
          have ew : whatN a = (6, a - 56, 0) := by unfold whatN; rw [if_neg (by omega)]; rw [if_neg (by omega)]; rw [if_neg (by omega)]; rw [if_neg (by omega)]; rw [if_neg (by omega)]; rw [if_pos (by omega)]
          rw [ew]
          exact ⟨by first | rfl | simp, below_drewN_ (below_alloc HB.out _)⟩
        · have hout : 64 ≤ a := by omega
          clear hin
          have hup := HBD.out.2
          go_wp2
          go_roundw
          case rel => exact ⟨7, by omega, rfl, ⟨fun k hk => by have hk' : k = 0 ∨ k = 1 ∨ k = 2 ∨ k = 3 ∨ k = 4 ∨ k = 5 ∨ k = 6 ∨ k = 7 := (by omega); rcases Nat.lt_or_ge k 6 with h | h; exact HN.out k h; obtain rfl : k = 6 := (by omega); first | trivial | (show ¬ _; omega)⟩, ⟨below_alloc HB.out _⟩⟩
          case measure => simp [intOf]
    · have ix : ∀ w, (Instr.index 38 (.agg #[.int .i64 0, .int .i64 0, .int .i64 0, .int .i64 0, .int .i64 8, .int .i64 1, .int .i64 8, .int .i64 4, .int .i64 1, .int .i64 16, .int .i64 16, .int .i64 1, .int .i64 32, .int .i64 16, .int .i64 1, .int .i64 48, .int .i64 8, .int .i64 1, .int .i64 56, .int .i64 8, .int .i64 1, .int .i64 64, .int .i64 8, .int .i64 8]) (.int .i64 7)).run Try.prog w = .ok (.agg #[.int .i64 64, .int .i64 8, .int .i64 8]) w := fun _ => by kernel_rfl
      by_cases hlo : a < 64
      · go_wp2
        go_roundw
        case rel => exact ⟨8, by omega, rfl, ⟨fun k hk => by have hk' : k = 0 ∨ k = 1 ∨ k = 2 ∨ k = 3 ∨ k = 4 ∨ k = 5 ∨ k = 6 ∨ k = 7 := (by omega); rcases Nat.lt_or_ge k 7 with h | h; exact HN.out k h; obtain rfl : k = 7 := (by omega); first | trivial | (show ¬ _; omega)⟩, ⟨below_alloc HB.out _⟩⟩
        case measure => simp [intOf]
      · have hge : 64 ≤ a := by omega
        clear hlo
        by_cases hin : a < 128
        · go_wp2
          go_quiet (fail)
          go_wp2
          go_ret3
          have ew : whatN a = (7, (a - 64) / 8, (a - 64) % 8) := by unfold whatN; rw [if_neg (by omega)]; rw [if_neg (by omega)]; rw [if_neg (by omega)]; rw [if_neg (by omega)]; rw [if_neg (by omega)]; rw [if_neg (by omega)]; rw [if_pos (by omega)]
          rw [ew]
          exact ⟨by first | rfl | simp, below_drewN_ (below_alloc HB.out _)⟩
        · have hout : 128 ≤ a := by omega
          clear hin
          have hup := HBD.out.2
          go_wp2
          go_roundw
          case rel => exact ⟨8, by omega, rfl, ⟨fun k hk => by have hk' : k = 0 ∨ k = 1 ∨ k = 2 ∨ k = 3 ∨ k = 4 ∨ k = 5 ∨ k = 6 ∨ k = 7 := (by omega); rcases Nat.lt_or_ge k 7 with h | h; exact HN.out k h; obtain rfl : k = 7 := (by omega); first | trivial | (show ¬ _; omega)⟩, ⟨below_alloc HB.out _⟩⟩
          case measure => simp [intOf]
    · go_wp2
      go_ret3
      have n1 := HN.out 1 (by omega)
      have n2 := HN.out 2 (by omega)
      have n3 := HN.out 3 (by omega)
      have n4 := HN.out 4 (by omega)
      have n5 := HN.out 5 (by omega)
      have n6 := HN.out 6 (by omega)
      have n7 := HN.out 7 (by omega)
      have ew : whatN a = (0, 0, 0) := by unfold whatN; rw [if_neg n1, if_neg n2, if_neg n3, if_neg n4, if_neg n5, if_neg n6, if_neg n7]
      rw [ew]
      exact ⟨rfl, HB.out⟩
end Go.Proofs.Ytfbfpiibmgofeaa.Q
