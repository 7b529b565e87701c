/- The walk of layer 20's All, at every input: the rising list of cells; nothing that was there is turned. -/
import Derived.Test.YtfbfpiibmgofeaaWalkApart
namespace Go.Proofs.Ytfbfpiibmgofeaa.Q
open Go.RowKit Go.Proofs.YtfbfpiibmgofeaaW.PrintWords Go.Proofs.YtfbfpiibmgofeaaW.PrintLast Go.Proofs.YtfbfpiibmgofeaaW.PrintMore
set_option linter.unusedVariables false

/-- How many there are of a kind. -/
def manyN (t o c s p : Int) : Int := if p = 1 then o else if p = 2 then c else if p = 3 then s else if p = 4 then s else if p = 5 then t else if p = 6 then t else if p = 7 then t else 0
/-- Whether a cell is of something that is there. -/
def selN (t o c s : Int) (a : Nat) : Bool := decide (0 < (whatN a).1 ∧ (whatN a).2.1 < manyN t o c s (whatN a).1 ∧ ((whatN a).1 ≠ 7 ∨ (whatN a).2.2 < o))
/-- Those below a number. -/
def allN (t o c s : Int) : Nat → List Int
  | 0 => []
  | n + 1 => if selN t o c s n = true then allN t o c s n ++ [(n : Int)] else allN t o c s n
theorem allN_length (t o c s : Int) : ∀ n, (allN t o c s n).length ≤ n
  | 0 => Nat.le_refl _
  | n + 1 => by
    have := allN_length t o c s n
    simp only [allN]
    split
    · simp; omega
    · omega

theorem grown_blk {w w1 : World} {row : Option Nat} {g : Nat} {o : Obj} (hg : w.grownBy w1 row) (hb : w.heap[g]? = some o) (hne : some g ≠ row) : w1.heap[g]? = some o := (hg.block g (blk_lt hb) hne).trans hb
set_option maxRecDepth 100000 in
set_option maxHeartbeats 4000000 in
theorem all_walk (t o c s : Int) (w : World) : Calls Try.prog 12 #[.int .i64 t, .int .i64 o, .int .i64 c, .int .i64 s] w fun e w' => ∃ v : Value, e = .returned v ∧ Kd.R (Kd.int .i64) 3 w' w.heap.size (fun _ => True) v (allN t o c s 128) ∧ Below w.heap.size w w' := by
  go_enter Try.func12, Try.ntmps12
  go_wp2_with (first | ((with_reducible refine gate_dst (N := 9) rfl ?_); refine box_event ?hg (N := 9) ?hd (cs := #[.int .i64 0, .int .i64 0, .int .i64 0, .int .i64 0, .int .i64 0, .int .i64 0, .int .i64 0, .int .i64 0]) (t := 41) ?hr ?_; (case hd => rfl); (case hg => rfl); (case hr => kernel_rfl); intro g hg w2 hb hbel; have HC := Aside0.mk hb; have HE := Aside0.mk hbel; have HG := Aside0.mk (show w.heap.size ≤ g by rw [hg]; exact Nat.le_refl _); clear hb hbel hg) | ((with_reducible refine gate_store (t := 41) (p := 9) rfl ?_); go_must (refine wpList_store_row rfl 41 _ _ rfl g #[.int .i64 0, .int .i64 o, .int .i64 c, .int .i64 s, .int .i64 s, .int .i64 t, .int .i64 t, .int .i64 t] ?x1 ?x2 41 _ HC.out ?x3 ?x4 ?x5 ?_); (case x1 => rfl); (case x2 => rfl); (case x3 => kernel_rfl); (case x4 => rfl); (case x5 => first | kernel_rfl | decide | simp [Value.oneCell']); have HS := Aside0.mk (setRow_heap _ _ _ _ _ _ HC.out : (w2.setRow g #[.int .i64 0, .int .i64 o, .int .i64 c, .int .i64 s, .int .i64 s, .int .i64 t, .int .i64 t, .int .i64 t]).heap[g]? = some (.cells #[.int .i64 0, .int .i64 o, .int .i64 c, .int .i64 s, .int .i64 s, .int .i64 t, .int .i64 t, .int .i64 t] 41 (0, 0))); have HF := Aside0.mk (below_setRow HE.out HG.out #[.int .i64 0, .int .i64 o, .int .i64 c, .int .i64 s, .int .i64 s, .int .i64 t, .int .i64 t, .int .i64 t]); clear HC HE; generalize w2.setRow g #[.int .i64 0, .int .i64 o, .int .i64 c, .int .i64 s, .int .i64 s, .int .i64 t, .int .i64 t, .int .i64 t] = w3 at HS HF ⊢))
  go_loopw [10, 23] (fun v10 v23 wr => ∃ j : Nat, j ≤ 128 ∧ v23 = .int .i64 j ∧ Aside0 (Kd.R (Kd.int .i64) 3 wr w.heap.size (fun _ => True) v10 (allN t o c s j)) ∧ Aside0 (wr.heap[g]? = some (.cells #[.int .i64 0, .int .i64 o, .int .i64 c, .int .i64 s, .int .i64 s, .int .i64 t, .int .i64 t, .int .i64 t] 41 (0, 0))) ∧ Aside0 (Below w.heap.size w wr)) (fun _ v23 _ => 128 - (intOf v23).toNat)
  case atStart => exact ⟨0, by omega, rfl, ⟨Kd.R_nil _ _ _ _ _⟩, HS, HF⟩
  case round =>
    clear HS HF
    obtain ⟨j, hj, rfl, HO, HS, HB⟩ := hrel
    by_cases hlt : j < 128
    · have hw := fun w => what_walk (j : Int) (wf_small _ (by omega) (by omega)) w
      obtain ⟨p, q, r, hpq, hp0, hp7, hq0, hq1, hr0, hr1, -⟩ := at_what (j : Int)
      rw [hpq] at hw
      replace hw := Aside0.mk hw
      have hsel : selN t o c s j = decide (0 < p ∧ q < manyN t o c s p ∧ (p ≠ 7 ∨ r < o)) := by unfold selN; rw [hpq]
      have hall : allN t o c s (j + 1) = if selN t o c s j = true then allN t o c s j ++ [(j : Int)] else allN t o c s j := rfl
      rw [hsel] at hall
      replace hall := Aside0.mk hall
      have hlen := Aside0.mk (allN_length t o c s j)
      clear hpq hsel hq0 hq1 hr0 hr1
      have hc : p = 0 ∨ p = 1 ∨ p = 2 ∨ p = 3 ∨ p = 4 ∨ p = 5 ∨ p = 6 ∨ p = 7 := by omega
      clear hp0 hp7
      rcases hc with rfl | rfl | rfl | rfl | rfl | rfl | rfl | rfl
      · skip
        go_wp2_with (first | (go_at_call 7; refine (hw.out _).mono ?_; rintro e w4 ⟨rfl, hb⟩; have n0_ := Aside0.mk (Kd.R_below HO.out hb); have n1_ := Aside0.mk (blk_below HS.out hb); have n2_ := Aside0.mk (below_step HB.out hb); clear HO HS HB hb; have HO := n0_; have HS := n1_; have HB := n2_; clear n0_ n1_ n2_; have hx := blk_cell HS.out 0; simp at hx))
        go_roundw
        case rel => exact ⟨j + 1, by omega, by go_num, by rw [hall.out, if_neg (by simp [manyN]; try omega)]; exact HO, HS, HB⟩
        case measure => simp [intOf]; omega
      · skip
        by_cases hq : q < o
        · skip
          go_wp2_with (first | (go_at_call 7; refine (hw.out _).mono ?_; rintro e w4 ⟨rfl, hb⟩; have n0_ := Aside0.mk (Kd.R_below HO.out hb); have n1_ := Aside0.mk (blk_below HS.out hb); have n2_ := Aside0.mk (below_step HB.out hb); clear HO HS HB hb; have HO := n0_; have HS := n1_; have HB := n2_; clear n0_ n1_ n2_; have hx := blk_cell HS.out 1; simp at hx) | ((with_reducible refine gate_builtin (b := .append) (xs := #[.tmp 50, .tmp 52]) rfl ?_); at_builtin; refine Kd.R_append (Kd.int .i64) (w0 := w) w.heap.size rfl (.tmp 50) (.tmp 52) 30 3 (.int .i64 0) 8 rfl Try.underlying30 info3 rfl (by decide) (by omega) _ (allN t o c s j) (j : Int) [.int .i64 (j : Int)] (fun _ => True) (fun _ => False) rfl rfl ?a1 ?a2 ?a3 HO.out HB.out ?a4 ?a5 ?_; (case a1 => rfl); (case a2 => exact fun _ h => h.elim); (case a3 => exact fun _ _ => trivial); (case a4 => exact HB.out.size); (case a5 => have := hlen.out; omega); intro v1 w5 hO1 hB1 hg1 _; have n1_ := Aside0.mk (grown_blk hg1 HS.out (Kd.R_ne HO.out HS.out (by decide))); have n0_ := Aside0.mk hO1; have n2_ := Aside0.mk hB1; clear hO1 hB1 hg1 HO HS HB; have HO := n0_; have HS := n1_; have HB := n2_; clear n0_ n1_ n2_))
          go_roundw
          case rel => exact ⟨j + 1, by omega, by go_num, by rw [hall.out, if_pos (by simp [manyN]; omega)]; exact HO, HS, HB⟩
          case measure => simp [intOf]; omega
        · replace hq : o ≤ q := by omega
          go_wp2_with (first | (go_at_call 7; refine (hw.out _).mono ?_; rintro e w4 ⟨rfl, hb⟩; have n0_ := Aside0.mk (Kd.R_below HO.out hb); have n1_ := Aside0.mk (blk_below HS.out hb); have n2_ := Aside0.mk (below_step HB.out hb); clear HO HS HB hb; have HO := n0_; have HS := n1_; have HB := n2_; clear n0_ n1_ n2_; have hx := blk_cell HS.out 1; simp at hx))
          go_roundw
          case rel => exact ⟨j + 1, by omega, by go_num, by rw [hall.out, if_neg (by simp [manyN]; try omega)]; exact HO, HS, HB⟩
          case measure => simp [intOf]; omega
      · skip
        by_cases hq : q < c
        · skip
          go_wp2_with (first | (go_at_call 7; refine (hw.out _).mono ?_; rintro e w4 ⟨rfl, hb⟩; have n0_ := Aside0.mk (Kd.R_below HO.out hb); have n1_ := Aside0.mk (blk_below HS.out hb); have n2_ := Aside0.mk (below_step HB.out hb); clear HO HS HB hb; have HO := n0_; have HS := n1_; have HB := n2_; clear n0_ n1_ n2_; have hx := blk_cell HS.out 2; simp at hx) | ((with_reducible refine gate_builtin (b := .append) (xs := #[.tmp 50, .tmp 52]) rfl ?_); at_builtin; refine Kd.R_append (Kd.int .i64) (w0 := w) w.heap.size rfl (.tmp 50) (.tmp 52) 30 3 (.int .i64 0) 8 rfl Try.underlying30 info3 rfl (by decide) (by omega) _ (allN t o c s j) (j : Int) [.int .i64 (j : Int)] (fun _ => True) (fun _ => False) rfl rfl ?a1 ?a2 ?a3 HO.out HB.out ?a4 ?a5 ?_; (case a1 => rfl); (case a2 => exact fun _ h => h.elim); (case a3 => exact fun _ _ => trivial); (case a4 => exact HB.out.size); (case a5 => have := hlen.out; omega); intro v1 w5 hO1 hB1 hg1 _; have n1_ := Aside0.mk (grown_blk hg1 HS.out (Kd.R_ne HO.out HS.out (by decide))); have n0_ := Aside0.mk hO1; have n2_ := Aside0.mk hB1; clear hO1 hB1 hg1 HO HS HB; have HO := n0_; have HS := n1_; have HB := n2_; clear n0_ n1_ n2_))
          go_roundw
          case rel => exact ⟨j + 1, by omega, by go_num, by rw [hall.out, if_pos (by simp [manyN]; omega)]; exact HO, HS, HB⟩
          case measure => simp [intOf]; omega
        · replace hq : c ≤ q := by omega
          go_wp2_with (first | (go_at_call 7; refine (hw.out _).mono ?_; rintro e w4 ⟨rfl, hb⟩; have n0_ := Aside0.mk (Kd.R_below HO.out hb); have n1_ := Aside0.mk (blk_below HS.out hb); have n2_ := Aside0.mk (below_step HB.out hb); clear HO HS HB hb; have HO := n0_; have HS := n1_; have HB := n2_; clear n0_ n1_ n2_; have hx := blk_cell HS.out 2; simp at hx))
          go_roundw
          case rel => exact ⟨j + 1, by omega, by go_num, by rw [hall.out, if_neg (by simp [manyN]; try omega)]; exact HO, HS, HB⟩
          case measure => simp [intOf]; omega
      · skip
        by_cases hq : q < s
        · skip
          go_wp2_with (first | (go_at_call 7; refine (hw.out _).mono ?_; rintro e w4 ⟨rfl, hb⟩; have n0_ := Aside0.mk (Kd.R_below HO.out hb); have n1_ := Aside0.mk (blk_below HS.out hb); have n2_ := Aside0.mk (below_step HB.out hb); clear HO HS HB hb; have HO := n0_; have HS := n1_; have HB := n2_; clear n0_ n1_ n2_; have hx := blk_cell HS.out 3; simp at hx) | ((with_reducible refine gate_builtin (b := .append) (xs := #[.tmp 50, .tmp 52]) rfl ?_); at_builtin; refine Kd.R_append (Kd.int .i64) (w0 := w) w.heap.size rfl (.tmp 50) (.tmp 52) 30 3 (.int .i64 0) 8 rfl Try.underlying30 info3 rfl (by decide) (by omega) _ (allN t o c s j) (j : Int) [.int .i64 (j : Int)] (fun _ => True) (fun _ => False) rfl rfl ?a1 ?a2 ?a3 HO.out HB.out ?a4 ?a5 ?_; (case a1 => rfl); (case a2 => exact fun _ h => h.elim); (case a3 => exact fun _ _ => trivial); (case a4 => exact HB.out.size); (case a5 => have := hlen.out; omega); intro v1 w5 hO1 hB1 hg1 _; have n1_ := Aside0.mk (grown_blk hg1 HS.out (Kd.R_ne HO.out HS.out (by decide))); have n0_ := Aside0.mk hO1; have n2_ := Aside0.mk hB1; clear hO1 hB1 hg1 HO HS HB; have HO := n0_; have HS := n1_; have HB := n2_; clear n0_ n1_ n2_))
          go_roundw
          case rel => exact ⟨j + 1, by omega, by go_num, by rw [hall.out, if_pos (by simp [manyN]; omega)]; exact HO, HS, HB⟩
          case measure => simp [intOf]; omega
        · replace hq : s ≤ q := by omega
          go_wp2_with (first | (go_at_call 7; refine (hw.out _).mono ?_; rintro e w4 ⟨rfl, hb⟩; have n0_ := Aside0.mk (Kd.R_below HO.out hb); have n1_ := Aside0.mk (blk_below HS.out hb); have n2_ := Aside0.mk (below_step HB.out hb); clear HO HS HB hb; have HO := n0_; have HS := n1_; have HB := n2_; clear n0_ n1_ n2_; have hx := blk_cell HS.out 3; simp at hx))
          go_roundw
          case rel => exact ⟨j + 1, by omega, by go_num, by rw [hall.out, if_neg (by simp [manyN]; try omega)]; exact HO, HS, HB⟩
          case measure => simp [intOf]; omega
      · skip
        by_cases hq : q < s
        · skip
          go_wp2_with (first | (go_at_call 7; refine (hw.out _).mono ?_; rintro e w4 ⟨rfl, hb⟩; have n0_ := Aside0.mk (Kd.R_below HO.out hb); have n1_ := Aside0.mk (blk_below HS.out hb); have n2_ := Aside0.mk (below_step HB.out hb); clear HO HS HB hb; have HO := n0_; have HS := n1_; have HB := n2_; clear n0_ n1_ n2_; have hx := blk_cell HS.out 4; simp at hx) | ((with_reducible refine gate_builtin (b := .append) (xs := #[.tmp 50, .tmp 52]) rfl ?_); at_builtin; refine Kd.R_append (Kd.int .i64) (w0 := w) w.heap.size rfl (.tmp 50) (.tmp 52) 30 3 (.int .i64 0) 8 rfl Try.underlying30 info3 rfl (by decide) (by omega) _ (allN t o c s j) (j : Int) [.int .i64 (j : Int)] (fun _ => True) (fun _ => False) rfl rfl ?a1 ?a2 ?a3 HO.out HB.out ?a4 ?a5 ?_; (case a1 => rfl); (case a2 => exact fun _ h => h.elim); (case a3 => exact fun _ _ => trivial); (case a4 => exact HB.out.size); (case a5 => have := hlen.out; omega); intro v1 w5 hO1 hB1 hg1 _; have n1_ := Aside0.mk (grown_blk hg1 HS.out (Kd.R_ne HO.out HS.out (by decide))); have n0_ := Aside0.mk hO1; have n2_ := Aside0.mk hB1; clear hO1 hB1 hg1 HO HS HB; have HO := n0_; have HS := n1_; have HB := n2_; clear n0_ n1_ n2_))
          go_roundw
          case rel => exact ⟨j + 1, by omega, by go_num, by rw [hall.out, if_pos (by simp [manyN]; omega)]; exact HO, HS, HB⟩
          case measure => simp [intOf]; omega
        · replace hq : s ≤ q := by omega
          go_wp2_with (first | (go_at_call 7; refine (hw.out _).mono ?_; rintro e w4 ⟨rfl, hb⟩; have n0_ := Aside0.mk (Kd.R_below HO.out hb); have n1_ := Aside0.mk (blk_below HS.out hb); have n2_ := Aside0.mk (below_step HB.out hb); clear HO HS HB hb; have HO := n0_; have HS := n1_; have HB := n2_; clear n0_ n1_ n2_; have hx := blk_cell HS.out 4; simp at hx))
          go_roundw
          case rel => exact ⟨j + 1, by omega, by go_num, by rw [hall.out, if_neg (by simp [manyN]; try omega)]; exact HO, HS, HB⟩
          case measure => simp [intOf]; omega
      · skip
        by_cases hq : q < t
        · skip
          go_wp2_with (first | (go_at_call 7; refine (hw.out _).mono ?_; rintro e w4 ⟨rfl, hb⟩; have n0_ := Aside0.mk (Kd.R_below HO.out hb); have n1_ := Aside0.mk (blk_below HS.out hb); have n2_ := Aside0.mk (below_step HB.out hb); clear HO HS HB hb; have HO := n0_; have HS := n1_; have HB := n2_; clear n0_ n1_ n2_; have hx := blk_cell HS.out 5; simp at hx) | ((with_reducible refine gate_builtin (b := .append) (xs := #[.tmp 50, .tmp 52]) rfl ?_); at_builtin; refine Kd.R_append (Kd.int .i64) (w0 := w) w.heap.size rfl (.tmp 50) (.tmp 52) 30 3 (.int .i64 0) 8 rfl Try.underlying30 info3 rfl (by decide) (by omega) _ (allN t o c s j) (j : Int) [.int .i64 (j : Int)] (fun _ => True) (fun _ => False) rfl rfl ?a1 ?a2 ?a3 HO.out HB.out ?a4 ?a5 ?_; (case a1 => rfl); (case a2 => exact fun _ h => h.elim); (case a3 => exact fun _ _ => trivial); (case a4 => exact HB.out.size); (case a5 => have := hlen.out; omega); intro v1 w5 hO1 hB1 hg1 _; have n1_ := Aside0.mk (grown_blk hg1 HS.out (Kd.R_ne HO.out HS.out (by decide))); have n0_ := Aside0.mk hO1; have n2_ := Aside0.mk hB1; clear hO1 hB1 hg1 HO HS HB; have HO := n0_; have HS := n1_; have HB := n2_; clear n0_ n1_ n2_))
          go_roundw
          case rel => exact ⟨j + 1, by omega, by go_num, by rw [hall.out, if_pos (by simp [manyN]; omega)]; exact HO, HS, HB⟩
          case measure => simp [intOf]; omega
        · replace hq : t ≤ q := by omega
          go_wp2_with (first | (go_at_call 7; refine (hw.out _).mono ?_; rintro e w4 ⟨rfl, hb⟩; have n0_ := Aside0.mk (Kd.R_below HO.out hb); have n1_ := Aside0.mk (blk_below HS.out hb); have n2_ := Aside0.mk (below_step HB.out hb); clear HO HS HB hb; have HO := n0_; have HS := n1_; have HB := n2_; clear n0_ n1_ n2_; have hx := blk_cell HS.out 5; simp at hx))
          go_roundw
          case rel => exact ⟨j + 1, by omega, by go_num, by rw [hall.out, if_neg (by simp [manyN]; try omega)]; exact HO, HS, HB⟩
          case measure => simp [intOf]; omega
      · skip
        by_cases hq : q < t
        · skip
          go_wp2_with (first | (go_at_call 7; refine (hw.out _).mono ?_; rintro e w4 ⟨rfl, hb⟩; have n0_ := Aside0.mk (Kd.R_below HO.out hb); have n1_ := Aside0.mk (blk_below HS.out hb); have n2_ := Aside0.mk (below_step HB.out hb); clear HO HS HB hb; have HO := n0_; have HS := n1_; have HB := n2_; clear n0_ n1_ n2_; have hx := blk_cell HS.out 6; simp at hx) | ((with_reducible refine gate_builtin (b := .append) (xs := #[.tmp 50, .tmp 52]) rfl ?_); at_builtin; refine Kd.R_append (Kd.int .i64) (w0 := w) w.heap.size rfl (.tmp 50) (.tmp 52) 30 3 (.int .i64 0) 8 rfl Try.underlying30 info3 rfl (by decide) (by omega) _ (allN t o c s j) (j : Int) [.int .i64 (j : Int)] (fun _ => True) (fun _ => False) rfl rfl ?a1 ?a2 ?a3 HO.out HB.out ?a4 ?a5 ?_; (case a1 => rfl); (case a2 => exact fun _ h => h.elim); (case a3 => exact fun _ _ => trivial); (case a4 => exact HB.out.size); (case a5 => have := hlen.out; omega); intro v1 w5 hO1 hB1 hg1 _; have n1_ := Aside0.mk (grown_blk hg1 HS.out (Kd.R_ne HO.out HS.out (by decide))); have n0_ := Aside0.mk hO1; have n2_ := Aside0.mk hB1; clear hO1 hB1 hg1 HO HS HB; have HO := n0_; have HS := n1_; have HB := n2_; clear n0_ n1_ n2_))
          go_roundw
          case rel => exact ⟨j + 1, by omega, by go_num, by rw [hall.out, if_pos (by simp [manyN]; omega)]; exact HO, HS, HB⟩
          case measure => simp [intOf]; omega
        · replace hq : t ≤ q := by omega
          go_wp2_with (first | (go_at_call 7; refine (hw.out _).mono ?_; rintro e w4 ⟨rfl, hb⟩; have n0_ := Aside0.mk (Kd.R_below HO.out hb); have n1_ := Aside0.mk (blk_below HS.out hb); have n2_ := Aside0.mk (below_step HB.out hb); clear HO HS HB hb; have HO := n0_; have HS := n1_; have HB := n2_; clear n0_ n1_ n2_; have hx := blk_cell HS.out 6; simp at hx))
          go_roundw
          case rel => exact ⟨j + 1, by omega, by go_num, by rw [hall.out, if_neg (by simp [manyN]; try omega)]; exact HO, HS, HB⟩
          case measure => simp [intOf]; omega
      · skip
        by_cases hq : q < t
        · by_cases hr : r < o
          · skip
            go_wp2_with (first | (go_at_call 7; refine (hw.out _).mono ?_; rintro e w4 ⟨rfl, hb⟩; have n0_ := Aside0.mk (Kd.R_below HO.out hb); have n1_ := Aside0.mk (blk_below HS.out hb); have n2_ := Aside0.mk (below_step HB.out hb); clear HO HS HB hb; have HO := n0_; have HS := n1_; have HB := n2_; clear n0_ n1_ n2_; have hx := blk_cell HS.out 7; simp at hx) | ((with_reducible refine gate_builtin (b := .append) (xs := #[.tmp 50, .tmp 52]) rfl ?_); at_builtin; refine Kd.R_append (Kd.int .i64) (w0 := w) w.heap.size rfl (.tmp 50) (.tmp 52) 30 3 (.int .i64 0) 8 rfl Try.underlying30 info3 rfl (by decide) (by omega) _ (allN t o c s j) (j : Int) [.int .i64 (j : Int)] (fun _ => True) (fun _ => False) rfl rfl ?a1 ?a2 ?a3 HO.out HB.out ?a4 ?a5 ?_; (case a1 => rfl); (case a2 => exact fun _ h => h.elim); (case a3 => exact fun _ _ => trivial); (case a4 => exact HB.out.size); (case a5 => have := hlen.out; omega); intro v1 w5 hO1 hB1 hg1 _; have n1_ := Aside0.mk (grown_blk hg1 HS.out (Kd.R_ne HO.out HS.out (by decide))); have n0_ := Aside0.mk hO1; have n2_ := Aside0.mk hB1; clear hO1 hB1 hg1 HO HS HB; have HO := n0_; have HS := n1_; have HB := n2_; clear n0_ n1_ n2_))
            go_roundw
            case rel => exact ⟨j + 1, by omega, by go_num, by rw [hall.out, if_pos (by simp [manyN]; omega)]; exact HO, HS, HB⟩
            case measure => simp [intOf]; omega
          · replace hr : o ≤ r := by omega
            go_wp2_with (first | (go_at_call 7; refine (hw.out _).mono ?_; rintro e w4 ⟨rfl, hb⟩; have n0_ := Aside0.mk (Kd.R_below HO.out hb); have n1_ := Aside0.mk (blk_below HS.out hb); have n2_ := Aside0.mk (below_step HB.out hb); clear HO HS HB hb; have HO := n0_; have HS := n1_; have HB := n2_; clear n0_ n1_ n2_; have hx := blk_cell HS.out 7; simp at hx))
            go_roundw
            case rel => exact ⟨j + 1, by omega, by go_num, by rw [hall.out, if_neg (by simp [manyN]; try omega)]; exact HO, HS, HB⟩
            case measure => simp [intOf]; omega
        · replace hq : t ≤ q := by omega
          go_wp2_with (first | (go_at_call 7; refine (hw.out _).mono ?_; rintro e w4 ⟨rfl, hb⟩; have n0_ := Aside0.mk (Kd.R_below HO.out hb); have n1_ := Aside0.mk (blk_below HS.out hb); have n2_ := Aside0.mk (below_step HB.out hb); clear HO HS HB hb; have HO := n0_; have HS := n1_; have HB := n2_; clear n0_ n1_ n2_; have hx := blk_cell HS.out 7; simp at hx))
          go_roundw
          case rel => exact ⟨j + 1, by omega, by go_num, by rw [hall.out, if_neg (by simp [manyN]; try omega)]; exact HO, HS, HB⟩
          case measure => simp [intOf]; omega
    · obtain rfl : j = 128 := by omega
      clear hlt hj
      go_wp2
      go_ret
      exact ⟨_, rfl, HO.out, HB.out⟩
end Go.Proofs.Ytfbfpiibmgofeaa.Q
