/- The walks of rle.Runs and rle.Longest: what they hand back, told by the runs. No condition of its own. -/
import Derived.Test.YthnlgcnbpngnpaaEach
namespace Go.Proofs.Ythnlgcnbpngnpaa.Q
open Go.RowKit Go.Proofs.YthnlgcnbpngnpaaW.PrintWords Go.Proofs.YthnlgcnbpngnpaaW.PrintLast Go.Proofs.YthnlgcnbpngnpaaW.PrintMore
set_option linter.unusedVariables false
/-- Runs counts in one cell. -/
def InvR (w0 : World) (g : Nat) (cs : List (Int × Int)) (w : World) : Prop :=
  Below w0.heap.size w0 w ∧ w.heap[g]? = some (.cells #[.int .i64 (cs.length : Int)] 3 (0, 0))
theorem callsN_length (l : List Int) : ∀ i, (callsN l i).length ≤ i
  | 0 => Nat.le_refl _
  | i + 1 => by
    have := callsN_length l i
    simp only [callsN]
    split
    · rw [List.length_append, List.length_singleton]; omega
    · omega
theorem run20 (w0 : World) (g : Nat) (hg : w0.heap.size ≤ g) (cs : List (Int × Int)) (t n : Int) (hcs : cs.length ≤ 100000) (w : World) (h : InvR w0 g cs w) :
    Calls Try.prog 20 #[.int .i64 t, .int .i64 n, .pointer (some ⟨g, 0, none⟩)] w fun e w' => e = .returned (.tuple #[]) ∧ InvR w0 g (cs ++ [(t, n)]) w' := by
  obtain ⟨hb, hv⟩ := h
  have cW := cell_of_one hv
  have fW := free_of_one hv
  have hW1 : IntKind.i64.wrap ((cs.length : Int) + 1) = (cs.length : Int) + 1 := (i64_w _).trans (by unfold wrap64; omega)
  have HB := Aside0.mk hb
  have HV := Aside0.mk hv
  clear hb hv
  go_enter Try.func20, Try.ntmps20
  go_wp2
  go_end0
  refine ⟨rfl, HB.out.setCell (by show w0.heap.size ≤ g; exact hg) _, ?_⟩
  rw [List.length_append, List.length_singleton]
  exact one_setCell HV.out
set_option maxRecDepth 100000 in
theorem runs_walk (A : Option Addr) (c : Nat) (l : List Int) (w : World) (hr : Kd.C (Kd.int .i64) w A l.length l) (hc : l.length ≤ c) (hl : l.length ≤ 100000) :
    Calls Try.prog 12 #[.slice A l.length c] w fun e w' => e = .returned (.int .i64 ((callsN l l.length).length : Int)) ∧ Below w.heap.size w w' := by
  have HR := Aside0.mk hr
  clear hr
  go_enter Try.func12, Try.ntmps12
  go_wp2_with (go_at_call 17; refine (each20 A c l #[.pointer (some ⟨w.heap.size, 0, none⟩)] (InvR w w.heap.size) (fun cs W h => Kd.C_below HR.out h.1) (fun cs W m h => ⟨pw_below_drewN h.1 m, h.2⟩) (fun i W hi h => run20 w _ (Nat.le_refl _) _ _ _ (by have := callsN_length l i; omega) W h) hc hl _ ?hinv).mono ?_; (case hinv => exact ⟨below_alloc (Below.refl _ _) _, blk_new _ _⟩); rintro e w5 ⟨rfl, hI⟩; have cI := cell_of_one hI.2; have HB5 := Aside0.mk hI.1; clear hI)
  go_ret
  exact ⟨rfl, HB5.out⟩
theorem blk_new2 (w : World) (a b : Obj) : ((w.alloc a).alloc b).heap[w.heap.size + 1]? = some b := by
  have h := blk_new (w.alloc a) b
  have hs : (w.alloc a).heap.size = w.heap.size + 1 := by show (w.heap.push a).size = _; exact Array.size_push _
  rw [hs] at h
  exact h
/-- The longest run, the first of its length. -/
def stepB (b : Int × Int) (r : Int × Int) : Int × Int := if r.2 > b.2 then r else b
def bestN (cs : List (Int × Int)) : Int × Int := cs.foldl stepB (-1, 0)
/-- Longest keeps two cells. -/
def InvL (w0 : World) (g : Nat) (cs : List (Int × Int)) (w : World) : Prop :=
  Below w0.heap.size w0 w ∧ w.heap[g]? = some (.cells #[.int .i64 (bestN cs).1] 3 (0, 0)) ∧ w.heap[g + 1]? = some (.cells #[.int .i64 (bestN cs).2] 3 (0, 0))
theorem blk_set {w : World} {g h j : Nat} {o : Obj} (hb : w.heap[g]? = some o) (hne : g ≠ h) (u : Value) : (w.setCell ⟨h, j, none⟩ u).heap[g]? = some o := (Below.heap_setCell _ _ _ _ hne).trans hb
set_option maxHeartbeats 1000000 in
theorem run19 (w0 : World) (g : Nat) (hg : w0.heap.size ≤ g) (cs : List (Int × Int)) (t n : Int) (w : World) (h : InvL w0 g cs w) :
    Calls Try.prog 19 #[.int .i64 t, .int .i64 n, .pointer (some ⟨g + 1, 0, none⟩), .pointer (some ⟨g, 0, none⟩)] w fun e w' => e = .returned (.tuple #[]) ∧ InvL w0 g (cs ++ [(t, n)]) w' := by
  obtain ⟨hb, hv, hv2⟩ := h
  have cW := cell_of_one hv
  have fW := free_of_one hv
  have cW2 := cell_of_one hv2
  have fW2 := free_of_one hv2
  have HB := Aside0.mk hb
  have HV := Aside0.mk hv
  have HV2 := Aside0.mk hv2
  have HS : Aside0 (bestN (cs ++ [(t, n)]) = if n > (bestN cs).2 then (t, n) else bestN cs) := ⟨by unfold bestN; rw [List.foldl_append]; rfl⟩
  clear hb hv hv2
  by_cases hn : n > (bestN cs).2
  · have hnb : decide ((bestN cs).2 < n) = true := decide_eq_true hn
    go_enter Try.func19, Try.ntmps19
    go_wp2
    go_end0
    refine ⟨rfl, (HB.out.setCell (by show w0.heap.size ≤ g; exact hg) _).setCell (by show w0.heap.size ≤ g + 1; omega) _, ?_, ?_⟩
    · rw [HS.out, if_pos hn]; exact blk_set (one_setCell HV.out) (by omega) _
    · rw [HS.out, if_pos hn]; exact one_setCell (blk_set HV2.out (by omega) _)
  · have hnb : decide ((bestN cs).2 < n) = false := decide_eq_false hn
    go_enter Try.func19, Try.ntmps19
    go_wp2
    go_end0
    refine ⟨rfl, HB.out, ?_, ?_⟩
    · rw [HS.out, if_neg (by omega)]; exact HV.out
    · rw [HS.out, if_neg (by omega)]; exact HV2.out
set_option maxRecDepth 100000 in
theorem longest_walk (A : Option Addr) (c : Nat) (l : List Int) (w : World) (hr : Kd.C (Kd.int .i64) w A l.length l) (hc : l.length ≤ c) (hl : l.length ≤ 100000) :
    Calls Try.prog 10 #[.slice A l.length c] w fun e w' => e = .returned (.tuple #[.int .i64 (bestN (callsN l l.length)).1, .int .i64 (bestN (callsN l l.length)).2]) ∧ Below w.heap.size w w' := by
  have HR := Aside0.mk hr
  clear hr
  go_enter Try.func10, Try.ntmps10
  go_wp2_with (go_at_call 17; go_loud (refine (each19 A c l #[.pointer (some ⟨w.heap.size + 1, 0, none⟩), .pointer (some ⟨w.heap.size, 0, none⟩)] (InvL w w.heap.size) (fun cs W h => Kd.C_below HR.out h.1) (fun cs W m h => ⟨pw_below_drewN h.1 m, h.2⟩) (fun i W hi h => run19 w _ (Nat.le_refl _) _ _ _ W h) hc hl _ ?hinv).mono ?_; (case hinv => exact ⟨below_alloc (below_alloc (Below.refl _ _) _) _, blk_alloc (blk_new _ _) _, blk_new2 _ _ _⟩); rintro e w5 ⟨rfl, hI⟩; have cI := cell_of_one hI.2.1; have cI2 := cell_of_one hI.2.2; have HB5 := Aside0.mk hI.1; clear hI))
  repeat (go_quiet (fail); try go_wp2)
  go_ret2
  exact ⟨rfl, by first | exact HB5.out | exact pw_below_drewN HB5.out _⟩
end Go.Proofs.Ythnlgcnbpngnpaa.Q
