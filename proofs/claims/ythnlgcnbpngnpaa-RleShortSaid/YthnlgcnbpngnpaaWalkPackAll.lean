/- The walk of rle.Pack, whole, and Pack, Longest, Runs as functions in the form of the seat's other functions. No condition of its own. -/
import Derived.Test.YthnlgcnbpngnpaaWalkPack
namespace Go.Proofs.Ythnlgcnbpngnpaa.Q
open Go.RowKit Go.Proofs.YthnlgcnbpngnpaaW.PrintWords Go.Proofs.YthnlgcnbpngnpaaW.PrintLast Go.Proofs.YthnlgcnbpngnpaaW.PrintMore
set_option linter.unusedVariables false
/-- Whether a run is of somebody that the bytes cannot tell. -/
def badN (cs : List (Int × Int)) : Bool := cs.any fun r => decide (r.1 < 0) || decide (r.1 > 7)
/-- The bytes of the runs. -/
def bsN (cs : List (Int × Int)) : List Int := cs.foldl (fun b r => b ++ bytesF r.1 r.2) [82]
theorem bsN_snoc (cs : List (Int × Int)) (t n : Int) : bsN (cs ++ [(t, n)]) = bsN cs ++ bytesF t n := by unfold bsN; rw [List.foldl_append]; rfl
theorem badN_snoc (cs : List (Int × Int)) (t n : Int) : badN (cs ++ [(t, n)]) = (badN cs || (decide (t < 0) || decide (t > 7))) := by unfold badN; rw [List.any_append]; simp
theorem bytesF_len (t : Int) : ∀ (m : Nat) (n : Int), n ≤ m → (bytesF t n).length ≤ m := by
  intro m
  induction m using Nat.strongRecOn with
  | _ m ih =>
    intro n hn
    by_cases h : 0 < n
    · rw [bytesF_pos t h, List.length_cons]
      have := ih (m - 1) (by omega) (n - 31) (by omega)
      omega
    · rw [bytesF_nil t h]; exact Nat.zero_le _
theorem bsN_len (l : List Int) : ∀ i, (bsN (callsN l i)).length ≤ 1 + fromN l i
  | 0 => Nat.le_refl 1
  | i + 1 => by
    have h := bsN_len l i
    have hf := fromN_le l i
    simp only [callsN, fromN]
    split
    · rw [bsN_snoc, List.length_append]
      have := bytesF_len (rd l i) (i + 1 - fromN l i) ((i : Int) + 1 - (fromN l i : Int)) (by omega)
      omega
    · exact h
theorem bs_room (l : List Int) (i : Nat) : (bsN (callsN l i) ++ bytesF (rd l i) ((i : Int) + 1 - (fromN l i : Int))).length ≤ i + 2 := by
  have h := bsN_len l i
  have hf := fromN_le l i
  have := bytesF_len (rd l i) (i + 1 - fromN l i) ((i : Int) + 1 - (fromN l i : Int)) (by omega)
  rw [List.length_append]
  omega
theorem run18 (w0 : World) (g : Nat) (hg : w0.heap.size ≤ g) (cs : List (Int × Int)) (t n : Int) (w : World) (h : InvP w0 g (badN cs) (bsN cs) w) (hn : n ≤ 100000) (hlen : (bsN cs ++ bytesF t n).length ≤ 1000000) :
    Calls Try.prog 18 #[.int .i64 t, .int .i64 n, .pointer (some ⟨g + 1, 0, none⟩), .pointer (some ⟨g, 0, none⟩)] w fun e w' => e = .returned (.tuple #[]) ∧ InvP w0 g (badN (cs ++ [(t, n)])) (bsN (cs ++ [(t, n)])) w' := by
  rw [badN_snoc, bsN_snoc]
  cases hB : badN cs with
  | true => rw [hB] at h; rw [Bool.true_or]; exact run18_1 w0 g hg _ t n w h hn hlen
  | false =>
    rw [hB] at h
    rw [Bool.false_or]
    by_cases h1 : t < 0
    · rw [decide_eq_true h1, Bool.true_or]; exact run18_2 w0 g hg _ t n h1 w h hn hlen
    · rw [decide_eq_false h1, Bool.false_or]
      by_cases h2 : t > 7
      · rw [decide_eq_true h2]; exact run18_3 w0 g hg _ t n h1 h2 w h hn hlen
      · rw [decide_eq_false h2]; exact run18_4 w0 g hg _ t n h1 h2 w h hn hlen
def rle_Pack.f (l0 : List Int) : Option (List Int × Int) := if l0.length > 100000 then some ([], 5) else if badN (callsN l0 l0.length) = true then some ([], 1) else some (bsN (callsN l0 l0.length), 0)
set_option maxRecDepth 100000 in
set_option maxHeartbeats 2000000 in
theorem rle_Pack.calls (A0 : Option Addr) (c0 : Nat) (l0 : List Int) (r1 : List Int) (r2 : Int) (w : World) (hr0 : Kd.C (Kd.int .i64) w A0 l0.length l0) (hc0 : l0.length ≤ c0) (h : rle_Pack.f l0 = some (r1, r2)) :
    Calls Try.prog 8 #[.slice A0 l0.length c0] w fun e w' => ∃ v0_ : Value, e = .returned (.tuple #[v0_, .int .i64 r2]) ∧ Kd.R (Kd.int .u8) 5 w' w.heap.size (fun _ => True) v0_ r1 ∧ Below w.heap.size w w' := by
  unfold rle_Pack.f at h
  have HR := Aside0.mk hr0
  clear hr0
  by_cases hl : l0.length > 100000
  · rw [if_pos hl] at h
    obtain ⟨rfl, rfl⟩ : [] = r1 ∧ 5 = r2 := by injection h with h; injection h with h1 h2; exact ⟨h1, h2⟩
    have hlb : decide (100000 < (l0.length : Int)) = true := decide_eq_true (by omega)
    have hlb2 : decide (100000 < l0.length) = true := decide_eq_true hl
    go_enter Try.func8, Try.ntmps8
    go_wp2
    repeat (go_quiet (fail); try go_wp2)
    go_ret2
    exact ⟨_, rfl, Kd.R_nil _ _ _ _ _, by repeat (first | exact Below.refl _ _ | apply pw_below_drewN)⟩
  · rw [if_neg hl] at h
    have hl' : l0.length ≤ 100000 := by omega
    have hlb : decide (100000 < (l0.length : Int)) = false := decide_eq_false (by omega)
    have hlb2 : decide (100000 < l0.length) = false := decide_eq_false hl
    have H := Aside0.mk h
    clear h
    cases hB : badN (callsN l0 l0.length) with
    | true =>
      go_enter Try.func8, Try.ntmps8
      go_wp2_with (first | ((with_reducible refine gate_dst (N := 9) rfl ?_); refine Kd.R_lit (Kd.int .u8) (w0 := w) w.heap.size 5 ?hg (N := 9) ?hd (xs := ([82] : List Int)) (inner := [.int .u8 82]) (ok := fun _ => True) (okp := fun _ => True) ?hr ?hp (fun _ hk => hk) trivial (Below.refl _ _) (Nat.le_refl _) (by simp) ?_; (case hd => rfl); (case hg => rfl); (case hr => first | (go_simp; done) | (go_simp; rfl)); (case hp => exact (Reps.one (show Kd.M (Kd.int .u8) _ _ _ 82 [.int .u8 82] from rfl) (Reps.none _ _))); intro v108 w3 ho4 hb _ _; obtain ⟨A1, co1, rfl⟩ := Kd.R_slice ho4; have HO := Aside0.mk ho4; have HB := Aside0.mk hb; clear hb ho4) | (go_at_call 17; go_loud (refine (each18 A0 c0 l0 #[.pointer (some ⟨w3.heap.size + 1, 0, none⟩), .pointer (some ⟨w3.heap.size, 0, none⟩)] (fun cs => InvP w w3.heap.size (badN cs) (bsN cs)) (fun cs W h => Kd.C_below HR.out h.1) (fun cs W m h => ⟨pw_below_drewN h.1 m, h.2.1, h.2.2.elim fun v hv => ⟨v, hv.1, Kd.R_drewN hv.2 m⟩⟩) (fun i W hi h => run18 w _ HB.out.size _ _ _ W h (by have := fromN_le l0 i; omega) (by have := bs_room l0 i; omega)) hc0 hl' _ ?hinv).mono ?_; (case hinv => exact ⟨below_alloc (below_alloc HB.out _) _, blk_new2 _ _ _, _, blk_alloc (blk_new _ _) _, Kd.R_alloc (Kd.R_alloc HO.out _) _⟩); rintro e w5 ⟨rfl, hI⟩; rw [hB] at hI; obtain ⟨hb5, hv5, v5, hv6, hR5⟩ := hI; have cI := cell_of_one hv5; have cI2 := cell_of_one hv6; obtain ⟨A6, c6, rfl⟩ := Kd.R_slice hR5; have HB5 := Aside0.mk hb5; have HO5 := Aside0.mk hR5; clear hb5 hv5 hv6 hR5)))
      repeat (go_quiet (fail); try go_wp2)
      go_ret2
      have h := H.out
      rw [if_pos hB] at h
      obtain ⟨rfl, rfl⟩ : [] = r1 ∧ 1 = r2 := by injection h with h; injection h with h1 h2; exact ⟨h1, h2⟩
      exact ⟨_, rfl, Kd.R_nil _ _ _ _ _, by first | exact HB5.out | exact pw_below_drewN HB5.out _⟩
    | false =>
      go_enter Try.func8, Try.ntmps8
      go_wp2_with (first | ((with_reducible refine gate_dst (N := 9) rfl ?_); refine Kd.R_lit (Kd.int .u8) (w0 := w) w.heap.size 5 ?hg (N := 9) ?hd (xs := ([82] : List Int)) (inner := [.int .u8 82]) (ok := fun _ => True) (okp := fun _ => True) ?hr ?hp (fun _ hk => hk) trivial (Below.refl _ _) (Nat.le_refl _) (by simp) ?_; (case hd => rfl); (case hg => rfl); (case hr => first | (go_simp; done) | (go_simp; rfl)); (case hp => exact (Reps.one (show Kd.M (Kd.int .u8) _ _ _ 82 [.int .u8 82] from rfl) (Reps.none _ _))); intro v108 w3 ho4 hb _ _; obtain ⟨A1, co1, rfl⟩ := Kd.R_slice ho4; have HO := Aside0.mk ho4; have HB := Aside0.mk hb; clear hb ho4) | (go_at_call 17; go_loud (refine (each18 A0 c0 l0 #[.pointer (some ⟨w3.heap.size + 1, 0, none⟩), .pointer (some ⟨w3.heap.size, 0, none⟩)] (fun cs => InvP w w3.heap.size (badN cs) (bsN cs)) (fun cs W h => Kd.C_below HR.out h.1) (fun cs W m h => ⟨pw_below_drewN h.1 m, h.2.1, h.2.2.elim fun v hv => ⟨v, hv.1, Kd.R_drewN hv.2 m⟩⟩) (fun i W hi h => run18 w _ HB.out.size _ _ _ W h (by have := fromN_le l0 i; omega) (by have := bs_room l0 i; omega)) hc0 hl' _ ?hinv).mono ?_; (case hinv => exact ⟨below_alloc (below_alloc HB.out _) _, blk_new2 _ _ _, _, blk_alloc (blk_new _ _) _, Kd.R_alloc (Kd.R_alloc HO.out _) _⟩); rintro e w5 ⟨rfl, hI⟩; rw [hB] at hI; obtain ⟨hb5, hv5, v5, hv6, hR5⟩ := hI; have cI := cell_of_one hv5; have cI2 := cell_of_one hv6; obtain ⟨A6, c6, rfl⟩ := Kd.R_slice hR5; have HB5 := Aside0.mk hb5; have HO5 := Aside0.mk hR5; clear hb5 hv5 hv6 hR5)))
      repeat (go_quiet (fail); try go_wp2)
      go_ret2
      have h := H.out
      rw [if_neg (by rw [hB]; decide)] at h
      obtain ⟨rfl, rfl⟩ : bsN (callsN l0 l0.length) = r1 ∧ 0 = r2 := by injection h with h; injection h with h1 h2; exact ⟨h1, h2⟩
      exact ⟨_, rfl, by first | exact HO5.out | exact Kd.R_drewN HO5.out _, by first | exact HB5.out | exact pw_below_drewN HB5.out _⟩
def rle_Runs.f (l0 : List Int) : Option Int := if l0.length ≤ 100000 then some ((callsN l0 l0.length).length : Int) else none
theorem rle_Runs.calls (A0 : Option Addr) (c0 : Nat) (l0 : List Int) (r : Int) (w : World) (hr0 : Kd.C (Kd.int .i64) w A0 l0.length l0) (hc0 : l0.length ≤ c0) (h : rle_Runs.f l0 = some r) :
    Calls Try.prog 12 #[.slice A0 l0.length c0] w fun e w' => e = .returned (.int .i64 r) ∧ Below w.heap.size w w' := by
  unfold rle_Runs.f at h
  split at h
  · rename_i hl
    obtain rfl := Option.some.inj h
    exact runs_walk A0 c0 l0 w hr0 hc0 hl
  · cases h
def rle_Longest.f (l0 : List Int) : Option (Int × Int) := if l0.length ≤ 100000 then some (bestN (callsN l0 l0.length)) else none
theorem rle_Longest.calls (A0 : Option Addr) (c0 : Nat) (l0 : List Int) (r1 : Int) (r2 : Int) (w : World) (hr0 : Kd.C (Kd.int .i64) w A0 l0.length l0) (hc0 : l0.length ≤ c0) (h : rle_Longest.f l0 = some (r1, r2)) :
    Calls Try.prog 10 #[.slice A0 l0.length c0] w fun e w' => e = .returned (.tuple #[.int .i64 r1, .int .i64 r2]) ∧ Below w.heap.size w w' := by
  unfold rle_Longest.f at h
  split at h
  · rename_i hl
    have := longest_walk A0 c0 l0 w hr0 hc0 hl
    rw [Option.some.inj h] at this
    exact this
  · cases h
end Go.Proofs.Ythnlgcnbpngnpaa.Q
