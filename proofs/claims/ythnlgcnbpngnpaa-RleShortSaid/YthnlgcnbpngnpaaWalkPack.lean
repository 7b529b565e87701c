/- The walk of rle.Pack: the bytes, told by the runs. No condition of its own. -/
import Derived.Test.YthnlgcnbpngnpaaWalkRuns
namespace Go.Proofs.Ythnlgcnbpngnpaa.Q
open Go.RowKit Go.Proofs.YthnlgcnbpngnpaaW.PrintWords Go.Proofs.YthnlgcnbpngnpaaW.PrintLast Go.Proofs.YthnlgcnbpngnpaaW.PrintMore
set_option linter.unusedVariables false
/-- The byte of a piece of a run. -/
def byteN (t n : Int) : Int := Go.bits .or .i64 (Go.bits .and .i64 t 7) ((if 31 < n then 31 else n) * 8) % 256
/-- The bytes of a run. -/
def bytesF (t : Int) (n : Int) : List Int := if h : 0 < n then byteN t n :: bytesF t (n - 31) else []
termination_by n.toNat
decreasing_by omega
theorem bytesF_pos (t : Int) {n : Int} (h : 0 < n) : bytesF t n = byteN t n :: bytesF t (n - 31) := by rw [bytesF, dif_pos h]
theorem bytesF_nil (t : Int) {n : Int} (h : ¬ 0 < n) : bytesF t n = [] := by rw [bytesF, dif_neg h]
theorem grown_blk {w w1 : World} {row : Option Nat} {g : Nat} {o : Obj} (hg : w.grownBy w1 row) (hb : w.heap[g]? = some o) (hne : some g ≠ row) : w1.heap[g]? = some o := (hg.block g (blk_lt hb) hne).trans hb
/-- The cells that Pack's closure keeps. -/
def InvP (w0 : World) (g : Nat) (bad : Bool) (bs : List Int) (w : World) : Prop :=
  Below w0.heap.size w0 w ∧ w.heap[g + 1]? = some (.cells #[.bool bad] 4 (0, 0)) ∧ ∃ v, w.heap[g]? = some (.cells #[v] 24 (0, 0)) ∧ Kd.R (Kd.int .u8) 5 w w0.heap.size (fun _ => True) v bs
theorem InvP_set {w0 w : World} {g : Nat} {bad : Bool} {bs : List Int} (hg : w0.heap.size ≤ g) (h : InvP w0 g bad bs w) (b : Bool) : InvP w0 g b bs (w.setCell ⟨g + 1, 0, none⟩ (.bool b)) := by
  obtain ⟨hb, hv, v, hv2, hR⟩ := h
  exact ⟨hb.setCell (by show w0.heap.size ≤ g + 1; omega) _, one_setCell hv, v, blk_set hv2 (by omega) _, Kd.R_set hR hv (by decide) 0 _⟩
set_option maxHeartbeats 1000000 in
theorem run18_1 (w0 : World) (g : Nat) (hg : w0.heap.size ≤ g) (bs : List Int) (t n : Int)  (w : World) (h : InvP w0 g true bs w) (hn : n ≤ 100000) (hlen : (bs ++ bytesF t n).length ≤ 1000000) :
    Calls Try.prog 18 #[.int .i64 t, .int .i64 n, .pointer (some ⟨g + 1, 0, none⟩), .pointer (some ⟨g, 0, none⟩)] w fun e w' => e = .returned (.tuple #[]) ∧ InvP w0 g true (bs ++ bytesF t n) w' := by
  have HI := Aside0.mk (InvP_set hg h true)
  obtain ⟨hb, hv, v, hv2, hR⟩ := h
  have cW := cell_of_one hv
  have fW := free_of_one hv
  have hlen := Aside0.mk hlen
  clear hb hv hv2 hR
  go_enter Try.func18, Try.ntmps18
  go_wp2
  go_loopw [1] (fun v1 wr => ∃ (n' : Int) (bs' : List Int), n' ≤ 100000 ∧ v1 = .int .i64 n' ∧ Aside0 (InvP w0 g true bs' wr) ∧ Aside0 (bs' ++ bytesF t n' = bs ++ bytesF t n) ∧ Aside0 (-100 ≤ n' ∨ n' = n)) (fun v1 _ => (intOf v1).toNat)
  case atStart => exact ⟨n, bs, hn, rfl, HI, ⟨rfl⟩, ⟨Or.inr rfl⟩⟩
  case round =>
    clear HI cW fW
    obtain ⟨n', bs', hn', rfl, HI, HE, HM⟩ := hrel
    obtain ⟨hb, hv, v', hv2, hR⟩ := HI.out
    have cW2 := cell_of_one hv2
    have fW2 := free_of_one hv2
    have HB := Aside0.mk hb
    have HV := Aside0.mk hv
    have HV2 := Aside0.mk hv2
    have HO := Aside0.mk hR
    clear hb hv hv2 hR
    by_cases hpos : 0 < n'
    · have hlen' : Aside0 (bs'.length + 1 ≤ 1000000) := ⟨by have h1 := HE.out; rw [bytesF_pos t hpos] at h1; have h2 := hlen.out; rw [← h1, List.length_append, List.length_cons] at h2; omega⟩
      have hs : Aside0 ((bs' ++ [byteN t n']) ++ bytesF t (n' - 31) = bs ++ bytesF t n) := ⟨by rw [← HE.out, bytesF_pos t hpos, List.append_assoc]; rfl⟩
      have hW1 : IntKind.i64.wrap (n' - 31) = n' - 31 := (i64_w _).trans (by unfold wrap64; omega)
      have hby : Aside0 (byteN t n' = (Go.bits .or .i64 (Go.bits .and .i64 t 7) ((if 31 < n' then 31 else n') * 8) % 256)) := ⟨rfl⟩
      rw [hby.out] at hs
      clear hby
      go_wp2_with (first | ((with_reducible refine gate_builtin (b := .append) (xs := #[.tmp 19, .tmp 27]) rfl ?_); at_builtin; refine Kd.R_append (Kd.int .u8) (w0 := w0) w0.heap.size rfl (.tmp 19) (.tmp 27) 24 5 (.int .u8 0) 1 rfl Try.underlying24 info5 rfl (by decide) (by omega) v' bs' (Go.bits .or .i64 (Go.bits .and .i64 t 7) ((if 31 < n' then 31 else n') * 8) % 256) [.int .u8 (Go.bits .or .i64 (Go.bits .and .i64 t 7) ((if 31 < n' then 31 else n') * 8) % 256)] (fun _ => True) (fun _ => False) ?b1 ?b2 ?a1 ?a2 ?a3 HO.out HB.out ?a4 ?a5 ?_; (case b1 => rfl); (case b2 => rfl); (case a1 => rfl); (case a2 => exact fun _ h => h.elim); (case a3 => exact fun _ _ => trivial); (case a4 => exact HB.out.size); (case a5 => have := hlen'.out; omega); intro v1 w5 hO1 hB1 hg1 _; obtain ⟨A1, co1, rfl⟩ := Kd.R_slice hO1; rw [List.length_append, List.length_singleton] at hO1; have n1_ := Aside0.mk (grown_blk hg1 HV.out (Kd.R_ne HO.out HV.out (by decide))); have n2_ := Aside0.mk (grown_blk hg1 HV2.out (Kd.R_ne HO.out HV2.out (by decide))); have n0_ := Aside0.mk hO1; have n3_ := Aside0.mk hB1; have cW5 := cell_of_one n2_.out; have fW5 := free_of_one n2_.out; clear hO1 hB1 hg1))
      go_roundw
      case rel => exact ⟨n' - 31, bs' ++ [(Go.bits .or .i64 (Go.bits .and .i64 t 7) ((if 31 < n' then 31 else n') * 8) % 256)], by omega, by go_num, ⟨n3_.out.setCell (by show w0.heap.size ≤ g; exact hg) _, blk_set n1_.out (by omega) _, _, one_setCell n2_.out, Kd.R_set n0_.out n2_.out (by decide) 0 _⟩, hs, ⟨Or.inl (by omega)⟩⟩
      case measure => simp [intOf]; omega
    · have he : bs' = bs ++ bytesF t n := by rw [← HE.out, bytesF_nil t hpos, List.append_nil]
      clear HE HM
      go_wp2
      go_end0
      rw [← he]
      exact ⟨rfl, HI.out⟩
set_option maxHeartbeats 1000000 in
theorem run18_2 (w0 : World) (g : Nat) (hg : w0.heap.size ≤ g) (bs : List Int) (t n : Int) (h1 : t < 0) (w : World) (h : InvP w0 g false bs w) (hn : n ≤ 100000) (hlen : (bs ++ bytesF t n).length ≤ 1000000) :
    Calls Try.prog 18 #[.int .i64 t, .int .i64 n, .pointer (some ⟨g + 1, 0, none⟩), .pointer (some ⟨g, 0, none⟩)] w fun e w' => e = .returned (.tuple #[]) ∧ InvP w0 g true (bs ++ bytesF t n) w' := by
  have HI := Aside0.mk (InvP_set hg h true)
  obtain ⟨hb, hv, v, hv2, hR⟩ := h
  have cW := cell_of_one hv
  have fW := free_of_one hv
  have hlen := Aside0.mk hlen
  clear hb hv hv2 hR
  have h1b : decide (t < 0) = true := decide_eq_true h1
  clear h1
  go_enter Try.func18, Try.ntmps18
  go_wp2
  go_loopw [1] (fun v1 wr => ∃ (n' : Int) (bs' : List Int), n' ≤ 100000 ∧ v1 = .int .i64 n' ∧ Aside0 (InvP w0 g true bs' wr) ∧ Aside0 (bs' ++ bytesF t n' = bs ++ bytesF t n) ∧ Aside0 (-100 ≤ n' ∨ n' = n)) (fun v1 _ => (intOf v1).toNat)
  case atStart => exact ⟨n, bs, hn, rfl, HI, ⟨rfl⟩, ⟨Or.inr rfl⟩⟩
  case round =>
    clear HI cW fW
    obtain ⟨n', bs', hn', rfl, HI, HE, HM⟩ := hrel
    obtain ⟨hb, hv, v', hv2, hR⟩ := HI.out
    have cW2 := cell_of_one hv2
    have fW2 := free_of_one hv2
    have HB := Aside0.mk hb
    have HV := Aside0.mk hv
    have HV2 := Aside0.mk hv2
    have HO := Aside0.mk hR
    clear hb hv hv2 hR
    by_cases hpos : 0 < n'
    · have hlen' : Aside0 (bs'.length + 1 ≤ 1000000) := ⟨by have h1 := HE.out; rw [bytesF_pos t hpos] at h1; have h2 := hlen.out; rw [← h1, List.length_append, List.length_cons] at h2; omega⟩
      have hs : Aside0 ((bs' ++ [byteN t n']) ++ bytesF t (n' - 31) = bs ++ bytesF t n) := ⟨by rw [← HE.out, bytesF_pos t hpos, List.append_assoc]; rfl⟩
      have hW1 : IntKind.i64.wrap (n' - 31) = n' - 31 := (i64_w _).trans (by unfold wrap64; omega)
      have hby : Aside0 (byteN t n' = (Go.bits .or .i64 (Go.bits .and .i64 t 7) ((if 31 < n' then 31 else n') * 8) % 256)) := ⟨rfl⟩
      rw [hby.out] at hs
      clear hby
      go_wp2_with (first | ((with_reducible refine gate_builtin (b := .append) (xs := #[.tmp 19, .tmp 27]) rfl ?_); at_builtin; refine Kd.R_append (Kd.int .u8) (w0 := w0) w0.heap.size rfl (.tmp 19) (.tmp 27) 24 5 (.int .u8 0) 1 rfl Try.underlying24 info5 rfl (by decide) (by omega) v' bs' (Go.bits .or .i64 (Go.bits .and .i64 t 7) ((if 31 < n' then 31 else n') * 8) % 256) [.int .u8 (Go.bits .or .i64 (Go.bits .and .i64 t 7) ((if 31 < n' then 31 else n') * 8) % 256)] (fun _ => True) (fun _ => False) ?b1 ?b2 ?a1 ?a2 ?a3 HO.out HB.out ?a4 ?a5 ?_; (case b1 => rfl); (case b2 => rfl); (case a1 => rfl); (case a2 => exact fun _ h => h.elim); (case a3 => exact fun _ _ => trivial); (case a4 => exact HB.out.size); (case a5 => have := hlen'.out; omega); intro v1 w5 hO1 hB1 hg1 _; obtain ⟨A1, co1, rfl⟩ := Kd.R_slice hO1; rw [List.length_append, List.length_singleton] at hO1; have n1_ := Aside0.mk (grown_blk hg1 HV.out (Kd.R_ne HO.out HV.out (by decide))); have n2_ := Aside0.mk (grown_blk hg1 HV2.out (Kd.R_ne HO.out HV2.out (by decide))); have n0_ := Aside0.mk hO1; have n3_ := Aside0.mk hB1; have cW5 := cell_of_one n2_.out; have fW5 := free_of_one n2_.out; clear hO1 hB1 hg1))
      go_roundw
      case rel => exact ⟨n' - 31, bs' ++ [(Go.bits .or .i64 (Go.bits .and .i64 t 7) ((if 31 < n' then 31 else n') * 8) % 256)], by omega, by go_num, ⟨n3_.out.setCell (by show w0.heap.size ≤ g; exact hg) _, blk_set n1_.out (by omega) _, _, one_setCell n2_.out, Kd.R_set n0_.out n2_.out (by decide) 0 _⟩, hs, ⟨Or.inl (by omega)⟩⟩
      case measure => simp [intOf]; omega
    · have he : bs' = bs ++ bytesF t n := by rw [← HE.out, bytesF_nil t hpos, List.append_nil]
      clear HE HM
      go_wp2
      go_end0
      rw [← he]
      exact ⟨rfl, HI.out⟩
set_option maxHeartbeats 1000000 in
theorem run18_3 (w0 : World) (g : Nat) (hg : w0.heap.size ≤ g) (bs : List Int) (t n : Int) (h1 : ¬ t < 0) (h2 : t > 7) (w : World) (h : InvP w0 g false bs w) (hn : n ≤ 100000) (hlen : (bs ++ bytesF t n).length ≤ 1000000) :
    Calls Try.prog 18 #[.int .i64 t, .int .i64 n, .pointer (some ⟨g + 1, 0, none⟩), .pointer (some ⟨g, 0, none⟩)] w fun e w' => e = .returned (.tuple #[]) ∧ InvP w0 g true (bs ++ bytesF t n) w' := by
  have HI := Aside0.mk (InvP_set hg h true)
  obtain ⟨hb, hv, v, hv2, hR⟩ := h
  have cW := cell_of_one hv
  have fW := free_of_one hv
  have hlen := Aside0.mk hlen
  clear hb hv hv2 hR
  have h1b : decide (t < 0) = false := decide_eq_false h1
  have h2b : decide (7 < t) = true := decide_eq_true h2
  clear h1 h2
  go_enter Try.func18, Try.ntmps18
  go_wp2
  go_loopw [1] (fun v1 wr => ∃ (n' : Int) (bs' : List Int), n' ≤ 100000 ∧ v1 = .int .i64 n' ∧ Aside0 (InvP w0 g true bs' wr) ∧ Aside0 (bs' ++ bytesF t n' = bs ++ bytesF t n) ∧ Aside0 (-100 ≤ n' ∨ n' = n)) (fun v1 _ => (intOf v1).toNat)
  case atStart => exact ⟨n, bs, hn, rfl, HI, ⟨rfl⟩, ⟨Or.inr rfl⟩⟩
  case round =>
    clear HI cW fW
    obtain ⟨n', bs', hn', rfl, HI, HE, HM⟩ := hrel
    obtain ⟨hb, hv, v', hv2, hR⟩ := HI.out
    have cW2 := cell_of_one hv2
    have fW2 := free_of_one hv2
    have HB := Aside0.mk hb
    have HV := Aside0.mk hv
    have HV2 := Aside0.mk hv2
    have HO := Aside0.mk hR
    clear hb hv hv2 hR
    by_cases hpos : 0 < n'
    · have hlen' : Aside0 (bs'.length + 1 ≤ 1000000) := ⟨by have h1 := HE.out; rw [bytesF_pos t hpos] at h1; have h2 := hlen.out; rw [← h1, List.length_append, List.length_cons] at h2; omega⟩
      have hs : Aside0 ((bs' ++ [byteN t n']) ++ bytesF t (n' - 31) = bs ++ bytesF t n) := ⟨by rw [← HE.out, bytesF_pos t hpos, List.append_assoc]; rfl⟩
      have hW1 : IntKind.i64.wrap (n' - 31) = n' - 31 := (i64_w _).trans (by unfold wrap64; omega)
      have hby : Aside0 (byteN t n' = (Go.bits .or .i64 (Go.bits .and .i64 t 7) ((if 31 < n' then 31 else n') * 8) % 256)) := ⟨rfl⟩
      rw [hby.out] at hs
      clear hby
      go_wp2_with (first | ((with_reducible refine gate_builtin (b := .append) (xs := #[.tmp 19, .tmp 27]) rfl ?_); at_builtin; refine Kd.R_append (Kd.int .u8) (w0 := w0) w0.heap.size rfl (.tmp 19) (.tmp 27) 24 5 (.int .u8 0) 1 rfl Try.underlying24 info5 rfl (by decide) (by omega) v' bs' (Go.bits .or .i64 (Go.bits .and .i64 t 7) ((if 31 < n' then 31 else n') * 8) % 256) [.int .u8 (Go.bits .or .i64 (Go.bits .and .i64 t 7) ((if 31 < n' then 31 else n') * 8) % 256)] (fun _ => True) (fun _ => False) ?b1 ?b2 ?a1 ?a2 ?a3 HO.out HB.out ?a4 ?a5 ?_; (case b1 => rfl); (case b2 => rfl); (case a1 => rfl); (case a2 => exact fun _ h => h.elim); (case a3 => exact fun _ _ => trivial); (case a4 => exact HB.out.size); (case a5 => have := hlen'.out; omega); intro v1 w5 hO1 hB1 hg1 _; obtain ⟨A1, co1, rfl⟩ := Kd.R_slice hO1; rw [List.length_append, List.length_singleton] at hO1; have n1_ := Aside0.mk (grown_blk hg1 HV.out (Kd.R_ne HO.out HV.out (by decide))); have n2_ := Aside0.mk (grown_blk hg1 HV2.out (Kd.R_ne HO.out HV2.out (by decide))); have n0_ := Aside0.mk hO1; have n3_ := Aside0.mk hB1; have cW5 := cell_of_one n2_.out; have fW5 := free_of_one n2_.out; clear hO1 hB1 hg1))
      go_roundw
      case rel => exact ⟨n' - 31, bs' ++ [(Go.bits .or .i64 (Go.bits .and .i64 t 7) ((if 31 < n' then 31 else n') * 8) % 256)], by omega, by go_num, ⟨n3_.out.setCell (by show w0.heap.size ≤ g; exact hg) _, blk_set n1_.out (by omega) _, _, one_setCell n2_.out, Kd.R_set n0_.out n2_.out (by decide) 0 _⟩, hs, ⟨Or.inl (by omega)⟩⟩
      case measure => simp [intOf]; omega
    · have he : bs' = bs ++ bytesF t n := by rw [← HE.out, bytesF_nil t hpos, List.append_nil]
      clear HE HM
      go_wp2
      go_end0
      rw [← he]
      exact ⟨rfl, HI.out⟩
set_option maxHeartbeats 1000000 in
theorem run18_4 (w0 : World) (g : Nat) (hg : w0.heap.size ≤ g) (bs : List Int) (t n : Int) (h1 : ¬ t < 0) (h2 : ¬ t > 7) (w : World) (h : InvP w0 g false bs w) (hn : n ≤ 100000) (hlen : (bs ++ bytesF t n).length ≤ 1000000) :
    Calls Try.prog 18 #[.int .i64 t, .int .i64 n, .pointer (some ⟨g + 1, 0, none⟩), .pointer (some ⟨g, 0, none⟩)] w fun e w' => e = .returned (.tuple #[]) ∧ InvP w0 g false (bs ++ bytesF t n) w' := by
  have HI := Aside0.mk (InvP_set hg h false)
  obtain ⟨hb, hv, v, hv2, hR⟩ := h
  have cW := cell_of_one hv
  have fW := free_of_one hv
  have hlen := Aside0.mk hlen
  clear hb hv hv2 hR
  have h1b : decide (t < 0) = false := decide_eq_false h1
  have h2b : decide (7 < t) = false := decide_eq_false h2
  clear h1 h2
  go_enter Try.func18, Try.ntmps18
  go_wp2
  go_loopw [1] (fun v1 wr => ∃ (n' : Int) (bs' : List Int), n' ≤ 100000 ∧ v1 = .int .i64 n' ∧ Aside0 (InvP w0 g false bs' wr) ∧ Aside0 (bs' ++ bytesF t n' = bs ++ bytesF t n) ∧ Aside0 (-100 ≤ n' ∨ n' = n)) (fun v1 _ => (intOf v1).toNat)
  case atStart => exact ⟨n, bs, hn, rfl, HI, ⟨rfl⟩, ⟨Or.inr rfl⟩⟩
  case round =>
    clear HI cW fW
    obtain ⟨n', bs', hn', rfl, HI, HE, HM⟩ := hrel
    obtain ⟨hb, hv, v', hv2, hR⟩ := HI.out
    have cW2 := cell_of_one hv2
    have fW2 := free_of_one hv2
    have HB := Aside0.mk hb
    have HV := Aside0.mk hv
    have HV2 := Aside0.mk hv2
    have HO := Aside0.mk hR
    clear hb hv hv2 hR
    by_cases hpos : 0 < n'
    · have hlen' : Aside0 (bs'.length + 1 ≤ 1000000) := ⟨by have h1 := HE.out; rw [bytesF_pos t hpos] at h1; have h2 := hlen.out; rw [← h1, List.length_append, List.length_cons] at h2; omega⟩
      have hs : Aside0 ((bs' ++ [byteN t n']) ++ bytesF t (n' - 31) = bs ++ bytesF t n) := ⟨by rw [← HE.out, bytesF_pos t hpos, List.append_assoc]; rfl⟩
      have hW1 : IntKind.i64.wrap (n' - 31) = n' - 31 := (i64_w _).trans (by unfold wrap64; omega)
      have hby : Aside0 (byteN t n' = (Go.bits .or .i64 (Go.bits .and .i64 t 7) ((if 31 < n' then 31 else n') * 8) % 256)) := ⟨rfl⟩
      rw [hby.out] at hs
      clear hby
      go_wp2_with (first | ((with_reducible refine gate_builtin (b := .append) (xs := #[.tmp 19, .tmp 27]) rfl ?_); at_builtin; refine Kd.R_append (Kd.int .u8) (w0 := w0) w0.heap.size rfl (.tmp 19) (.tmp 27) 24 5 (.int .u8 0) 1 rfl Try.underlying24 info5 rfl (by decide) (by omega) v' bs' (Go.bits .or .i64 (Go.bits .and .i64 t 7) ((if 31 < n' then 31 else n') * 8) % 256) [.int .u8 (Go.bits .or .i64 (Go.bits .and .i64 t 7) ((if 31 < n' then 31 else n') * 8) % 256)] (fun _ => True) (fun _ => False) ?b1 ?b2 ?a1 ?a2 ?a3 HO.out HB.out ?a4 ?a5 ?_; (case b1 => rfl); (case b2 => rfl); (case a1 => rfl); (case a2 => exact fun _ h => h.elim); (case a3 => exact fun _ _ => trivial); (case a4 => exact HB.out.size); (case a5 => have := hlen'.out; omega); intro v1 w5 hO1 hB1 hg1 _; obtain ⟨A1, co1, rfl⟩ := Kd.R_slice hO1; rw [List.length_append, List.length_singleton] at hO1; have n1_ := Aside0.mk (grown_blk hg1 HV.out (Kd.R_ne HO.out HV.out (by decide))); have n2_ := Aside0.mk (grown_blk hg1 HV2.out (Kd.R_ne HO.out HV2.out (by decide))); have n0_ := Aside0.mk hO1; have n3_ := Aside0.mk hB1; have cW5 := cell_of_one n2_.out; have fW5 := free_of_one n2_.out; clear hO1 hB1 hg1))
      go_roundw
      case rel => exact ⟨n' - 31, bs' ++ [(Go.bits .or .i64 (Go.bits .and .i64 t 7) ((if 31 < n' then 31 else n') * 8) % 256)], by omega, by go_num, ⟨n3_.out.setCell (by show w0.heap.size ≤ g; exact hg) _, blk_set n1_.out (by omega) _, _, one_setCell n2_.out, Kd.R_set n0_.out n2_.out (by decide) 0 _⟩, hs, ⟨Or.inl (by omega)⟩⟩
      case measure => simp [intOf]; omega
    · have he : bs' = bs ++ bytesF t n := by rw [← HE.out, bytesF_nil t hpos, List.append_nil]
      clear HE HM
      go_wp2
      go_end0
      rw [← he]
      exact ⟨rfl, HI.out⟩
end Go.Proofs.Ythnlgcnbpngnpaa.Q
