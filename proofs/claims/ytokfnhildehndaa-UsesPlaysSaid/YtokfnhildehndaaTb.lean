/- The functions; SortedFunc over a map's values known of by what it comes to. No condition of its own. -/
import Derived.Test.YtokfnhildehndaaSorted
namespace Go.Proofs.Ytokfnhildehndaa.Abs
open Go.RowKit
set_option linter.unusedVariables false
set_option linter.unusedSimpArgs false
def canonV (H : AH) (T : List P3) : AV := if T = [] then .sl none 0 0 true 0 else .sl (some (H.n, 0)) T.length T.length false 3
def canonH (H : AH) (T : List P3) : AH := if T = [] then H else H.new (.row false ((srt T).flatMap cells3))
theorem canon_n (H : AH) (T : List P3) : H.n ≤ (canonH H T).n := by unfold canonH; split <;> simp [AH_new_n]
theorem nz_sorted {H H2 : AH} {T : List P3} {v2 : AV} (h : SRes H T v2 H2) : Nz Try.prog H v2 H2 (canonV H T) (canonH H T) := by
  obtain ⟨k, h⟩ := h
  intro w0 ρ ρ2 w w2 c hs hv hs2 hf
  have hsub : ∀ b o, H.o b = some o → H.o b = some o ∧ H2.o b = some o := by
    intro b o hb
    have hlt : b < H.n := by
      rcases Nat.lt_or_ge b H.n with h | h
      · exact h
      · obtain ⟨x, hx, _⟩ := hs.live b o hb
        rw [hs.fresh b h] at hx
        cases hx
    exact ⟨hb, (k.o hlt).trans hb⟩
  rcases h with ⟨hT, rfl⟩ | ⟨hT, b, ex, rfl, hb, hr⟩
  · obtain ⟨g1, g2⟩ := norm_same hs hs2 hf rfl hsub
    refine ⟨ρ, ?_, ?_, ?_⟩
    · unfold canonV
      rw [if_pos hT]
      unfold VRel at hv ⊢
      exact hv
    · unfold canonH; rw [if_pos hT]; exact g1
    · unfold canonH; rw [if_pos hT]; exact g2
  · have hne : T ≠ [] := fun e => by subst e; simp at hT
    obtain ⟨y, hy, g1, g2⟩ := norm_new hs hs2 hf rfl hsub hb hr ⟨_, cells3_rels ρ (srt T)⟩
    refine ⟨ρ.add H.n y, ?_, ?_, ?_⟩
    · unfold canonV
      rw [if_neg hne]
      unfold VRel at hv ⊢
      obtain ⟨B, base, N, off, cap, e1, e2, e3, e4, e5, e6, e7⟩ := hv
      rw [hy] at e1
      cases e1
      exact ⟨B, base, N, off, cap, Rn.add_self _ _ _, e2, e3, e4, e5, nofun, e7⟩
    · unfold canonH; rw [if_neg hne]; exact g1
    · unfold canonH; rw [if_neg hne]; exact g2
/-- What is said of it. -/
def SSo (f : FuncId) (args : List AV) (H : AH) (v : AV) (H' : AH) : Prop := f = 25 ∧ ∀ (c m cl : Nat) (all : List Nat) (T : List P3) (ro : Bool), args = [.fn (.func 33) [] [.p (some (c, 0))], .fn (.func 27) [] []] → H.o c = some (.row ro [.mp (some m)]) → H.o m = some (.mapo (mE (T.map k1)) (all, cl)) → v = canonV H T ∧ H' = canonH H T
noncomputable abbrev tbl : Tbl := tblP (qS SSo)
theorem prim_ok (w0 : World) : PrimOk Try.prog w0 tbl := qS_ok SSo w0
theorem k1_inj : ∀ {T T' : List P3}, mE (T.map k1) = mE (T'.map k1) → T = T'
  | [], [], _ => rfl
  | [], y :: T', h => by simp [mE] at h
  | x :: T, [], h => by simp [mE] at h
  | x :: T, y :: T', h => by
    unfold mE at h
    simp only [List.map_cons] at h
    injection h with h1 h2
    have := k1_inj (T := T) (T' := T') h2
    subst this
    obtain ⟨x1, x2, x3⟩ := x
    obtain ⟨y1, y2, y3⟩ := y
    simp [k1, cells3] at h1
    obtain ⟨rfl, rfl, rfl⟩ := h1
    rfl
theorem sorted_spec {H : AH} {c m cl : Nat} {all : List Nat} {T : List P3} {ro : Bool} (hc : H.o c = some (.row ro [.mp (some m)])) (hcl : c < H.n) (hm : H.o m = some (.mapo (mE (T.map k1)) (all, cl))) (hml : m < H.n) (hlen : all.length = T.length) (hT : T.length ≤ 100000) (hnd : (T.map (·.1)).Nodup) :
    callR tbl 25 [.fn (.func 33) [] [.p (some (c, 0))], .fn (.func 27) [] []] H = some (canonV H T, canonH H T) := by
  obtain ⟨v, H', e, _, hs⟩ := qS_call (S := SSo) (f := 25) (args := [.fn (.func 33) [] [.p (some (c, 0))], .fn (.func 27) [] []]) (H := H) rfl ⟨canonV H T, canonH H T, ⟨rfl, fun c' m' cl' all' T' ro' ea hc' hm' => by
    cases ea
    rw [hc] at hc'
    cases hc'
    rw [hm] at hm'
    injection hm' with hm'
    injection hm' with h1 h2
    rw [k1_inj h1]
    exact ⟨rfl, rfl⟩⟩, canon_n H T, _, sorted_ev hc hcl hm hml hlen hT hnd, fun v2 H2 h => by
      obtain ⟨v3, H3, e, h3⟩ := h
      cases e
      exact nz_sorted h3⟩
  obtain ⟨rfl, rfl⟩ := hs c m cl all T ro rfl hc hm
  exact e
end Go.Proofs.Ytokfnhildehndaa.Abs
