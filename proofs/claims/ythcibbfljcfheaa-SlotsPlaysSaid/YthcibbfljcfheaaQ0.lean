/- slices.Insert of one whole number as a function known of by what it comes to. No condition of its own. -/
import Derived.Test.YthcibbfljcfheaaInsOk
import Derived.Test.YthcibbfljcfheaaCode
namespace Go.Proofs.Ythcibbfljcfheaa.Abs
open Go.RowKit
set_option linter.unusedVariables false
set_option linter.unusedSimpArgs false
def pIns : PrimF := fun f args H =>
  match f, args with
  | 36, [.sl (some (b, o)) n lo ex 1, .i .i64 i, .sl (some (vb, vo)) 1 lo3 ex3 sz3] => (match H.o b, H.o vb with
    | some (.row false cs), some (.row false vs) => if vb ≠ b ∧ 0 ≤ i ∧ i.toNat ≤ n ∧ o + n ≤ cs.length ∧ vo + 1 ≤ vs.length ∧ n ≤ 1000000 then
        some (.sl (some (H.n, 0)) (n + 1) (n + 1) false 1, H.move b (.row false (((cs.drop o).take n).take i.toNat ++ (vs.drop vo).take 1 ++ ((cs.drop o).take n).drop i.toNat))) else none
    | _, _ => none)
  | 36, [.sl none n lo ex sz, .i .i64 0, .sl (some (vb, vo)) 1 lo3 ex3 sz3] => (match H.o vb with
    | some (.row false vs) => if vo + 1 ≤ vs.length then some (.sl (some (H.n, 0)) 1 1 false 1, H.new (.row false ((vs.drop vo).take 1))) else none
    | _ => none)
  | _, _ => none
def q0 : Prm := ⟨pIns, fun f args H v H' h => by
  unfold pIns at h
  split at h
  · repeat' (split at h)
    all_goals first | (cases h; done) | (cases h; exact Nat.le_succ _)
  · repeat' (split at h)
    all_goals first | (cases h; done) | (cases h; exact Nat.le_succ _)
  · cases h⟩
theorem three {ρ : Rn} {a b c : AV} {vs : Array Value} (h : VRels ρ [a, b, c] vs.toList) : ∃ x y z, vs = #[x, y, z] ∧ VRel ρ a x ∧ VRel ρ b y ∧ VRel ρ c z := by
  unfold VRels at h
  obtain ⟨x, l1, e, h1, h⟩ := h
  unfold VRels at h
  obtain ⟨y, l2, rfl, h2, h⟩ := h
  unfold VRels at h
  obtain ⟨z, l3, rfl, h3, h⟩ := h
  unfold VRels at h
  subst h
  refine ⟨x, y, z, ?_, h1, h2, h3⟩
  cases vs
  simp at e
  rw [e]
/-- .. of none. -/
theorem ins_nil {w0 : World} {ρ : Rn} {H : AH} {w : World} (hs : Sim Try.prog w0 ρ H w) {vb vo lo3 sz3 : Nat} {ex3 : Bool} {vs : List AV} {x3 : Value} (h3 : VRel ρ (.sl (some (vb, vo)) 1 lo3 ex3 sz3) x3) (hV : H.o vb = some (.row false vs)) (hle3 : vo + 1 ≤ vs.length) :
    Calls Try.prog 36 #[.slice none 0 0, .int .i64 0, x3] w fun e w' => ∃ ρ' u, e = .returned u ∧ VRel ρ' (.sl (some (H.n, 0)) 1 1 false 1) u ∧ Sim Try.prog w0 ρ' (H.new (.row false ((vs.drop vo).take 1))) w' ∧ Fr ρ H w ρ' (H.new (.row false ((vs.drop vo).take 1))) w' := by
  unfold VRel at h3
  obtain ⟨VB, vbase, VN, voff, vcap, hvb, rfl, hvo, k1, ⟨k2, _⟩, k3, k4⟩ := h3
  have hvo : voff = vbase + vo := by rcases hvo with h | ⟨h, _⟩ <;> omega
  subst hvo
  obtain ⟨q, hq, vc, vel, vfr, vheap, hvfr, vrel, vone⟩ := hs.live _ _ hV
  rw [hvb] at hq
  cases hq
  obtain ⟨rfl, vsz, vbl⟩ := hvfr rfl
  simp only at vheap vsz vbl vrel
  have hvlen : vc.toList.length = vc.size := Array.length_toList
  obtain ⟨news, hnw⟩ : ∃ l, l = (vc.toList.drop (vbase + vo)).take 1 := ⟨_, rfl⟩
  have hnl : news.length = 1 := by rw [hnw]; simp; omega
  have hnr : VRels ρ ((vs.drop vo).take 1) news := by
    have := (vrel.drop vo).take 1
    rw [List.drop_take, List.drop_drop, List.take_take, Nat.min_eq_left (by omega)] at this
    rw [hnw]
    exact this
  have hn1 : ∀ a ∈ (vs.drop vo).take 1, a.one = true := fun a ha => vone a (List.mem_of_mem_drop (List.mem_of_mem_take ha))
  have hvs : ∀ j v, news[j]? = some v → w.cell? ⟨VB, vbase + vo + j, none⟩ = some v := by
    intro j v hj
    rw [hnw, List.getElem?_take] at hj
    split at hj
    · rw [List.getElem?_drop, Array.getElem?_toList] at hj
      unfold World.cell?
      simp only [vheap, Option.isSome_none, Bool.false_eq_true, if_false]
      exact hj
    · cases hj
  have hcon := Any2.slices_Insert_int_end_grow Try.ins36 none 0 0 VB (vbase + vo) 1 vcap [] news w (by omega) (Nat.le_refl _) (by omega) (by omega) rfl hnl (fun _ => rfl) (fun a ha => by cases ha) hvs (hnr.oneCell hn1)
  change Calls Try.prog 36 _ _ _ at hcon
  refine hcon.mono ?_
  rintro e w' ⟨rfl, rfl⟩
  obtain ⟨q1, q2⟩ := cap_in w (need := 0 + 1) (old := 0) (Try.ins36_ren.t 3) (by omega)
  obtain ⟨G, hG⟩ : ∃ G, G = grownCap w (0 + 1) 0 (Try.ins36_ren.t 3) := ⟨_, rfl⟩
  rw [← hG] at q1 q2 ⊢
  obtain ⟨z2, hz2⟩ : ∃ z, z = Builtin.zeroCells (Value.int .i64 0).cells (G - (0 + 1)) := ⟨_, rfl⟩
  have hz2s : z2.size = G - 1 := by rw [hz2, zc_size]
  rw [← hz2]
  obtain ⟨g1, g2, g3⟩ := grow_sound (P := Try.prog) (rest := []) (tail := z2) (cells := news.toArray) («as» := (vs.drop vo).take 1) hs (by simpa using hnr) hn1 (Try.ins36_ren.t 3) (w.drawn + 1)
  refine ⟨_, _, rfl, ?_, g2, g3⟩
  unfold VRel
  refine ⟨w.heap.size, 0, _, 0, G, Rn.add_self _ _ _, rfl, Or.inl rfl, by omega, ⟨by omega, fun _ => q2⟩, nofun, ?_⟩
  simp
  omega
theorem q0_ok (w0 : World) : PrimOk Try.prog w0 (tblP q0) := by
  intro f args H v H' hf h ρ w cargs hs hargs
  have h : pIns f args H = some (v, H') := h
  unfold pIns at h
  have eg : ∀ args w, (callFunc 36 args).run Try.prog w = .ok (.enter 36 args) w := enters_of Try.func36 (by kernel_rfl) rfl
  split at h
  · rename_i b o n lo ex i vb vo lo3 ex3 sz3 _
    split at h
    case h_2 => cases h
    rename_i cs vs hb hv
    split at h
    case isFalse => cases h
    rename_i hc
    obtain ⟨h1, h2, h3, h4, h5, h6⟩ := hc
    cases h
    obtain ⟨x, y, z, rfl, hx, hy, hz⟩ := three hargs
    unfold VRel at hy
    subst hy
    obtain ⟨k, rfl⟩ := Int.eq_ofNat_of_zero_le h2
    exact Or.inl ⟨eg _ _, ins_world hs hx hz hb hv h1 h3 h4 h5 h6⟩
  · rename_i n lo ex sz vb vo lo3 ex3 sz3 _
    split at h
    case h_2 => cases h
    rename_i vs hv
    split at h
    case isFalse => cases h
    rename_i h5
    cases h
    obtain ⟨x, y, z, rfl, hx, hy, hz⟩ := three hargs
    unfold VRel at hx hy
    obtain ⟨_, _, _, rfl⟩ := hx
    subst hy
    exact Or.inl ⟨eg _ _, ins_nil hs hz hv h5⟩
  · cases h
/-- Inserted: a slice of whole numbers. -/
theorem ins_some {H : AH} {b o n lo i vb vo lo3 sz3 : Nat} {ex ex3 : Bool} {cs vs : List AV} (hb : H.o b = some (.row false cs)) (hv : H.o vb = some (.row false vs)) (hne : vb ≠ b) (hi : i ≤ n) (hle : o + n ≤ cs.length) (hle3 : vo + 1 ≤ vs.length) (hn : n ≤ 1000000) :
    callR (tblP q0) 36 [.sl (some (b, o)) n lo ex 1, .i .i64 i, .sl (some (vb, vo)) 1 lo3 ex3 sz3] H = some (.sl (some (H.n, 0)) (n + 1) (n + 1) false 1, H.move b (.row false (((cs.drop o).take n).take i ++ (vs.drop vo).take 1 ++ ((cs.drop o).take n).drop i))) := by
  unfold callR
  have e : (tblP q0).f 36 = none := rfl
  rw [e]
  show pIns 36 [.sl (some (b, o)) n lo ex 1, .i .i64 i, .sl (some (vb, vo)) 1 lo3 ex3 sz3] H = _
  have h0 : (0 : Int) ≤ i := by omega
  simp only [pIns, hb, hv, ne_eq, hne, not_false_eq_true, h0, Int.toNat_natCast, hi, hle, hle3, hn, and_self, if_true]
theorem ins_none {H : AH} {n lo vb vo lo3 sz sz3 : Nat} {ex ex3 : Bool} {vs : List AV} (hv : H.o vb = some (.row false vs)) (hle3 : vo + 1 ≤ vs.length) :
    callR (tblP q0) 36 [.sl none n lo ex sz, .i .i64 0, .sl (some (vb, vo)) 1 lo3 ex3 sz3] H = some (.sl (some (H.n, 0)) 1 1 false 1, H.new (.row false ((vs.drop vo).take 1))) := by
  unfold callR
  have e : (tblP q0).f 36 = none := rfl
  rw [e]
  show pIns 36 [.sl none n lo ex sz, .i .i64 0, .sl (some (vb, vo)) 1 lo3 ex3 sz3] H = _
  simp only [pIns, hv, hle3, if_true]
end Go.Proofs.Ythcibbfljcfheaa.Abs
