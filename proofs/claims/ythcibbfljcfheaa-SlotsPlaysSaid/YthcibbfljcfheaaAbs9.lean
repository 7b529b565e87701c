/- Each operation of the model does what the plain machine's does: rows that are made, appended to, copied, cleared. No condition of their own. -/
import Derived.Test.YthcibbfljcfheaaAbs8
import Derived.IntWalk
namespace Go.Proofs.Ythcibbfljcfheaa.Abs
set_option linter.unusedVariables false
set_option linter.unusedSimpArgs false
open Go.RowKit

section
variable {P : Program} {w0 : World} {ρ : Rn} {H : AH} {w : World}

theorem zeros_list (zv : Array Value) (h : 0 < zv.size) : ∀ c : Nat, ((Array.range (c * zv.size)).map fun i => zv[i % zv.size]!).toList = (List.replicate c zv.toList).flatten := by
  intro c
  rw [Array.toList_map, Array.toList_range]
  induction c with
  | zero => simp
  | succ c ih =>
    rw [List.replicate_succ, List.flatten_cons, ← ih, Nat.succ_mul, Nat.add_comm, List.range_add, List.map_append]
    congr 1
    · apply List.ext_getElem?
      intro j
      simp only [List.getElem?_map]
      by_cases hj : j < zv.size
      · rw [List.getElem?_range hj]
        simp [Nat.mod_eq_of_lt hj, hj]
      · rw [List.getElem?_eq_none (by simp; omega), List.getElem?_eq_none (by simp; omega)]
        rfl
    · rw [List.map_map]
      apply List.map_congr_left
      intro i _
      simp

theorem zerosA_rel {z : List AV} {zv : List Value} (h : VRels ρ z zv) : ∀ c : Nat, VRels ρ (zerosA z c) (List.replicate c zv).flatten
  | 0 => VRels.nil _
  | c + 1 => by
    rw [List.replicate_succ, List.flatten_cons]
    exact VRels.append h (zerosA_rel h c)

theorem zerosA_one {z : List AV} (h : ∀ a ∈ z, a.one = true) : ∀ c : Nat, ∀ a ∈ zerosA z c, a.one = true
  | 0, a, ha => by simp [zerosA] at ha
  | c + 1, a, ha => by
    simp only [zerosA, List.mem_append] at ha
    rcases ha with ha | ha
    · exact h a ha
    · exact zerosA_one h c a ha

theorem zerosA_length (z : List AV) : ∀ c : Nat, (zerosA z c).length = c * z.length
  | 0 => by simp [zerosA]
  | c + 1 => by simp [zerosA, zerosA_length z c, Nat.succ_mul, Nat.add_comm]

theorem mks_sound (hs : Sim P w0 ρ H w) {T e : TypeId} (hT : P.underlying T = some (.slice e)) {z : List AV} (hz : czero P e = some z) {y : Nat} (hy : cbytes P e = some y) {l c : AV} {cl cc : Value} (hl : VRel ρ l cl) (hc : VRel ρ c cc) {v : AV} {H' : AH} (h : amakeSlice z y l c H = some (v, H')) :
    ∃ q w' u, (Instr.makeSlice T cl cc).run P w = .ok u w' ∧ VRel (ρ.add H.n q) v u ∧ Sim P w0 (ρ.add H.n q) H' w' ∧ Fr ρ H w (ρ.add H.n q) H' w' := by
  unfold amakeSlice at h
  split at h
  · rename_i k l k' c
    split at h
    · rename_i hb
      cases h
      unfold VRel at hl hc
      subst hl; subst hc
      obtain ⟨zv, hzv, hza, hsz, hpos⟩ := run_zeroValue' hz w
      have hr := toAVs_rel (ρ := ρ) hza
      have hlen := hr.1.length
      simp only [Array.length_toList] at hlen
      obtain ⟨i, hi⟩ : ∃ i, P.info? e = some i := by
        unfold cbytes at hy
        cases hh : P.info? e with
        | none => rw [hh] at hy; cases hy
        | some i => exact ⟨i, rfl⟩
      have hib : i.bytes = y := by unfold cbytes at hy; rw [hi] at hy; injection hy
      have w1 : IntKind.i64.wrap l = l := IntWalk.i64_in _ (by omega)
      have w2 : IntKind.i64.wrap c = c := IntWalk.i64_in _ (by omega)
      have hb2 : ¬ ((y : Int) * c > 2 ^ 48) := by have := hb.2.2.2; omega
      have hcells := zeros_list zv.cells (by omega) c.toNat
      obtain ⟨h1, h2, h3⟩ := row_new (P := P) (as := zerosA z c.toNat) (cells := ((Array.range (c.toNat * zv.cells.size)).map fun i => zv.cells[i % zv.cells.size]!)) hs (by rw [hcells]; exact zerosA_rel hr.1 _) (zerosA_one hr.2 _) e
      refine ⟨_, _, .slice (some ⟨w.heap.size, 0, none⟩) l.toNat c.toNat, ?_, ?_, h2, h3⟩
      · by_cases hc0 : c.toNat = 0
        · have hn : c.toNat * zv.cells.size = 0 := by rw [hc0]; simp
          rw [hn] at h1 h2 h3
          simp only [Instr.makeSlice, Sem.run_bind, run_underlying hT, Result.andThen_ok, asInt, asIntOf, Sem.run_pure, run_typeInfo' hi, hib, w1, w2]
          simp only [gt_iff_lt, Int.not_lt.mpr (show (0:Int) ≤ c by omega), Int.not_lt.mpr (show (0:Int) ≤ l by omega), Int.not_lt.mpr (show l ≤ c by omega), decide_false, hb2, Bool.or_self, Bool.false_eq_true, if_false, Sem.run_bind, run_askRoom, Result.andThen_ok, run_sizeOf' hsz]
          rw [hc0]
          simp only [Nat.zero_mul, if_true, Sem.run_pure, Result.andThen_ok]
          have e0 : ∀ f : Nat → Value, (Array.range 0).map f = #[] := fun f => by simp
          rw [e0] at h1
          simp only [e0, Sem.run_bind, h1, Result.andThen_ok, Sem.run_pure]
        · have hn : c.toNat * z.length ≠ 0 := by
            have : 0 < c.toNat * z.length := Nat.mul_pos (by omega) hpos
            omega
          rw [hlen] at hn
          simp only [Instr.makeSlice, Sem.run_bind, run_underlying hT, Result.andThen_ok, asInt, asIntOf, Sem.run_pure, run_typeInfo' hi, hib, w1, w2]
          simp only [gt_iff_lt, Int.not_lt.mpr (show (0:Int) ≤ c by omega), Int.not_lt.mpr (show (0:Int) ≤ l by omega), Int.not_lt.mpr (show l ≤ c by omega), decide_false, hb2, Bool.or_self, Bool.false_eq_true, if_false, Sem.run_bind, run_askRoom, Result.andThen_ok, run_sizeOf' hsz, hlen, if_neg hn, hzv, Sem.run_pure]
          simp only [h1, Result.andThen_ok]
      · unfold VRel
        refine ⟨w.heap.size, 0, _, 0, c.toNat, Rn.add_self _ _ _, rfl, Or.inl rfl, by omega, by omega, fun _ => rfl, ?_⟩
        simp [hlen]
    · cases h
  · cases h

/-- The cells behind a slice. -/
theorem first_sound (hs : Sim P w0 ρ H w) {a : Option (Nat × Nat)} {len lo : Nat} {ex : Bool} {sz0 : Nat} {c : Option Addr} {cap : Nat} (hx : VRel ρ (.sl a len lo ex sz0) (.slice c len cap)) {k sz : Nat} (hk : k ≤ len) {new : List AV} (h : afirst (k * sz) (.sl a len lo ex sz0) H = some new) :
    ∃ arr, (Builtin.firstCells sz k (.slice c len cap)).run P w = .ok arr w ∧ VRels ρ new arr.toList ∧ (∀ x ∈ new, x.one = true) ∧ new.length = k * sz := by
  cases a with
  | none =>
    unfold VRel at hx
    obtain ⟨rfl, rfl, rfl, hv⟩ := hx
    cases hv
    have : k = 0 := by omega
    subst this
    simp only [afirst, Nat.zero_mul, if_true] at h
    cases h
    exact ⟨#[], rfl, VRels.nil _, by simp, by simp⟩
  | some a =>
    obtain ⟨b, o⟩ := a
    unfold VRel at hx
    obtain ⟨B, base, N, off, cap', hb, hv, ho, h1, h2, h3, h4⟩ := hx
    cases hv
    simp only [afirst] at h
    split at h
    · rename_i h0
      cases h
      refine ⟨#[], ?_, VRels.nil _, by simp, by simp [h0]⟩
      simp only [Builtin.firstCells, h0]
      rfl
    · rename_i h0
      split at h
      · rename_i ro cs hO
        split at h
        · rename_i hl
          cases h
          have ho : off = base + o := by
            rcases ho with h | ⟨h, _⟩
            · exact h
            · exfalso; apply h0; have : k = 0 := by omega
              rw [this]; simp
          obtain ⟨x, hx, hR⟩ := hs.live _ _ hO
          rw [hb] at hx
          cases hx
          obtain ⟨L, hL, hc, h1⟩ := hR.cells
          have hlen := hL.length
          have hl2 : ((L.drop o).take (k * sz)).length = k * sz := by simp; omega
          have hld := run_loadCells_list (P := P) w ⟨B, off, none⟩ ((L.drop o).take (k * sz)) (by
            intro j u hj
            rw [addr_add, ho]
            rw [List.getElem?_take] at hj
            split at hj
            · rw [List.getElem?_drop] at hj
              have := hc _ _ hj
              rwa [← Nat.add_assoc] at this
            · cases hj)
          rw [hl2] at hld
          refine ⟨_, hld, ?_, ?_, by simp; omega⟩
          · exact VRels.take _ (VRels.drop _ hL)
          · intro x hx; exact h1 _ (List.mem_of_mem_drop (List.mem_of_mem_take hx))
        · cases h
      · cases h

theorem slice_of {s : AV} {a : Option (Nat × Nat)} {len lo : Nat} {ex : Bool} {sz : Nat} {c : Value} (hx : VRel ρ (.sl a len lo ex sz) c) : ∃ c' cap, c = .slice c' len cap ∧ len ≤ lo ∧ lo ≤ cap ∧ (ex = true → cap = lo) := by
  cases a with
  | none => unfold VRel at hx; obtain ⟨rfl, rfl, rfl, rfl⟩ := hx; exact ⟨none, 0, rfl, by omega, by omega, fun _ => rfl⟩
  | some a => obtain ⟨b, o⟩ := a; unfold VRel at hx; obtain ⟨_, _, _, _, cap, _, rfl, _, h1, h2, h3, _⟩ := hx; exact ⟨_, cap, rfl, h1, h2.1, h3⟩

theorem cpy_sound (hs : Sim P w0 ρ H w) {T U ty e : TypeId} (hT : P.underlying T = some (.slice e)) {n : Nat} (hn : csize P e = some n) {d x : AV} {cd cx : Value} (hd : VRel ρ d cd) (hx : VRel ρ x cx) {v : AV} {H' : AH} (h : acopy n d x H = some (v, H')) :
    ∃ w' u, (Builtin.copy_ #[T, U] ty #[cd, cx]).run P w = .ok u w' ∧ VRel ρ v u ∧ Sim P w0 ρ H' w' ∧ Fr ρ H w ρ H' w' := by
  unfold acopy at h
  split at h
  case h_2 => cases h
  rename_i a dlen lo ex sz a2 m lo2 ex2 sz2
  obtain ⟨c1, cap1, rfl, _⟩ := slice_of (s := .nf) hd
  obtain ⟨c2, cap2, rfl, _⟩ := slice_of (s := .nf) hx
  split at h
  case h_2 => cases h
  rename_i new hnew
  obtain ⟨arr, h1, h2, h3, h4⟩ := first_sound (P := P) hs hx (Nat.min_le_left _ _) hnew
  have hmin : Nat.min m dlen = min m dlen := rfl
  split at h
  · cases h
    unfold VRel at hd
    obtain ⟨rfl, rfl, rfl, hv⟩ := hd
    cases hv
    refine ⟨w, _, ?_, by unfold VRel; rfl, hs, Fr.refl _ _ _⟩
    simp [Builtin.copy_, run_underlying hT, Builtin.lenOf, run_sizeOf' hn, hmin, h1, goInt]
    simp at h1
    rw [h1]
    rfl
  · rename_i b o
    unfold VRel at hd
    obtain ⟨B, base, N, off, cap', hb, hv, ho, g1, g2, g3, g4⟩ := hd
    cases hv
    split at h
    · rename_i h0
      cases h
      have hn0 : new = [] := by
        apply List.length_eq_zero_iff.mp
        rw [h4, h0]; simp
      subst hn0
      have hv0 := h2
      unfold VRels at hv0
      have harr : arr = #[] := by simpa using hv0
      subst harr
      refine ⟨w, _, ?_, by unfold VRel; rfl, hs, Fr.refl _ _ _⟩
      simp [Builtin.copy_, run_underlying hT, Builtin.lenOf, run_sizeOf' hn, hmin, h1, goInt, storeCells, h0]
      rw [h0] at h1
      simp [h1, storeCells]
    · rename_i h0
      split at h
      case h_2 => cases h
      rename_i cs hO
      split at h
      case isFalse => cases h
      rename_i hl
      cases h
      have ho : off = base + o := by
        rcases ho with h | ⟨h, _⟩
        · exact h
        · exfalso; apply h0; rw [h]; simp
      subst ho
      obtain ⟨w', k1, k2, k3⟩ := row_store (P := P) (o := o) hs hO hb h2 h3 (by omega)
      refine ⟨w', _, ?_, by unfold VRel; rfl, k2, k3⟩
      simp only [Builtin.copy_, Sem.run_bind, run_underlying hT, Result.andThen_ok, Builtin.lenOf, run_sizeOf' hn, hmin, h1, k1, Sem.run_pure]
      simp [k1, run_underlying hT, run_sizeOf' hn, hmin, h1, goInt]

end
end Go.Proofs.Ythcibbfljcfheaa.Abs
