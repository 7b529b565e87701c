/- Each operation of the model does what the plain machine's does: append. No condition of their own. -/
import Derived.Test.YthcibbfljcfheaaAbs9
namespace Go.Proofs.Ythcibbfljcfheaa.Abs
set_option linter.unusedVariables false
set_option linter.unusedSimpArgs false
open Go.RowKit

section
variable {P : Program} {w0 : World} {ρ : Rn} {H : AH} {w : World}

def AH.drop (H : AH) (b : Nat) : AH := ⟨H.n, fun b' => if b' = b then none else H.o b'⟩

theorem Sim.drop (h : Sim P w0 ρ H w) (b : Nat) : Sim P w0 ρ (H.drop b) w := by
  have hd : ∀ b1 o, (H.drop b).o b1 = some o → b1 ≠ b ∧ H.o b1 = some o := by
    intro b1 o h1
    simp only [AH.drop] at h1
    split at h1
    · cases h1
    · rename_i e; exact ⟨e, h1⟩
  refine ⟨h.below, ?_, h.fresh, ?_, ?_, ?_⟩
  · intro b1 o h1; exact h.live _ _ (hd _ _ h1).2
  · intro b1 o1 b2 o2 x y h1 h2 h3 h4 h5 h6; exact h.inj _ _ _ _ _ _ (hd _ _ h1).2 h2 (hd _ _ h3).2 h4 h5 h6
  · intro b1 o1 x h1 h2 h3; exact h.own _ _ _ (hd _ _ h1).2 h2 h3
  · intro b1 o1 x h1 h2 h3; exact h.ro _ _ _ (hd _ _ h1).2 h2 h3

theorem Foot.drop {b k : Nat} (h : Foot ρ (H.drop b) k) : Foot ρ H k := by
  obtain ⟨b1, o, x, h1, h2, h3, h4⟩ := h
  simp only [AH.drop] at h1
  split at h1
  · cases h1
  · exact ⟨b1, o, x, h1, h2, h3, h4⟩

theorem move_eq {b : Nat} (hb : b ≠ H.n) (x : AObj) : H.move b x = (H.drop b).new x := by
  unfold AH.move AH.new AH.drop
  congr 1

/-- A name for a block that no name that lives leads to. -/
theorem Sim.bind (h : Sim P w0 ρ H w) (x : AObj) (hx : x.rw = true) (y : Nat × Nat × Nat) (w' : World) (hbelow : Below w0.heap.size w w') (hown : w0.heap.size ≤ y.1) (hno : ∀ b o z, H.o b = some o → ρ b = some z → z.1 ≠ y.1)
    (hoth : ∀ k, k ≠ y.1 → k < w.heap.size → w'.heap[k]? = w.heap[k]?) (hr : ORel P (ρ.add H.n y) y w' x) : Sim P w0 (ρ.add H.n y) (H.new x) w' := by
  have hn : ρ H.n = none := h.fresh _ (Nat.le_refl _)
  have he := Rn.add_ext (x := y) hn
  refine ⟨h.below.trans hbelow, ?_, ?_, ?_, ?_, ?_⟩
  · intro b o' ho
    simp only [AH.new] at ho
    split at ho
    · rename_i e
      subst e
      injection ho with ho
      subst ho
      exact ⟨_, Rn.add_self _ _ _, hr⟩
    · obtain ⟨z, h1, h2⟩ := h.live b o' ho
      exact ⟨z, he _ _ h1, (h2.ext he).world (hoth _ (hno _ _ _ ho h1) h2.lt)⟩
  · intro b hb
    simp only [AH.new] at hb
    unfold Rn.add
    rw [if_neg (by omega)]
    exact h.fresh b (by omega)
  · intro b o1 b' o2 z z' h1 h2 h3 h4 h5 h6
    simp only [AH.new] at h1 h3
    unfold Rn.add at h4 h5
    split at h1 <;> split at h3
    · rename_i e1 e2; rw [e1, e2]
    · rename_i e1 e2
      rw [if_pos e1] at h4
      rw [if_neg e2] at h5
      cases h4
      exact absurd h6.symm (hno _ _ _ h3 h5)
    · rename_i e1 e2
      rw [if_neg e1] at h4
      rw [if_pos e2] at h5
      cases h5
      exact absurd h6 (hno _ _ _ h1 h4)
    · rename_i e1 e2
      rw [if_neg e1] at h4
      rw [if_neg e2] at h5
      exact h.inj _ _ _ _ _ _ h1 h2 h3 h4 h5 h6
  · intro b o1 z h1 h2 h3
    simp only [AH.new] at h1
    unfold Rn.add at h3
    split at h1
    · rename_i e
      rw [if_pos e] at h3
      cases h3
      exact hown
    · rename_i e
      rw [if_neg e] at h3
      exact h.own _ _ _ h1 h2 h3
  · intro b o1 z h1 h2 h3
    simp only [AH.new] at h1
    unfold Rn.add at h3
    split at h1
    · injection h1 with h1; rw [← h1, hx] at h2; cases h2
    · rename_i e
      rw [if_neg e] at h3
      exact h.ro _ _ _ h1 h2 h3

theorem nextslicecap_le (need c : Nat) (h : c < need) : Builtin.nextslicecap need c ≤ 2 * need + 1000 := by
  unfold Builtin.nextslicecap
  split
  · omega
  · split
    · omega
    · have hg : ∀ r c, c ≤ 2 * need + 500 → Builtin.growBy need r c ≤ 2 * need + 1000 := by
        intro r
        induction r with
        | zero => intro c hc; unfold Builtin.growBy; omega
        | succ r ih =>
          intro c hc
          unfold Builtin.growBy
          split
          · omega
          · exact ih _ (by omega)
      exact hg _ _ (by omega)

/-- A new row with what was appended, and room behind. -/
theorem grow_sound (hs : Sim P w0 ρ H w) {as rest : List AV} {cells : Array Value} {tail : Array Value} (hr : VRels ρ as cells.toList) (h1 : ∀ c ∈ as, c.one = true) (e : TypeId) (n : Nat) :
    (newRow e (cells ++ tail)).run P { w with drawn := n } = .ok ⟨w.heap.size, 0, none⟩ { w with heap := w.heap.push (.cells (cells ++ tail) e), drawn := n } ∧
    Sim P w0 (ρ.add H.n (w.heap.size, 0, (cells ++ tail).size)) (H.new (.row false as)) { w with heap := w.heap.push (.cells (cells ++ tail) e), drawn := n } ∧
    Fr ρ H w (ρ.add H.n (w.heap.size, 0, (cells ++ tail).size)) (H.new (.row false as)) { w with heap := w.heap.push (.cells (cells ++ tail) e), drawn := n } := by
  have hn : ρ H.n = none := hs.fresh _ (Nat.le_refl _)
  have hs' := hs.drawn n
  refine ⟨by simp [newRow], ?_, ?_⟩
  · refine hs'.new _ rfl _ _ ?_
    have hl := hr.length
    refine ⟨cells ++ tail, e, (0, 0), by simp, fun _ => ⟨rfl, rfl, by simp at hl ⊢; omega⟩, ?_, h1⟩
    simp only [List.drop_zero, Array.toList_append]
    rw [List.take_append_of_le_length (by omega), List.take_of_length_le (by omega)]
    exact VRels.ext (Rn.add_ext hn) _ hr
  · exact (Fr.new hs' _ _ _).drawn

theorem app_sound (hs : Sim P w0 ρ H w) {T U ty e e' : TypeId} (hT : P.underlying T = some (.slice e)) (hU : P.underlying U = some (.slice e')) {z : List AV} (hz : czero P e = some z) {y : Nat} (hy : cbytes P e = some y) (hy0 : 0 < y)
    {s x : AV} {cs cx : Value} (hS : VRel ρ s cs) (hX : VRel ρ x cx) {v : AV} {H' : AH} (h : aappend z y s x H = some (v, H')) :
    ∃ ρ' w' u, (Builtin.append_ #[T, U] ty #[cs, cx]).run P w = .ok u w' ∧ VRel ρ' v u ∧ Sim P w0 ρ' H' w' ∧ Fr ρ H w ρ' H' w' := by
  obtain ⟨zv, hzv, hza, hsz, hpos⟩ := run_zeroValue' hz w
  obtain ⟨i, hi⟩ : ∃ i, P.info? e = some i := by
    unfold cbytes at hy
    cases hh : P.info? e with
    | none => rw [hh] at hy; cases hy
    | some i => exact ⟨i, rfl⟩
  have hib : i.bytes = y := by unfold cbytes at hy; rw [hi] at hy; injection hy
  unfold aappend at h
  split at h
  case h_2 => cases h
  rename_i a len lo ex sz a2 n lo2 ex2 sz2
  split at h
  case isFalse => cases h
  rename_i hbound
  obtain ⟨c1, cap1, rfl, hc1, hc2, hc3⟩ := slice_of (s := .nf) hS
  obtain ⟨c2, cap2, rfl, _⟩ := slice_of (s := .nf) hX
  split at h
  case h_2 => cases h
  rename_i new hnew
  obtain ⟨arr, f1, f2, f3, f4⟩ := first_sound (P := P) hs hX (Nat.le_refl _) hnew
  have hzeros : ∀ w : World, (underlying U).run P w = .ok (.slice e') w := fun w => run_underlying hU w
  split at h
  · -- within the room that is known
    rename_i hroom
    have hcap : len + n ≤ cap1 := by omega
    split at h
    · -- nil
      cases h
      have hS' := hS
      unfold VRel at hS
      obtain ⟨rfl, rfl, rfl, hv⟩ := hS
      cases hv
      have hn0 : n = 0 := by omega
      subst hn0
      refine ⟨ρ, w, _, ?_, hS', hs, Fr.refl _ _ _⟩
      simp [Builtin.append_, run_underlying hT, hzeros, Builtin.lenOf, run_sizeOf' hsz, f1]
    · rename_i b o
      split at h
      · rename_i hn0
        cases h
        subst hn0
        have hnew0 : new = [] := List.length_eq_zero_iff.mp (by rw [f4]; simp)
        subst hnew0
        have f2' := f2
        unfold VRels at f2'
        have harr : arr = #[] := by simpa using f2'
        subst harr
        have hS' := hS
        unfold VRel at hS
        obtain ⟨B, base, N, off, cap', hb, hv, _⟩ := hS
        cases hv
        refine ⟨ρ, w, _, ?_, hS', hs, Fr.refl _ _ _⟩
        simp [Builtin.append_, run_underlying hT, hzeros, Builtin.lenOf, run_sizeOf' hsz, f1, storeCells, show len ≤ cap1 by omega]
      · rename_i hn0
        split at h
        case h_2 => cases h
        rename_i cs hO
        split at h
        case isFalse => cases h
        rename_i hl
        cases h
        unfold VRel at hS
        obtain ⟨B, base, N, off, cap', hb, hv, ho, g1, g2, g3, g4⟩ := hS
        cases hv
        have ho : off = base + o := by
          rcases ho with h | ⟨h, h'⟩
          · exact h
          · omega
        subst ho
        have hle : o + len * z.length + new.length ≤ cs.length := by rw [f4, Nat.add_mul] at *; omega
        obtain ⟨w', k1, k2, k3⟩ := row_store (P := P) (o := o + len * z.length) hs hO hb f2 f3 hle
        refine ⟨ρ, w', .slice (some ⟨B, base + o, none⟩) (len + n) cap1, ?_, ?_, k2, k3⟩
        · rw [← Nat.add_assoc] at k1
          simp [Builtin.append_, run_underlying hT, hzeros, Builtin.lenOf, run_sizeOf' hsz, f1, hcap, addr_add, k1]
        · unfold VRel
          exact ⟨B, base, N, _, cap1, hb, rfl, Or.inl rfl, by omega, by omega, g3, g4⟩
  · -- beyond it
    rename_i hroom
    split at h
    case h_2 => cases h
    rename_i old hold
    have hsd := hs.drawn (w.drawn + 1)
    obtain ⟨oarr, o1, o2, o3, o4⟩ := first_sound (P := P) hsd hS (Nat.le_refl _) hold
    obtain ⟨darr, d1, d2, d3, d4⟩ := first_sound (P := P) hsd hX (Nat.le_refl _) hnew
    have hone : ∀ c ∈ old ++ new, c.one = true := by
      intro c hc
      rcases List.mem_append.mp hc with hc | hc
      · exact o3 c hc
      · exact f3 c hc
    have hz2 := toAVs_rel (ρ := ρ) hza
    have hlen := hz2.1.length
    simp only [Array.length_toList] at hlen
    -- how it grows
    have hgrow : ¬ len + n ≤ cap1 → ∃ (newCap : Nat) (tail : Array Value), (len + n ≤ newCap ∧ newCap ≤ 9223372036854775807) ∧ tail.size = (newCap - (len + n)) * z.length ∧ (Builtin.append_ #[T, U] ty #[.slice c1 len cap1, .slice c2 n cap2]).run P w =
        ((newRow e ((oarr ++ darr) ++ tail)).run P { w with drawn := w.drawn + 1 }).andThen fun a w' => .ok (.slice (some a) (len + n) newCap) w' := by
      intro hcap
      have hnc : ¬ (Builtin.nextslicecap (len + n) cap1 * i.bytes > 2 ^ 48) := by
        have h1 := nextslicecap_le (len + n) cap1 (by omega)
        have h2 := Nat.mul_le_mul_right i.bytes h1
        rw [hib] at h2 ⊢
        have := hbound.2
        omega
      refine ⟨(Question.appendCap (len + n) cap1 e).cut (w.tape w.drawn (.appendCap (len + n) cap1 e)), Builtin.zeroCells zv.cells ((Question.appendCap (len + n) cap1 e).cut (w.tape w.drawn (.appendCap (len + n) cap1 e)) - (len + n)), ?_, ?_, ?_⟩
      · have hb2 : 2 * (len + n) + 1000 ≤ (2 * (len + n) + 1000) * y := Nat.le_mul_of_pos_right _ hy0
        have hm := Nat.mod_lt (w.tape w.drawn (.appendCap (len + n) cap1 e)) (show 2 ^ 63 - (len + n) > 0 by omega)
        simp only [Question.cut]; omega
      · simp [Builtin.zeroCells, hlen]
      · have hzv' : (zeroValue e).run P { w with drawn := w.drawn + 1 } = .ok zv { w with drawn := w.drawn + 1 } := by
          obtain ⟨zv', hzv', hza', _⟩ := run_zeroValue' hz { w with drawn := w.drawn + 1 }
          simp only [zeroValue, Sem.run_bind, run_typeInfo' hi, Result.andThen_ok] at hzv hzv' ⊢
          revert hzv
          cases i.zero with
          | none => intro hzv; cases hzv
          | some q => intro hzv; cases hzv; rfl
        have hb0 : ¬ (i.bytes = 0) := by omega
        have hq : (Question.appendCap (len + n) cap1 e).forced = false := rfl
        simp only [Builtin.append_, Sem.run_bind, run_underlying hT, hzeros, Result.andThen_ok, run_sizeOf' hsz, Sem.run_pure, List.getElem?_toArray, List.getElem?_cons_zero, List.getElem?_cons_succ, Builtin.lenOf, Bool.false_eq_true, if_false, if_neg hcap, run_typeInfo' hi, false_or, hb0, and_false, if_neg hnc, run_choose, hq, run_askRoom, o1, d1, hzv', Bool.not_false, if_true, Array.append_assoc]
    by_cases hcap : len + n ≤ cap1
    · -- in place: the old name is gone
      split at h
      · rename_i hex
        have := hc3 hex
        omega
      · rename_i hex
        split at h
        case h_2 => cases h
        rename_i b o
        split at h
        case h_2 => cases h
        rename_i cs hO
        split at h
        case isFalse => cases h
        rename_i hszz
        cases h
        subst hszz
        unfold VRel at hS
        obtain ⟨B, base, N, off, cap', hb, hv, ho, g1, g2, g3, g4⟩ := hS
        cases hv
        obtain ⟨q, hq, hR⟩ := hs.live _ _ hO
        rw [hb] at hq
        cases hq
        obtain ⟨c, ce, cf, r1, r2, r3, r4⟩ := hR
        obtain ⟨rfl, r2, r5⟩ := r2 rfl
        dsimp only at r1 r2 r3 r5
        have hfl := f2.length
        simp only [Array.length_toList] at hfl
        have hmul : (len + n) * z.length ≤ cap1 * z.length := Nat.mul_le_mul_right _ hcap
        rw [Nat.add_mul] at hmul
        have hst := run_storeCells_at P B (off + len * z.length) ce arr.toList 0 c w r1 (by simp; omega) (f2.oneCell f3)
        have hbn : b ≠ H.n := by intro e; rw [e, hs.fresh _ (Nat.le_refl _)] at hb; cases hb
        have hn : ρ H.n = none := hs.fresh _ (Nat.le_refl _)
        rw [move_eq hbn]
        have hown := hs.own _ _ _ hO rfl hb
        refine ⟨ρ.add H.n (B, off, N), w.setRow B ((c.toList.take (off + len * z.length + 0) ++ arr.toList ++ c.toList.drop (off + len * z.length + 0 + arr.toList.length)).toArray), .slice (some ⟨B, off, none⟩) (len + n) cap1, ?_, ?_, ?_, ?_⟩
        · simp only [Builtin.append_, Sem.run_bind, run_underlying hT, hzeros, Result.andThen_ok, run_sizeOf' hsz, Sem.run_pure, List.getElem?_toArray, List.getElem?_cons_zero, List.getElem?_cons_succ, Builtin.lenOf, Bool.false_eq_true, if_false, if_pos hcap, f1, Bool.not_false, if_true, addr_add, hst]
        · unfold VRel
          exact ⟨B, off, N, off, cap1, Rn.add_self _ _ _, rfl, Or.inl (by omega), by omega, by omega, nofun, g4⟩
        · refine (hs.drop b).bind _ rfl (B, off, N) _ (below_setRow' hown _) hown ?_ (fun k hk _ => setRow_other _ _ _ _ hk) ?_
          · intro b1 o1 z1 h1 h2 h3
            simp only [AH.drop] at h1
            split at h1
            · cases h1
            · rename_i e
              exact e (hs.inj _ _ _ _ _ _ hO rfl h1 hb h2 h3.symm).symm
          · have hcs : ∀ (j : Nat), j < len * z.length → off = base + o := by
              intro j hj
              rcases ho with h | ⟨h, _⟩
              · exact h
              · rw [h] at hj; simp at hj
            refine ⟨_, ce, (0, 0), setRow_heap _ _ _ _ _ _ r1, fun _ => ⟨rfl, ?_, ?_⟩, ?_, hone⟩
            · simp; omega
            · simp only [List.length_append, o4, f4]; omega
            · -- the cells
              have hold2 : VRels ρ old ((c.toList.drop off).take (len * z.length)) := by
                unfold afirst at hold
                simp only at hold
                split at hold
                · rename_i h0
                  cases hold
                  rw [h0]
                  simpa using VRels.nil ρ
                · rename_i h0
                  rw [hO] at hold
                  simp only at hold
                  split at hold
                  · rename_i hl
                    cases hold
                    have e : off = base + o := hcs 0 (by omega)
                    have := VRels.take (len * z.length) (VRels.drop o r3)
                    rw [List.drop_take, List.drop_drop, List.take_take] at this
                    rw [e]
                    have hm : min (len * z.length) (cs.length - o) = len * z.length := by omega
                    rw [hm] at this
                    exact this
                  · cases hold
              have hL : List.take (old ++ new).length (List.drop off (List.take (off + len * z.length + 0) c.toList ++ arr.toList ++ List.drop (off + len * z.length + 0 + arr.toList.length) c.toList)) = (c.toList.drop off).take (len * z.length) ++ arr.toList := by
                have hc0 : c.toList.length = c.size := Array.length_toList
                rw [List.length_append, o4, f4]
                apply List.ext_getElem?
                intro j
                simp only [List.getElem?_take, List.getElem?_drop, List.getElem?_append, List.length_take, List.length_drop, List.length_append, Array.length_toList, Nat.add_zero]
                generalize hA : len * z.length = A at *
                generalize hB : n * z.length = B' at *
                grind
              simp only
              rw [hL]
              exact VRels.ext (Rn.add_ext hn) _ (VRels.append hold2 f2)
        · refine ⟨Rn.add_ext hn, by simp, ?_, ?_⟩
          · rintro k ⟨b1, o1', x1, h1, h2, h3, h4⟩
            simp only [AH.new] at h1
            unfold Rn.add at h3
            split at h1
            · rename_i e
              have e' : b1 = H.n := e
              rw [if_pos e'] at h3
              cases h3
              exact Or.inl ⟨b, _, _, hO, rfl, hb, h4⟩
            · rename_i e
              have e' : ¬ b1 = H.n := e
              rw [if_neg e'] at h3
              exact Or.inl (Foot.drop (b := b) ⟨b1, o1', x1, h1, h2, h3, h4⟩)
          · intro k hk hnf
            apply setRow_other
            intro e
            exact hnf ⟨b, _, _, hO, rfl, hb, e.symm⟩
    · obtain ⟨newCap, tail, t1, t2, t3⟩ := hgrow hcap
      obtain ⟨k1, k2, k3⟩ := grow_sound (P := P) (rest := []) (tail := tail) (cells := oarr ++ darr) (as := old ++ new) hs (by simpa using VRels.append o2 d2) hone e (w.drawn + 1)
      have hso : (oarr ++ darr).size = (len + n) * z.length := by
        have h1 := o2.length
        have h2 := d2.length
        simp only [Array.length_toList] at h1 h2
        rw [Array.size_append, ← h1, ← h2, o4, d4, Nat.add_mul]
      have hval : VRel (ρ.add H.n (w.heap.size, 0, ((oarr ++ darr) ++ tail).size)) (.sl (some (H.n, 0)) (len + n) (len + n) false z.length) (.slice (some ⟨w.heap.size, 0, none⟩) (len + n) newCap) := by
        unfold VRel
        refine ⟨w.heap.size, 0, _, 0, newCap, Rn.add_self _ _ _, rfl, Or.inl rfl, by omega, by omega, nofun, ?_⟩
        rw [Array.size_append, hso, t2, ← Nat.add_mul]
        have : len + n + (newCap - (len + n)) = newCap := by omega
        rw [this]
        omega
      rw [k1] at t3
      simp only [Result.andThen_ok] at t3
      split at h
      · cases h
        exact ⟨_, _, _, t3, hval, k2, k3⟩
      · split at h
        case h_2 => cases h
        rename_i b o
        split at h
        case h_2 => cases h
        rename_i cs hO
        split at h
        case isFalse => cases h
        cases h
        obtain ⟨q, hq, _⟩ := hs.live _ _ hO
        have hbn : b ≠ H.n := by intro e; rw [e, hs.fresh _ (Nat.le_refl _)] at hq; cases hq
        have hmv : H.move b (.row false (old ++ new)) = (H.new (.row false (old ++ new))).drop b := by
          unfold AH.move AH.new AH.drop
          congr 1
          funext b'
          simp only
          split
          · rename_i e; rw [if_neg (by omega)]
          · rfl
        rw [hmv]
        exact ⟨_, _, _, t3, hval, k2.drop b, ⟨k3.ext, k3.size, fun k hk => k3.foot k hk.drop, k3.same⟩⟩

theorem apm_sound (hs : Sim P w0 ρ H w) {T U ty e : TypeId} {ik : IntKind} (hT : P.underlying T = some (.slice e)) (hU : P.underlying U = some (.int ik)) {z : List AV} (hz : czero P e = some z) {y : Nat} (hy : cbytes P e = some y) (hy0 : 0 < y)
    {s x : AV} {cs cx : Value} (hS : VRel ρ s cs) (hX : VRel ρ x cx) {v : AV} {H' : AH} (h : agrow z y s x H = some (v, H')) :
    ∃ ρ' w' u, (Builtin.append_ #[T, U] ty #[cs, cx]).run P w = .ok u w' ∧ VRel ρ' v u ∧ Sim P w0 ρ' H' w' ∧ Fr ρ H w ρ' H' w' := by
  obtain ⟨zv, hzv, hza, hsz, hpos⟩ := run_zeroValue' hz w
  obtain ⟨i, hi⟩ : ∃ i, P.info? e = some i := by
    unfold cbytes at hy
    cases hh : P.info? e with
    | none => rw [hh] at hy; cases hy
    | some i => exact ⟨i, rfl⟩
  have hib : i.bytes = y := by unfold cbytes at hy; rw [hi] at hy; injection hy
  unfold agrow at h
  split at h
  case h_2 => cases h
  rename_i len lo ex sz n
  split at h
  case isFalse => cases h
  rename_i hb
  cases h
  unfold VRel at hS hX
  obtain ⟨rfl, rfl, rfl, rfl⟩ := hS
  subst hX
  have hz2 := toAVs_rel (ρ := ρ) hza
  have hlen := hz2.1.length
  simp only [Array.length_toList] at hlen
  obtain ⟨k, hk⟩ : ∃ k, n.toNat = k := ⟨_, rfl⟩
  have hnk : n = (k : Int) := by omega
  rw [hk] at hb ⊢
  have hk0 : 0 < k := by omega
  have hwn : IntKind.i64.wrap n = n := IntWalk.i64_in _ (by omega)
  have hcells := zeros_list zv.cells (by omega) k
  have hr : VRels ρ (zerosA z k) (Builtin.zeroCells zv.cells k).toList := by
    unfold Builtin.zeroCells
    rw [hcells]; exact zerosA_rel hz2.1 _
  obtain ⟨nc, hnc⟩ : ∃ nc, nc = (Question.appendCap (0 + k) 0 e).cut (w.tape w.drawn (.appendCap (0 + k) 0 e)) := ⟨_, rfl⟩
  have hnc0 : k ≤ nc ∧ nc ≤ 9223372036854775807 := by
    have hm := Nat.mod_lt (w.tape w.drawn (.appendCap (0 + k) 0 e)) (show 2 ^ 63 - (0 + k) > 0 by omega)
    rw [hnc]; simp only [Question.cut]; omega
  obtain ⟨tail, htail⟩ : ∃ tail, tail = Builtin.zeroCells zv.cells (nc - (0 + k)) := ⟨_, rfl⟩
  have htl : tail.size = (nc - k) * z.length := by rw [htail]; simp [Builtin.zeroCells, hlen]
  obtain ⟨k1, k2, k3⟩ := grow_sound (P := P) (rest := []) (tail := tail) (cells := Builtin.zeroCells zv.cells k) (as := zerosA z k) hs hr (zerosA_one hz2.2 _) e (w.drawn + 1)
  have hsz2 : (Builtin.zeroCells zv.cells k).size = k * z.length := by simp [Builtin.zeroCells, hlen]
  have hzv' : (zeroValue e).run P { w with drawn := w.drawn + 1 } = .ok zv { w with drawn := w.drawn + 1 } := by
    obtain ⟨zv', hzv', hza', _⟩ := run_zeroValue' hz { w with drawn := w.drawn + 1 }
    simp only [zeroValue, Sem.run_bind, run_typeInfo' hi, Result.andThen_ok] at hzv hzv' ⊢
    revert hzv
    cases i.zero with
    | none => intro hzv; cases hzv
    | some q => intro hzv; cases hzv; rfl
  have hnb : ¬ (Builtin.nextslicecap (0 + k) 0 * i.bytes > 2 ^ 48) := by
    have h1 := nextslicecap_le (0 + k) 0 (by omega)
    have h2 := Nat.mul_le_mul_right i.bytes h1
    rw [hib, Nat.zero_add] at h2
    rw [hib, Nat.zero_add]
    have := hb.2.2
    omega
  have hbig : ¬ (n * (i.bytes : Int) > 2 ^ 48) := by
    rw [hib, hnk]
    have h3 := hb.2.2
    have h4 : k * y ≤ (2 * k + 1000) * y := Nat.mul_le_mul_right _ (by omega)
    have h5 : ((k * y : Nat) : Int) ≤ 281474976710656 := by omega
    rw [Int.natCast_mul] at h5
    omega
  have hks : ¬ (k * z.length = 0) := by
    have := Nat.mul_pos hk0 hpos
    omega
  have hbi : ¬ (((0 + k : Nat) : Int) > IntKind.i64.max) := by
    have : IntKind.i64.max = 9223372036854775807 := rfl
    rw [this]; omega
  have hq : (Question.appendCap (0 + k) 0 e).forced = false := rfl
  refine ⟨_, _, .slice (some ⟨w.heap.size, 0, none⟩) (0 + k) nc, ?_, ?_, k2, k3⟩
  · have hl0 : ¬ (n < 0) := by omega
    have hk' : ¬ (0 + k ≤ 0) := by omega
    have htn : n.toNat = k := hk
    simp only [Builtin.append_, Sem.run_bind, run_underlying hT, run_underlying hU, Result.andThen_ok, run_sizeOf' hsz, Sem.run_pure, List.getElem?_toArray, List.getElem?_cons_zero, List.getElem?_cons_succ, if_true, asInt, asIntOf, hwn, if_neg hl0, run_typeInfo' hi, if_neg hbig, htn, if_neg hk']
    simp only [hbi, false_and, if_false, run_typeInfo' hi, if_neg hnb, Sem.run_bind, run_choose, hq, run_askRoom, Result.andThen_ok, Builtin.firstCells, Sem.run_pure, Bool.not_true, Bool.false_eq_true, if_neg hks, hzv', Array.empty_append, ← hnc, ← htail, k1]
  · unfold VRel
    refine ⟨w.heap.size, 0, _, 0, nc, Rn.add_self _ _ _, ?_, Or.inl rfl, by omega, by omega, nofun, ?_⟩
    · rw [Nat.zero_add]
    · rw [Array.size_append, hsz2, htl, ← Nat.add_mul]
      have : k + (nc - k) = nc := by omega
      rw [this]
      omega

end
end Go.Proofs.Ythcibbfljcfheaa.Abs
