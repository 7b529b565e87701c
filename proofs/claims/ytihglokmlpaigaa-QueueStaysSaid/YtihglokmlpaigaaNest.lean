/- Slices of structs with slices of whole numbers in them, that came in. No condition of their own. -/
import Derived.Test.YtihglokmlpaigaaAlive
namespace Go.Proofs.Ytihglokmlpaigaa.Abs
open Go.RowKit
set_option linter.unusedVariables false
set_option linter.unusedSimpArgs false
/-- What a chain that came in reads as. -/
def ChV (W : World) (ch : List Int) (v : Value) : Prop :=
  (v = .slice none 0 0 ∧ ch = []) ∨ (∃ A c, v = .slice (some A) 0 c ∧ ch = []) ∨
  ∃ B off c, v = .slice (some ⟨B, off, none⟩) ch.length c ∧ ch.length ≤ c ∧ ORel Try.prog ρN (B, off, off + c * 1) W (.row true (ch.map I1))
section
variable {H : Type} {enc : TypeId × Value → H} {P : Program} {W : World}
theorem rels_map {k : IntKind} : ∀ (l : List Int), VRels ρN (l.map (AV.i k)) (l.map (Value.int k))
  | [] => VRels.nil _
  | x :: l => VRels.cons rel_int (rels_map l)
theorem rd_chain {t e : TypeId} (ht : P.underlying t = some (.slice e)) (he : P.underlying e = some (.int .i64)) (hc : P.cellsOf e = 1) {fuel : Nat} {cs : List Value} {x : DataW H × List MemPlace} (h : DataW.trod enc P W 0 (fun _ => true) true fuel t cs = some x) :
    ∃ ch v, cs = [v] ∧ ChV W ch v ∧ ∀ x ∈ ch, (Lit.int .i64 x).wf = true := by
  rcases Go.Deep.open_slice1 ht hc h with ⟨rfl, _⟩ | ⟨a, len, cap, m, n, V, D, Pl, rfl, _, hl, hm, hmm, _, hx⟩
  · exact ⟨[], _, rfl, Or.inl ⟨rfl, rfl⟩, by simp⟩
  · by_cases h0 : len = 0
    · subst h0
      exact ⟨[], _, rfl, Or.inr (Or.inl ⟨a, cap, rfl, rfl⟩), by simp⟩
    · have hle : len ≤ m := by rw [hmm]; split <;> omega
      obtain ⟨ys, hyl, hq⟩ := list_of_all (Q := fun i y => W.cell? (a.add i) = some (.int .i64 y) ∧ (Lit.int .i64 y).wf = true) len (fun i hi => by
        obtain ⟨h1, h2⟩ := hx i (by omega)
        obtain ⟨y, hy, _, hw⟩ := DataW.trod_int he h2
        injection hy with hy _
        rw [hy] at h1
        exact ⟨y, h1, hw⟩)
      obtain ⟨B, off, sp⟩ := a
      have hz : ys[0]? = some ys[0] := List.getElem?_eq_getElem (by omega)
      have hh0 := (hq 0 _ hz).1
      have hadd : ∀ k, (({ block := B, off := off, spot := sp } : Addr).add k).block = B := by
        intro k; unfold Addr.add; split <;> rfl
      unfold World.cell? at hh0
      rw [hadd] at hh0
      split at hh0
      case h_2 => cases hh0
      rename_i c el fr hheap
      have hsp : sp = none := by
        split at hh0
        · cases hh0
        · rename_i hs
          unfold Addr.add at hs
          simpa using hs
      subst hsp
      have hcell : ∀ i y, ys[i]? = some y → c[off + i]? = some (.int .i64 y) := by
        intro i y hy
        have := (hq i y hy).1
        rw [addr_add] at this
        simpa [World.cell?, hheap] using this
      subst hyl
      refine ⟨ys, _, rfl, Or.inr (Or.inr ⟨B, off, cap, rfl, hl, c, el, fr, hheap, (fun hh => by cases hh), ?_, ?_⟩), ?_⟩
      · have e : (c.toList.drop off).take (ys.map I1).length = ys.map (Value.int .i64) := by
          apply List.ext_getElem?
          intro i
          rw [List.getElem?_take, List.length_map, List.getElem?_drop, List.getElem?_map]
          by_cases hi : i < ys.length
          · rw [if_pos hi]
            have hyi : ys[i]? = some ys[i] := List.getElem?_eq_getElem hi
            rw [hyi]
            have := hcell i _ hyi
            simpa using this
          · rw [if_neg hi, List.getElem?_eq_none (by omega)]; rfl
        rw [e]
        exact rels_map ys
      · intro a ha
        obtain ⟨y, _, rfl⟩ := List.mem_map.1 ha
        rfl
      · intro y hy
        obtain ⟨i, hi⟩ := List.mem_iff_getElem?.1 hy
        exact (hq i y hi).2
/-- A struct of two whole numbers and a chain. -/
abbrev St3 := Int × Int × List Int
def stOk (x : St3) : Prop := (Lit.int .u8 x.1).wf = true ∧ (Lit.int .i64 x.2.1).wf = true ∧ ∀ y ∈ x.2.2, (Lit.int .i64 y).wf = true
theorem rd_st3 {t e : TypeId} {f0 f1 f2 : Field} (ht : P.underlying t = some (.struct #[f0, f1, f2])) (o0 : f0.offset = 0) (o1 : f1.offset = 1) (o2 : f2.offset = 2) (u0 : P.underlying f0.type = some (.int .u8)) (u1 : P.underlying f1.type = some (.int .i64)) (u2 : P.underlying f2.type = some (.slice e)) (ue : P.underlying e = some (.int .i64)) (c0 : P.cellsOf f0.type = 1) (c1 : P.cellsOf f1.type = 1) (c2 : P.cellsOf f2.type = 1) (ce : P.cellsOf e = 1) (hc : P.cellsOf t = 3)
    {fuel : Nat} {cs : List Value} {x : DataW H × List MemPlace} (h : DataW.trod enc P W 0 (fun _ => true) true fuel t cs = some x) : ∃ (a : St3) (v : Value), cs = [.int .u8 a.1, .int .i64 a.2.1, v] ∧ ChV W a.2.2 v ∧ stOk a := by
  obtain ⟨xs, n, _, rfl, hl, hlen, hf⟩ := DataW.trod_struct ht h
  have e0 := hf 0 f0 rfl
  have e1 := hf 1 f1 rfl
  have e2 := hf 2 f2 rfl
  simp only [List.size_toArray, List.length_cons, List.length_nil] at hlen
  rw [hc] at hl
  match cs, hl with
  | [v0, v1, v2], _ =>
    rw [o0, c0, List.getElem?_eq_getElem (by omega)] at e0
    rw [o1, c1, List.getElem?_eq_getElem (by omega)] at e1
    rw [o2, c2, List.getElem?_eq_getElem (by omega)] at e2
    simp only [List.drop_zero, List.drop_succ_cons, List.take_succ_cons, List.take_zero] at e0 e1 e2
    obtain ⟨a0, h0, _, w0⟩ := DataW.trod_int u0 e0
    obtain ⟨a1, h1, _, w1⟩ := DataW.trod_int u1 e1
    obtain ⟨ch, v, h2, h3, w2⟩ := rd_chain u2 ue ce e2
    cases h0; cases h1; cases h2
    exact ⟨(a0, a1, ch), _, rfl, h3, w0, w1, w2⟩
/-- Such a slice. -/
def InN (W : World) (A : Option Addr) (len cap : Nat) (l : List St3) : Prop :=
  (A = none ∧ len = 0 ∧ cap = 0 ∧ l = []) ∨ ∃ B off c el fr, A = some ⟨B, off, none⟩ ∧ len ≤ cap ∧ W.heap[B]? = some (.cells c el fr) ∧ l.length = len ∧ ∀ i x, l[i]? = some x → ∃ v, (c.toList.drop (off + i * 3)).take 3 = [.int .u8 x.1, .int .i64 x.2.1, v] ∧ ChV W x.2.2 v
theorem open_nest {t e : TypeId} {a : Option Addr} {len cap base : Nat} {dd : DataW H} {ps : List MemPlace} (ht : P.underlying t = some (.slice e)) (hc : P.cellsOf e = 3)
    (h : ∀ {fuel : Nat} {cs : List Value} {x : DataW H × List MemPlace}, DataW.trod enc P W 0 (fun _ => true) true fuel e cs = some x → ∃ (a : St3) (v : Value), cs = [.int .u8 a.1, .int .i64 a.2.1, v] ∧ ChV W a.2.2 v ∧ stOk a)
    (hv : Value.okWide P W .any base t (.slice a len cap))
    (hx : DataW.Trod enc P W 0 (fun _ => true) true t (.slice a len cap) dd ps) : ∃ l : List St3, l.length = len ∧ (∀ x ∈ l, stOk x) ∧ InN W a len cap l := by
  obtain ⟨fuel, hf0⟩ := hx
  rcases Go.Deep.open_slice ht hf0 with ⟨h0, _⟩ | ⟨A, len', cap', m, n, D, Pl, h0, _, hl, hm, hmm, _, hel⟩
  · simp [Value.cells] at h0
    obtain ⟨rfl, rfl, rfl⟩ := h0
    exact ⟨[], rfl, by simp, Or.inl ⟨rfl, rfl, rfl, rfl⟩⟩
  · simp [Value.cells] at h0
    obtain ⟨rfl, rfl, rfl⟩ := h0
    have hhas : World.has P W .any base A e cap := by
      simp only [Value.okWide, ht, Cell.okWide] at hv
      unfold Cell.ok at hv
      simp only [ht] at hv
      exact hv.2.2
    obtain ⟨_, hsp, row, ncells, hshape, _⟩ := hhas
    unfold World.shape? at hshape
    split at hshape
    · rename_i c el fr hheap
      have hle : len ≤ m := by rw [hmm]; split <;> omega
      obtain ⟨B, off, sp⟩ := A
      simp only at hsp hheap
      subst hsp
      obtain ⟨xs, hlen, hq⟩ := list_of_all (Q := fun i x => stOk x ∧ ∃ v, (c.toList.drop (off + i * 3)).take 3 = [.int .u8 x.1, .int .i64 x.2.1, v] ∧ ChV W x.2.2 v) len (fun i hi => by
        obtain ⟨cs', h1, h2⟩ := hel i (by omega)
        obtain ⟨x, v, kx, cv, ox⟩ := h h2
        obtain ⟨_, hl', hcell⟩ := World.cells?_some h1
        rw [hc] at hl' hcell
        refine ⟨x, ox, v, ?_, cv⟩
        rw [← kx]
        apply List.ext_getElem?
        intro j
        rw [List.getElem?_take, List.getElem?_drop]
        split
        · rename_i hj
          have := hcell j hj
          rw [addr_add, addr_add] at this
          rw [← this]
          simp [World.cell?, hheap, Nat.add_assoc]
        · rw [List.getElem?_eq_none (by omega)])
      refine ⟨xs, hlen, fun x hx => ?_, Or.inr ⟨B, off, c, el, fr, rfl, hl, hheap, hlen, fun i x hx => (hq i x hx).2⟩⟩
      obtain ⟨i, hi⟩ := List.mem_iff_getElem?.1 hx
      exact (hq i x hi).1
    · cases hshape
end
def stepN (p : St3 × AV) : List AV := [.i .u8 p.1.1, .i .i64 p.1.2.1, p.2]
/-- .. in the plain machine's heap. -/
def IsN (H : AH) (x : AV) (l : List St3) : Prop := ∃ mks : List AV, mks.length = l.length ∧ IsIn H x 3 l.length ((l.zip mks).flatMap stepN) ∧ ∀ (i : Nat) (a : St3) (m : AV), l[i]? = some a → mks[i]? = some m → Ch H m a.2.2
theorem rels_flat' {α : Type} {ρ : Rn} {f : α → List AV} {sz : Nat} (hf : ∀ a, (f a).length = sz) : ∀ (l : List α) (vs : List Value), (∀ i x, l[i]? = some x → VRels ρ (f x) ((vs.drop (i * sz)).take sz)) → vs.length = l.length * sz → VRels ρ (l.flatMap f) vs
  | [], vs, _, hl => by
    have : vs = [] := List.length_eq_zero_iff.1 (by simpa using hl)
    subst this
    exact VRels.nil _
  | a :: l, vs, h, hl => by
    have h0 := h 0 a rfl
    simp only [Nat.zero_mul, List.drop_zero] at h0
    have hlen : vs.length = sz + l.length * sz := by rw [hl, List.length_cons, Nat.succ_mul]; omega
    rw [cut2 hlen, List.flatMap_cons]
    refine VRels.append h0 ?_
    rw [List.take_of_length_le (l := vs.drop sz) (by simp; omega)]
    refine rels_flat' hf l (vs.drop sz) (fun i x hx => ?_) (by simp; omega)
    have := h (i + 1) x (by simpa using hx)
    rw [List.drop_drop, show sz + i * sz = (i + 1) * sz by rw [Nat.succ_mul]; omega]
    exact this
theorem linkN {n : FuncId} {W : World} {A : Option Addr} {len cap : Nat} {l : List St3} (hin : InN W A len cap l)
    (h : ∀ H x, IsN H x l → ∃ H', callR tbl n [x] H = some (.b true, H')) (hn : (tblF n).isSome = true := by rfl) :
    Calls Try.prog n #[.slice A len cap] W fun e W' => e = .returned (.bool true) ∧ Below W.heap.size W W' := by
  rcases hin with ⟨rfl, rfl, rfl, rfl⟩ | ⟨B, off, c, el, fr, rfl, hle, hheap, rfl, hel⟩
  · have hs := sim_ro (W := W) [] (by simp)
    obtain ⟨H', hh⟩ := h ⟨0, fun b => ([][b]?).map fun p : (Nat × Nat × Nat) × List AV => .row true p.2⟩ (.sl none 0 0 true 3) ⟨[], rfl, Or.inl ⟨rfl, rfl⟩, fun i a m hi => by simp at hi⟩
    refine link (args := [.sl none 0 0 true 3]) hs (VRels.cons ?_ (VRels.nil _)) hh hn
    unfold VRel
    exact ⟨rfl, rfl, rfl, rfl⟩
  · -- a name for each chain
    obtain ⟨zs, hzl, hz⟩ := list_of_all (α := Option ((Nat × Nat × Nat) × List AV) × AV) (Q := fun i z => ∃ x v, l[i]? = some x ∧ (c.toList.drop (off + i * 3)).take 3 = [.int .u8 x.1, .int .i64 x.2.1, v] ∧ (∀ p, z.1 = some p → ORel Try.prog ρN p.1 W (.row true p.2)) ∧ z.2.one = true ∧
        ∀ (ρ : Rn) (H : AH), (∀ p, z.1 = some p → ρ (i + 1) = some p.1 ∧ H.o (i + 1) = some (.row true p.2) ∧ i + 1 < H.n) → VRel ρ z.2 v ∧ Ch H z.2 x.2.2) l.length (fun i hi => by
      have hx : l[i]? = some l[i] := List.getElem?_eq_getElem hi
      obtain ⟨v, h1, h2⟩ := hel i _ hx
      rcases h2 with ⟨rfl, e⟩ | ⟨A, cc, rfl, e⟩ | ⟨B', off', cc, rfl, hc1, hc2⟩
      · refine ⟨(none, .sl none 0 0 true 1), _, _, hx, h1, nofun, rfl, fun ρ H _ => ⟨?_, ?_⟩⟩
        · unfold VRel; exact ⟨rfl, rfl, rfl, rfl⟩
        · rw [e]
          exact Or.inl ⟨rfl, none, 0, true, 1, rfl, Nat.le_refl _, Or.inl ⟨rfl, rfl⟩⟩
      · refine ⟨(none, .em), _, _, hx, h1, nofun, rfl, fun ρ H _ => ⟨?_, ?_⟩⟩
        · unfold VRel; exact ⟨_, _, rfl⟩
        · rw [e]; exact Or.inr ⟨rfl, rfl⟩
      · refine ⟨(some ((B', off', off' + cc * 1), l[i].2.2.map I1), .sl (some (i + 1, 0)) l[i].2.2.length l[i].2.2.length false 1), _, _, hx, h1, fun p hp => by cases hp; exact hc2, rfl, fun ρ H hp => ?_⟩
        obtain ⟨k1, k2, k3⟩ := hp _ rfl
        refine ⟨?_, Or.inl ⟨by simp, some (i + 1, 0), l[i].2.2.length, false, 1, rfl, Nat.le_refl _, Or.inr ⟨i + 1, 0, true, _, rfl, k3, k2, by simp, by rw [List.drop_zero, List.take_of_length_le (by simp)]⟩⟩⟩
        unfold VRel
        exact ⟨B', off', _, off', cc, k1, rfl, Or.inl rfl, Nat.le_refl _, hc1, nofun, Nat.le_refl _⟩)
    obtain ⟨mks, hmks⟩ : ∃ mks, mks = zs.map (·.2) := ⟨_, rfl⟩
    obtain ⟨ρ, hρ⟩ : ∃ ρ : Rn, ρ = fun b => if b = 0 then some (B, off, off + cap * 3) else ((zs[b - 1]?).bind (·.1)).map (·.1) := ⟨_, rfl⟩
    obtain ⟨H, hH⟩ : ∃ H : AH, H = ⟨l.length + 1, fun b => if b = 0 then some (.row true ((l.zip mks).flatMap stepN)) else ((zs[b - 1]?).bind (·.1)).map fun p => .row true p.2⟩ := ⟨_, rfl⟩
    have hat : ∀ i z, zs[i]? = some z → ∀ p, z.1 = some p → ρ (i + 1) = some p.1 ∧ H.o (i + 1) = some (.row true p.2) ∧ i + 1 < H.n := by
      intro i z hzi p hp
      have hi := (List.getElem?_eq_some_iff.1 hzi).1
      rw [hρ, hH]
      refine ⟨?_, ?_, ?_⟩
      · simp only [if_neg (Nat.succ_ne_zero i), Nat.add_sub_cancel, hzi, Option.bind_some, hp, Option.map_some]
      · simp only [if_neg (Nat.succ_ne_zero i), Nat.add_sub_cancel, hzi, Option.bind_some, hp, Option.map_some]
      · simp only; omega
    have hzl' : zs.length = l.length := hzl
    have hmk : ∀ (i : Nat) (x : St3) (m : AV), l[i]? = some x → mks[i]? = some m → ∃ z : Option ((Nat × Nat × Nat) × List AV) × AV, zs[i]? = some z ∧ z.2 = m := by
      intro i x m hx hm
      rw [hmks, List.getElem?_map] at hm
      cases hzi : zs[i]? with
      | none => rw [hzi] at hm; cases hm
      | some z => rw [hzi] at hm; cases hm; exact ⟨z, rfl, rfl⟩
    have hch : ∀ (i : Nat) (a : St3) (m : AV), l[i]? = some a → mks[i]? = some m → Ch H m a.2.2 := by
      intro i a m ha hm
      obtain ⟨z, hzi, rfl⟩ := hmk i a m ha hm
      obtain ⟨x, v, hx, _, _, _, hv⟩ := hz i z hzi
      rw [hx] at ha
      cases ha
      exact (hv ρ H (hat i z hzi)).2
    have hfl : ∀ p : St3 × AV, (stepN p).length = 3 := fun p => rfl
    have hzip : (l.zip mks).length = l.length := by rw [List.length_zip, hmks, List.length_map, hzl']; simp
    have hcl : 0 < l.length → off + l.length * 3 ≤ c.size := by
      intro hpos
      obtain ⟨v, h1, _⟩ := hel (l.length - 1) _ (List.getElem?_eq_getElem (by omega))
      have := congrArg List.length h1
      simp at this
      omega
    have hrow : ORel Try.prog ρ (B, off, off + cap * 3) W (.row true ((l.zip mks).flatMap stepN)) := by
      refine ⟨c, el, fr, hheap, nofun, ?_, ?_⟩
      · have hll : ((l.zip mks).flatMap stepN).length = l.length * 3 := by
          have : ∀ ps : List (St3 × AV), (ps.flatMap stepN).length = ps.length * 3 := by
            intro ps
            induction ps with
            | nil => rfl
            | cons p ps ih => rw [List.flatMap_cons, List.length_append, ih, hfl, List.length_cons]; omega
          rw [this, hzip]
        rw [hll]
        refine rels_flat' hfl _ _ (fun i p hp => ?_) ?_
        · rw [List.getElem?_zip_eq_some] at hp
          obtain ⟨ha, hm⟩ := hp
          obtain ⟨z, hzi, hz2⟩ := hmk i _ _ ha hm
          obtain ⟨x, v, hx, h1, _, _, hv⟩ := hz i z hzi
          rw [hx] at ha
          have hi := (List.getElem?_eq_some_iff.1 hx).1
          injection ha with ha
          rw [List.drop_take, List.drop_drop, List.take_take, Nat.min_eq_left (by omega), h1, ha]
          unfold stepN
          rw [← hz2]
          exact VRels.cons (by unfold VRel; rfl) (VRels.cons (by unfold VRel; rfl) (VRels.cons (hv ρ H (hat i z hzi)).1 (VRels.nil _)))
        · rw [List.length_take, List.length_drop, hzip]
          by_cases h0 : l.length = 0
          · rw [h0]; simp
          · have := hcl (by omega)
            simp
            omega
      · intro a ha
        obtain ⟨p, hp, ha⟩ := List.mem_flatMap.1 ha
        obtain ⟨i, hi⟩ := List.getElem?_of_mem hp
        rw [List.getElem?_zip_eq_some] at hi
        obtain ⟨z, hzi, hz2⟩ := hmk i _ _ hi.1 hi.2
        obtain ⟨x, v, hx, _, _, ho, _⟩ := hz i z hzi
        unfold stepN at ha
        simp at ha
        rcases ha with rfl | rfl | rfl
        · rfl
        · rfl
        · rw [← hz2]; exact ho
    have hlive : ∀ b o, H.o b = some o → o.rw = false ∧ ∃ x, ρ b = some x ∧ ORel Try.prog ρ x W o ∧ x.1 < W.heap.size := by
      intro b o hb
      rw [hH] at hb
      simp only at hb
      by_cases h0 : b = 0
      · rw [if_pos h0] at hb
        cases hb
        refine ⟨rfl, _, by rw [hρ]; simp only [if_pos h0], hrow, ?_⟩
        exact hrow.lt
      · rw [if_neg h0] at hb
        obtain ⟨p, hp, rfl⟩ := Option.map_eq_some_iff.1 hb
        have hor : ORel Try.prog ρN p.1 W (.row true p.2) := by
          cases hzi : zs[b - 1]? with
          | none => rw [hzi] at hp; cases hp
          | some z =>
            rw [hzi] at hp
            obtain ⟨x, v, _, _, hor, _⟩ := hz _ z hzi
            exact hor p hp
        exact ⟨rfl, p.1, by rw [hρ]; simp only [if_neg h0, hp, Option.map_some], ORel.ext (fun _ _ h => by cases h) hor, hor.lt⟩
    have hs : Sim Try.prog W ρ H W := by
      refine ⟨Below.refl _ _, fun b o hb => let ⟨_, x, h1, h2, _⟩ := hlive b o hb; ⟨x, h1, h2⟩, ?_, fun b o _ _ _ _ hb hr => ?_, fun b o x hb hr => ?_, fun b o x hb hr hx => ?_⟩
      · intro b hb
        rw [hH] at hb
        simp only at hb
        rw [hρ]
        simp only
        rw [if_neg (by omega), List.getElem?_eq_none (by omega)]
        rfl
      · have := (hlive b o hb).1; rw [hr] at this; cases this
      · have := (hlive b o hb).1; rw [hr] at this; cases this
      · obtain ⟨_, y, h1, _, h3⟩ := hlive b o hb
        rw [hx] at h1
        cases h1
        exact h3
    obtain ⟨H', hh⟩ := h H (.sl (some (0, 0)) l.length l.length false 3) ⟨mks, by rw [hmks, List.length_map, hzl'], Or.inr ⟨0, rfl, by rw [hH]; simp, by rw [hH]; rfl⟩, hch⟩
    refine link (args := [.sl (some (0, 0)) l.length l.length false 3]) hs (VRels.cons ?_ (VRels.nil _)) hh hn
    unfold VRel
    exact ⟨B, off, _, off, cap, by rw [hρ]; rfl, rfl, Or.inl rfl, Nat.le_refl _, hle, nofun, Nat.le_refl _⟩
end Go.Proofs.Ytihglokmlpaigaa.Abs
