/- slices.Insert of one whole number, after the shelf's contracts: what it comes to in memory. No condition of its own. -/
import Derived.Test.YthcibbfljcfheaaAbs22
import Derived.Test.YthcibbfljcfheaaInsLay
namespace Go.Proofs.Ythcibbfljcfheaa.Abs
open Go.RowKit Go.Proofs Go.Lib
set_option linter.unusedVariables false
set_option linter.unusedSimpArgs false
/-- Cells of a block set one by one. -/
theorem setCells_is (b : Nat) : ∀ (vs : List Value) (o : Nat) (w : World) {c : Array Value} {e : TypeId} {f : Nat × Nat}, w.heap[b]? = some (.cells c e f) → o + vs.length ≤ c.size →
    ∃ hp, w.setCells b o vs = { w with heap := hp } ∧ hp.size = w.heap.size ∧ (∀ k, k ≠ b → hp[k]? = w.heap[k]?) ∧ hp[b]? = some (.cells (c.toList.take o ++ vs ++ c.toList.drop (o + vs.length)).toArray e f)
  | [], o, w, c, e, f, h, hl => ⟨w.heap, rfl, rfl, fun _ _ => rfl, by simp [h]⟩
  | v :: r, o, w, c, e, f, h, hl => by
    have h1 : (w.setCell ⟨b, o, none⟩ v).heap[b]? = some (.cells (c.setIfInBounds o v) e f) := by
      unfold World.setCell
      simp only [Array.getElem?_modify]
      rw [if_pos trivial, h]
      rfl
    have hl' : o + (r.length + 1) ≤ c.size := hl
    obtain ⟨hp, g1, g2, g3, g4⟩ := setCells_is b r (o + 1) (w.setCell ⟨b, o, none⟩ v) h1 (by simp; omega)
    refine ⟨hp, ?_, ?_, ?_, ?_⟩
    · rw [World.setCells, g1]; rfl
    · rw [g2]; simp [World.setCell]
    · intro k hk
      rw [g3 k hk]
      unfold World.setCell
      simp only [Array.getElem?_modify]
      rw [if_neg (Ne.symm hk)]
    · rw [g4]
      congr 3
      apply List.ext_getElem?
      intro j
      have hc : c.toList.length = c.size := Array.length_toList
      rw [Array.toList_setIfInBounds]
      simp only [List.getElem?_append, List.getElem?_take, List.getElem?_drop, List.length_take, List.length_append, List.length_set, List.getElem?_set, List.getElem?_cons, List.length_cons, hc]
      grind
/-- A row moved under a new name. -/
theorem move_sim {P : Program} {w0 : World} {ρ : Rn} {H : AH} {w w' : World} (hs : Sim P w0 ρ H w) {b : Nat} {o : AObj} (hO : H.o b = some o) (hrw : o.rw = true) {B base N : Nat} (hb : ρ b = some (B, base, N)) {B' base' N' : Nat} (hbel : Below w0.heap.size w w') (hB : B' = B ∨ w.heap.size ≤ B') (hoth : ∀ k, k ≠ B' → k < w.heap.size → w'.heap[k]? = w.heap[k]?) {x : AObj} (hx : x.rw = true) (hr : ORel P (ρ.add H.n (B', base', N')) (B', base', N') w' x) :
    Sim P w0 (ρ.add H.n (B', base', N')) (H.move b x) w' ∧ Fr ρ H w (ρ.add H.n (B', base', N')) (H.move b x) w' := by
  have hbn : b ≠ H.n := by intro e; rw [e, hs.fresh _ (Nat.le_refl _)] at hb; cases hb
  have hn : ρ H.n = none := hs.fresh _ (Nat.le_refl _)
  have hown : w0.heap.size ≤ B' := by
    rcases hB with rfl | h
    · exact hs.own _ _ _ hO hrw hb
    · exact Nat.le_trans hs.below.size h
  rw [move_eq hbn]
  refine ⟨(hs.drop b).bind _ hx (B', base', N') w' hbel hown ?_ hoth hr, Rn.add_ext hn, hbel.size, ?_, ?_⟩
  · intro b1 o1 z1 h1 h2 h3
    simp only [AH.drop] at h1
    split at h1
    · cases h1
    · rename_i e
      rcases hB with rfl | h
      · exact e (hs.inj _ _ _ _ _ _ hO hrw h1 hb h2 h3.symm).symm
      · obtain ⟨z2, g1, g2⟩ := hs.live _ _ h1
        rw [h2] at g1
        cases g1
        have := g2.lt
        simp only at h3
        omega
  · rintro k ⟨b1, o1', x1, h1, h2, h3, h4⟩
    simp only [AH.new] at h1
    unfold Rn.add at h3
    split at h1
    · rename_i e
      have e' : b1 = H.n := e
      rw [if_pos e'] at h3
      cases h3
      rcases hB with rfl | h
      · exact Or.inl ⟨b, _, _, hO, hrw, hb, h4⟩
      · exact Or.inr (by simp only at h4; omega)
    · rename_i e
      have e' : ¬ b1 = H.n := e
      rw [if_neg e'] at h3
      exact Or.inl (Foot.drop (b := b) ⟨b1, o1', x1, h1, h2, h3, h4⟩)
  · intro k hk hnf
    refine hoth k ?_ hk
    rintro rfl
    rcases hB with rfl | h
    · exact hnf ⟨b, _, _, hO, hrw, hb, rfl⟩
    · omega
/-- Lists' own laws for the four roads. -/
theorem list_shift {C : List Value} {x : Value} {off i n : Nat} (hi : i < n) (hl : off + n + 1 ≤ C.length) :
    ((((C.take (off + (i + 1)) ++ ((C.drop off).take n).drop i ++ C.drop (off + (i + 1) + (n - i))).take (off + i) ++ [x] ++ (C.take (off + (i + 1)) ++ ((C.drop off).take n).drop i ++ C.drop (off + (i + 1) + (n - i))).drop (off + i + 1)).drop off).take (n + 1)) = ((C.drop off).take n).take i ++ [x] ++ ((C.drop off).take n).drop i := by
  obtain ⟨P, A, B, S, rfl, hP, hA, hB, hS⟩ : ∃ P A B S : List Value, C = P ++ (A ++ (B ++ S)) ∧ P.length = off ∧ A.length = i ∧ B.length = n - i ∧ 1 ≤ S.length := by
    refine ⟨C.take off, (C.drop off).take i, (C.drop (off + i)).take (n - i), C.drop (off + n), ?_, by simp; omega, by simp; omega, by simp; omega, by simp; omega⟩
    rw [← List.drop_drop (l := C) (i := i) (j := off), show off + n = off + (i + (n - i)) by omega, ← List.drop_drop (l := C) (j := off), ← List.drop_drop (l := C.drop off) (j := i), List.take_append_drop, List.take_append_drop, List.take_append_drop]
  have e0 : (P ++ (A ++ (B ++ S))).drop off = A ++ (B ++ S) := List.drop_left' hP
  have e1 : (A ++ (B ++ S)).take n = A ++ B := by
    rw [← List.append_assoc, List.take_left' (by simp; omega)]
  have e2 : (A ++ B).drop i = B := List.drop_left' hA
  have e3 : (A ++ B).take i = A := List.take_left' hA
  rw [e0, e1, e2, e3]
  obtain ⟨T, hT⟩ : ∃ T, T = (P ++ (A ++ (B ++ S))).take (off + (i + 1)) := ⟨_, rfl⟩
  obtain ⟨U, hU⟩ : ∃ U, U = (P ++ (A ++ (B ++ S))).drop (off + (i + 1) + (n - i)) := ⟨_, rfl⟩
  rw [← hT, ← hU]
  have hTl : T.length = off + (i + 1) := by rw [hT]; simp; omega
  have f1 : (T ++ B ++ U).take (off + i) = P ++ A := by
    rw [List.append_assoc, List.take_append_of_le_length (by omega), hT, List.take_take, Nat.min_eq_left (by omega), ← List.append_assoc, List.take_left' (by simp; omega)]
  have f2 : (T ++ B ++ U).drop (off + i + 1) = B ++ U := by
    rw [List.append_assoc, List.drop_left' (by omega)]
  rw [f1, f2]
  have f3 : (P ++ A ++ [x] ++ (B ++ U)).drop off = A ++ [x] ++ B ++ U := by
    rw [show P ++ A ++ [x] ++ (B ++ U) = P ++ (A ++ [x] ++ B ++ U) by simp, List.drop_left' hP]
  rw [f3, List.take_left' (by simp; omega)]
theorem list_end {C : List Value} {x : Value} {off i : Nat} (hl : off + i + 1 ≤ C.length) :
    ((C.take (off + i) ++ [x] ++ C.drop (off + i + 1)).drop off).take (i + 1) = ((C.drop off).take i).take i ++ [x] ++ ((C.drop off).take i).drop i := by
  have e0 : ((C.drop off).take i).drop i = [] := List.drop_eq_nil_of_le (by simp; omega)
  rw [e0, List.take_take, Nat.min_self, List.append_nil, List.append_assoc, List.drop_append_of_le_length (by simp; omega), List.drop_take, show off + i - off = i by omega, ← List.append_assoc, List.take_left' (by simp; omega)]
theorem list_grow {O Z Y : List Value} {x : Value} {i n : Nat} (hi : i < n) (hO : O.length = n) (hZ : Z.length = n + 1 - i) :
    ((((O.take i ++ Z ++ Y).take i ++ [x] ++ (O.take i ++ Z ++ Y).drop (i + 1)).take (i + 1) ++ O.drop i ++ ((O.take i ++ Z ++ Y).take i ++ [x] ++ (O.take i ++ Z ++ Y).drop (i + 1)).drop (i + 1 + (n - i))).take (n + 1)) = O.take i ++ [x] ++ O.drop i := by
  have e1 : (O.take i ++ Z ++ Y).take i = O.take i := by rw [List.append_assoc, List.take_left' (by simp; omega)]
  rw [e1, List.take_left' (l₁ := O.take i ++ [x]) (by simp; omega), List.take_left' (by simp; omega)]
section
variable {w0 : World} {ρ : Rn} {H : AH} {w : World}
/-- What Insert leaves, told as the plain machine's. -/
theorem ins_fin (hs : Sim Try.prog w0 ρ H w) {b : Nat} {o : AObj} (hO : H.o b = some o) (hrw : o.rw = true) {B base N : Nat} (hb : ρ b = some (B, base, N)) {B' base' d cap L : Nat} {c' : Array Value} {e : TypeId} {hp : Array Obj} {new : List AV} {vs : List Value} (hsz : w.heap.size ≤ hp.size) (hB : B' = B ∨ w.heap.size ≤ B') (hoth : ∀ k, k ≠ B' → k < w.heap.size → hp[k]? = w.heap[k]?) (hat : hp[B']? = some (.cells c' e (0, 0))) (hl : base' + cap ≤ c'.size) (hcap : L ≤ cap) (hcm : cap ≤ 9223372036854775807) (hL : new.length = L) (hv : VRels ρ new vs) (hvs : (c'.toList.drop base').take L = vs) (h1 : ∀ a ∈ new, a.one = true) :
    ∃ ρ', VRel ρ' (.sl (some (H.n, 0)) L L false 1) (.slice (some ⟨B', base', none⟩) L cap) ∧ Sim Try.prog w0 ρ' (H.move b (.row false new)) { w with heap := hp, drawn := d } ∧ Fr ρ H w ρ' (H.move b (.row false new)) { w with heap := hp, drawn := d } := by
  have hn : ρ H.n = none := hs.fresh _ (Nat.le_refl _)
  have hown : w0.heap.size ≤ B' := by
    rcases hB with rfl | h
    · exact hs.own _ _ _ hO hrw hb
    · exact Nat.le_trans hs.below.size h
  have hbel : Below w0.heap.size w { w with heap := hp, drawn := d } := ⟨rfl, rfl, rfl, hsz, fun k hk => hoth k (by omega) (Nat.lt_of_lt_of_le hk hs.below.size)⟩
  have hr : ORel Try.prog (ρ.add H.n (B', base', c'.size)) (B', base', c'.size) { w with heap := hp, drawn := d } (.row false new) := by
    refine ⟨c', e, (0, 0), hat, fun _ => ⟨rfl, rfl, by simp only; omega⟩, ?_, h1⟩
    simp only
    rw [hL, hvs]
    exact VRels.ext (Rn.add_ext hn) _ hv
  obtain ⟨g1, g2⟩ := move_sim hs hO hrw hb hbel hB hoth rfl hr
  refine ⟨_, ?_, g1, g2⟩
  unfold VRel
  exact ⟨B', base', c'.size, base', cap, Rn.add_self _ _ _, rfl, Or.inl rfl, by omega, ⟨hcap, fun _ => hcm⟩, nofun, by omega⟩
theorem cap_in (w : World) {need old : Nat} (e : TypeId) (h : need < 2 ^ 63) : need ≤ grownCap w need old e ∧ grownCap w need old e ≤ 9223372036854775807 := by
  unfold grownCap
  have hm := Nat.mod_lt (w.tape w.drawn (.appendCap need old e)) (show 2 ^ 63 - need > 0 by omega)
  simp only [Question.cut]
  omega
theorem zc_size (k : Nat) : (Builtin.zeroCells (Value.int .i64 0).cells k).size = k := by simp [Builtin.zeroCells, Value.cells]
/-- A slice of a row: its cells. -/
theorem ins_world (hs : Sim Try.prog w0 ρ H w) {b o n lo i vb vo lo3 sz3 : Nat} {ex ex3 : Bool} {cs vs : List AV} {x1 x3 : Value} (h1 : VRel ρ (.sl (some (b, o)) n lo ex 1) x1) (h3 : VRel ρ (.sl (some (vb, vo)) 1 lo3 ex3 sz3) x3) (hO : H.o b = some (.row false cs)) (hV : H.o vb = some (.row false vs)) (hne : vb ≠ b) (hi : i ≤ n) (hle : o + n ≤ cs.length) (hle3 : vo + 1 ≤ vs.length) (hn : n ≤ 1000000) :
    Calls Try.prog 36 #[x1, .int .i64 (i : Int), x3] w fun e w' => ∃ ρ' u, e = .returned u ∧ VRel ρ' (.sl (some (H.n, 0)) (n + 1) (n + 1) false 1) u ∧ Sim Try.prog w0 ρ' (H.move b (.row false (((cs.drop o).take n).take i ++ (vs.drop vo).take 1 ++ ((cs.drop o).take n).drop i))) w' ∧ Fr ρ H w ρ' (H.move b (.row false (((cs.drop o).take n).take i ++ (vs.drop vo).take 1 ++ ((cs.drop o).take n).drop i))) w' := by
  unfold VRel at h1 h3
  obtain ⟨B, base, N, off, cap, hb, rfl, ho, g1, ⟨g2, g2'⟩, g3, g4⟩ := h1
  obtain ⟨VB, vbase, VN, voff, vcap, hvb, rfl, hvo, k1, ⟨k2, _⟩, k3, k4⟩ := h3
  have hvo : voff = vbase + vo := by rcases hvo with h | ⟨h, _⟩ <;> omega
  subst hvo
  have hcapm := g2' rfl
  obtain ⟨q, hq, c, el, fr, hheap, hfr, hrel, hone⟩ := hs.live _ _ hO
  rw [hb] at hq
  cases hq
  obtain ⟨rfl, hsz, hbl⟩ := hfr rfl
  obtain ⟨q, hq, vc, vel, vfr, vheap, hvfr, vrel, vone⟩ := hs.live _ _ hV
  rw [hvb] at hq
  cases hq
  obtain ⟨rfl, vsz, vbl⟩ := hvfr rfl
  simp only at hheap hsz hbl hrel vheap vsz vbl vrel
  have hVB : VB ≠ B := fun e => hne (hs.inj _ _ _ _ _ _ hV rfl hO hvb hb e)
  have hclen : c.toList.length = c.size := Array.length_toList
  have hvlen : vc.toList.length = vc.size := Array.length_toList
  obtain ⟨olds, hol⟩ : ∃ l, l = (c.toList.drop off).take n := ⟨_, rfl⟩
  obtain ⟨news, hnw⟩ : ∃ l, l = (vc.toList.drop (vbase + vo)).take 1 := ⟨_, rfl⟩
  have hll : olds.length = n := by rw [hol]; simp; omega
  have hnl : news.length = 1 := by rw [hnw]; simp; omega
  obtain ⟨x, hx⟩ := List.length_eq_one_iff.1 hnl
  have hor : VRels ρ ((cs.drop o).take n) olds := by
    by_cases h0 : n = 0
    · subst h0
      rw [hol]
      simpa using VRels.nil ρ
    · have e : off = base + o := by rcases ho with h | ⟨h, _⟩ <;> omega
      have := (hrel.drop o).take n
      rw [List.drop_take, List.drop_drop, List.take_take, Nat.min_eq_left (by omega)] at this
      rw [hol, e]
      exact this
  have hnr : VRels ρ ((vs.drop vo).take 1) news := by
    have := (vrel.drop vo).take 1
    rw [List.drop_take, List.drop_drop, List.take_take, Nat.min_eq_left (by omega)] at this
    rw [hnw]
    exact this
  have ho1 : ∀ a ∈ (cs.drop o).take n, a.one = true := fun a ha => hone a (List.mem_of_mem_drop (List.mem_of_mem_take ha))
  have hn1 : ∀ a ∈ (vs.drop vo).take 1, a.one = true := fun a ha => vone a (List.mem_of_mem_drop (List.mem_of_mem_take ha))
  have hov : ∀ v ∈ olds, v.oneCell' = true := hor.oneCell ho1
  have hnv : ∀ v ∈ news, v.oneCell' = true := hnr.oneCell hn1
  obtain ⟨new, hnew⟩ : ∃ l, l = ((cs.drop o).take n).take i ++ (vs.drop vo).take 1 ++ ((cs.drop o).take n).drop i := ⟨_, rfl⟩
  have hnewl : new.length = n + 1 := by rw [hnew]; simp; omega
  have hnewr : VRels ρ new (olds.take i ++ news ++ olds.drop i) := by rw [hnew]; exact ((hor.take i).append hnr).append (hor.drop i)
  have hnew1 : ∀ a ∈ new, a.one = true := by
    intro a ha
    rw [hnew] at ha
    rcases List.mem_append.1 ha with ha | ha
    · rcases List.mem_append.1 ha with ha | ha
      · exact ho1 a (List.mem_of_mem_take ha)
      · exact hn1 a ha
    · exact ho1 a (List.mem_of_mem_drop ha)
  have hcs : ∀ j v, olds[j]? = some v → w.cell? ⟨B, off + j, none⟩ = some v := by
    intro j v hj
    rw [hol, List.getElem?_take] at hj
    split at hj
    · rw [List.getElem?_drop, Array.getElem?_toList] at hj
      unfold World.cell?
      simp only [hheap, Option.isSome_none, Bool.false_eq_true, if_false]
      exact hj
    · cases hj
  have hvs : ∀ j v, news[j]? = some v → w.cell? ⟨VB, vbase + vo + j, none⟩ = some v := by
    intro j v hj
    rw [hnw, List.getElem?_take] at hj
    split at hj
    · rw [List.getElem?_drop, Array.getElem?_toList] at hj
      unfold World.cell?
      simp only [vheap, Option.isSome_none, Bool.false_eq_true, if_false]
      exact hj
    · cases hj
  have hfz : ∀ j, w.frozen? ⟨B, j, none⟩ = false := fun j => by
    unfold World.frozen?
    simp only [hheap]
    simp
  have vfz : ∀ j, w.frozen? ⟨VB, j, none⟩ = false := fun j => by
    unfold World.frozen?
    simp only [vheap]
    simp
  have hsp : ∀ j, off + j < c.size → (w.cell? ⟨B, off + j, none⟩).isSome = true := fun j hj => by
    unfold World.cell?
    simp only [hheap, Option.isSome_none, Bool.false_eq_true, if_false]
    rw [Array.getElem?_eq_getElem hj]
    rfl
  have hBw : B < w.heap.size := lt_of_get hheap
  have hwt : w.drew.heap = w.heap := rfl
  rw [← hnew]
  rw [Nat.mul_one] at g4
  by_cases hroom : n + 1 ≤ cap
  · by_cases hin : i < n
    · have hcon := Any2.slices_Insert_int_shift Try.ins36 B off n cap i VB (vbase + vo) 1 vcap olds news w hin (by omega) hroom hcapm hVB hll hnl hcs (fun j hj => hsp j (by omega)) (fun j hj => hfz _) hvs hov hnv vel el vc.size c.size (by unfold World.shape?; simp only [vheap]) (by unfold World.shape?; simp only [hheap]) (by omega) (vfz _) (vfz _)
      change Calls Try.prog 36 _ _ _ at hcon
      refine hcon.mono ?_
      rintro e w' ⟨rfl, rfl⟩
      have hdl : (olds.drop i).length = n - i := by rw [List.length_drop, hll]
      obtain ⟨hp1, a1, a2, a3, a4⟩ := setCells_is B (olds.drop i) (off + (i + 1)) w.drew hheap (by rw [hdl]; omega)
      obtain ⟨hp2, b1, b2, b3, b4⟩ := setCells_is B news (off + i) { w.drew with heap := hp1 } a4 (by simp; omega)
      rw [a1, b1]
      obtain ⟨ρ', r1, r2, r3⟩ := ins_fin (d := w.drawn + 1) hs hO rfl hb (B' := B) (base' := off) (cap := cap) (L := n + 1) (by rw [b2]; simp only; rw [a2, hwt]; omega) (Or.inl rfl) (fun k hk hk' => by rw [b3 k hk]; simp only; rw [a3 k hk]; rfl) b4 (by simp; omega) hroom hcapm hnewl hnewr (by
        rw [hdl, hnl, hol, hx]
        simp only [List.toList_toArray]
        exact list_shift hin (by omega)) hnew1
      exact ⟨ρ', _, rfl, r1, r2, r3⟩
    · have hin : i = n := by omega
      subst hin
      have hcon := Any2.slices_Insert_int_end_room Try.ins36 B off i cap VB (vbase + vo) 1 vcap news w (by omega) hroom hcapm hnl (fun j hj => by rw [Nat.add_assoc]; exact hsp _ (by omega)) (fun j hj => hfz _) hvs hnv
      change Calls Try.prog 36 _ _ _ at hcon
      refine hcon.mono ?_
      rintro e w' ⟨rfl, rfl⟩
      obtain ⟨hp1, a1, a2, a3, a4⟩ := setCells_is B news (off + i) w hheap (by omega)
      rw [a1]
      obtain ⟨ρ', r1, r2, r3⟩ := ins_fin (d := w.drawn) hs hO rfl hb (B' := B) (base' := off) (cap := cap) (L := i + 1) (by omega) (Or.inl rfl) (fun k hk hk' => a3 k hk) a4 (by simp; omega) hroom hcapm hnewl hnewr (by
        rw [hnl, hol, hx]
        simp only [List.toList_toArray]
        exact list_end (by omega)) hnew1
      exact ⟨ρ', _, rfl, r1, r2, r3⟩
  · have hcn : cap = n := by omega
    subst hcn
    by_cases hin : i < cap
    · have hcon := Any2.slices_Insert_int_grow Try.ins36 B off cap cap i VB (vbase + vo) 1 vcap olds news w hin (by omega) (Nat.le_refl _) (by omega) (by omega) hll hnl hcs hvs hov hnv
      change Calls Try.prog 36 _ _ _ at hcon
      refine hcon.mono ?_
      rintro e w' ⟨rfl, rfl⟩
      obtain ⟨q1, q2⟩ := cap_in w (need := cap + 1) (old := cap) 3 (by omega)
      obtain ⟨G, hG⟩ : ∃ G, G = grownCap w (cap + 1) cap 3 := ⟨_, rfl⟩
      have hG' : grownCap w (cap + 1) cap (Try.ins36_ren.t 3) = G := hG.symm
      rw [← hG] at q1 q2
      rw [hG']
      have hdl : (olds.drop i).length = cap - i := by rw [List.length_drop, hll]
      obtain ⟨z1, hz1⟩ : ∃ z, z = Builtin.zeroCells (Value.int .i64 0).cells (cap + 1 - i) := ⟨_, rfl⟩
      obtain ⟨z2, hz2⟩ : ∃ z, z = Builtin.zeroCells (Value.int .i64 0).cells (G - (cap + 1)) := ⟨_, rfl⟩
      have hz1s : z1.size = cap + 1 - i := by rw [hz1, zc_size]
      have hz2s : z2.size = G - (cap + 1) := by rw [hz2, zc_size]
      rw [← hz1, ← hz2]
      have htl : (olds.take i).length = i := by simp; omega
      have hz1l : z1.toList.length = cap + 1 - i := by rw [Array.length_toList, hz1s]
      have hz2l : z2.toList.length = G - (cap + 1) := by rw [Array.length_toList, hz2s]
      obtain ⟨el2, hel2⟩ : ∃ e, e = Try.ins36_ren.t 3 := ⟨_, rfl⟩
      rw [← hel2]
      have hat : (w.alloc (.cells ((olds.take i).toArray ++ z1 ++ z2) el2)).drew.heap[w.heap.size]? = some (.cells ((olds.take i).toArray ++ z1 ++ z2) el2 (0, 0)) := by
        show (w.heap.push _)[w.heap.size]? = _
        simp
      obtain ⟨hp1, a1, a2, a3, a4⟩ := setCells_is w.heap.size news i _ hat (by simp; omega)
      rw [a1]
      have hat2 : (World.drew { (w.alloc (.cells ((olds.take i).toArray ++ z1 ++ z2) el2)).drew with heap := hp1 }).heap[w.heap.size]? = _ := a4
      obtain ⟨hp2, b1, b2, b3, b4⟩ := setCells_is w.heap.size (olds.drop i) (i + 1) _ hat2 (by simp; omega)
      rw [b1]
      have hsz1 : (w.alloc (.cells ((olds.take i).toArray ++ z1 ++ z2) el2)).drew.heap.size = w.heap.size + 1 := by
        show (w.heap.push _).size = _
        simp
      obtain ⟨ρ', r1, r2, r3⟩ := ins_fin (d := w.drawn + 1 + 1) hs hO rfl hb (hp := hp2) (B' := w.heap.size) (base' := 0) (cap := G) (L := cap + 1) (by rw [b2]; show _ ≤ hp1.size; rw [a2, hsz1]; omega) (Or.inr (Nat.le_refl _)) (fun k hk hk' => by
          rw [b3 k hk]
          show hp1[k]? = _
          rw [a3 k hk]
          show (w.heap.push _)[k]? = _
          rw [Array.getElem?_push_lt hk', Array.getElem?_eq_getElem hk']) b4 (by simp; omega) q1 q2 hnewl hnewr (by
        rw [hdl, hnl, hx]
        simp only [List.toList_toArray, Array.toList_append, List.drop_zero]
        exact list_grow hin hll hz1l) hnew1
      exact ⟨ρ', _, rfl, r1, r2, r3⟩
    · have hin : i = cap := by omega
      subst hin
      have hcon := Any2.slices_Insert_int_end_grow Try.ins36 (some ⟨B, off, none⟩) i i VB (vbase + vo) 1 vcap olds news w (by omega) (Nat.le_refl _) (by omega) (by omega) hll hnl (by simp) (fun a ha j v hj => by cases ha; rw [Addr.add_lit]; exact hcs j v hj) hvs hnv
      change Calls Try.prog 36 _ _ _ at hcon
      refine hcon.mono ?_
      rintro e w' ⟨rfl, rfl⟩
      obtain ⟨q1, q2⟩ := cap_in w (need := i + 1) (old := i) 3 (by omega)
      obtain ⟨G, hG⟩ : ∃ G, G = grownCap w (i + 1) i 3 := ⟨_, rfl⟩
      have hG' : grownCap w (i + 1) i (Try.ins36_ren.t 3) = G := hG.symm
      rw [← hG] at q1 q2
      rw [hG']
      obtain ⟨z2, hz2⟩ : ∃ z, z = Builtin.zeroCells (Value.int .i64 0).cells (G - (i + 1)) := ⟨_, rfl⟩
      have hz2s : z2.size = G - (i + 1) := by rw [hz2, zc_size]
      have hz2l : z2.toList.length = G - (i + 1) := by rw [Array.length_toList, hz2s]
      rw [← hz2]
      obtain ⟨el2, hel2⟩ : ∃ e, e = Try.ins36_ren.t 3 := ⟨_, rfl⟩
      rw [← hel2]
      obtain ⟨ρ', r1, r2, r3⟩ := ins_fin (d := w.drawn + 1) hs hO rfl hb (hp := w.heap.push (.cells ((olds ++ news).toArray ++ z2) el2)) (B' := w.heap.size) (base' := 0) (cap := G) (L := i + 1) (by simp) (Or.inr (Nat.le_refl _)) (fun k hk hk' => by
          rw [Array.getElem?_push_lt hk', Array.getElem?_eq_getElem hk']) (c' := (olds ++ news).toArray ++ z2) (e := el2) (by simp) (by simp; omega) q1 q2 hnewl hnewr (by
        simp only [List.toList_toArray, Array.toList_append, List.drop_zero]
        rw [List.take_append_of_le_length (by simp; omega), List.take_of_length_le (by simp; omega), List.take_of_length_le (by omega), List.drop_eq_nil_of_le (by omega), List.append_nil]) hnew1
      exact ⟨ρ', _, rfl, r1, r2, r3⟩
end
end Go.Proofs.Ythcibbfljcfheaa.Abs
