/- slices.SortFunc of pairs, after the shelf's contract: what it comes to in memory. No condition of its own. -/
import Derived.Test.YtokfnhildehndaaAbs22
import Derived.Test.YtokfnhildehndaaP3
import Derived.Test.YtokfnhildehndaaSortLay
import Derived.Shelf.SlSortCmp.NoneTotal
namespace Go.Proofs.Ytokfnhildehndaa.Abs
open Go.RowKit Go.Proofs Go.Sort
set_option linter.unusedVariables false
set_option linter.unusedSimpArgs false
def vals3 (x : P3) : List Value := [.int .i64 x.1, .int .i64 x.2.1, .int .i64 x.2.2]
def look (ts : List P3) (s : Int) : P3 := (ts.find? fun x => x.1 == s).getD (s, 0, 0)
theorem look_fst (ts : List P3) (s : Int) : (look ts s).1 = s := by
  unfold look
  cases h : ts.find? fun x => x.1 == s with
  | none => rfl
  | some x => simpa using List.find?_some h
theorem look_mem {ts : List P3} (hn : (ts.map (·.1)).Nodup) {x : P3} (hx : x ∈ ts) : look ts x.1 = x := by
  unfold look
  induction ts with
  | nil => cases hx
  | cons y ts ih =>
    rw [List.map_cons, List.nodup_cons] at hn
    rw [List.find?_cons]
    by_cases e : y.1 = x.1
    · rcases List.mem_cons.1 hx with rfl | hx
      · simp
      · exfalso
        apply hn.1
        rw [e]
        exact List.mem_map_of_mem hx
    · rcases List.mem_cons.1 hx with rfl | hx
      · exact absurd rfl e
      · have : (y.1 == x.1) = false := by simpa using e
        rw [this]
        exact ih hn.2 hx
theorem look_map {ts : List P3} (hn : (ts.map (·.1)).Nodup) : (ts.map (·.1)).map (look ts) = ts := by
  rw [List.map_map]
  conv => rhs; rw [← List.map_id ts]
  apply List.map_congr_left
  intro x hx
  exact look_mem hn hx
/-- .. by their first numbers. -/
def srt (ts : List P3) : List P3 := ((ts.map (·.1)).mergeSort fun x y => decide (x ≤ y)).map (look ts)
theorem srt_len (ts : List P3) : (srt ts).length = ts.length := by unfold srt; simp [List.length_mergeSort]
theorem cells3_rels (ρ : Rn) : ∀ ts : List P3, VRels ρ (ts.flatMap cells3) (ts.flatMap vals3)
  | [] => VRels.nil ρ
  | x :: ts => by
    rw [List.flatMap_cons, List.flatMap_cons]
    exact VRels.append (VRels.cons (by unfold VRel; rfl) (VRels.cons (by unfold VRel; rfl) (VRels.cons (by unfold VRel; rfl) (VRels.nil ρ)))) (cells3_rels ρ ts)
theorem rels_vals {ρ : Rn} : ∀ {ts : List P3} {vs : List Value}, VRels ρ (ts.flatMap cells3) vs → vs = ts.flatMap vals3
  | [], vs, h => by unfold List.flatMap at h; simpa [VRels] using h
  | x :: ts, vs, h => by
    rw [List.flatMap_cons] at h
    unfold cells3 at h
    simp only [List.cons_append, List.nil_append] at h
    unfold VRels at h
    obtain ⟨v1, vs1, rfl, h1, h⟩ := h
    unfold VRels at h
    obtain ⟨v2, vs2, rfl, h2, h⟩ := h
    unfold VRels at h
    obtain ⟨v3, vs3, rfl, h3, h⟩ := h
    unfold VRel at h1 h2 h3
    rw [h1, h2, h3, rels_vals h]
    rfl
theorem flatK_vals (enc : Int → List Value) (he : ∀ s, (enc s).length = 3) (d : List Int) : (flatK enc 3 d.toArray).toList = d.flatMap enc := by
  apply List.ext_getElem?
  intro j
  have hl : (d.flatMap enc).length = d.length * 3 := by
    induction d with
    | nil => rfl
    | cons x d ih => rw [List.flatMap_cons, List.length_append, ih, he, List.length_cons]; omega
  by_cases hj : j < d.length * 3
  · have h1 := get_flatK enc 3 d.toArray j (by simpa using hj)
    have hs : j < (flatK enc 3 d.toArray).size := by simpa using hj
    rw [getElem!_pos _ j hs] at h1
    rw [Array.getElem?_toList, Array.getElem?_eq_getElem hs, h1]
    have hq : j / 3 < d.length := by omega
    have hg : ∀ (d : List Int) (q r : Nat), q < d.length → r < 3 → (d.flatMap enc)[q * 3 + r]? = (enc d[q]!)[r]? := by
      intro d
      induction d with
      | nil => intro q r hq; simp at hq
      | cons x d ih =>
        intro q r hq hr
        rw [List.flatMap_cons]
        cases q with
        | zero => rw [List.getElem?_append_left (by rw [he]; omega)]; simp
        | succ q =>
          rw [List.getElem?_append_right (by rw [he]; omega), he, show (q + 1) * 3 + r - 3 = q * 3 + r by omega, ih q r (by simpa using hq) hr]
          simp
    have h2 := hg d (j / 3) (j % 3) hq (by omega)
    rw [show j / 3 * 3 + j % 3 = j by omega] at h2
    rw [h2]
    have hd : (d.toArray)[j / 3]! = d[j / 3]! := by simp
    rw [hd, List.getElem?_eq_getElem (by rw [he]; omega), getElem!_pos _ _ (by rw [he]; omega)]
  · rw [List.getElem?_eq_none (by rw [Array.length_toList, size_flatK]; simp; omega), List.getElem?_eq_none (by rw [hl]; omega)]
/-- New blocks without names. -/
theorem Sim.grow {P : Program} {w0 : World} {ρ : Rn} {H : AH} {w : World} (h : Sim P w0 ρ H w) (os : Array Obj) : Sim P w0 ρ H (Sort.grow w os) := by
  have hold : ∀ k, k < w.heap.size → (Sort.grow w os).heap[k]? = w.heap[k]? := fun k hk => by
    unfold Sort.grow
    rw [Array.getElem?_append_left hk]
  refine ⟨h.below.trans ⟨rfl, rfl, rfl, by simp [Sort.grow], fun k hk => hold k (Nat.lt_of_lt_of_le hk h.below.size)⟩, fun b o ho => ?_, h.fresh, h.inj, h.own, h.ro⟩
  obtain ⟨x, h1, h2⟩ := h.live b o ho
  exact ⟨x, h1, h2.world (hold _ h2.lt)⟩
theorem Fr.grow {ρ : Rn} {H : AH} {w : World} (os : Array Obj) : Fr ρ H w ρ H (Sort.grow w os) :=
  ⟨Ext.refl _, by simp [Sort.grow], fun k hk => Or.inl hk, fun k hk _ => by unfold Sort.grow; rw [Array.getElem?_append_left hk]⟩
theorem vals_at : ∀ {ts : List P3} {j : Nat} {v : Value}, (ts.flatMap vals3)[j]? = some v → v.oneCell' = true
  | [], j, v, h => by simp at h
  | x :: ts, j, v, h => by
    rw [List.flatMap_cons] at h
    by_cases hj : j < 3
    · rw [List.getElem?_append_left (by simpa [vals3] using hj)] at h
      have := List.mem_of_getElem? h
      simp [vals3] at this
      rcases this with rfl | rfl | rfl <;> rfl
    · rw [List.getElem?_append_right (by simp [vals3]; omega)] at h
      exact vals_at h
theorem flat3_len {α : Type} (f : P3 → List α) (hf : ∀ x, (f x).length = 3) : ∀ ts : List P3, (ts.flatMap f).length = ts.length * 3
  | [] => rfl
  | x :: ts => by rw [List.flatMap_cons, List.length_append, hf, flat3_len f hf ts, List.length_cons]; omega
/-- Cells of a row turned, as the model turns them. -/
theorem put_rels {ρ : Rn} {full new : List AV} {c : Array Value} {F : Array Value} {base o : Nat} (h : VRels ρ full ((c.toList.drop base).take full.length)) (hc : base + full.length ≤ c.size) (hle : o + new.length ≤ full.length) (hn : VRels ρ new F.toList) :
    VRels ρ (setR full o new) (((putCells id (base + o) F c).toList.drop base).take (setR full o new).length) := by
  have hF : F.size = new.length := by have := hn.length; simpa using this.symm
  have hlen : (setR full o new).length = full.length := by unfold setR; simp; omega
  have e : (((putCells id (base + o) F c).toList.drop base).take full.length) = ((c.toList.drop base).take full.length).take o ++ F.toList ++ ((c.toList.drop base).take full.length).drop (o + new.length) := by
    apply List.ext_getElem?
    intro i
    rw [List.getElem?_take]
    by_cases hi : i < full.length
    · rw [if_pos hi, List.getElem?_drop, Array.getElem?_toList]
      unfold putCells
      rw [Array.getElem?_mapIdx]
      have hci : base + i < c.size := by omega
      rw [Array.getElem?_eq_getElem hci, Option.map_some]
      by_cases h1 : i < o
      · rw [if_neg (by omega), List.append_assoc, List.getElem?_append_left (by simp; omega), List.getElem?_take, if_pos h1, List.getElem?_take, if_pos hi, List.getElem?_drop, Array.getElem?_toList, Array.getElem?_eq_getElem hci]
      · by_cases h2 : i < o + new.length
        · rw [if_pos (by omega), List.getElem?_append_left (by simp; omega), List.getElem?_append_right (by simp; omega)]
          have hl : (((c.toList.drop base).take full.length).take o).length = o := by simp; omega
          have hj : i - o < F.size := by omega
          rw [hl, Array.getElem?_toList, Array.getElem?_eq_getElem hj, show base + i - (base + o) = i - o by omega, getElem!_pos F _ hj]
          rfl
        · have hl : (((c.toList.drop base).take full.length).take o ++ F.toList).length = o + new.length := by simp; omega
          rw [if_neg (by omega), List.getElem?_append_right (by omega), hl, List.getElem?_drop, List.getElem?_take, if_pos (by omega), List.getElem?_drop, Array.getElem?_toList, show base + (o + new.length + (i - (o + new.length))) = base + i by omega, Array.getElem?_eq_getElem hci]
    · rw [if_neg hi, List.getElem?_eq_none]
      simp
      omega
  rw [hlen, e]
  unfold setR
  exact VRels.append (VRels.append (h.take o) hn) (h.drop (o + new.length))
/-- The closure's own contract. -/
theorem closure27 (x y : P3) (W : World) : Calls Try.prog 27 #[.agg (vals3 x).toArray, .agg (vals3 y).toArray] W fun e w' => e = .returned (.int .i64 (Lib.compareInt x.1 y.1)) ∧ ∃ q os', w' = Sort.grow (W.drewN q) os' := by
  have hcon := fun W' => AnyG.cmp_Compare_int Try.cmp28 x.1 y.1 W'
  change ∀ W', Calls Try.prog 28 _ _ _ at hcon
  obtain ⟨x1, x2, x3⟩ := x
  obtain ⟨y1, y2, y3⟩ := y
  show Calls Try.prog 27 #[.agg #[.int .i64 x1, .int .i64 x2, .int .i64 x3], .agg #[.int .i64 y1, .int .i64 y2, .int .i64 y3]] W _
  simp only at hcon ⊢
  generalize Lib.compareInt x1 y1 = r at hcon ⊢
  go_enter Try.func27, Try.ntmps27
  go_wp2_with (go_at_call 28; refine (hcon _).mono ?_; rintro e w' ⟨rfl, rfl⟩)
  go_ret
  exact ⟨rfl, 0, _, by rw [alloc_eq_grow, alloc_eq_grow, grow_grow]; rfl⟩
theorem cmpLays27 (ts : List P3) (blk off size : Nat) (w : World) : CmpLays Try.prog 27 #[] (fun s => vals3 (look ts s)) 3 Lib.compareInt blk off size w := by
  intro m os dk hd x y
  have := closure27 (look ts x) (look ts y) (sortWorldK (fun s => vals3 (look ts s)) 3 w blk off m dk os)
  rw [look_fst, look_fst] at this
  exact this
theorem ltC (x y : Int) : ltOf Lib.compareInt x y = decide (x < y) := by
  unfold ltOf Lib.compareInt
  by_cases h1 : x < y
  · simp [h1]
  · by_cases h2 : y < x <;> simp [h1, h2]
theorem swoC : SWO (ltOf Lib.compareInt) where
  irrefl x := by rw [ltC]; simp
  trans x y z h1 h2 := by rw [ltC] at *; simp at *; omega
  ntrans x y z h1 h2 := by rw [ltC] at *; simp at *; omega
/-- A row of pairs sorted. -/
theorem sort_world {w0 : World} {ρ : Rn} {H : AH} {w : World} (hs : Sim Try.prog w0 ρ H w) {b o n c B base N : Nat} {full : List AV} {ts : List P3} (hb : H.o b = some (.row false full)) (hts : (full.drop o).take (n * 3) = ts.flatMap cells3) (hl : ts.length = n) (hnd : (ts.map (·.1)).Nodup) (hle : o + n * 3 ≤ full.length) (hn : n ≤ 1000000) (hρ : ρ b = some (B, base, N)) :
    Calls Try.prog 32 #[.slice (some ⟨B, base + o, none⟩) n c, .func (.func 27) #[] #[]] w fun e w' => e = .returned (.tuple #[]) ∧ Sim Try.prog w0 ρ (H.set b (.row false (setR full o ((srt ts).flatMap cells3)))) w' ∧ Fr ρ H w ρ (H.set b (.row false (setR full o ((srt ts).flatMap cells3)))) w' := by
  obtain ⟨x, hx, hor⟩ := hs.live b _ hb
  rw [hρ] at hx
  cases hx
  obtain ⟨cs, el, fr, hheap, hfr, hrel, hone⟩ := hor
  obtain ⟨rfl, hsz, hbl⟩ := hfr rfl
  simp only at hheap hsz hbl hrel
  obtain ⟨d, hd⟩ : ∃ d : List Int, d = ts.map (·.1) := ⟨_, rfl⟩
  obtain ⟨enc, henc⟩ : ∃ enc : Int → List Value, enc = fun s => vals3 (look ts s) := ⟨_, rfl⟩
  have h3 : ∀ s, (enc s).length = 3 := fun s => by rw [henc]; rfl
  have hdl : d.length = n := by rw [hd, List.length_map, hl]
  have hdf : d.flatMap enc = ts.flatMap vals3 := by
    rw [henc, hd]
    have := List.flatMap_map (look ts) vals3 (ts.map (·.1))
    rw [look_map hnd] at this
    exact this.symm
  have hvals : ((cs.toList.drop (base + o)).take (n * 3)) = ts.flatMap vals3 := by
    have h1 := (hrel.drop o).take (n * 3)
    rw [hts] at h1
    have h2 := rels_vals h1
    rw [← h2, List.drop_take, List.take_take, List.drop_drop, Nat.min_eq_left (by omega)]
  have hfl := flatK_vals enc h3 d
  have hH : HoldsK enc 3 w B (base + o) d.toArray := by
    intro j hj
    rw [size_flatK] at hj
    have hj' : j < n * 3 := by simpa [hdl] using hj
    have hsz2 : j < (flatK enc 3 d.toArray).size := by rw [size_flatK]; exact hj
    have e1 : (flatK enc 3 d.toArray)[j]? = (ts.flatMap vals3)[j]? := by rw [← Array.getElem?_toList, hfl, hdf]
    have e2 : (ts.flatMap vals3)[j]? = cs[base + o + j]? := by rw [← hvals, List.getElem?_take, if_pos hj', List.getElem?_drop, Array.getElem?_toList]
    refine ⟨?_, ?_⟩
    · rw [getElem!_pos _ j hsz2]
      unfold World.cell?
      simp only [hheap, Option.isSome_none, Bool.false_eq_true, if_false]
      rw [← e2, ← e1, Array.getElem?_eq_getElem hsz2]
      rfl
    · unfold World.frozen?
      simp only [hheap]
      simp
  have eg : ∀ args w, (callFunc 27 args).run Try.prog w = .ok (.enter 27 args) w := enters_of Try.func27 (by kernel_rfl) rfl
  have hBw : B < w.heap.size := lt_of_get hheap
  have hcon := AnyQ.slices_SortFunc_total Try.sort32 3 Try.isAgg32 Try.sizeOf32 enc h3 (fun s v hv => by
    rw [henc] at hv
    simp [vals3] at hv
    rcases hv with rfl | rfl | rfl <;> rfl) Lib.compareInt swoC 27 #[] B (base + o) c d.toArray w eg (by rw [henc]; exact cmpLays27 ts B (base + o) _ w) hH hBw (by simp [hdl]; omega) (fun x y h1 h2 => by rw [ltC] at h1 h2; simp at h1 h2; omega)
  change Calls Try.prog 32 _ _ _ at hcon
  have hdsz : d.toArray.size = n := by simp [hdl]
  rw [hdsz] at hcon
  refine hcon.mono ?_
  rintro e w' ⟨rfl, q, os, rfl⟩
  obtain ⟨d', hd'⟩ : ∃ d' : List Int, d' = d.mergeSort fun x y => decide (x ≤ y) := ⟨_, rfl⟩
  have hle2 : (fun x y => !(ltOf Lib.compareInt) y x) = fun x y : Int => decide (x ≤ y) := by
    funext x y
    rw [ltC]
    by_cases h : y < x
    · have : ¬ x ≤ y := by omega
      simp [h, this]
    · have : x ≤ y := by omega
      simp [h, this]
  have hms : (d.toArray.toList.mergeSort fun x y => !(ltOf Lib.compareInt) y x).toArray = d'.toArray := by rw [hle2, hd']
  rw [hms]
  have hsrt : (srt ts).flatMap vals3 = d'.flatMap enc := by
    unfold srt
    rw [hd', hd, henc, List.flatMap_map]
  have hd'l : d'.length = n := by rw [hd', List.length_mergeSort, hdl]
  have hF := flatK_vals enc h3 d'
  have hnew : VRels ρ ((srt ts).flatMap cells3) (flatK enc 3 d'.toArray).toList := by rw [hF, ← hsrt]; exact cells3_rels ρ _
  have hnl : ((srt ts).flatMap cells3).length = n * 3 := by rw [flat3_len cells3 (fun _ => rfl), srt_len, hl]
  have hput := put_rels (o := o) hrel (by omega) (by rw [hnl]; exact hle) hnew
  obtain ⟨w1, hw1⟩ : ∃ w1, w1 = putRowK enc 3 (Sort.ahead w q) B (base + o) d'.toArray := ⟨_, rfl⟩
  have hh : ∀ k, w1.heap[k]? = if k = B then some (.cells (putCells id (base + o) (flatK enc 3 d'.toArray) cs) el (0, 0)) else w.heap[k]? := by
    intro k
    rw [hw1]
    unfold putRowK putRow mapBlock Sort.ahead
    simp only [Array.getElem?_modify]
    by_cases hk : B = k
    · subst hk
      rw [if_pos rfl, if_pos rfl, hheap]
      rfl
    · rw [if_neg hk, if_neg (Ne.symm hk)]
  have hsize : w1.heap.size = w.heap.size := by rw [hw1]; unfold putRowK putRow mapBlock Sort.ahead; simp
  have hother : ∀ k, k ≠ B → w1.heap[k]? = w.heap[k]? := fun k hk => by rw [hh, if_neg hk]
  have hBw0 : w0.heap.size ≤ B := hs.own b _ _ hb rfl hρ
  have hbel : Below w0.heap.size w w1 := by
    refine ⟨?_, ?_, ?_, by omega, fun k hk => hother k (by omega)⟩
    all_goals rw [hw1]; rfl
  have hr' : ORel Try.prog ρ (B, base, N) w1 (.row false (setR full o ((srt ts).flatMap cells3))) := by
    refine ⟨putCells id (base + o) (flatK enc 3 d'.toArray) cs, el, (0, 0), by rw [hh, if_pos rfl], fun _ => ⟨rfl, ?_, ?_⟩, hput, ?_⟩
    · unfold putCells; simp only [Array.size_mapIdx]; exact hsz
    · have : (setR full o ((srt ts).flatMap cells3)).length = full.length := by unfold setR; simp only [List.length_append, List.length_take, List.length_drop]; omega
      rw [this]; exact hbl
    · intro a ha
      unfold setR at ha
      rcases List.mem_append.1 ha with ha | ha
      · rcases List.mem_append.1 ha with ha | ha
        · exact hone a (List.mem_of_mem_take ha)
        · obtain ⟨x, _, hx⟩ := List.mem_flatMap.1 ha
          simp [cells3] at hx
          rcases hx with rfl | rfl | rfl <;> rfl
      · exact hone a (List.mem_of_mem_drop ha)
  have hs1 := hs.turn (w' := w1) (o' := .row false (setR full o ((srt ts).flatMap cells3))) hb rfl hρ hbel hother rfl hr'
  have hf1 : Fr ρ H w ρ (H.set b (.row false (setR full o ((srt ts).flatMap cells3)))) w1 := Fr.turn hb rfl hρ (by omega) hother
  show _ ∧ Sim _ _ _ _ (Sort.grow (putRowK enc 3 (Sort.ahead w q) B (base + o) d'.toArray) os) ∧ Fr _ _ _ _ _ (Sort.grow (putRowK enc 3 (Sort.ahead w q) B (base + o) d'.toArray) os)
  rw [← hw1]
  exact ⟨rfl, hs1.grow os, hf1.trans (Fr.grow os)⟩
end Go.Proofs.Ytokfnhildehndaa.Abs
