/- Steps of an iterator over a map; the end of a loop's round; a function's return past its loops' marks. No condition of their own. -/
import Derived.Test.YthcibbfljcfheaaAbs19
namespace Go.Proofs.Ythcibbfljcfheaa.Abs
set_option linter.unusedVariables false
set_option linter.unusedSimpArgs false
open Go.RowKit

section
variable {P : Program} {w0 : World} {ρ : Rn} {H : AH} {w : World}

theorem filter_map_some {α : Type} (l : Array α) (i : Nat) : (l.map some)[i]? = (l[i]?).map some := by simp

/-- A step of an iterator over a map. -/
theorem next_sound (hs : Sim P w0 ρ H w) {i m cl : Nat} {all left : List Nat} {cur : Option Nat} {es : List (AV × AV)} {c : Value} (hc : VRel ρ (.p (some (i, 0))) c) (hi : H.o i = some (.it (some m) cl all left cur)) (hm : H.o m = some (.mapo es (all, cl))) (ty : TypeId) :
    all.Nodup ∧ (((∀ n ∈ all, n ∉ left) ∧ (Instr.next c false ty).run P w = .ok (.tuple #[.bool false]) w) ∨
    ∃ (j n : Nat) (e : AV × AV) (k v : Value) (w' : World), all[j]? = some n ∧ n ∈ left ∧ es[j]? = some e ∧ (Instr.next c false ty).run P w = .ok (.tuple #[.bool true, k, v]) w' ∧ VRel ρ e.1 k ∧ VRel ρ e.2 v ∧ Sim P w0 ρ (H.set i (.it (some m) cl all (left.filter (· != n)) (some n))) w' ∧ Fr ρ H w ρ (H.set i (.it (some m) cl all (left.filter (· != n)) (some n))) w') := by
  obtain ⟨x, hx, hx0, B, base, N, seen, last, hB, hit, hlast, hseen, _⟩ := hs.live _ _ hi
  obtain ⟨r, b0, N0⟩ := x
  simp only at hx0 hit
  subst hx0
  unfold VRel at hc
  obtain ⟨r', b', N', hr', rfl⟩ := hc
  rw [hx] at hr'
  cases hr'
  obtain ⟨y, hy, en, cl', hen, g2, g3, g4, g5, g6, hbc⟩ := hs.live _ _ hm
  rw [hB] at hy
  cases hy
  injection g6 with g6 g7
  subst g7
  refine ⟨hbc.1, ?_⟩
  have hen' : w.heap[B]? = some (.map en cl) := hen
  -- whatever is left
  obtain ⟨lf, hlf⟩ : ∃ lf, lf = en.filter fun e => !seen.contains e.born := ⟨_, rfl⟩
  have hmem : ∀ e ∈ lf, e ∈ en ∧ e.born ∉ seen := by
    intro e he
    rw [hlf, Array.mem_filter] at he
    refine ⟨he.1, ?_⟩
    have := he.2
    simpa using this
  have hlt : ∀ e ∈ en, e.born < cl := fun e he => hbc.2 _ (by show e.born ∈ all; rw [g6]; exact List.mem_map.2 ⟨e, by simpa using he, rfl⟩)
  have hold : (lf.filter fun e => decide (e.born < cl)) = lf := by
    rw [Array.filter_eq_self]
    intro e he
    simpa using hlt e (hmem e he).1
  have hnew : (lf.filter fun e => decide (e.born ≥ cl)) = #[] := by
    rw [Array.filter_eq_empty_iff]
    intro e he
    have := hlt e (hmem e he).1
    simp
    omega
  have hguard : (!seen.isEmpty && !en.isEmpty && en.all fun e => decide (e.born ≥ last)) = false := by
    by_cases h1 : seen = #[]
    · simp [h1]
    · have h2 := hlast h1
      subst h2
      by_cases h3 : en = #[]
      · simp [h3]
      · have : 0 < en.size := Nat.pos_of_ne_zero (by simpa using h3)
        have h4 := hlt en[0] (by simp)
        have h5 : (en.all fun e => decide (e.born ≥ last)) = false := by
          rw [Bool.eq_false_iff]
          intro h6
          rw [Array.all_eq_true] at h6
          have := h6 0 this
          simp at this
          omega
        simp [h5]
  have hrun : ∀ (Q : Result Value → Prop), (lf = #[] → Q (.ok (.tuple #[.bool false]) w)) → (∀ (e : MapEntry) (d : Nat), e ∈ lf → Q (.ok (.tuple #[.bool true, e.key, e.val]) { w with heap := w.heap.setIfInBounds r (.mapIter (some B) cl (seen.push e.born) cl), drawn := d })) →
      Q ((Instr.next (.pointer (some ⟨r, 0 + 0, none⟩)) false ty).run P w) := by
    intro Q q1 q2
    have hgI : (getObj r).run P w = .ok (.mapIter (some B) cl seen last) w := run_getObj_of hit (fun _ _ _ h => by cases h)
    simp only [Instr.next, Nat.add_zero, Sem.run_bind, hgI, Result.andThen_ok, Go.MapKept.run_getObj_map hen', hguard, Bool.false_eq_true, if_false]
    rw [← hlf, hold, hnew]
    by_cases h0 : lf = #[]
    · have := q1 h0
      subst h0
      have hch0 : (choose (.mapNext 1)).run P w = .ok 0 w := by simp [choose, Sem.run, Question.forced]
      simp [hch0]
      exact q1 rfl
    · have hpos : 0 < lf.size := Nat.pos_of_ne_zero (by simpa using h0)
      have hemp : lf.isEmpty = false := by simpa using h0
      have hne : (lf.size = 0) = False := by simp; omega
      obtain ⟨i, d, hi, hch⟩ := choose_next (P := P) (w := w) lf.size hpos
      have hget : (lf.map some)[i]? = some (some lf[i]) := by simp [hi]
      have hset := run_setObj_of (P := P) (w := { w with drawn := d }) (.mapIter (some B) cl (seen.push lf[i].born) cl) hit (fun _ _ _ h => by cases h)
      simp only [hemp, Bool.false_eq_true, if_false, Array.append_empty, Array.empty_append, Array.size_map, hch, Result.andThen_ok, hget, Sem.run_bind, hset, Sem.run_pure]
      exact q2 lf[i] d (by simp)
  refine hrun (fun res => ((∀ n ∈ all, n ∉ left) ∧ res = .ok (.tuple #[.bool false]) w) ∨
    ∃ (j n : Nat) (e : AV × AV) (k v : Value) (w' : World), all[j]? = some n ∧ n ∈ left ∧ es[j]? = some e ∧ res = .ok (.tuple #[.bool true, k, v]) w' ∧ VRel ρ e.1 k ∧ VRel ρ e.2 v ∧ Sim P w0 ρ (H.set i (.it (some m) cl all (left.filter (· != n)) (some n))) w' ∧ Fr ρ H w ρ (H.set i (.it (some m) cl all (left.filter (· != n)) (some n))) w') ?_ ?_
  · intro h0
    left
    refine ⟨fun n hn => ?_, rfl⟩
    rw [hseen n hn]
    intro hns
    rw [g6] at hn
    obtain ⟨e, he, rfl⟩ := List.mem_map.1 hn
    have : e ∈ lf := by
      rw [hlf, Array.mem_filter]
      exact ⟨by simpa using he, by simpa using hns⟩
    rw [h0] at this
    simp at this
  · intro e d he
    right
    obtain ⟨he1, he2⟩ := hmem e he
    obtain ⟨j, hj, hje⟩ := Array.mem_iff_getElem.1 he1
    have hjl : en.toList[j]? = some e := by simp [hj, hje]
    have hk : (en.toList.map (·.key))[j]? = some e.key := by rw [List.getElem?_map, hjl]; rfl
    have hv : (en.toList.map (·.val))[j]? = some e.val := by rw [List.getElem?_map, hjl]; rfl
    have hall : all[j]? = some e.born := by rw [g6, List.getElem?_map, hjl]; rfl
    obtain ⟨ka, hka, hkr⟩ := g2.back j hk
    obtain ⟨va, hva, hvr⟩ := g3.back j hv
    rw [List.getElem?_map] at hka hva
    cases hes : es[j]? with
    | none => rw [hes] at hka; cases hka
    | some ee =>
      rw [hes] at hka hva
      cases hka
      cases hva
      have hnl : e.born ∈ left := (hseen _ (List.mem_of_getElem? hall)).2 he2
      have hh := Go.MapKept.heap_set (o' := .mapIter (some B) cl (seen.push e.born) cl) hit
      have hbel : Below w0.heap.size w { w with heap := w.heap.setIfInBounds r (.mapIter (some B) cl (seen.push e.born) cl), drawn := d } :=
        ⟨rfl, rfl, rfl, by simp, fun k hk => hh.2 k (by have := hs.own _ _ _ hi rfl hx; simp only at this; omega)⟩
      refine ⟨j, e.born, ee, e.key, e.val, _, hall, hnl, hes, rfl, hkr, hvr, hs.turn hi rfl hx hbel (fun k hk => hh.2 k hk) rfl ⟨rfl, B, base, N, seen.push e.born, cl, hB, hh.1, fun _ => rfl, fun n hn => ?_, fun c hc => by cases hc; simp⟩, Fr.turn hi rfl hx (by simp) (fun k hk => hh.2 k hk)⟩
      rw [List.mem_filter, Array.mem_push, not_or, hseen n hn]
      simp only [bne_iff_ne, ne_eq]

theorem next_none (hs : Sim P w0 ρ H w) {i cl : Nat} {all left : List Nat} {cur : Option Nat} {c : Value} (hc : VRel ρ (.p (some (i, 0))) c) (hi : H.o i = some (.it none cl all left cur)) (ty : TypeId) : (Instr.next c false ty).run P w = .ok (.tuple #[.bool false]) w := by
  obtain ⟨x, hx, hx0, c0, s, l, hit⟩ := hs.live _ _ hi
  obtain ⟨r, b0, N0⟩ := x
  simp only at hx0 hit
  subst hx0
  unfold VRel at hc
  obtain ⟨r', b', N', hr', rfl⟩ := hc
  rw [hx] at hr'
  cases hr'
  have hgI : (getObj r).run P w = .ok (.mapIter none c0 s l) w := run_getObj_of hit (fun _ _ _ h => by cases h)
  simp only [Instr.next, Nat.add_zero, Sem.run_bind, hgI, Result.andThen_ok, Sem.run_pure]

theorem foldl_puts {nt : Nat} : ∀ {ps : List Nat} {args : List AV} {cargs : List Value} {t : Nat → AV} {tm : Array Value}, (∀ p ∈ ps, p < nt) → VRels ρ args cargs → args.length = ps.length → (∀ k, VRel ρ (t k) (tm.getD k undef)) → tm.size = nt →
    (∀ k, VRel ρ (puts t ps args k) (((ps.zip cargs).foldl (fun tmps x => tmps.setIfInBounds x.1 x.2) tm).getD k undef)) ∧ ((ps.zip cargs).foldl (fun tmps x => tmps.setIfInBounds x.1 x.2) tm).size = nt
  | [], args, cargs, t, tm, _, _, _, ht, hn => by simp only [puts, List.zip_nil_left, List.foldl_nil]; exact ⟨ht, hn⟩
  | p :: ps, [], cargs, t, tm, _, _, hl, _, _ => by simp at hl
  | p :: ps, v :: args, cargs, t, tm, hp, hr, hl, ht, hn => by
    unfold VRels at hr
    obtain ⟨u, us, rfl, h1, h2⟩ := hr
    have hpn : p < nt := hp p (by simp)
    have := foldl_puts (nt := nt) (ps := ps) (args := args) (cargs := us) (t := upd t p v) (tm := tm.setIfInBounds p u) (fun q hq => hp q (by simp [hq])) h2 (by simpa using hl) (fun k => by
      unfold upd
      split
      · rename_i e
        subst e
        simp only [Array.getD_eq_getD_getElem?, Array.getElem?_setIfInBounds, if_pos rfl, if_pos (show k < tm.size by omega), Option.getD_some]
        exact h1
      · rename_i e
        simp only [Array.getD_eq_getD_getElem?, Array.getElem?_setIfInBounds, if_neg (fun h : p = k => e h.symm)]
        have := ht k
        rwa [Array.getD_eq_getD_getElem?] at this) (by simpa using hn)
    simpa only [puts, List.zip_cons_cons, List.foldl_cons] using this
end
end Go.Proofs.Ythcibbfljcfheaa.Abs
