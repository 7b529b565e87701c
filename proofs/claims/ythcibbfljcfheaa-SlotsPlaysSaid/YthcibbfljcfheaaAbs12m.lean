/- Each operation of the model does what the plain machine's does: maps whose keys are whole numbers. No condition of their own. -/
import Derived.Test.YthcibbfljcfheaaAbs12
import Derived.MapKept
namespace Go.Proofs.Ythcibbfljcfheaa.Abs
set_option linter.unusedVariables false
set_option linter.unusedSimpArgs false
open Go.RowKit

section
variable {P : Program} {w0 : World} {ρ : Rn} {H : AH} {w : World}

theorem find_sound {kk : IntKind} {n : Int} {d : IntKind} : ∀ {es : List (AV × AV)} {en : List MapEntry} {i0 : Nat} {r : Option (Nat × AV)}, VRels ρ (es.map (·.1)) (en.map (·.key)) → VRels ρ (es.map (·.2)) (en.map (·.val)) → afind kk n es = some r →
    ∃ q, Instr.findNow (.int d) (.int kk n) en i0 = some q ∧ (match r with
      | none => q = none
      | some (i, v) => ∃ cv e, q = some (i0 + i, cv) ∧ VRel ρ v cv ∧ en[i]? = some e ∧ e.key = .int kk n ∧ i < es.length)
  | [], en, i0, r, h1, h2, h => by
    unfold afind at h
    cases h
    cases en with
    | nil => exact ⟨none, rfl, rfl⟩
    | cons e en =>
      simp only [List.map_nil, List.map_cons] at h1
      unfold VRels at h1
      cases h1
  | (k, v) :: es, en, i0, r, h1, h2, h => by
    simp only [List.map_cons] at h1 h2
    cases en with
    | nil => unfold VRels at h1; obtain ⟨_, _, h1, _⟩ := h1; cases h1
    | cons e en =>
      simp only [List.map_cons] at h1 h2
      unfold VRels at h1 h2
      obtain ⟨c1, cs1, e1, r1, h1⟩ := h1
      obtain ⟨c2, cs2, e2, r2, h2⟩ := h2
      injection e1 with e1 e1'
      injection e2 with e2 e2'
      subst e1; subst e1'; subst e2; subst e2'
      cases k <;> simp only [afind] at h <;> try (cases h; done)
      rename_i kk' n'
      split at h
      · rename_i hk
        subst hk
        unfold VRel at r1
        split at h
        · rename_i hn
          subst hn
          cases h
          refine ⟨some (i0, e.val), ?_, e.val, e, rfl, r2, rfl, r1, by simp⟩
          simp only [Instr.findNow, r1, Instr.sameNow, if_true, beq_self_eq_true]
        · rename_i hn
          have hs : Instr.sameNow (.int d) (.int kk n) e.key = some false := by
            rw [r1]
            simp only [Instr.sameNow, if_true]
            simp [hn]
          cases hf : afind kk n es with
          | none => rw [hf] at h; cases h
          | some r' =>
            rw [hf] at h
            obtain ⟨q, hq, hr⟩ := find_sound (i0 := i0 + 1) (d := d) h1 h2 hf
            refine ⟨q, by simp only [Instr.findNow, hs]; exact hq, ?_⟩
            cases r' with
            | none => simp only at h; cases h; exact hr
            | some iw =>
              obtain ⟨i, w'⟩ := iw
              simp only at h
              cases h
              obtain ⟨cv, e', g1, g2, g3, g4, g5⟩ := hr
              exact ⟨cv, e', by rw [g1, Nat.add_assoc, Nat.add_comm 1 i], g2, by simpa using g3, g4, by simp; omega⟩
      · cases h

theorem run_checkInt {K : TypeId} {d : IntKind} (hK : P.underlying K = some (.int d)) (k : Value) (e : Bool) (w : World) : (Instr.checkKey e 10000 K k).run P w = .ok () w := by
  show (Instr.checkKey e (9999 + 1) K k).run P w = _
  unfold Instr.checkKey
  simp only [Sem.run_bind, run_underlying hK, Result.andThen]
  cases k <;> simp

theorem czv_sound {E : TypeId} {z : AV} (h : czv P E = some z) (w : World) : ∃ v, (zeroValue E).run P w = .ok v w ∧ ∀ ρ, VRel ρ z v := by
  unfold czv at h
  cases hi : P.info? E with
  | none => rw [hi] at h; cases h
  | some i =>
    rw [hi] at h
    simp only at h
    cases hz : i.zero with
    | none => rw [hz] at h; cases h
    | some v =>
      rw [hz] at h
      refine ⟨v, ?_, fun ρ => toAV_rel h⟩
      simp only [zeroValue, Sem.run_bind, run_typeInfo' hi, Result.andThen_ok, hz]
      rfl

theorem entries_sound (hs : Sim P w0 ρ H w) {r : Option Nat} {cx : Value} (hx : VRel ρ (.mp r) cx) {es : List (AV × AV)} (h : aentries r H = some es) :
    (r = none ∧ cx = .map none ∧ es = []) ∨ ∃ b B base N en cl, r = some b ∧ cx = .map (some B) ∧ ρ b = some (B, base, N) ∧ H.o b = some (.mapo es (en.toList.map (·.born), cl)) ∧ w.heap[B]? = some (.map en cl) ∧ VRels ρ (es.map (·.1)) (en.toList.map (·.key)) ∧ VRels ρ (es.map (·.2)) (en.toList.map (·.val)) ∧ (∀ a ∈ es, (∀ vs, a.1 ≠ .tup vs)) ∧ (∀ a ∈ es, (∀ vs, a.2 ≠ .tup vs)) := by
  cases r with
  | none => unfold VRel at hx; cases h; exact Or.inl ⟨rfl, hx, rfl⟩
  | some b =>
    unfold VRel at hx
    obtain ⟨B, base, N, hb, rfl⟩ := hx
    simp only [aentries] at h
    split at h
    · rename_i es' bc ho
      cases h
      obtain ⟨x, hx, hR⟩ := hs.live _ _ ho
      rw [hb] at hx
      cases hx
      obtain ⟨en, cl, g1, g2, g3, g4, g5, rfl, _⟩ := hR
      exact Or.inr ⟨b, B, base, N, en, cl, rfl, rfl, hb, ho, g1, g2, g3, g4, g5⟩
    · cases h

theorem lk_sound (hs : Sim P w0 ρ H w) {T K E : TypeId} {d : IntKind} (hT : P.underlying T = some (.map K E)) (hK : P.underlying K = some (.int d)) {z : AV} (hz : czv P E = some z) {x k : AV} {cx ck : Value} (hx : VRel ρ x cx) (hk : VRel ρ k ck) {ok : Bool} {v : AV} (h : alookup [0] z x k ok H = some v) :
    ∃ c, (Instr.lookup T cx ck ok).run P w = .ok c w ∧ VRel ρ v c := by
  unfold alookup at h
  split at h
  case h_2 => cases h
  case h_3 => cases h
  rename_i r kk n
  rw [if_pos rfl] at h
  split at h
  case h_2 => cases h
  rename_i es hes
  unfold VRel at hk
  subst hk
  obtain ⟨zv, hzv, hzr⟩ := czv_sound hz w
  have hfin : ∀ (en : List MapEntry), VRels ρ (es.map (·.1)) (en.map (·.key)) → VRels ρ (es.map (·.2)) (en.map (·.val)) → ∃ q, (Instr.findKey K (.int kk n) en).run P w = .ok q w ∧
      ∃ c, ((do let (v, ok') ← (match q with
        | some (_, v) => pure (v, true)
        | none => do pure (← zeroValue E, false) : Sem (Value × Bool))
                pure (if ok then Value.tuple #[v, .bool ok'] else v) : Sem Value)).run P w = .ok c w ∧ VRel ρ v c := by
    intro en h1 h2
    split at h
    · rename_i i v' hf
      cases h
      obtain ⟨q, hq, cv, e, rfl, g2, _⟩ := find_sound (i0 := 0) (d := d) h1 h2 hf
      refine ⟨_, Go.MapKept.run_findKey hK hq, if ok then .tuple #[cv, .bool true] else cv, ?_, ?_⟩
      · simp
      · cases ok
        · exact g2
        · simp only [if_true]
          unfold VRel
          refine ⟨_, rfl, ?_⟩
          exact VRels.cons g2 (VRels.cons (by unfold VRel; rfl) (VRels.nil _))
    · rename_i hf
      cases h
      obtain ⟨q, hq, rfl⟩ := find_sound (i0 := 0) (d := d) h1 h2 hf
      refine ⟨_, Go.MapKept.run_findKey hK hq, if ok then .tuple #[zv, .bool false] else zv, ?_, ?_⟩
      · simp [Sem.run_bind, hzv, Result.andThen_ok]
      · cases ok
        · exact hzr ρ
        · simp only [if_true]
          unfold VRel
          refine ⟨_, rfl, ?_⟩
          exact VRels.cons (hzr ρ) (VRels.cons (by unfold VRel; rfl) (VRels.nil _))
    · cases h
  rcases entries_sound hs hx hes with ⟨rfl, rfl, rfl⟩ | ⟨b, B, base, N, en, cl, rfl, rfl, hb, ho, g1, g2, g3, g4, g5⟩
  · obtain ⟨q, hq, c, hc, hv⟩ := hfin [] (VRels.nil _) (VRels.nil _)
    refine ⟨c, ?_, hv⟩
    simp only [Instr.lookup, Sem.run_bind, run_underlying hT, Result.andThen_ok, Sem.run_pure, run_checkInt hK, hq]
    cases q with
    | none => simpa [Sem.run_bind] using hc
    | some q => simpa [Sem.run_bind] using hc
  · obtain ⟨q, hq, c, hc, hv⟩ := hfin en.toList g2 g3
    refine ⟨c, ?_, hv⟩
    simp only [Instr.lookup, Sem.run_bind, run_underlying hT, Result.andThen_ok, Sem.run_pure, Go.MapKept.run_getObj_map g1, run_checkInt hK, hq]
    cases q with
    | none => simpa [Sem.run_bind] using hc
    | some q => simpa [Sem.run_bind] using hc

theorem below_set {B r : Nat} {w : World} {en en' : Array MapEntry} {cl cl' : Nat} (hB : B ≤ r) (hb : w.heap[r]? = some (.map en cl)) : Below B w { w with heap := w.heap.setIfInBounds r (.map en' cl') } :=
  ⟨rfl, rfl, rfl, by simp, fun k hk => (Go.MapKept.heap_set (o' := .map en' cl') hb).2 k (by omega)⟩

theorem map_modify_same {α β : Type} {f : α → α} {g : α → β} : ∀ {l : List α} {i : Nat}, (∀ x, l[i]? = some x → g (f x) = g x) → (l.modify i f).map g = l.map g
  | [], _, _ => by simp
  | x :: l, 0, h => by simp [h x rfl]
  | x :: l, i + 1, h => by
    simp only [List.modify_succ_cons, List.map_cons]
    rw [map_modify_same (i := i) (fun y hy => h y (by simpa using hy))]
theorem map_modify_set {α β : Type} {f : α → α} {g : α → β} {y : β} (h : ∀ x, g (f x) = y) : ∀ {l : List α} {i : Nat}, (l.modify i f).map g = (l.map g).set i y
  | [], _ => by simp
  | x :: l, 0 => by simp [h x]
  | x :: l, i + 1 => by
    simp only [List.modify_succ_cons, List.map_cons, List.set_cons_succ]
    rw [map_modify_set h]
theorem VRels.set {a : AV} {v : Value} : ∀ {as : List AV} {vs : List Value} {i : Nat}, VRels ρ as vs → VRel ρ a v → VRels ρ (as.set i a) (vs.set i v)
  | [], vs, i, h, hv => by unfold VRels at h; subst h; exact VRels.nil _
  | b :: as, vs, i, h, hv => by
    unfold VRels at h
    obtain ⟨c, cs, rfl, h1, h2⟩ := h
    cases i with
    | zero => exact VRels.cons hv h2
    | succ i => exact VRels.cons h1 (VRels.set h2 hv)

theorem arr_mod {β : Type} {g : MapEntry → β} {en : Array MapEntry} {i : Nat} {f : MapEntry → MapEntry} (h : ∀ x, en.toList[i]? = some x → g (f x) = g x) : (en.modify i f).toList.map g = en.toList.map g := by
  rw [Array.toList_modify, map_modify_same h]

theorem map_turn (hs : Sim P w0 ρ H w) {b B base N : Nat} {es es' : List (AV × AV)} {bc : List Nat × Nat} {en en' : Array MapEntry} {cl cl' : Nat} (hb : ρ b = some (B, base, N)) (ho : H.o b = some (.mapo es bc)) (g1 : w.heap[B]? = some (.map en cl))
    (h1 : VRels ρ (es'.map (·.1)) (en'.toList.map (·.key))) (h2 : VRels ρ (es'.map (·.2)) (en'.toList.map (·.val))) (h3 : ∀ a ∈ es', (∀ vs, a.1 ≠ .tup vs)) (h4 : ∀ a ∈ es', (∀ vs, a.2 ≠ .tup vs)) {bc' : List Nat × Nat} (h5 : bc' = (en'.toList.map (·.born), cl')) (h6 : BcOk bc → BcOk bc' := by first | exact id | exact BcOk.push | exact BcOk.erase) :
    Sim P w0 ρ (H.set b (.mapo es' bc')) { w with heap := w.heap.setIfInBounds B (.map en' cl') } ∧ Fr ρ H w ρ (H.set b (.mapo es' bc')) { w with heap := w.heap.setIfInBounds B (.map en' cl') } := by
  have hh := Go.MapKept.heap_set (o' := .map en' cl') g1
  obtain ⟨_, _, _, _, _, _, _, _, _, _, hbc⟩ := hs.live _ _ ho
  refine ⟨hs.turn ho rfl hb (below_set (hs.own _ _ _ ho rfl hb) g1) (fun k hk => hh.2 k hk) rfl ⟨en', cl', hh.1, h1, h2, h3, h4, h5, h6 hbc⟩, Fr.turn ho rfl hb (by simp) (fun k hk => hh.2 k hk)⟩

theorem mu_sound (hs : Sim P w0 ρ H w) {T K E : TypeId} {d : IntKind} (hT : P.underlying T = some (.map K E)) (hK : P.underlying K = some (.int d)) {m k v : AV} {cm ck cv : Value} (hm : VRel ρ m cm) (hk : VRel ρ k ck) (hv : VRel ρ v cv) {H' : AH} (h : amapUpdate [0] m k v H = some H') :
    ∃ w', (Instr.mapUpdate T cm ck cv).run P w = .ok () w' ∧ Sim P w0 ρ H' w' ∧ Fr ρ H w ρ H' w' := by
  unfold amapUpdate at h
  split at h
  · cases h
  · rename_i v0 b kk n hnt
    rw [if_pos rfl] at h
    split at h
    case h_2 => cases h
    rename_i es bc ho
    unfold VRel at hk
    subst hk
    rcases entries_sound hs hm (es := es) (by simp only [aentries, ho]) with ⟨h0, _⟩ | ⟨b', B, base, N, en, cl, hbb, rfl, hb, ho', g1, g2, g3, g4, g5⟩
    · cases h0
    · cases hbb
      rw [ho] at ho'
      cases ho'
      split at h
      · rename_i i v' hf
        cases h
        obtain ⟨q, hq, cv', e, rfl, r2, hi, hkey, hil⟩ := find_sound (i0 := 0) (d := d) g2 g3 hf
        rw [Nat.zero_add] at hq
        have hget : (en[i]?.map (·.key)).getD (.int kk n) = .int kk n := by
          have : en[i]? = some e := by simpa using hi
          rw [this]; simp [hkey]
        have hst : (Instr.keyThatStays (.int kk n) (.int kk n)).run P w = .ok (.int kk n) w := by
          simp [Instr.keyThatStays, Instr.sameBits]
        have a1 : VRels ρ ((es.modify i fun e => (e.1, v)).map (·.1)) ((en.modify i fun e => { e with key := .int kk n, val := cv }).toList.map (·.key)) := by
          rw [Array.toList_modify, map_modify_same (g := fun x : MapEntry => x.key) (fun x hx => by
            rw [hi] at hx; cases hx; exact hkey.symm), map_modify_same (f := fun e : AV × AV => (e.1, v)) (g := fun x : AV × AV => x.1) (fun _ _ => rfl)]
          exact g2
        have a2 : VRels ρ ((es.modify i fun e => (e.1, v)).map (·.2)) ((en.modify i fun e => { e with key := .int kk n, val := cv }).toList.map (·.val)) := by
          rw [Array.toList_modify, map_modify_set (g := fun x : MapEntry => x.val) (y := cv) (fun _ => rfl), map_modify_set (g := fun x : AV × AV => x.2) (y := v) (fun _ => rfl)]
          exact g3.set hv
        have a3 : ∀ a ∈ es.modify i fun e => (e.1, v), (∀ vs, a.1 ≠ .tup vs) := by
          intro a ha
          obtain ⟨j, hj⟩ := List.getElem?_of_mem ha
          rw [List.getElem?_modify] at hj
          cases hj' : es[j]? with
          | none => rw [hj'] at hj; simp at hj
          | some y =>
            rw [hj'] at hj
            have hy := g4 y (List.mem_of_getElem? hj')
            simp at hj
            split at hj <;> (cases hj; exact hy)
        have a4 : ∀ a ∈ es.modify i fun e => (e.1, v), (∀ vs, a.2 ≠ .tup vs) := by
          intro a ha
          obtain ⟨j, hj⟩ := List.getElem?_of_mem ha
          rw [List.getElem?_modify] at hj
          cases hj' : es[j]? with
          | none => rw [hj'] at hj; simp at hj
          | some y =>
            rw [hj'] at hj
            have hy := g5 y (List.mem_of_getElem? hj')
            simp at hj
            split at hj
            · cases hj; exact fun vs hvs => hnt vs hvs
            · cases hj; exact hy
        obtain ⟨t1, t2⟩ := map_turn (cl' := cl) hs hb ho g1 a1 a2 a3 a4 (bc' := (en.toList.map (·.born), cl)) (by rw [arr_mod]; intro _ _; rfl)
        refine ⟨_, ?_, t1, t2⟩
        simp only [Instr.mapUpdate, Sem.run_bind, run_underlying hT, Result.andThen_ok, Go.MapKept.run_getObj_map g1, run_checkInt hK, Go.MapKept.run_findKey hK hq, hget, hst, Go.MapKept.run_setObj_map _ g1]
      · rename_i hf
        cases h
        obtain ⟨q, hq, rfl⟩ := find_sound (i0 := 0) (d := d) g2 g3 hf
        have a1 : VRels ρ ((es ++ [(AV.i kk n, v)]).map (·.1)) ((en.push { key := .int kk n, val := cv, born := cl }).toList.map (·.key)) := by
          simp only [List.map_append, Array.toList_push, List.map_cons, List.map_nil]
          exact VRels.append g2 (VRels.cons (by unfold VRel; rfl) (VRels.nil _))
        have a2 : VRels ρ ((es ++ [(AV.i kk n, v)]).map (·.2)) ((en.push { key := .int kk n, val := cv, born := cl }).toList.map (·.val)) := by
          simp only [List.map_append, Array.toList_push, List.map_cons, List.map_nil]
          exact VRels.append g3 (VRels.cons hv (VRels.nil _))
        have a3 : ∀ a ∈ es ++ [(AV.i kk n, v)], (∀ vs, a.1 ≠ .tup vs) := by
          intro a ha
          rcases List.mem_append.mp ha with ha | ha
          · exact g4 a ha
          · simp at ha; subst ha; intro vs hvs; cases hvs
        have a4 : ∀ a ∈ es ++ [(AV.i kk n, v)], (∀ vs, a.2 ≠ .tup vs) := by
          intro a ha
          rcases List.mem_append.mp ha with ha | ha
          · exact g5 a ha
          · simp at ha; subst ha; exact fun vs hvs => hnt vs hvs
        obtain ⟨t1, t2⟩ := map_turn (cl' := cl + 1) hs hb ho g1 a1 a2 a3 a4 (bc' := (en.toList.map (·.born) ++ [cl], cl + 1)) (by simp only [List.map_append, Array.toList_push, List.map_cons, List.map_nil])
        refine ⟨_, ?_, t1, t2⟩
        simp only [Instr.mapUpdate, Sem.run_bind, run_underlying hT, Result.andThen_ok, Go.MapKept.run_getObj_map g1, run_checkInt hK, Go.MapKept.run_findKey hK hq, Go.MapKept.run_setObj_map _ g1]
      · cases h
  · cases h
  · cases h

theorem VRels.eraseIdx : ∀ {as : List AV} {vs : List Value} {i : Nat}, VRels ρ as vs → VRels ρ (as.eraseIdx i) (vs.eraseIdx i)
  | [], vs, i, h => by unfold VRels at h; subst h; simp; exact VRels.nil _
  | b :: as, vs, i, h => by
    unfold VRels at h
    obtain ⟨c, cs, rfl, h1, h2⟩ := h
    cases i with
    | zero => exact h2
    | succ i => exact VRels.cons h1 (VRels.eraseIdx h2)
theorem map_eraseIdx' {α β : Type} (f : α → β) : ∀ (l : List α) (j : Nat), (l.eraseIdx j).map f = (l.map f).eraseIdx j
  | [], _ => by simp
  | _ :: _, 0 => by simp
  | a :: r, j + 1 => by simp [map_eraseIdx' f r j]

theorem dl_sound (hs : Sim P w0 ρ H w) {T U ty K E : TypeId} {d : IntKind} (hT : P.underlying T = some (.map K E)) (hK : P.underlying K = some (.int d)) {m k : AV} {cm ck : Value} (hm : VRel ρ m cm) (hk : VRel ρ k ck) {H' : AH} (h : adelete [0] m k H = some H') :
    ∃ w', (Builtin.delete_ #[T, U] ty #[cm, ck]).run P w = .ok (.tuple #[]) w' ∧ Sim P w0 ρ H' w' ∧ Fr ρ H w ρ H' w' := by
  unfold adelete at h
  split at h
  · rename_i kk n
    rw [if_pos rfl] at h
    cases h
    unfold VRel at hm hk
    subst hm; subst hk
    refine ⟨w, ?_, hs, Fr.refl _ _ _⟩
    simp only [Builtin.delete_, List.getElem?_toArray, List.getElem?_cons_zero, List.getElem?_cons_succ, Sem.run_bind, run_underlying hT, Result.andThen_ok, run_checkInt hK, Sem.run_pure]
  · rename_i b kk n
    rw [if_pos rfl] at h
    split at h
    case h_2 => cases h
    rename_i es bc ho
    unfold VRel at hk
    subst hk
    rcases entries_sound hs hm (es := es) (by simp only [aentries, ho]) with ⟨h0, _⟩ | ⟨b', B, base, N, en, cl, hbb, rfl, hb, ho', g1, g2, g3, g4, g5⟩
    · cases h0
    · cases hbb
      rw [ho] at ho'
      cases ho'
      split at h
      · rename_i i v' hf
        cases h
        obtain ⟨q, hq, cv', e, rfl, r2, hi, hkey, hil⟩ := find_sound (i0 := 0) (d := d) g2 g3 hf
        rw [Nat.zero_add] at hq
        obtain ⟨t1, t2⟩ := map_turn (cl' := cl) (en' := en.eraseIdxIfInBounds i) hs hb ho g1 (es' := es.eraseIdx i) (by rw [Array.toList_eraseIdxIfInBounds, map_eraseIdx', map_eraseIdx']; exact g2.eraseIdx) (by rw [Array.toList_eraseIdxIfInBounds, map_eraseIdx', map_eraseIdx']; exact g3.eraseIdx) (fun a ha => g4 a (List.mem_of_mem_eraseIdx ha)) (fun a ha => g5 a (List.mem_of_mem_eraseIdx ha)) (bc' := ((en.toList.map (·.born)).eraseIdx i, cl)) (by rw [Array.toList_eraseIdxIfInBounds, map_eraseIdx'])
        refine ⟨_, ?_, t1, t2⟩
        simp only [Builtin.delete_, List.getElem?_toArray, List.getElem?_cons_zero, List.getElem?_cons_succ, Sem.run_bind, run_underlying hT, Result.andThen_ok, Go.MapKept.run_getObj_map g1, run_checkInt hK, Go.MapKept.run_findKey hK hq, Go.MapKept.run_setObj_map _ g1, Sem.run_pure]
      · rename_i hf
        cases h
        obtain ⟨q, hq, rfl⟩ := find_sound (i0 := 0) (d := d) g2 g3 hf
        obtain ⟨t1, t2⟩ := map_turn (cl' := cl) (en' := en) hs hb ho g1 (es' := es) g2 g3 g4 g5 rfl
        refine ⟨_, ?_, t1, t2⟩
        simp only [Builtin.delete_, List.getElem?_toArray, List.getElem?_cons_zero, List.getElem?_cons_succ, Sem.run_bind, run_underlying hT, Result.andThen_ok, Go.MapKept.run_getObj_map g1, run_checkInt hK, Go.MapKept.run_findKey hK hq, Go.MapKept.run_setObj_map _ g1, Sem.run_pure]
      · cases h
  · cases h
  · cases h
  · cases h

theorem mkm_sound (hs : Sim P w0 ρ H w) (T : TypeId) : ∃ q w' u, (Instr.makeMap T none).run P w = .ok u w' ∧ VRel (ρ.add H.n q) (.mp (some H.n)) u ∧ Sim P w0 (ρ.add H.n q) (H.new (.mapo [] ([], 0))) w' ∧ Fr ρ H w (ρ.add H.n q) (H.new (.mapo [] ([], 0))) w' := by
  refine ⟨(w.heap.size, 0, 0), { w with heap := w.heap.push (.map #[] 0) }, .map (some w.heap.size), ?_, ?_, hs.new _ rfl _ _ ?_, Fr.new hs _ _ _⟩
  · simp [Instr.makeMap, newObj, Sem.run, Result.andThen]
  · unfold VRel
    exact ⟨_, _, _, Rn.add_self _ _ _, rfl⟩
  · exact ⟨#[], 0, by simp, VRels.nil _, VRels.nil _, by simp, by simp, rfl, by simp, by simp⟩

theorem set_same {b : Nat} {x : AObj} (h : H.o b = some x) : H.set b x = H := by
  cases H with
  | mk n o =>
    simp only [AH.set, AH.mk.injEq, true_and]
    funext b'
    split
    · rename_i e; subst e; exact h.symm
    · rfl

theorem me_sound (hs : Sim P w0 ρ H w) {T K E : TypeId} {d : IntKind} (hT : P.underlying T = some (.map K E)) (hK : P.underlying K = some (.int d)) {z : AV} (hz : czv P E = some z) {m k : AV} {cm ck : Value} (hm : VRel ρ m cm) (hk : VRel ρ k ck) {v : AV} {H' : AH} (h : aentry [0] z m k H = some (v, H')) :
    ∃ u w', (Instr.mapEntry T cm ck).run P w = .ok u w' ∧ VRel ρ v u ∧ Sim P w0 ρ H' w' ∧ Fr ρ H w ρ H' w' := by
  unfold aentry at h
  split at h
  · cases h
  · rename_i z0 b kk n hnt
    rw [if_pos rfl] at h
    split at h
    case h_2 => cases h
    rename_i es bc ho
    unfold VRel at hk
    subst hk
    obtain ⟨zv, hzv, hzr⟩ := czv_sound hz w
    rcases entries_sound hs hm (es := es) (by simp only [aentries, ho]) with ⟨h0, _⟩ | ⟨b', B, base, N, en, cl, hbb, rfl, hb, ho', g1, g2, g3, g4, g5⟩
    · cases h0
    · cases hbb
      rw [ho] at ho'
      cases ho'
      split at h
      · rename_i i v' hf
        split at h
        case h_2 => cases h
        rename_i st hst0
        cases h
        obtain ⟨q, hq, cv', e, rfl, r2, hi, hkey, hil⟩ := find_sound (i0 := 0) (d := d) g2 g3 hf
        rw [Nat.zero_add] at hq
        have hei : en[i]? = some e := by simpa using hi
        have hget : (en[i]?.map (·.key)).getD (.int kk n) = .int kk n := by
          rw [hei]; simp [hkey]
        have hbo : (en[i]?.map (fun x => (x.born : Int))).getD 0 = (st : Int) := by
          rw [List.getElem?_map, hi] at hst0
          rw [hei]
          simpa using congrArg (fun x : Option Nat => x.map (fun y => (y : Int))) hst0
        have hst : (Instr.keyThatStays (.int kk n) (.int kk n)).run P w = .ok (.int kk n) w := by
          simp [Instr.keyThatStays, Instr.sameBits]
        obtain ⟨t1, t2⟩ := map_turn (cl' := cl) (en' := en.modify i fun e => { e with key := .int kk n }) hs hb ho g1 (es' := es) (by
          rw [arr_mod]; exact g2; intro x hx; rw [hi] at hx; cases hx; exact hkey.symm) (by
          rw [arr_mod]; exact g3; intro _ _; rfl) g4 g5 (bc' := (en.toList.map (·.born), cl)) (by rw [arr_mod]; intro _ _; rfl)
        rw [set_same ho] at t1 t2
        refine ⟨.tuple #[cv', goInt st], _, ?_, ?_, t1, t2⟩
        · simp only [Instr.mapEntry, Sem.run_bind, run_underlying hT, Result.andThen_ok, Go.MapKept.run_getObj_map g1, run_checkInt hK, Go.MapKept.run_findKey hK hq, hget, hst, Go.MapKept.run_setObj_map _ g1, Sem.run_pure, hbo]
        · unfold VRel
          exact ⟨_, rfl, VRels.cons r2 (VRels.cons (by unfold VRel; rfl) (VRels.nil _))⟩
      · rename_i hf
        cases h
        obtain ⟨q, hq, rfl⟩ := find_sound (i0 := 0) (d := d) g2 g3 hf
        obtain ⟨t1, t2⟩ := map_turn (cl' := cl + 1) (en' := en.push { key := .int kk n, val := zv, born := cl }) (es' := es ++ [(AV.i kk n, z)]) hs hb ho g1 (by
          simp only [List.map_append, Array.toList_push, List.map_cons, List.map_nil]
          exact VRels.append g2 (VRels.cons (by unfold VRel; rfl) (VRels.nil _))) (by
          simp only [List.map_append, Array.toList_push, List.map_cons, List.map_nil]
          exact VRels.append g3 (VRels.cons (hzr ρ) (VRels.nil _))) (by
          intro a ha
          rcases List.mem_append.mp ha with ha | ha
          · exact g4 a ha
          · simp at ha; subst ha; intro vs hvs; cases hvs) (by
          intro a ha
          rcases List.mem_append.mp ha with ha | ha
          · exact g5 a ha
          · simp at ha; subst ha; exact fun vs hvs => hnt vs hvs) (bc' := (en.toList.map (·.born) ++ [cl], cl + 1)) (by simp only [List.map_append, Array.toList_push, List.map_cons, List.map_nil])
        refine ⟨.tuple #[zv, goInt cl], _, ?_, ?_, t1, t2⟩
        · simp only [Instr.mapEntry, Sem.run_bind, run_underlying hT, Result.andThen_ok, Go.MapKept.run_getObj_map g1, run_checkInt hK, Go.MapKept.run_findKey hK hq, hzv, Go.MapKept.run_setObj_map _ g1, Sem.run_pure]
        · unfold VRel
          exact ⟨_, rfl, VRels.cons (hzr ρ) (VRels.cons (by unfold VRel; rfl) (VRels.nil _))⟩
      · cases h
  · simp only at h; cases h
  · cases h

theorem es_sound (hs : Sim P w0 ρ H w) {T : TypeId} {m s v : AV} {cm cs cv : Value} (hm : VRel ρ m cm) (hst : VRel ρ s cs) (hv : VRel ρ v cv) {H' : AH} (h : aentst m s v H = some H') :
    ∃ w', (Instr.entryStore T cm cs cv).run P w = .ok () w' ∧ Sim P w0 ρ H' w' ∧ Fr ρ H w ρ H' w' := by
  unfold aentst at h
  split at h
  · cases h
  · rename_i v0 b kk n hnt
    split at h
    case h_2 => cases h
    rename_i es bc ho
    unfold VRel at hst
    subst hst
    rcases entries_sound hs hm (es := es) (by simp only [aentries, ho]) with ⟨h0, _⟩ | ⟨b', B, base, N, en, cl, hbb, rfl, hb, ho', g1, g2, g3, g4, g5⟩
    · cases h0
    · cases hbb
      rw [ho] at ho'
      cases ho'
      split at h
      case h_2 => cases h
      rename_i i hi
      cases h
      rw [List.findIdx?_map] at hi
      have hi' : en.findIdx? (fun e => (e.born : Int) == n) = some i := by
        rcases en with ⟨l⟩
        rw [List.findIdx?_toArray]
        exact hi
      obtain ⟨t1, t2⟩ := map_turn (cl' := cl) (en' := en.modify i fun e => { e with val := cv }) (es' := es.modify i fun e => (e.1, v)) hs hb ho g1 (by
        rw [arr_mod, map_modify_same (f := fun e : AV × AV => (e.1, v)) (g := fun x : AV × AV => x.1) (fun _ _ => rfl)]
        · exact g2
        · intro _ _; rfl) (by
        rw [Array.toList_modify, map_modify_set (g := fun x : MapEntry => x.val) (y := cv) (fun _ => rfl), map_modify_set (g := fun x : AV × AV => x.2) (y := v) (fun _ => rfl)]
        exact g3.set hv) (by
        intro a ha
        obtain ⟨j, hj⟩ := List.getElem?_of_mem ha
        rw [List.getElem?_modify] at hj
        cases hj' : es[j]? with
        | none => rw [hj'] at hj; simp at hj
        | some y =>
          rw [hj'] at hj
          have hy := g4 y (List.mem_of_getElem? hj')
          simp at hj
          split at hj <;> (cases hj; exact hy)) (by
        intro a ha
        obtain ⟨j, hj⟩ := List.getElem?_of_mem ha
        rw [List.getElem?_modify] at hj
        cases hj' : es[j]? with
        | none => rw [hj'] at hj; simp at hj
        | some y =>
          rw [hj'] at hj
          have hy := g5 y (List.mem_of_getElem? hj')
          simp at hj
          split at hj
          · cases hj; exact fun vs hvs => hnt vs hvs
          · cases hj; exact hy) (bc' := (en.toList.map (·.born), cl)) (by rw [arr_mod]; intro _ _; rfl)
      refine ⟨_, ?_, t1, t2⟩
      simp only [Instr.entryStore, Sem.run_bind, Result.andThen_ok, Go.MapKept.run_getObj_map g1, asInt, asIntOf, Sem.run_pure, hi', Go.MapKept.run_setObj_map _ g1]
  · cases h

theorem lenm_sound (hs : Sim P w0 ρ H w) {T ty K E : TypeId} (hT : P.underlying T = some (.map K E)) {r : Option Nat} {cx : Value} {cs : List Value} (hx : VRel ρ (.mp r) cx) {es : List (AV × AV)} (h : aentries r H = some es) :
    (Builtin.len_ [T].toArray ty (cx :: cs).toArray).run P w = .ok (.int .i64 es.length) w := by
  rcases entries_sound hs hx h with ⟨rfl, rfl, rfl⟩ | ⟨b, B, base, N, en, cl, rfl, rfl, hb, ho, g1, g2, _⟩
  · simp [Builtin.len_, run_underlying hT, goInt]
  · have := g2.length
    simp only [List.length_map, Array.length_toList] at this
    simp [Builtin.len_, run_underlying hT, goInt, Go.MapKept.run_getObj_map g1, this]
end
end Go.Proofs.Ythcibbfljcfheaa.Abs
