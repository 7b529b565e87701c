/- Each operation of the model does what the plain machine's does: maps whose keys are structs of scalars. No condition of their own. -/
import Derived.Test.YthcibbfljcfheaaAbs12m
namespace Go.Proofs.Ythcibbfljcfheaa.Abs
set_option linter.unusedVariables false
set_option linter.unusedSimpArgs false
open Go.RowKit

section
variable {P : Program} {w0 : World} {ρ : Rn} {H : AH} {w : World}

theorem run_checkFields {xs : List AV} {cx : Array Value} (hx : VRels ρ xs cx.toList) (e : Bool) (n : Nat) : ∀ (fs : List Field) (o : Nat) {ks : List Nat}, cflatF P o fs = some ks → (xs.drop o).length = ks.length →
    (forIn fs PUnit.unit (fun f (_ : PUnit) => if f.name ≠ "_" then (do
      let d ← part f.type cx f.offset
      Instr.checkKey e (n + 1) f.type d
      pure (ForInStep.yield PUnit.unit)) else pure (ForInStep.yield PUnit.unit) : Field → PUnit → Sem (ForInStep PUnit))).run P w = .ok PUnit.unit w
  | [], o, ks, h, hl => by simp
  | f :: fs, o, ks, h, hl => by
    unfold cflatF at h
    split at h
    case h_2 => cases h
    rename_i k ks' h1 h2
    split at h
    case isFalse => cases h
    rename_i hc
    cases h
    simp only [List.length_drop, List.length_cons] at hl
    obtain ⟨vx, hvx, hrx⟩ := hx.get o (List.getElem?_eq_getElem (by omega))
    have hvx' : cx[f.offset]? = some vx := by rw [← Array.getElem?_toList, hc.1]; exact hvx
    have hn : f.name ≠ "_" := by intro e; rw [e] at hc; simp at hc
    have hck : ∀ v, (Instr.checkKey e (n + 1) f.type v).run P w = .ok () w := by
      intro v
      unfold cscalar at h1
      unfold Instr.checkKey
      split at h1 <;> (try cases h1) <;> (rename_i hu; simp only [Sem.run_bind, run_underlying hu, Result.andThen_ok]; cases v <;> simp)
    rw [List.forIn_cons]
    simp only [if_pos hn, Sem.run_bind, part, scalar_agg h1, Result.andThen_ok, Bool.false_eq_true, if_false, hvx', Sem.run_pure, hck]
    exact run_checkFields hx e n fs (o + 1) h2 (by simp; omega)
theorem run_checkStruct {K : TypeId} {fs : Array Field} {ks : List Nat} (hK : P.underlying K = some (.struct fs)) (hf : cflatF P 0 fs.toList = some ks) {xs : List AV} (hl : xs.length = ks.length) {ck : Value} (hk : VRel ρ (.agg xs) ck) (e : Bool) (w : World) : (Instr.checkKey e 10000 K ck).run P w = .ok () w := by
  unfold VRel at hk
  obtain ⟨cx, rfl, hrx, _⟩ := hk
  show (Instr.checkKey e (9999 + 1) K (.agg cx)).run P w = _
  unfold Instr.checkKey
  simp only [Sem.run_bind, run_underlying hK, Result.andThen_ok]
  rw [← Array.forIn_toList]
  have := run_checkFields (P := P) (w := w) hrx e 9998 fs.toList 0 hf (by simpa using hl)
  rw [this]
  simp
theorem cflat_struct {K : TypeId} {fs : Array Field} {ks : List Nat} (hK : P.underlying K = some (.struct fs)) (hc : cflat P K = some ks) : cflatF P 0 fs.toList = some ks := by
  unfold cflat at hc
  simp only [hK] at hc
  split at hc
  · cases hc
  · exact hc
/-- Equal scalars stand for equal values. -/
theorem eqC_same : ∀ {ks : List Nat} {xs ys : List AV} {cx cy : List Value}, aEqC ks xs ys = some true → VRels ρ xs cx → VRels ρ ys cy → cx = cy ∧ ∀ c ∈ cx, ∀ n, Instr.sameBits (n + 1) c c = true := by
  intro ks xs ys
  fun_induction aEqC ks xs ys <;> intro cx cy h hx hy
  case case1 => unfold VRels at hx hy; subst hx; subst hy; exact ⟨rfl, by simp⟩
  all_goals (try (cases h; done))
  all_goals
    unfold VRels at hx hy
    obtain ⟨c, cs, rfl, h1, h2⟩ := hx
    obtain ⟨d, ds, rfl, h3, h4⟩ := hy
    unfold VRel at h1 h3
    subst h1; subst h3
    simp only [Option.some.injEq, Bool.and_eq_true, beq_iff_eq] at h
    obtain ⟨h5, rfl⟩ := h
    have ih := by
      rename_i ih hr
      exact ih hr h2 h4
    obtain ⟨rfl, i2⟩ := ih
    have h5 := (by first | exact (Go.MapKept.bytes_beq _ _).1 h5 | exact h5 : _ = _)
    subst h5
    refine ⟨rfl, fun c hc n => ?_⟩
    rcases List.mem_cons.1 hc with rfl | hc
    · first | (simp [Instr.sameBits]; done) | exact (Go.MapKept.bytes_beq _ _).2 rfl
    · exact i2 c hc n
theorem sameBits_agg {cx : Array Value} (h : ∀ c ∈ cx.toList, ∀ n, Instr.sameBits (n + 1) c c = true) (n : Nat) : Instr.sameBits (n + 2) (.agg cx) (.agg cx) = true := by
  unfold Instr.sameBits
  simp only [beq_self_eq_true, Bool.true_and, List.all_eq_true]
  rintro ⟨a, b⟩ hab
  have : ∀ l : List Value, (a, b) ∈ l.zip l → a = b ∧ a ∈ l := by
    intro l
    induction l with
    | nil => simp
    | cons x l ih =>
      intro h
      simp only [List.zip_cons_cons, List.mem_cons, Prod.mk.injEq] at h
      rcases h with ⟨rfl, rfl⟩ | h
      · exact ⟨rfl, List.mem_cons_self ..⟩
      · exact ⟨(ih h).1, List.mem_cons_of_mem _ (ih h).2⟩
  obtain ⟨rfl, hm⟩ := this _ hab
  exact h a hm n
theorem findS_sound {K : TypeId} {ks : List Nat} (hc : cflat P K = some ks) {xs : List AV} {ck : Value} (hk : VRel ρ (.agg xs) ck) : ∀ {es : List (AV × AV)} {en : List MapEntry} {i0 : Nat} {r : Option (Nat × AV)}, VRels ρ (es.map (·.1)) (en.map (·.key)) → VRels ρ (es.map (·.2)) (en.map (·.val)) → afindS ks xs es = some r →
    ∃ q, (Instr.findAsking K ck en i0).run P w = .ok q w ∧ (match r with
      | none => q = none
      | some (i, v) => ∃ cv e, q = some (i0 + i, cv) ∧ VRel ρ v cv ∧ en[i]? = some e ∧ e.key = ck ∧ i < es.length ∧ Instr.sameBits 10000 ck ck = true)
  | [], en, i0, r, h1, h2, h => by
    unfold afindS at h
    cases h
    cases en with
    | nil => exact ⟨none, by simp [Instr.findAsking], rfl⟩
    | cons e en =>
      simp only [List.map_nil, List.map_cons] at h1
      unfold VRels at h1
      cases h1
  | (k, v) :: es, en, i0, r, h1, h2, h => by
    simp only [List.map_cons] at h1 h2
    cases en with
    | nil => unfold VRels at h1; obtain ⟨_, _, h1, _⟩ := h1; cases h1
    | cons e en =>
      simp only [List.map_cons] at h1 h2
      unfold VRels at h1 h2
      obtain ⟨c1, cs1, e1, r1, h1⟩ := h1
      obtain ⟨c2, cs2, e2, r2, h2⟩ := h2
      injection e1 with e1 e1'
      injection e2 with e2 e2'
      subst e1; subst e1'; subst e2; subst e2'
      cases k <;> simp only [afindS] at h <;> try (cases h; done)
      rename_i ys
      split at h
      · rename_i hq
        cases h
        have he : (Op.equal K ck e.key).run P w = .ok true w := flat_eq (w := w) hc hq hk r1 9998
        have hk' := hk
        have r1' := r1
        unfold VRel at hk' r1'
        obtain ⟨cx, e3, hrx, _⟩ := hk'
        obtain ⟨cy, e4, hry, _⟩ := r1'
        obtain ⟨hs, hb⟩ := eqC_same hq hrx hry
        have hcc : cx = cy := Array.toList_inj.1 hs
        refine ⟨some (i0, e.val), by simp only [Instr.findAsking, Sem.run_bind, he, Result.andThen_ok, if_true, Sem.run_pure], e.val, e, rfl, r2, rfl, by rw [e3, e4, hcc], by simp, ?_⟩
        rw [e3]
        exact sameBits_agg hb 9998
      · rename_i hq
        have he : (Op.equal K ck e.key).run P w = .ok false w := flat_eq (w := w) hc hq hk r1 9998
        cases hf : afindS ks xs es with
        | none => rw [hf] at h; cases h
        | some r' =>
          rw [hf] at h
          obtain ⟨q, hq2, hr⟩ := findS_sound (i0 := i0 + 1) hc hk h1 h2 hf
          refine ⟨q, by simp only [Instr.findAsking, Sem.run_bind, he, Result.andThen_ok, Bool.false_eq_true, if_false]; exact hq2, ?_⟩
          cases r' with
          | none => simp only at h; cases h; exact hr
          | some iw =>
            obtain ⟨i, w'⟩ := iw
            simp only at h
            cases h
            obtain ⟨cv, e', g1, g2, g3, g4, g5, g6⟩ := hr
            exact ⟨cv, e', by rw [g1, Nat.add_assoc, Nat.add_comm 1 i], g2, by simpa using g3, g4, by simp; omega, g6⟩
      · cases h
theorem run_findStruct {K : TypeId} {fs : Array Field} (hK : P.underlying K = some (.struct fs)) {cx : Array Value} {en : List MapEntry} {q : Option (Nat × Value)} (h : (Instr.findAsking K (.agg cx) en 0).run P w = .ok q w) : (Instr.findKey K (.agg cx) en).run P w = .ok q w := by
  unfold Instr.findKey
  simp only [Sem.run_bind, run_underlying hK, Result.andThen_ok]
  cases en with
  | nil =>
    simp only [Instr.findNow]
    simpa [Instr.findAsking] using h
  | cons e en =>
    have : Instr.findNow (.struct fs) (.agg cx) (e :: en) 0 = none := by
      simp only [Instr.findNow]
      have : Instr.sameNow (.struct fs) (.agg cx) e.key = none := by unfold Instr.sameNow; rfl
      rw [this]
    simp only [this]
    exact h
theorem lkS_sound (hs : Sim P w0 ρ H w) {T K E : TypeId} {fs : Array Field} {ks : List Nat} (hT : P.underlying T = some (.map K E)) (hK : P.underlying K = some (.struct fs)) (hc : cflat P K = some ks) {z : AV} (hz : czv P E = some z) {x k : AV} {cx ck : Value} (hx : VRel ρ x cx) (hk : VRel ρ k ck) {ok : Bool} {v : AV} (h : alookup (9 :: ks) z x k ok H = some v) :
    ∃ c, (Instr.lookup T cx ck ok).run P w = .ok c w ∧ VRel ρ v c := by
  unfold alookup at h
  split at h
  case h_1 => rw [if_neg (by simp)] at h; cases h
  case h_3 => cases h
  rename_i r xs
  simp only at h
  split at h
  case isFalse => cases h
  rename_i hlen
  split at h
  case h_2 => cases h
  rename_i es hes
  obtain ⟨zv, hzv, hzr⟩ := czv_sound hz w
  have hcf := cflat_struct hK hc
  have hchk : ∀ e, (Instr.checkKey e 10000 K ck).run P w = .ok () w := fun e => run_checkStruct hK hcf hlen hk e w
  obtain ⟨cxk, hckk⟩ : ∃ a, ck = .agg a := by unfold VRel at hk; obtain ⟨a, e, _⟩ := hk; exact ⟨a, e⟩
  have hfin : ∀ (en : List MapEntry), VRels ρ (es.map (·.1)) (en.map (·.key)) → VRels ρ (es.map (·.2)) (en.map (·.val)) → ∃ q, (Instr.findKey K ck en).run P w = .ok q w ∧
      ∃ c, ((do let (v, ok') ← (match q with
        | some (_, v) => pure (v, true)
        | none => do pure (← zeroValue E, false) : Sem (Value × Bool))
                pure (if ok then Value.tuple #[v, .bool ok'] else v) : Sem Value)).run P w = .ok c w ∧ VRel ρ v c := by
    intro en h1 h2
    split at h
    · rename_i i v' hf
      cases h
      obtain ⟨q, hq, cv, e, rfl, g2, _⟩ := findS_sound (w := w) (i0 := 0) hc hk h1 h2 hf
      rw [hckk] at hq
      refine ⟨_, by rw [hckk]; exact run_findStruct hK hq, if ok then .tuple #[cv, .bool true] else cv, ?_, ?_⟩
      · simp
      · cases ok
        · exact g2
        · simp only [if_true]
          unfold VRel
          refine ⟨_, rfl, ?_⟩
          exact VRels.cons g2 (VRels.cons (by unfold VRel; rfl) (VRels.nil _))
    · rename_i hf
      cases h
      obtain ⟨q, hq, rfl⟩ := findS_sound (w := w) (i0 := 0) hc hk h1 h2 hf
      rw [hckk] at hq
      refine ⟨_, by rw [hckk]; exact run_findStruct hK hq, if ok then .tuple #[zv, .bool false] else zv, ?_, ?_⟩
      · simp [Sem.run_bind, hzv, Result.andThen_ok]
      · cases ok
        · exact hzr ρ
        · simp only [if_true]
          unfold VRel
          refine ⟨_, rfl, ?_⟩
          exact VRels.cons (hzr ρ) (VRels.cons (by unfold VRel; rfl) (VRels.nil _))
    · cases h
  rcases entries_sound hs hx hes with ⟨rfl, rfl, rfl⟩ | ⟨b, B, base, N, en, cl, rfl, rfl, hb, ho, g1, g2, g3, g4, g5⟩
  · obtain ⟨q, hq, c, hc, hv⟩ := hfin [] (VRels.nil _) (VRels.nil _)
    refine ⟨c, ?_, hv⟩
    simp only [Instr.lookup, Sem.run_bind, run_underlying hT, Result.andThen_ok, Sem.run_pure, hchk, hq]
    cases q with
    | none => simpa [Sem.run_bind] using hc
    | some q => simpa [Sem.run_bind] using hc
  · obtain ⟨q, hq, c, hc, hv⟩ := hfin en.toList g2 g3
    refine ⟨c, ?_, hv⟩
    simp only [Instr.lookup, Sem.run_bind, run_underlying hT, Result.andThen_ok, Sem.run_pure, Go.MapKept.run_getObj_map g1, hchk, hq]
    cases q with
    | none => simpa [Sem.run_bind] using hc
    | some q => simpa [Sem.run_bind] using hc
theorem muS_sound (hs : Sim P w0 ρ H w) {T K E : TypeId} {fs : Array Field} {ks : List Nat} (hT : P.underlying T = some (.map K E)) (hK : P.underlying K = some (.struct fs)) (hc : cflat P K = some ks) {m k v : AV} {cm ck cv : Value} (hm : VRel ρ m cm) (hk : VRel ρ k ck) (hv : VRel ρ v cv) {H' : AH} (h : amapUpdate (9 :: ks) m k v H = some H') :
    ∃ w', (Instr.mapUpdate T cm ck cv).run P w = .ok () w' ∧ Sim P w0 ρ H' w' ∧ Fr ρ H w ρ H' w' := by
  unfold amapUpdate at h
  split at h
  · cases h
  · rw [if_neg (by simp)] at h; cases h
  · rename_i v0 b xs hnt
    simp only at h
    split at h
    case isFalse => cases h
    rename_i hlen
    have hcf := cflat_struct hK hc
    have hchk : ∀ e, (Instr.checkKey e 10000 K ck).run P w = .ok () w := fun e => run_checkStruct hK hcf hlen hk e w
    obtain ⟨cxk, hckk⟩ : ∃ a, ck = .agg a := by unfold VRel at hk; obtain ⟨a, e, _⟩ := hk; exact ⟨a, e⟩
    split at h
    case h_2 => cases h
    rename_i es bc ho
    rcases entries_sound hs hm (es := es) (by simp only [aentries, ho]) with ⟨h0, _⟩ | ⟨b', B, base, N, en, cl, hbb, rfl, hb, ho', g1, g2, g3, g4, g5⟩
    · cases h0
    · cases hbb
      rw [ho] at ho'
      cases ho'
      split at h
      · rename_i i v' hf
        cases h
        obtain ⟨q, hq, cv', e, rfl, r2, hi, hkey, hil, hsb⟩ := findS_sound (w := w) (i0 := 0) hc hk g2 g3 hf
        rw [Nat.zero_add] at hq
        rw [hckk] at hq
        have hfk := run_findStruct hK hq
        rw [← hckk] at hfk
        have hget : (en[i]?.map (·.key)).getD ck = ck := by
          have : en[i]? = some e := by simpa using hi
          rw [this]; simp [hkey]
        have hst : (Instr.keyThatStays ck ck).run P w = .ok ck w := by
          simp [Instr.keyThatStays, hsb]
        have a1 : VRels ρ ((es.modify i fun e => (e.1, v)).map (·.1)) ((en.modify i fun e => { e with key := ck, val := cv }).toList.map (·.key)) := by
          rw [Array.toList_modify, map_modify_same (g := fun x : MapEntry => x.key) (fun x hx => by
            rw [hi] at hx; cases hx; exact hkey.symm), map_modify_same (f := fun e : AV × AV => (e.1, v)) (g := fun x : AV × AV => x.1) (fun _ _ => rfl)]
          exact g2
        have a2 : VRels ρ ((es.modify i fun e => (e.1, v)).map (·.2)) ((en.modify i fun e => { e with key := ck, val := cv }).toList.map (·.val)) := by
          rw [Array.toList_modify, map_modify_set (g := fun x : MapEntry => x.val) (y := cv) (fun _ => rfl), map_modify_set (g := fun x : AV × AV => x.2) (y := v) (fun _ => rfl)]
          exact g3.set hv
        have a3 : ∀ a ∈ es.modify i fun e => (e.1, v), (∀ vs, a.1 ≠ .tup vs) := by
          intro a ha
          obtain ⟨j, hj⟩ := List.getElem?_of_mem ha
          rw [List.getElem?_modify] at hj
          cases hj' : es[j]? with
          | none => rw [hj'] at hj; simp at hj
          | some y =>
            rw [hj'] at hj
            have hy := g4 y (List.mem_of_getElem? hj')
            simp at hj
            split at hj <;> (cases hj; exact hy)
        have a4 : ∀ a ∈ es.modify i fun e => (e.1, v), (∀ vs, a.2 ≠ .tup vs) := by
          intro a ha
          obtain ⟨j, hj⟩ := List.getElem?_of_mem ha
          rw [List.getElem?_modify] at hj
          cases hj' : es[j]? with
          | none => rw [hj'] at hj; simp at hj
          | some y =>
            rw [hj'] at hj
            have hy := g5 y (List.mem_of_getElem? hj')
            simp at hj
            split at hj
            · cases hj; exact fun vs hvs => hnt vs hvs
            · cases hj; exact hy
        obtain ⟨t1, t2⟩ := map_turn (cl' := cl) hs hb ho g1 a1 a2 a3 a4 (bc' := (en.toList.map (·.born), cl)) (by rw [arr_mod]; intro _ _; rfl)
        refine ⟨_, ?_, t1, t2⟩
        simp only [Instr.mapUpdate, Sem.run_bind, run_underlying hT, Result.andThen_ok, Go.MapKept.run_getObj_map g1, hchk, hfk, hget, hst, Go.MapKept.run_setObj_map _ g1]
      · rename_i hf
        cases h
        obtain ⟨q, hq, rfl⟩ := findS_sound (w := w) (i0 := 0) hc hk g2 g3 hf
        rw [hckk] at hq
        have hfk := run_findStruct hK hq
        rw [← hckk] at hfk
        have a1 : VRels ρ ((es ++ [(AV.agg xs, v)]).map (·.1)) ((en.push { key := ck, val := cv, born := cl }).toList.map (·.key)) := by
          simp only [List.map_append, Array.toList_push, List.map_cons, List.map_nil]
          exact VRels.append g2 (VRels.cons hk (VRels.nil _))
        have a2 : VRels ρ ((es ++ [(AV.agg xs, v)]).map (·.2)) ((en.push { key := ck, val := cv, born := cl }).toList.map (·.val)) := by
          simp only [List.map_append, Array.toList_push, List.map_cons, List.map_nil]
          exact VRels.append g3 (VRels.cons hv (VRels.nil _))
        have a3 : ∀ a ∈ es ++ [(AV.agg xs, v)], (∀ vs, a.1 ≠ .tup vs) := by
          intro a ha
          rcases List.mem_append.mp ha with ha | ha
          · exact g4 a ha
          · simp at ha; subst ha; intro vs hvs; cases hvs
        have a4 : ∀ a ∈ es ++ [(AV.agg xs, v)], (∀ vs, a.2 ≠ .tup vs) := by
          intro a ha
          rcases List.mem_append.mp ha with ha | ha
          · exact g5 a ha
          · simp at ha; subst ha; exact fun vs hvs => hnt vs hvs
        obtain ⟨t1, t2⟩ := map_turn (cl' := cl + 1) hs hb ho g1 a1 a2 a3 a4 (bc' := (en.toList.map (·.born) ++ [cl], cl + 1)) (by simp only [List.map_append, Array.toList_push, List.map_cons, List.map_nil])
        refine ⟨_, ?_, t1, t2⟩
        simp only [Instr.mapUpdate, Sem.run_bind, run_underlying hT, Result.andThen_ok, Go.MapKept.run_getObj_map g1, hchk, hfk, Go.MapKept.run_setObj_map _ g1]
      · cases h
  · cases h
theorem meS_sound (hs : Sim P w0 ρ H w) {T K E : TypeId} {fs : Array Field} {ks : List Nat} (hT : P.underlying T = some (.map K E)) (hK : P.underlying K = some (.struct fs)) (hc : cflat P K = some ks) {z : AV} (hz : czv P E = some z) {m k : AV} {cm ck : Value} (hm : VRel ρ m cm) (hk : VRel ρ k ck) {v : AV} {H' : AH} (h : aentry (9 :: ks) z m k H = some (v, H')) :
    ∃ u w', (Instr.mapEntry T cm ck).run P w = .ok u w' ∧ VRel ρ v u ∧ Sim P w0 ρ H' w' ∧ Fr ρ H w ρ H' w' := by
  unfold aentry at h
  split at h
  · cases h
  · rw [if_neg (by simp)] at h; cases h
  · rename_i z0 b xs hnt
    simp only at h
    split at h
    case isFalse => cases h
    rename_i hlen
    have hcf := cflat_struct hK hc
    have hchk : ∀ e, (Instr.checkKey e 10000 K ck).run P w = .ok () w := fun e => run_checkStruct hK hcf hlen hk e w
    obtain ⟨cxk, hckk⟩ : ∃ a, ck = .agg a := by unfold VRel at hk; obtain ⟨a, e, _⟩ := hk; exact ⟨a, e⟩
    split at h
    case h_2 => cases h
    rename_i es bc ho
    obtain ⟨zv, hzv, hzr⟩ := czv_sound hz w
    rcases entries_sound hs hm (es := es) (by simp only [aentries, ho]) with ⟨h0, _⟩ | ⟨b', B, base, N, en, cl, hbb, rfl, hb, ho', g1, g2, g3, g4, g5⟩
    · cases h0
    · cases hbb
      rw [ho] at ho'
      cases ho'
      split at h
      · rename_i i v' hf
        split at h
        case h_2 => cases h
        rename_i st hst0
        cases h
        obtain ⟨q, hq, cv', e, rfl, r2, hi, hkey, hil, hsb⟩ := findS_sound (w := w) (i0 := 0) hc hk g2 g3 hf
        rw [Nat.zero_add] at hq
        rw [hckk] at hq
        have hfk := run_findStruct hK hq
        rw [← hckk] at hfk
        have hei : en[i]? = some e := by simpa using hi
        have hget : (en[i]?.map (·.key)).getD ck = ck := by
          rw [hei]; simp [hkey]
        have hbo : (en[i]?.map (fun x => (x.born : Int))).getD 0 = (st : Int) := by
          rw [List.getElem?_map, hi] at hst0
          rw [hei]
          simpa using congrArg (fun x : Option Nat => x.map (fun y => (y : Int))) hst0
        have hst : (Instr.keyThatStays ck ck).run P w = .ok ck w := by
          simp [Instr.keyThatStays, hsb]
        obtain ⟨t1, t2⟩ := map_turn (cl' := cl) (en' := en.modify i fun e => { e with key := ck }) hs hb ho g1 (es' := es) (by
          rw [arr_mod]; exact g2; intro x hx; rw [hi] at hx; cases hx; exact hkey.symm) (by
          rw [arr_mod]; exact g3; intro _ _; rfl) g4 g5 (bc' := (en.toList.map (·.born), cl)) (by rw [arr_mod]; intro _ _; rfl)
        rw [set_same ho] at t1 t2
        refine ⟨.tuple #[cv', goInt st], _, ?_, ?_, t1, t2⟩
        · simp only [Instr.mapEntry, Sem.run_bind, run_underlying hT, Result.andThen_ok, Go.MapKept.run_getObj_map g1, hchk, hfk, hget, hst, Go.MapKept.run_setObj_map _ g1, Sem.run_pure, hbo]
        · unfold VRel
          exact ⟨_, rfl, VRels.cons r2 (VRels.cons (by unfold VRel; rfl) (VRels.nil _))⟩
      · rename_i hf
        cases h
        obtain ⟨q, hq, rfl⟩ := findS_sound (w := w) (i0 := 0) hc hk g2 g3 hf
        rw [hckk] at hq
        have hfk := run_findStruct hK hq
        rw [← hckk] at hfk
        obtain ⟨t1, t2⟩ := map_turn (cl' := cl + 1) (en' := en.push { key := ck, val := zv, born := cl }) (es' := es ++ [(AV.agg xs, z)]) hs hb ho g1 (by
          simp only [List.map_append, Array.toList_push, List.map_cons, List.map_nil]
          exact VRels.append g2 (VRels.cons hk (VRels.nil _))) (by
          simp only [List.map_append, Array.toList_push, List.map_cons, List.map_nil]
          exact VRels.append g3 (VRels.cons (hzr ρ) (VRels.nil _))) (by
          intro a ha
          rcases List.mem_append.mp ha with ha | ha
          · exact g4 a ha
          · simp at ha; subst ha; intro vs hvs; cases hvs) (by
          intro a ha
          rcases List.mem_append.mp ha with ha | ha
          · exact g5 a ha
          · simp at ha; subst ha; exact fun vs hvs => hnt vs hvs) (bc' := (en.toList.map (·.born) ++ [cl], cl + 1)) (by simp only [List.map_append, Array.toList_push, List.map_cons, List.map_nil])
        refine ⟨.tuple #[zv, goInt cl], _, ?_, ?_, t1, t2⟩
        · simp only [Instr.mapEntry, Sem.run_bind, run_underlying hT, Result.andThen_ok, Go.MapKept.run_getObj_map g1, hchk, hfk, hzv, Go.MapKept.run_setObj_map _ g1, Sem.run_pure]
        · unfold VRel
          exact ⟨_, rfl, VRels.cons (hzr ρ) (VRels.cons (by unfold VRel; rfl) (VRels.nil _))⟩
      · cases h
  · cases h
theorem dlS_sound (hs : Sim P w0 ρ H w) {T U ty K E : TypeId} {fs : Array Field} {ks : List Nat} (hT : P.underlying T = some (.map K E)) (hK : P.underlying K = some (.struct fs)) (hc : cflat P K = some ks) {m k : AV} {cm ck : Value} (hm : VRel ρ m cm) (hk : VRel ρ k ck) {H' : AH} (h : adelete (9 :: ks) m k H = some H') :
    ∃ w', (Builtin.delete_ #[T, U] ty #[cm, ck]).run P w = .ok (.tuple #[]) w' ∧ Sim P w0 ρ H' w' ∧ Fr ρ H w ρ H' w' := by
  unfold adelete at h
  split at h
  · rw [if_neg (by simp)] at h; cases h
  · rw [if_neg (by simp)] at h; cases h
  · rename_i xs
    simp only at h
    split at h
    case isFalse => cases h
    rename_i hlen
    cases h
    have hcf := cflat_struct hK hc
    have hchk : ∀ e, (Instr.checkKey e 10000 K ck).run P w = .ok () w := fun e => run_checkStruct hK hcf hlen hk e w
    unfold VRel at hm
    subst hm
    refine ⟨w, ?_, hs, Fr.refl _ _ _⟩
    simp only [Builtin.delete_, List.getElem?_toArray, List.getElem?_cons_zero, List.getElem?_cons_succ, Sem.run_bind, run_underlying hT, Result.andThen_ok, hchk, Sem.run_pure]
  · rename_i b xs
    simp only at h
    split at h
    case isFalse => cases h
    rename_i hlen
    have hcf := cflat_struct hK hc
    have hchk : ∀ e, (Instr.checkKey e 10000 K ck).run P w = .ok () w := fun e => run_checkStruct hK hcf hlen hk e w
    obtain ⟨cxk, hckk⟩ : ∃ a, ck = .agg a := by unfold VRel at hk; obtain ⟨a, e, _⟩ := hk; exact ⟨a, e⟩
    split at h
    case h_2 => cases h
    rename_i es bc ho
    rcases entries_sound hs hm (es := es) (by simp only [aentries, ho]) with ⟨h0, _⟩ | ⟨b', B, base, N, en, cl, hbb, rfl, hb, ho', g1, g2, g3, g4, g5⟩
    · cases h0
    · cases hbb
      rw [ho] at ho'
      cases ho'
      split at h
      · rename_i i v' hf
        cases h
        obtain ⟨q, hq, cv', e, rfl, r2, hi, hkey, hil, _⟩ := findS_sound (w := w) (i0 := 0) hc hk g2 g3 hf
        rw [Nat.zero_add] at hq
        rw [hckk] at hq
        have hfk := run_findStruct hK hq
        rw [← hckk] at hfk
        obtain ⟨t1, t2⟩ := map_turn (cl' := cl) (en' := en.eraseIdxIfInBounds i) hs hb ho g1 (es' := es.eraseIdx i) (by rw [Array.toList_eraseIdxIfInBounds, map_eraseIdx', map_eraseIdx']; exact g2.eraseIdx) (by rw [Array.toList_eraseIdxIfInBounds, map_eraseIdx', map_eraseIdx']; exact g3.eraseIdx) (fun a ha => g4 a (List.mem_of_mem_eraseIdx ha)) (fun a ha => g5 a (List.mem_of_mem_eraseIdx ha)) (bc' := ((en.toList.map (·.born)).eraseIdx i, cl)) (by rw [Array.toList_eraseIdxIfInBounds, map_eraseIdx'])
        refine ⟨_, ?_, t1, t2⟩
        simp only [Builtin.delete_, List.getElem?_toArray, List.getElem?_cons_zero, List.getElem?_cons_succ, Sem.run_bind, run_underlying hT, Result.andThen_ok, Go.MapKept.run_getObj_map g1, hchk, hfk, Go.MapKept.run_setObj_map _ g1, Sem.run_pure]
      · rename_i hf
        cases h
        obtain ⟨q, hq, rfl⟩ := findS_sound (w := w) (i0 := 0) hc hk g2 g3 hf
        rw [hckk] at hq
        have hfk := run_findStruct hK hq
        rw [← hckk] at hfk
        obtain ⟨t1, t2⟩ := map_turn (cl' := cl) (en' := en) hs hb ho g1 (es' := es) g2 g3 g4 g5 rfl
        refine ⟨_, ?_, t1, t2⟩
        simp only [Builtin.delete_, List.getElem?_toArray, List.getElem?_cons_zero, List.getElem?_cons_succ, Sem.run_bind, run_underlying hT, Result.andThen_ok, Go.MapKept.run_getObj_map g1, hchk, hfk, Go.MapKept.run_setObj_map _ g1, Sem.run_pure]
      · cases h
  · cases h
end
end Go.Proofs.Ythcibbfljcfheaa.Abs
