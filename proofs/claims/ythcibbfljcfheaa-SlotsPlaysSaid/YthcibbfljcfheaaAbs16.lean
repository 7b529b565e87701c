/- What the plain machine comes to, the loaded program comes to. No condition of their own. -/
import Derived.Test.YthcibbfljcfheaaAbs15f
namespace Go.Proofs.Ythcibbfljcfheaa.Abs
set_option linter.unusedVariables false
set_option linter.unusedSimpArgs false
open Go.RowKit

section
variable {P : Program} {w0 : World}

/-- What is still to be done, as the model has it. -/
inductive IRel (P : Program) (nt : Nat) : List AItem → List Item → Prop
  | nil : IRel P nt [] []
  | code {c : ACode} {C : Code} {k : List AItem} {K : List Item} (h : ccode P nt C = some c) (hk : IRel P nt k K) : IRel P nt (.code c :: k) (.code C :: K)
  | inBlock {id : Nat} {k : List AItem} {K : List Item} (hk : IRel P nt k K) : IRel P nt (.inBlock id :: k) (.inBlock id :: K)
  | inLoop {c : ACode} {C : Code} {k : List AItem} {K : List Item} (h : ccode P nt C = some c) (hk : IRel P nt k K) : IRel P nt (.inLoop c :: k) (.inLoop C :: K)

theorem exit_rel {nt id : Nat} {k k' : List AItem} {K : List Item} (h : IRel P nt k K) (he : aexit id k = some k') : ∃ K', exitTo id K = some K' ∧ IRel P nt k' K' := by
  induction h with
  | nil => simp [aexit] at he
  | code h hk ih => exact ih he
  | inLoop h hk ih => exact ih he
  | inBlock hk ih =>
    rename_i id' k K
    simp only [aexit] at he
    simp only [exitTo]
    split at he
    · rename_i e
      cases he
      rw [if_pos (by simpa using e)]
      exact ⟨_, rfl, hk⟩
    · rename_i e
      rw [if_neg (by simpa using e)]
      exact ih he

/-- How a result is read. -/
def resF (tmps : Array Value) : ResultVar → Sem Value
  | .tmp t => pure (tmps.getD t undef)
  | .cell x T => do loadVar T (← asAddr (tmps.getD x undef))

theorem results_eq (fn : Func) (tmps : Array Value) : results fn tmps = (do
  let vs ← fn.results.mapM (resF tmps)
  pure (if h : vs.size = 1 then vs[0] else .tuple vs)) := by
  unfold results
  rfl

theorem result_sound {ρ : Rn} {H : AH} {w : World} (hs : Sim P w0 ρ H w) {nt : Nat} {t : Nat → AV} {a : Act} (ht : TRel ρ nt t a) : ∀ {rs : List ResultVar} {ars : List ARes} {vs : List AV}, cres P rs = some ars → aresults H t ars = some vs →
    ∃ cs, (rs.mapM (resF a.tmps)).run P w = .ok cs w ∧ VRels ρ vs cs
  | [], ars, vs, hc, h => by
    unfold cres at hc
    cases hc
    unfold aresults at h
    cases h
    exact ⟨[], rfl, VRels.nil _⟩
  | .tmp k :: rs, ars, vs, hc, h => by
    unfold cres at hc
    obtain ⟨r, h1, rfl⟩ := omap_some hc
    unfold aresults at h
    split at h
    · rename_i v vs' h2 h3
      cases h
      obtain ⟨cs, h4, h5⟩ := result_sound hs ht h1 h3
      simp only [aresult] at h2
      cases h2
      refine ⟨_ :: cs, ?_, VRels.cons (ht.rel k) h5⟩
      rw [List.mapM_cons]
      have h6 : (resF a.tmps (.tmp k)).run P w = .ok (a.tmps.getD k undef) w := rfl
      simp only [Sem.run_bind, h6, Sem.run_pure, Result.andThen_ok, h4]
    · cases h
  | .cell k T :: rs, ars, vs, hc, h => by
    unfold cres at hc
    split at hc
    · rename_i n r hn h1
      cases hc
      unfold aresults at h
      split at h
      · rename_i v vs' h2 h3
        cases h
        obtain ⟨cs, h4, h5⟩ := result_sound hs ht h1 h3
        simp only [aresult] at h2
        obtain ⟨u, h6, h7⟩ := load_sound (P := P) hs hn (ht.rel k) h2
        have hptr : ∃ ad, a.tmps.getD k undef = .pointer (some ad) := by
          have hr := ht.rel k
          unfold aload at h2
          split at h2
          · rename_i b o e
            rw [e] at hr
            unfold VRel at hr
            obtain ⟨B, base, N, _, e2⟩ := hr
            exact ⟨_, e2⟩
          · cases h2
        obtain ⟨ad, had⟩ := hptr
        refine ⟨u :: cs, ?_, VRels.cons h7 h5⟩
        rw [List.mapM_cons]
        rw [had] at h6
        have h6' : (loadVar T ad).run P w = .ok u w := by simpa [Instr.loadAt, Instr.sureAddr] using h6
        have h8 : (resF a.tmps (.cell k T)).run P w = .ok u w := by
          unfold resF
          simp only [Sem.run_bind, had, asAddr, Sem.run_pure, Result.andThen_ok, h6']
        simp only [Sem.run_bind, h8, Sem.run_pure, Result.andThen_ok, h4]
      · cases h
    · cases hc

theorem finish_sound {ρ : Rn} {H : AH} {w : World} (hs : Sim P w0 ρ H w) {nt : Nat} {t : Nat → AV} {a : Act} (ht : TRel ρ nt t a) {fn : Func} {af : AFun} (hres : cres P fn.results.toList = some af.res) {v : AV} {H' : AH} (h : afinish af t H = some (v, H')) :
    H' = H ∧ ∃ c, (results fn a.tmps).run P w = .ok c w ∧ VRel ρ v c := by
  unfold afinish at h
  split at h
  · rename_i vs hvs
    cases h
    refine ⟨rfl, ?_⟩
    obtain ⟨cs, h1, h2⟩ := result_sound hs ht hres hvs
    have hr : (results fn a.tmps).run P w = .ok (if h : cs.toArray.size = 1 then cs.toArray[0] else .tuple cs.toArray) w := by
      rw [results_eq, Array.mapM_eq_mapM_toList]
      simp only [Sem.run_bind, Sem.run_map, h1, Result.andThen_ok, Sem.run_pure]
    refine ⟨_, hr, ?_⟩
    match vs, cs, h2 with
    | [], cs, h2 =>
      unfold VRels at h2
      subst h2
      exact undef_rel _
    | [v], cs, h2 =>
      unfold VRels at h2
      obtain ⟨c, cs', rfl, h3, h4⟩ := h2
      unfold VRels at h4
      subst h4
      exact h3
    | v1 :: v2 :: vs, cs, h2 =>
      have hl := h2.length
      rw [dif_neg (by simp at hl ⊢; omega)]
      show VRel ρ (.tup (v1 :: v2 :: vs)) _
      unfold VRel
      exact ⟨_, rfl, h2⟩
  · cases h

/-- Of n steps: the run of a function's text. -/
def RunOkN (P : Program) (w0 : World) (T : Tbl) (n : Nat) : Prop := ∀ (fn : Func) (af : AFun) (k : List AItem) (t : Nat → AV) (H : AH) (v : AV) (H' : AH), arun T n af k t H = some (v, H') →
    cres P fn.results.toList = some af.res → ∀ (K : List Item), IRel P af.nt k K → ∀ (ρ : Rn) (w : World) (a : Act) (b : Frame) (cs : List Frame), Sim P w0 ρ H w → TRel ρ af.nt t a → a.defers = [] →
    ∃ ρ' w' a' K' c, Steps P (lone (b.at a K) cs w) (lone { b.at a' K' with mode := .returning } cs w') ∧ a'.defers = [] ∧ (results fn a'.tmps).run P w' = .ok c w' ∧ VRel ρ' v c ∧ Sim P w0 ρ' H' w' ∧ Fr ρ H w ρ' H' w'

/-- What is known beyond the texts is so. -/
def PrimOk (P : Program) (w0 : World) (T : Tbl) : Prop := ∀ f args H v H', T.f f = none → T.p f args H = some (v, H') →
  ∀ (ρ : Rn) (w : World) (cargs : Array Value), Sim P w0 ρ H w → VRels ρ args cargs.toList → CallsTo P w0 f cargs ρ H w v H'

theorem callok_of {T : Tbl} (hT : ∀ f a, T.f f = some a → cfun P f = some a) (hP : PrimOk P w0 T) {n : Nat} (hrun : RunOkN P w0 T n) : CallOk P w0 (acall T n) := by
    intro f args H v H' hx
    refine ⟨acall_up n f args H v H' hx, ?_⟩
    unfold acall at hx
    split at hx
    case h_2 => rename_i hf; exact hP f args H v H' hf hx
    rename_i g hg
    split at hx
    case isFalse => cases hx
    rename_i hlen
    have hcf := hT f g hg
    unfold cfun at hcf
    split at hcf
    case h_2 => cases hcf
    rename_i fn hfn
    split at hcf
    case h_2 => cases hcf
    rename_i C hC
    split at hcf
    case h_2 => cases hcf
    rename_i c r hc hr
    split at hcf
    case isTrue => cases hcf
    rename_i hnm
    cases hcf
    intro ρ w cargs hs hargs
    refine Or.inl ⟨callFunc_enter hfn (by simpa using hnm) (by rw [hC]; rfl), ?_⟩
    have hal := hargs.length
    simp only [Array.length_toList] at hal
    intro cs
    let b : Frame := { (default : Frame) with fn := f, kind := .normal }
    have henter : Frame.enter P f cargs .normal = b.at { tmps := cargs ++ Array.replicate (fn.ntmps - cargs.size) undef, defers := [] } [.code C] := by
      simp [Frame.enter, Frame.at, hfn, hC, b]
    have htr : TRel ρ fn.ntmps (ainit args) { tmps := cargs ++ Array.replicate (fn.ntmps - cargs.size) undef, defers := [] } := by
      refine ⟨?_, by simp; simp at hlen; omega⟩
      intro k
      unfold ainit
      simp only [Array.getD_eq_getD_getElem?, Array.getElem?_append, List.getD]
      split
      · rename_i hk
        have h1 : args[k]? = some (args[k]'(by omega)) := List.getElem?_eq_getElem (by omega)
        obtain ⟨u, h2, h3⟩ := hargs.get k h1
        rw [h1]
        have h4 : cargs[k]? = some u := by rw [← Array.getElem?_toList]; exact h2
        rw [h4]
        exact h3
      · rename_i hk
        rw [List.getElem?_eq_none (by omega)]
        by_cases hk2 : k - cargs.size < fn.ntmps - cargs.size
        · simp [hk2]; exact undef_rel _
        · simp [Array.getElem?_replicate, hk2]; exact undef_rel _
    obtain ⟨ρ', w', a', K', u, k1, k2, k3, k4, k5, k6⟩ := hrun fn _ _ _ _ _ _ hx hr _ (.code hc .nil) ρ w _ b cs hs htr rfl
    rw [← henter] at k1
    exact ⟨.returned u, w', _, ⟨ρ', u, rfl, k4, k5, k6⟩, k1, rfl, rfl, k2, rfl, fn, hfn, k3⟩

/-- The run of a function's text. -/
theorem run_sound (hm : P.follows .mixedOrders = true) {T : Tbl} (hT : ∀ f a, T.f f = some a → cfun P f = some a) (hP : PrimOk P w0 T) : ∀ (n : Nat), RunOkN P w0 T n
  | 0 => by
    intro fn af k t H v H' h
    simp [arun] at h
  | n + 1 => by
    intro fn af k t H v H' h hres K hK ρ w a b cs hs ht hd
    have hrun := run_sound hm hT hP n
    have hcall := callok_of hT hP hrun
    -- one step, then the rest
    have hgo : ∀ {k' : List AItem} {K' : List Item} {t' : Nat → AV} {H1 : AH} {a' : Act} {w1 : World} {ρ1 : Rn}, arun T n af k' t' H1 = some (v, H') → Steps P (lone (b.at a K) cs w) (lone (b.at a' K') cs w1) → IRel P af.nt k' K' → Sim P w0 ρ1 H1 w1 → TRel ρ1 af.nt t' a' → a'.defers = [] → Fr ρ H w ρ1 H1 w1 →
        ∃ ρ' w' a' K' c, Steps P (lone (b.at a K) cs w) (lone { b.at a' K' with mode := .returning } cs w') ∧ a'.defers = [] ∧ (results fn a'.tmps).run P w' = .ok c w' ∧ VRel ρ' v c ∧ Sim P w0 ρ' H' w' ∧ Fr ρ H w ρ' H' w' := by
      intro k' K' t' H1 a' w1 ρ1 hr hst hk hs1 ht1 hd1 hf1
      obtain ⟨ρ', w', a2, K2, c, k1, k2, k3, k4, k5, k6⟩ := hrun _ _ _ _ _ _ _ hr hres _ hk ρ1 w1 a' b cs hs1 ht1 hd1
      exact ⟨ρ', w', a2, K2, c, hst.trans k1, k2, k3, k4, k5, hf1.trans k6⟩
    have hend : ∀ {K' : List Item}, afinish af t H = some (v, H') → Steps P (lone (b.at a K) cs w) (lone { b.at a K' with mode := .returning } cs w) →
        ∃ ρ' w' a' K' c, Steps P (lone (b.at a K) cs w) (lone { b.at a' K' with mode := .returning } cs w') ∧ a'.defers = [] ∧ (results fn a'.tmps).run P w' = .ok c w' ∧ VRel ρ' v c ∧ Sim P w0 ρ' H' w' ∧ Fr ρ H w ρ' H' w' := by
      intro K' hf hst
      obtain ⟨rfl, c, h1, h2⟩ := finish_sound hs ht hres hf
      exact ⟨ρ, w, a, K', c, hst, hd, h1, h2, hs, Fr.refl _ _ _⟩
    have hregion : ∀ {id : Nat} {ops : Array Oper} {d : Bool} {k1 : List AItem} {K1 : List Item} {t' : Nat → AV} {H1 : AH}, K = .code (.region id ops d) :: K1 → IRel P af.nt k1 K1 → arun T n af k1 t' H1 = some (v, H') →
        (∀ Q : Exit → Act → World → Prop, (∀ ρ' w' tmps, Sim P w0 ρ' H1 w' → TRel ρ' af.nt t' { a with tmps := tmps } → Fr ρ H w ρ' H1 w' → Q .normal { a with tmps := tmps } w') → (Code.region id ops d).wp P Q a w) →
        ∃ ρ' w' a' K' c, Steps P (lone (b.at a K) cs w) (lone { b.at a' K' with mode := .returning } cs w') ∧ a'.defers = [] ∧ (results fn a'.tmps).run P w' = .ok c w' ∧ VRel ρ' v c ∧ Sim P w0 ρ' H' w' ∧ Fr ρ H w ρ' H' w' := by
      intro id ops d k1 K1 t' H1 eK hk1 hr hwp
      subst eK
      obtain ⟨e, a', w1, ⟨rfl, ρ1, tmps, rfl, h1, h2, h3⟩, harr⟩ := hwp (fun e a' w' => e = .normal ∧ ∃ ρ' tmps, a' = { a with tmps := tmps } ∧ Sim P w0 ρ' H1 w' ∧ TRel ρ' af.nt t' { a with tmps := tmps } ∧ Fr ρ H w ρ' H1 w') (fun ρ' w' tmps h1 h2 h3 => ⟨rfl, ρ', tmps, rfl, h1, h2, h3⟩) b K1 cs
      exact hgo hr harr hk1 h1 h2 hd h3
    unfold arun at h
    dsimp only at h
    cases hK with
    | nil => exact hend h (.one step_end)
    | inBlock hk => exact hgo h (.one step_inBlock) hk hs ht hd (Fr.refl _ _ _)
    | inLoop hc hk => exact hgo h (.one step_inLoop) (.code hc (.inLoop hc hk)) hs ht hd (Fr.refl _ _ _)
    | code hc hk =>
      rename_i c C k1 K1
      cases C <;> (try simp only [ccode] at hc) <;> try (cases hc; done)
      case skip => cases hc; exact hgo h (.one step_skip) hk hs ht hd (Fr.refl _ _ _)
      case seq A B =>
        split at hc
        · rename_i ca cb h1 h2
          cases hc
          exact hgo h (.one step_seq) (.code h1 (.code h2 hk)) hs ht hd (Fr.refl _ _ _)
        · cases hc
      case cond c A B =>
        split at hc
        · rename_i cc ca cb h0 h1 h2
          cases hc
          simp only at h
          have hr := cx_rel ht.rel h0
          split at h
          · rename_i z e
            rw [e] at hr
            unfold VRel at hr
            refine hgo h (.one (step_cond hr)) ?_ hs ht hd (Fr.refl _ _ _)
            cases z
            · exact .code h2 hk
            · exact .code h1 hk
          · cases h
        · cases hc
      case block id A =>
        obtain ⟨ca, h1, rfl⟩ := omap_some hc
        exact hgo h (.one step_block) (.code h1 (.inBlock hk)) hs ht hd (Fr.refl _ _ _)
      case loop A =>
        obtain ⟨ca, h1, rfl⟩ := omap_some hc
        exact hgo h (.one step_loop) (.code h1 (.inLoop h1 hk)) hs ht hd (Fr.refl _ _ _)
      case exit id =>
        cases hc
        simp only at h
        split at h
        · rename_i k' hk'
          obtain ⟨K', h1, h2⟩ := exit_rel hk hk'
          exact hgo h (.one (step_exit h1)) h2 hs ht hd (Fr.refl _ _ _)
        · cases h
      case ret => cases hc; exact hend h (.one step_ret)
      case rangeFunc f ps A B =>
        split at hc
        · split at hc
          · cases hc; cases h
          · cases hc
        · cases hc
      case region id ops d =>
        cases d with
        | false =>
          simp only [ccode] at hc
          obtain ⟨as, h1, rfl⟩ := omap_some hc
          simp only at h
          split at h
          · rename_i t' H1 ho
            refine hregion rfl hk h ?_
            intro Q hQ
            refine wp_region ?_
            have := ops_sound hcall (nt := af.nt) (ops := ops) (Q := Q) ops.toList as 0 ρ H w t a rfl h1 ho hs ht hQ
            simpa [List.range_eq_range'] using this
          · cases h
        | true =>
          simp only [ccode] at hc
          obtain ⟨das, h1, rfl⟩ := omap_some hc
          simp only at h
          split at h
          · rename_i t' H1 ho
            refine hregion rfl hk h ?_
            intro Q hQ
            exact drw_sound hm hcall h1 ho hs ht hQ
          · cases h

/-- A call. -/
theorem callR_sound (hm : P.follows .mixedOrders = true) {T : Tbl} (hT : ∀ f a, T.f f = some a → cfun P f = some a) (hP : PrimOk P w0 T) : CallOk P w0 (callR T) := by
  intro f args H v H' h
  obtain ⟨n, hn⟩ := callR_some.mp h
  exact callok_of hT hP (run_sound hm hT hP n) f args H v H' hn

/-- A call of a function with a text. -/
theorem call_sound (hm : P.follows .mixedOrders = true) {T : Tbl} (hT : ∀ f a, T.f f = some a → cfun P f = some a) (hP : PrimOk P w0 T) {f : FuncId} {g : AFun} (hg : T.f f = some g) {args : List AV} {H : AH} {v : AV} {H' : AH} (h : callR T f args H = some (v, H')) (ρ : Rn) (w : World) (cargs : Array Value) (hs : Sim P w0 ρ H w) (hargs : VRels ρ args cargs.toList) :
    Calls P f cargs w fun e w' => ∃ ρ' c, e = .returned c ∧ VRel ρ' v c ∧ Sim P w0 ρ' H' w' ∧ Fr ρ H w ρ' H' w' := by
  rcases (callR_sound hm hT hP f args H v H' h).2 ρ w cargs hs hargs with ⟨_, h1⟩ | ⟨ρ', w', c, h1, _⟩
  · exact h1
  · have hcf := hT f g hg
    unfold cfun at hcf
    split at hcf
    case h_2 => cases hcf
    rename_i fn hfn
    split at hcf
    case h_2 => cases hcf
    rename_i C hC
    split at hcf
    case h_2 => cases hcf
    split at hcf
    case isTrue => cases hcf
    rename_i hnm
    rw [callFunc_enter hfn (by simpa using hnm) (by rw [hC]; rfl)] at h1
    cases h1

end
end Go.Proofs.Ythcibbfljcfheaa.Abs
