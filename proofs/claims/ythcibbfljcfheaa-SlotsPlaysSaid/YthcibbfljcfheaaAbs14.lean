/- Operations in the order of the text, calls among them, do what the plain machine's do. No condition of their own. -/
import Derived.Test.YthcibbfljcfheaaAbs13
namespace Go.Proofs.Ythcibbfljcfheaa.Abs
set_option linter.unusedVariables false
set_option linter.unusedSimpArgs false
open Go.RowKit

section
variable {P : Program} {w0 : World} {ρ : Rn} {H : AH} {w : World}

/-- What a call of a function comes to: it is entered and returns, or (a function without a text) it answers at once. -/
def CallsTo (P : Program) (w0 : World) (f : FuncId) (cargs : Array Value) (ρ : Rn) (H : AH) (w : World) (v : AV) (H' : AH) : Prop :=
  ((callFunc f cargs).run P w = .ok (.enter f cargs) w ∧ Calls P f cargs w fun e w' => ∃ ρ' c, e = .returned c ∧ VRel ρ' v c ∧ Sim P w0 ρ' H' w' ∧ Fr ρ H w ρ' H' w') ∨
  ∃ ρ' w' c, (callFunc f cargs).run P w = .ok (.value c) w' ∧ VRel ρ' v c ∧ Sim P w0 ρ' H' w' ∧ Fr ρ H w ρ' H' w'

/-- What is known of calls. -/
def CallOk (P : Program) (w0 : World) (call : CallF) : Prop := ∀ f args H v H', call f args H = some (v, H') → H.n ≤ H'.n ∧
  ∀ (ρ : Rn) (w : World) (cargs : Array Value), Sim P w0 ρ H w → VRels ρ args cargs.toList → CallsTo P w0 f cargs ρ H w v H'

theorem callFunc_enter {f : FuncId} {cargs : Array Value} {w : World} {fn : Func} (f1 : P.funcs[f]? = some fn) (f2 : (fn.name == "runtime.NumGoroutine") = false) (f3 : fn.body.isSome = true) : (callFunc f cargs).run P w = .ok (.enter f cargs) w := by
  have hbn : fn.body.isNone = false := by cases hb : fn.body <;> simp_all
  simp only [callFunc, Sem.run_bind, run_program, Result.andThen_ok, f1, f2, hbn, Bool.false_eq_true, if_false, Sem.run_pure]

/-- The slots. -/
structure TRel (ρ : Rn) (nt : Nat) (t : Nat → AV) (a : Act) : Prop where
  rel : ∀ k, VRel ρ (t k) (a.tmps.getD k undef)
  size : a.tmps.size = nt

theorem TRel.ext {ρ' : Rn} {nt : Nat} {t : Nat → AV} {a : Act} (h : TRel ρ nt t a) (he : Ext ρ ρ') : TRel ρ' nt t a := ⟨fun k => VRel.ext he _ (h.rel k), h.size⟩

theorem TRel.put {nt : Nat} {t : Nat → AV} {a : Act} (h : TRel ρ nt t a) {d : Option Tmp} (hd : cdst nt d = true) {v : AV} {c : Value} (hv : VRel ρ v c) : TRel ρ nt (put t d v) (a.put d c) := by
  cases d with
  | none => exact h
  | some d =>
    unfold cdst at hd
    have hd : d < nt := by simpa using hd
    refine ⟨fun k => ?_, by simp [Act.put, h.size]⟩
    simp only [Abs.put, upd, Act.put]
    split
    · rename_i e
      subst e
      have : (a.tmps.setIfInBounds k c).getD k undef = c := by simp [Array.getD, h.size, hd]
      rw [this]
      exact hv
    · rename_i e
      have : (a.tmps.setIfInBounds d c).getD k undef = a.tmps.getD k undef := by
        simp only [Array.getD_eq_getD_getElem?, Array.getElem?_setIfInBounds]
        rw [if_neg (fun e' => e e'.symm)]
      rw [this]
      exact h.rel k

theorem wanted_on {t : Nat → AV} {a : Act} {ops : Array Oper} {o : Oper} {g : Option (Nat × Bool)} (hg : cguard ops o.guard = some g) (ht : ∀ d want, g = some (d, want) → VRel ρ (t d) (a.tmps.getD d undef)) {z : Bool} (h : awanted g t = some z) : Region.wanted o (yielded ops a.tmps) = z := by
  unfold Region.wanted
  unfold cguard at hg
  cases ho : o.guard with
  | none =>
    simp only [ho] at hg
    cases hg
    unfold awanted at h
    cases h
    rfl
  | some x =>
    obtain ⟨j, want⟩ := x
    simp only [ho] at hg
    cases hj : ops[j]? with
    | none => simp only [hj] at hg; cases hg
    | some oj =>
      simp only [hj] at hg
      cases hd : oj.dst with
      | none => simp only [hd] at hg; cases hg
      | some d =>
        simp only [hd] at hg
        cases hg
        unfold awanted at h
        have hr := ht d want rfl
        simp only at h ⊢
        unfold yielded
        simp only [hj, Option.bind_some, hd]
        split at h
        · rename_i x e
          cases h
          rw [e] at hr
          unfold VRel at hr
          have : a.tmps[d]? = some (.bool x) := by
            rw [Array.getD_eq_getD_getElem?] at hr
            cases hq : a.tmps[d]? with
            | none => rw [hq] at hr; cases hr
            | some y => rw [hq] at hr; simp at hr; rw [hr]
          rw [this]
          cases x <;> cases want <;> rfl
        · rename_i vs e
          cases h
          rw [e] at hr
          unfold VRel at hr
          obtain ⟨xs, hr, _⟩ := hr
          rw [Array.getD_eq_getD_getElem?] at hr
          cases hq : a.tmps[d]? with
          | none => rfl
          | some y => rw [hq] at hr; simp at hr; subst hr; rfl
        · cases h

theorem cbuiltin_nocall {b : Builtin} {ts : List TypeId} {xs : List AX} {ao : AOp} (h : cbuiltin P b ts xs = some ao) : ao.isCall = false := by
  unfold cbuiltin at h
  repeat' (split at h)
  all_goals (cases h; try rfl)

theorem cop_call0 {o : Op} {ao : AOp} (hc : cop0 P o = some ao) (hcall : ao.isCall = true) : ∃ c args, o = .call c ∧ cxs c.args.toList = some args ∧ ((∃ g, c.callee = .value (.func g) ∧ ao = .call g args) ∨ ∃ k, c.callee = .value (.tmp k) ∧ ao = .callv (.t k) args) := by
  cases o <;> simp only [cop0] at hc <;> try (cases hc; done)
  case call c =>
    split at hc
    · rename_i args hargs
      refine ⟨c, args, rfl, hargs, ?_⟩
      split at hc
      · rename_i b hb
        rw [cbuiltin_nocall hc] at hcall
        cases hcall
      · rename_i g hg; cases hc; exact Or.inl ⟨g, hg, rfl⟩
      · rename_i k hk; cases hc; exact Or.inr ⟨k, hk, rfl⟩
      · cases hc
    · cases hc
  case next x b =>
    exfalso
    cases b with
    | true => simp only [cop0] at hc; cases hc
    | false =>
      simp only [cop0] at hc
      obtain ⟨_, _, rfl⟩ := omap_some hc
      cases hcall
  case binOp op T x y yT =>
    exfalso
    unfold cbin at hc
    repeat' (split at hc)
    all_goals (cases hc; try cases hcall)
  case convert src dst x =>
    exfalso
    unfold cconv at hc
    repeat' (split at hc)
    all_goals (cases hc; try cases hcall)
  all_goals
    exfalso
    repeat' (split at hc)
    all_goals first
      | (cases hc; cases hcall; done)
      | (cases hc; done)
      | (obtain ⟨_, _, rfl⟩ := omap_some hc; cases hcall)

theorem cop_call {o : Op} {ao : AOp} (hc : cop P o = some ao) (hcall : ao.isCall = true) : ∃ c args, o = .call c ∧ cxs c.args.toList = some args ∧ ((∃ g, c.callee = .value (.func g) ∧ ao = .call g args) ∨ ∃ k, c.callee = .value (.tmp k) ∧ ao = .callv (.t k) args) := by
  unfold cop at hc
  split at hc
  · rename_i a0 h0
    cases hc
    exact cop_call0 h0 hcall
  · split at hc
    · cases hc
    · obtain ⟨xs, _, rfl⟩ := omap_some hc
      cases hcall

theorem wanted_sound {nt : Nat} {t : Nat → AV} {a : Act} (ht : TRel ρ nt t a) {ops : Array Oper} {o : Oper} {g : Option (Nat × Bool)} (hg : cguard ops o.guard = some g) {z : Bool} (h : awanted g t = some z) : Region.wanted o (yielded ops a.tmps) = z :=
  wanted_on hg (fun d _ _ => ht.rel d) h

/-- What an operation comes to, calls among them. -/
def RunOk (P : Program) (w0 : World) (ρ : Rn) (H : AH) (w : World) (r : Result Next) (v : AV) (H' : AH) (k : Nat) : Prop :=
  Done P w0 ρ H w r v H' k ∨ (k = 3 ∧ ∃ f cargs, r = .ok (.enter f cargs) w ∧ Calls P f cargs w fun e w' => ∃ ρ' c, e = .returned c ∧ VRel ρ' v c ∧ Sim P w0 ρ' H' w' ∧ Fr ρ H w ρ' H' w')

theorem oper_run {call : CallF} (hcall : CallOk P w0 call) (hs : Sim P w0 ρ H w) {t : Nat → AV} {a : Act} (ht : ∀ k, VRel ρ (t k) (a.tmps.getD k undef)) {o : Oper} {ao : AOp} (hc : cop P o.op = some ao) {v : AV} {H' : AH} (h : aop call t ao H = some (v, H')) :
    RunOk P w0 ρ H w ((execOp a.eval o).run P w) v H' ao.kind := by
  by_cases hnc : ao.isCall = false
  · exact Or.inl (op_sound hs ht hc hnc h)
  · have hk3 : ao.kind = 3 := by cases ao <;> simp [AOp.isCall] at hnc <;> rfl
    have hfun : ∀ (g : FuncId) (args : List AV) (cargs : Array Value), VRels ρ args cargs.toList → call g args H = some (v, H') → (execOp a.eval o).run P w = (callFunc g cargs).run P w → RunOk P w0 ρ H w ((execOp a.eval o).run P w) v H' ao.kind := by
      intro g args cargs hr hg he
      rw [he]
      rcases (hcall _ _ _ _ _ hg).2 ρ w cargs hs hr with ⟨hrun, hcalls⟩ | ⟨ρ', w', c, hrun, h1, h2, h3⟩
      · rw [hrun]
        exact Or.inr ⟨hk3, g, cargs, rfl, hcalls⟩
      · rw [hrun]
        exact Or.inl ⟨ρ', w', c, Or.inl rfl, h1, h2, h3, Or.inr (Or.inr hk3)⟩
    obtain ⟨c, args, hop, hargs, hcase⟩ := cop_call hc (by simpa using hnc)
    have hr := cxs_rel ht hargs
    have hev : (c.args.map a.eval).toList = c.args.toList.map a.eval := by simp
    rcases hcase with ⟨g, hg, rfl⟩ | ⟨k, hk, rfl⟩
    · simp only [aop] at h
      refine hfun g _ (c.args.map a.eval) (by rw [hev]; exact hr) h ?_
      unfold execOp
      simp only [hop, resolve, hg, Act.eval, Deferred.ofValue, Sem.run_bind, Sem.run_pure, Result.andThen_ok, invoke, Array.append_empty, Array.empty_append]
    · simp only [aop] at h
      split at h
      · rename_i g first caps e
        have rk := ht k
        have e' : t k = .fn (.func g) first caps := e
        rw [e'] at rk
        unfold VRel at rk
        obtain ⟨xs, ys, r1, r2, r3⟩ := rk
        refine hfun g _ (xs ++ c.args.map a.eval ++ ys) ?_ h ?_
        · rw [Array.toList_append, Array.toList_append, hev]
          exact VRels.append (VRels.append r2 hr) r3
        · unfold execOp
          have hev2 : a.eval (.tmp k) = .func (.func g) xs ys := r1
          simp only [hop, resolve, hk, hev2, Deferred.ofValue, Sem.run_bind, Sem.run_pure, Result.andThen_ok, invoke]
      · cases h

theorem RunOk.upon {r : Result Next} {v : AV} {H' : AH} {k : Nat} (h : RunOk P w0 ρ H w r v H' k) {o : Oper} {a : Act} {next : Act → World → Prop} {Q : Exit → Act → World → Prop}
    (hnext : ∀ ρ' w' c, VRel ρ' v c → Sim P w0 ρ' H' w' → Fr ρ H w ρ' H' w' → ((ρ' = ρ ∧ w' = w) ∨ (k = 2 ∧ ∃ q, ρ' = ρ.add H.n q) ∨ k = 3) → next (a.put o.dst c) w') : o.upon P a next Q r := by
  rcases h with ⟨ρ', w', c, hr, h1, h2, h3, h4⟩ | ⟨hk, f, cargs, hr, hcalls⟩
  · rcases hr with hr | ⟨hr, rfl⟩
    · rw [hr]; exact hnext _ _ _ h1 h2 h3 h4
    · rw [hr]; exact hnext _ _ _ h1 h2 h3 h4
  · rw [hr]
    refine hcalls.mono ?_
    rintro e w' ⟨ρ', c, rfl, h1, h2, h3⟩
    exact hnext _ _ _ h1 h2 h3 (Or.inr (Or.inr hk))

/-- One operation. -/
theorem oper_sound {call : CallF} (hcall : CallOk P w0 call) (hs : Sim P w0 ρ H w) {nt : Nat} {t : Nat → AV} {a : Act} (ht : TRel ρ nt t a) {o : Oper} {ao : AOp} (hc : cop P o.op = some ao) {v : AV} {H' : AH} (h : aop call t ao H = some (v, H')) {next : Act → World → Prop} {Q : Exit → Act → World → Prop}
    (hnext : ∀ ρ' w' c, VRel ρ' v c → Sim P w0 ρ' H' w' → Fr ρ H w ρ' H' w' → next (a.put o.dst c) w') : o.wp P a w next Q :=
  (oper_run hcall hs ht.rel hc h).upon fun ρ' w' c h1 h2 h3 _ => hnext ρ' w' c h1 h2 h3

theorem coper_some {nt : Nat} {ops : Array Oper} {o : Oper} {ao : AOper} (h : coper P nt ops o = some ao) : ao.dst = o.dst ∧ cop P o.op = some ao.op ∧ cguard ops o.guard = some ao.g ∧ cdst nt o.dst = true := by
  unfold coper at h
  split at h
  · rename_i h1 h2 h3; cases h; exact ⟨rfl, h1, h2, h3⟩
  · cases h

/-- Operations in the order of the text. -/
theorem ops_sound {call : CallF} (hcall : CallOk P w0 call) {nt : Nat} {ops : Array Oper} {Q : Exit → Act → World → Prop} {t' : Nat → AV} {H' : AH} : ∀ (os : List Oper) (as : List AOper) (i : Nat) (ρ : Rn) (H : AH) (w : World) (t : Nat → AV) (a : Act),
    ops.toList.drop i = os → copers P nt ops os = some as → aops call as t H = some (t', H') → Sim P w0 ρ H w → TRel ρ nt t a →
    (∀ ρ' w' tmps, Sim P w0 ρ' H' w' → TRel ρ' nt t' { a with tmps := tmps } → Fr ρ H w ρ' H' w' → Q .normal { a with tmps := tmps } w') → wpOps P ops Q (List.range' i os.length) a w
  | [], as, i, ρ, H, w, t, a, _, hc, h, hs, ht, hQ => by
    unfold copers at hc
    cases hc
    unfold aops at h
    cases h
    exact hQ ρ w a.tmps hs ht (Fr.refl _ _ _)
  | o :: os, as, i, ρ, H, w, t, a, hdrop, hc, h, hs, ht, hQ => by
    unfold copers at hc
    split at hc
    case h_2 => cases hc
    rename_i ao as' h1 h2
    cases hc
    obtain ⟨c1, c2, c3, c4⟩ := coper_some h1
    have hi : ops[i]? = some o := by
      have := congrArg List.head? hdrop
      rw [List.head?_drop] at this
      simpa using this
    have hdrop' : ops.toList.drop (i + 1) = os := by
      have := congrArg List.tail hdrop
      rw [List.tail_drop] at this
      simpa using this
    rw [List.length_cons, List.range'_succ]
    simp only [wpOps, hi]
    unfold aops at h
    split at h
    · rename_i hw
      rw [wanted_sound ht c3 hw]
      simp only [if_true]
      split at h
      · rename_i v H1 hop
        refine Or.inl (oper_sound hcall hs ht c2 hop ?_)
        intro ρ1 w1 c hv hs1 hf1
        have ht1 : TRel ρ1 nt (put t ao.dst v) (a.put o.dst c) := by rw [c1]; exact (ht.ext hf1.ext).put c4 hv
        refine ops_sound hcall os as' (i + 1) ρ1 H1 w1 _ _ hdrop' h2 h hs1 ht1 ?_
        intro ρ2 w2 tmps hs2 ht2 hf2
        have e : ({ a.put o.dst c with tmps := tmps } : Act) = { a with tmps := tmps } := by cases o.dst <;> rfl
        rw [e] at ht2 ⊢
        exact hQ ρ2 w2 tmps hs2 ht2 (hf1.trans hf2)
      · cases h
    · rename_i hw
      rw [wanted_sound ht c3 hw]
      simp only [Bool.false_eq_true, if_false]
      have ht1 : TRel ρ nt (put t ao.dst undefA) (a.put o.dst undef) := by rw [c1]; exact ht.put c4 (undef_rel _)
      refine ops_sound hcall os as' (i + 1) ρ H w _ _ hdrop' h2 h hs ht1 ?_
      intro ρ2 w2 tmps hs2 ht2 hf2
      have e : ({ a.put o.dst undef with tmps := tmps } : Act) = { a with tmps := tmps } := by cases o.dst <;> rfl
      rw [e] at ht2 ⊢
      exact hQ ρ2 w2 tmps hs2 ht2 hf2
    · cases h

end
end Go.Proofs.Ythcibbfljcfheaa.Abs
