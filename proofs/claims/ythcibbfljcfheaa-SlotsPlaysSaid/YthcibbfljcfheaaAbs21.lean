/- What the machine with choices comes to, the loaded program comes to. No condition of its own. -/
import Derived.Test.YthcibbfljcfheaaAbs20
namespace Go.Proofs.Ythcibbfljcfheaa.Abs
set_option linter.unusedVariables false
set_option linter.unusedSimpArgs false
open Go.RowKit

section
variable {P : Program} {w0 : World}

theorem fin_same {fn : AFun} {t : Nat → AV} {H : AH} {v : AV} {H' : AH} (h : afinish fn t H = some (v, H')) : H' = H := by
  unfold afinish at h
  split at h
  · cases h; rfl
  · cases h

theorem range_cons (i : Nat) (o : Oper) (os : List Oper) : List.range' i (o :: os).length = i :: List.range' (i + 1) os.length := by
  rw [List.length_cons, List.range'_succ]

/-- One step of a text, then the rest. -/
theorem Snd.head {rd : Bool} {fn : AFun} {k k' : List AItem} {t : Nat → AV} {H : AH} {R : Out → Prop} (h : Snd P w0 (.k rd fn k' t H) R)
    (hst : ∀ K, IRel P fn.nt k K → ∀ (ρ : Rn) (w : World) (a : Act), TRel ρ fn.nt t a → ∃ K', IRel P fn.nt k' K' ∧ ∀ (S : List Item) (b : Frame) (cs : List Frame), step P (lone (b.atR a (K ++ S)) cs w) = .next (lone (b.atR a (K' ++ S)) cs w)) : Snd P w0 (.k rd fn k t H) R := by
  intro K S ρ w a b cs N hK hs ht hd hro hN
  obtain ⟨K', hK', hstep⟩ := hst K hK ρ w a ht
  obtain ⟨ρ', w', a', K2, H', t', k1, k2⟩ := h K' S ρ w a b cs N hK' hs ht hd hro hN
  exact ⟨ρ', w', a', K2, H', t', .head (hstep S b cs) k1, k2⟩

/-- The state behind an operation. -/
theorem put_tmps (a : Act) (d : Option Tmp) (c : Value) : ∃ tm, a.put d c = { a with tmps := tm } := by cases d <;> exact ⟨_, rfl⟩

/-- An operation, then the rest. -/
theorem Snd.op {o : AOper} {os : List AOper} {t : Nat → AV} {H : AH} {R : Out → Prop} (hw : awanted o.g t = some true)
    (h : ∀ (nt : Nat) (ops : Array Oper) (i : Nat) (O : Oper) (rest : List Nat) (ρ : Rn) (w : World) (a : Act) (b : Frame) (k : List Item) (cs : List Frame), ops[i]? = some O → (∀ c, O.op ≠ .defer c) → cop P O.op = some o.op → Region.wanted O (yielded ops a.tmps) = true → Sim P w0 ρ H w → TRel ρ nt t a →
      ∃ ρ1 w1 c v H1, Steps P (lone (b.atR a (.inRegion ops (i :: rest) :: k)) cs w) (lone (b.atR (a.put O.dst c) (.inRegion ops rest :: k)) cs w1) ∧ VRel ρ1 v c ∧ Sim P w0 ρ1 H1 w1 ∧ Fr ρ H w ρ1 H1 w1 ∧ Snd P w0 (.o os (put t o.dst v) H1) R) : Snd P w0 (.o (o :: os) t H) R := by
  intro nt ops Os i ρ w a b k cs hdrop hc hnd hs ht
  cases Os with
  | nil => unfold copers at hc; cases hc
  | cons O Os =>
    unfold copers at hc
    split at hc
    case h_2 => cases hc
    rename_i ao as' h1 h2
    cases hc
    obtain ⟨c1, c2, c3, c4⟩ := coper_some h1
    have hi : ops[i]? = some O := by
      have := congrArg List.head? hdrop
      rw [List.head?_drop] at this
      simpa using this
    have hdrop' : ops.toList.drop (i + 1) = Os := by
      have := congrArg List.tail hdrop
      rw [List.tail_drop] at this
      simpa using this
    have hO := hnd O (Array.mem_of_getElem? hi)
    obtain ⟨ρ1, w1, c, v, H1, s1, v1, s2, f1, hnext⟩ := h nt ops i O (List.range' (i + 1) Os.length) ρ w a b k cs hi hO c2 (by rw [wanted_sound ht c3 hw]) hs ht
    have ht1 : TRel ρ1 nt (put t o.dst v) (a.put O.dst c) := by rw [c1]; exact (ht.ext f1.ext).put c4 v1
    obtain ⟨tm, etm⟩ := put_tmps a O.dst c
    rw [etm] at s1 ht1
    obtain ⟨ρ2, w2, tmps, H2, t2, s3, s4, f2, ht2, hR⟩ := hnext nt ops Os (i + 1) ρ1 w1 { a with tmps := tm } b k cs hdrop' h2 hnd s2 ht1
    rw [range_cons]
    exact ⟨ρ2, w2, tmps, H2, t2, Steps.trans s1 s3, s4, f1.trans f2, ht2, hR⟩

/-- A call of a function that is entered, in a region. -/
theorem enter_steps {ρ : Rn} {H : AH} {w : World} {a : Act} {O : Oper} {g : FuncId} {cargs : Array Value} {R1 : Out → Prop} {ops : Array Oper} {i : Nat} {rest : List Nat} {b : Frame} {k : List Item} {cs : List Frame} (ho : ops[i]? = some O) (hnd : ∀ c, O.op ≠ .defer c) (hw : Region.wanted O (yielded ops a.tmps) = true)
    (hrun : (execOp a.eval O).run P w = (callFunc g cargs).run P w) (hc : (callFunc g cargs).run P w = .ok (.enter g cargs) w ∧ Calls P g cargs w fun e w' => ∃ ρ' c v H', e = .returned c ∧ VRel ρ' v c ∧ Sim P w0 ρ' H' w' ∧ Fr ρ H w ρ' H' w' ∧ R1 (.v v H')) :
    ∃ ρ1 w1 c v H1, Steps P (lone (b.atR a (.inRegion ops (i :: rest) :: k)) cs w) (lone (b.atR (a.put O.dst c) (.inRegion ops rest :: k)) cs w1) ∧ VRel ρ1 v c ∧ Sim P w0 ρ1 H1 w1 ∧ Fr ρ H w ρ1 H1 w1 ∧ R1 (.v v H1) := by
  rw [hc.1] at hrun
  obtain ⟨e, w', fr, ⟨ρ', c, v, H', rfl, h1, h2, h3, h4⟩, hst, _, hl⟩ := hc.2 (b.atR a (.inRegion ops (i :: rest) :: k) :: cs)
  refine ⟨ρ', w', c, v, H', .head (stepR_enter ho hnd hw hrun) (Steps.trans hst (.one ?_)), h1, h2, h3, h4⟩
  have hfin : (b.atR a (.inRegion ops (i :: rest) :: k)).finish c = b.atR (a.put O.dst c) (.inRegion ops rest :: k) := by
    rw [Frame.finish_atR, ho]; rfl
  rw [← hfin]
  exact step_leave_returned hl

/-- A function's text, run to its end: a call. -/
theorem Snd.call {E : FuncId → Option AFun} (hE : ∀ f a, E f = some a → cfun P f = some a) {f : FuncId} {args : List AV} {H : AH} {R : Out → Prop} {g : AFun} (hg : E f = some g) (hl : args.length ≤ g.nt) (h : Snd P w0 (.k false g [.code g.body] (ainit args) H) R) : Snd P w0 (.c f args H) R := by
  intro ρ w cargs hs hargs
  have hcf := hE f g hg
  unfold cfun at hcf
  split at hcf
  case h_2 => cases hcf
  rename_i fn hfn
  split at hcf
  case h_2 => cases hcf
  rename_i C hC
  split at hcf
  case h_2 => cases hcf
  rename_i c r hc hr
  split at hcf
  case isTrue => cases hcf
  rename_i hnm
  cases hcf
  refine ⟨callFunc_enter hfn (by simpa using hnm) (by rw [hC]; rfl), ?_⟩
  have hal := hargs.length
  simp only [Array.length_toList] at hal
  intro cs
  let b : Frame := { (default : Frame) with fn := f, kind := .normal }
  have henter : Frame.enter P f cargs .normal = b.atR { tmps := cargs ++ Array.replicate (fn.ntmps - cargs.size) undef, defers := [] } [.code C] := by
    simp [Frame.enter, Frame.atR, hfn, hC, b]
    rfl
  have htr : TRel ρ fn.ntmps (ainit args) { tmps := cargs ++ Array.replicate (fn.ntmps - cargs.size) undef, defers := [] } := by
    refine ⟨?_, by simp; simp at hl; omega⟩
    intro k
    unfold ainit
    simp only [Array.getD_eq_getD_getElem?, Array.getElem?_append, List.getD]
    split
    · rename_i hk
      have h1 : args[k]? = some (args[k]'(by omega)) := List.getElem?_eq_getElem (by omega)
      obtain ⟨u, h2, h3⟩ := hargs.get k h1
      rw [h1]
      have h4 : cargs[k]? = some u := by rw [← Array.getElem?_toList]; exact h2
      rw [h4]
      exact h3
    · rename_i hk
      rw [List.getElem?_eq_none (by omega)]
      by_cases hk2 : k - cargs.size < fn.ntmps - cargs.size
      · simp [hk2]; exact undef_rel _
      · simp [Array.getElem?_replicate, hk2]; exact undef_rel _
  obtain ⟨ρ', w', a', K', H', t', k1, k2, k3, k4, k5, k6, v, k7, k8⟩ := h [.code C] [] ρ w _ b cs w.heap.size (.code hc .nil) hs htr (DOk.nil _ _ _ _) rfl (Nat.le_refl _)
  rw [List.append_nil, ← henter] at k1
  obtain ⟨rs, e1, e2, e3⟩ := k2
  have hret : step P (lone (b.atR a' K') cs w') = .next (lone { b.atR a' K' with mode := .returning } cs w') := by
    rcases k6 with rfl | ⟨k2, rfl⟩
    · exact stepR_end rfl
    · exact stepR_ret rfl
  obtain ⟨w2, m1, m2, m3, m4⟩ := take_all (w0 := w0) (fr := { b.atR a' K' with mode := .returning }) (cs := cs) rfl hs.below.size rs w' e2 k3 e3
  have hfr : ({ { b.atR a' K' with mode := .returning } with defers := rs.map fun r => { target := .collected r, args := #[] } } : Frame) = { b.atR a' K' with mode := .returning } := by
    rw [← e1]; rfl
  rw [hfr] at m1
  obtain ⟨_, c', f1, f2⟩ := finish_sound m2 k5 hr k7
  refine ⟨.returned c', w2, _, ⟨ρ', c', v, H', rfl, f2, m2, ⟨k4.ext, by rw [m3]; exact k4.size, k4.foot, fun k hk hn => (m4 k hk).trans (k4.same k hk hn)⟩, k8⟩, Steps.trans k1 (.head hret m1), rfl, rfl, rfl, rfl, fn, hfn, f1⟩

set_option maxHeartbeats 1000000 in
/-- What the machine with choices comes to, the model comes to. -/
theorem ev_sound (hm : P.follows .mixedOrders = true) {T : Tbl} {E : FuncId → Option AFun} (hcall : CallOk P w0 (callR T)) (hE : ∀ f a, E f = some a → cfun P f = some a) {c : Cfg} {R : Out → Prop} (h : Ev T E c R) : Snd P w0 c R := by
  induction h with
  | fin h hR =>
    have := fin_same h
    subst this
    intro K S ρ w a b cs N hK hs ht hd hro hN
    cases hK
    exact ⟨ρ, w, a, S, _, _, .refl _ _, hd, hs, Fr.refl _ _ _, ht, Or.inl rfl, _, h, hR⟩
  | seg hR =>
    intro K S ρ w a b cs N hK hs ht hd hro hN
    cases hK
    exact ⟨ρ, w, a, S, _, _, .refl _ _, hd, hs, Fr.refl _ _ _, ht, rfl, hR⟩
  | ret h hR =>
    have := fin_same h
    subst this
    intro K S ρ w a b cs N hK hs ht hd hro hN
    cases hK with
    | code hc hk =>
      cases cc_ret hc
      exact ⟨ρ, w, a, _, _, _, .refl _ _, hd, hs, Fr.refl _ _ _, ht, Or.inr ⟨_, rfl⟩, _, h, hR⟩
  | inBlock h ih => exact ih.head fun K hK ρ w a ht => by cases hK with | inBlock hk => exact ⟨_, hk, fun S b cs => stepR_inBlock⟩
  | inLoop h ih => exact ih.head fun K hK ρ w a ht => by cases hK with | inLoop hc hk => exact ⟨_, .code hc (.inLoop hc hk), fun S b cs => stepR_inLoop⟩
  | skip h ih => exact ih.head fun K hK ρ w a ht => by cases hK with | code hc hk => cases cc_skip hc; exact ⟨_, hk, fun S b cs => stepR_skip⟩
  | seq h ih =>
    refine ih.head fun K hK ρ w a ht => ?_
    cases hK with
    | code hc hk =>
      obtain ⟨A, B, rfl, h1, h2⟩ := cc_seq hc
      exact ⟨_, .code h1 (.code h2 hk), fun S b cs => stepR_seq⟩
  | block h ih =>
    refine ih.head fun K hK ρ w a ht => ?_
    cases hK with
    | code hc hk =>
      obtain ⟨A, rfl, h1⟩ := cc_block hc
      exact ⟨_, .code h1 (.inBlock hk), fun S b cs => stepR_block⟩
  | loop h ih =>
    refine ih.head fun K hK ρ w a ht => ?_
    cases hK with
    | code hc hk =>
      obtain ⟨A, rfl, h1⟩ := cc_loop hc
      exact ⟨_, .code h1 (.inLoop h1 hk), fun S b cs => stepR_loop⟩
  | @cond rd fn c x y k t H R z hz h ih =>
    refine ih.head fun K hK ρ w a ht => ?_
    cases hK with
    | code hc hk =>
      obtain ⟨c', A, B, rfl, h0, h1, h2⟩ := cc_cond hc
      have hr := cx_rel ht.rel h0
      rw [hz] at hr
      unfold VRel at hr
      cases z
      · exact ⟨_, .code h2 hk, fun S b cs => stepR_cond hr⟩
      · exact ⟨_, .code h1 hk, fun S b cs => stepR_cond hr⟩
  | exit hk h ih =>
    refine ih.head fun K hK ρ w a ht => ?_
    cases hK with
    | code hc hk' =>
      cases cc_exit hc
      obtain ⟨K', h1, h2⟩ := exit_rel hk' hk
      exact ⟨K', h2, fun S b cs => stepR_exit (exit_append h1)⟩
  | reg ho h iho ih =>
    intro K S ρ w a b cs N hK hs ht hd hro hN
    cases hK with
    | code hc hk =>
      obtain ⟨id, ops, rfl, h1⟩ := cc_reg hc
      obtain ⟨ρ1, w1, tmps, H1, t1, s1, s2, f1, ht1, hR1⟩ := iho _ ops ops.toList 0 ρ w a b (_ ++ S) cs rfl h1 (fun o ho => copers_nd h1 o (Array.mem_toList_iff.2 ho)) hs ht
      obtain ⟨ρ', w', a', K', H', t', k1, k2, k3, k4, k5⟩ := ih _ _ hR1 _ S ρ1 w1 { a with tmps := tmps } b cs N hk s2 ht1 (hd.fr f1) hro (Nat.le_trans hN f1.size)
      refine ⟨ρ', w', a', K', H', t', .head stepR_region (Steps.trans ?_ k1), k2, k3, f1.trans k4, k5⟩
      rw [List.range_eq_range']
      simpa using s1
  | @drw rd fn das k t H R t' H' ho h ih =>
    intro K S ρ w a b cs N hK hs ht hd hro hN
    cases hK with
    | @code c C k2 K hc hk =>
      obtain ⟨id, ops, rfl, h1⟩ := cc_drw hc
      have hany := drw_any hcall h1 ho hs ht (Q := fun e a' w' => e = .normal ∧ ∃ ρ' tmps, a' = { a with tmps := tmps } ∧ Sim P w0 ρ' H' w' ∧ TRel ρ' fn.nt t' { a with tmps := tmps } ∧ Fr ρ H w ρ' H' w') (fun ρ' w' tmps h1 h2 h3 => ⟨rfl, ρ', tmps, rfl, h1, h2, h3⟩)
      have hops := wpAny_sound (md := .any) ops.size (w.tape w.drawn (.order b.fn id)) _ a _ hany
      obtain ⟨a1, w1, ⟨ρ1, tmps, rfl, s2, ht1, f1⟩, s1⟩ := wp_opsR (b := b) (k := K ++ S) (cs := cs) (cdrawn_nd h1) _ a _ hops
      obtain ⟨ρ', w', a', K', H2, t2, k1, k2, k3, k4, k5⟩ := ih _ S ρ1 w1 { a with tmps := tmps } b cs N hk s2 ht1 (hd.fr f1) hro (Nat.le_trans hN f1.size)
      refine ⟨ρ', w', a', K', H2, t2, .head (stepR_region_draw (P := P)) (Steps.trans ?_ k1), k2, k3, f1.trans k4, k5⟩
      simp only [Region.schedule, hm, Bool.true_or, if_true]
      exact s1
  | onil hR =>
    intro nt ops Os i ρ w a b k cs hdrop hc hnd hs ht
    cases Os with
    | nil => exact ⟨ρ, w, a.tmps, _, _, .one stepR_region_end, hs, Fr.refl _ _ _, ht, hR⟩
    | cons O Os =>
      unfold copers at hc
      split at hc <;> cases hc
  | @ooff o os t H R hw h ih =>
    intro nt ops Os i ρ w a b k cs hdrop hc hnd hs ht
    cases Os with
    | nil => unfold copers at hc; cases hc
    | cons O Os =>
      unfold copers at hc
      split at hc
      case h_2 => cases hc
      rename_i ao as' h1 h2
      cases hc
      obtain ⟨c1, c2, c3, c4⟩ := coper_some h1
      have hi : ops[i]? = some O := by
        have := congrArg List.head? hdrop
        rw [List.head?_drop] at this
        simpa using this
      have hdrop' : ops.toList.drop (i + 1) = Os := by
        have := congrArg List.tail hdrop
        rw [List.tail_drop] at this
        simpa using this
      have ht1 : TRel ρ nt (put t o.dst undefA) (a.put O.dst undef) := by rw [c1]; exact ht.put c4 (undef_rel _)
      obtain ⟨tm, etm⟩ := put_tmps a O.dst undef
      have hs1 := stepR_op_skip (P := P) (b := b) (a := a) (k := k) (cs := cs) (w := w) (ops := ops) (i := i) (rest := List.range' (i + 1) Os.length) (by simp [hi, wanted_sound ht c3 hw])
      rw [hi] at hs1
      simp only [Option.bind_some] at hs1
      rw [etm] at hs1 ht1
      obtain ⟨ρ2, w2, tmps, H2, t2, s3, s4, f2, ht2, hR⟩ := ih nt ops Os (i + 1) ρ w { a with tmps := tm } b k cs hdrop' h2 hnd hs ht1
      rw [range_cons]
      exact ⟨ρ2, w2, tmps, H2, t2, .head hs1 s3, s4, f2, ht2, hR⟩
  | oop hw hop h ih =>
    refine Snd.op hw fun nt ops i O rest ρ w a b k cs ho hnd hc hwt hs ht => ?_
    obtain ⟨ρ1, w1, c, s1, v1, s2, f1⟩ := oper_steps (oper_run hcall hs ht.rel hc hop) ho hnd hwt
    exact ⟨ρ1, w1, c, _, _, s1, v1, s2, f1, ih⟩
  | ocall hw hop hc h ihc ih =>
    refine Snd.op hw fun nt ops i O rest ρ w a b k cs ho hnd hcp hwt hs ht => ?_
    rw [hop] at hcp
    obtain ⟨cargs, hr, hrun⟩ := exec_call (P := P) (w := w) ht.rel hcp
    obtain ⟨ρ1, w1, c, v, H1, s1, v1, s2, f1, hR1⟩ := enter_steps (b := b) (k := k) (cs := cs) (rest := rest) ho hnd hwt hrun (ihc ρ w cargs hs hr)
    exact ⟨ρ1, w1, c, v, H1, s1, v1, s2, f1, ih v H1 hR1⟩
  | ocallv hw hop hf hc h ihc ih =>
    refine Snd.op hw fun nt ops i O rest ρ w a b k cs ho hnd hcp hwt hs ht => ?_
    rw [hop] at hcp
    obtain ⟨cargs, hr, hrun⟩ := exec_callv (P := P) (w := w) ht.rel hcp hf
    obtain ⟨ρ1, w1, c, v, H1, s1, v1, s2, f1, hR1⟩ := enter_steps (b := b) (k := k) (cs := cs) (rest := rest) ho hnd hwt hrun (ihc ρ w cargs hs hr)
    exact ⟨ρ1, w1, c, v, H1, s1, v1, s2, f1, ih v H1 hR1⟩
  | oyield hw hop hf hc h ihc ih =>
    refine Snd.op hw fun nt ops i O rest ρ w a b k cs ho hnd hcp hwt hs ht => ?_
    rw [hop] at hcp
    obtain ⟨B, base, N, cargs, hρ, hr, hrun⟩ := exec_yield (P := P) (w := w) ht.rel hcp hf
    obtain ⟨f, tmps, assign, body, hy, hst⟩ := ihc ρ w cargs B base N hρ hs hr
    rw [hy] at hrun
    obtain ⟨ρ1, c, v, w1, H1, s1, v1, s2, f1, hR1⟩ := hst (b.atR a (.inRegion ops (i :: rest) :: k)) cs
    have hfin : (b.atR a (.inRegion ops (i :: rest) :: k)).finish c = b.atR (a.put O.dst c) (.inRegion ops rest :: k) := by
      rw [Frame.finish_atR, ho]; rfl
    rw [hfin] at s1
    exact ⟨ρ1, w1, c, v, H1, .head (stepR_round ho hnd hwt hrun) s1, v1, s2, f1, ih v H1 hR1⟩
  | @onxt o os t H R x i0 m cl all left cur es hw hop hx hi hmm h0 h1 ih0 ih1 =>
    refine Snd.op hw fun nt ops i O rest ρ w a b k cs ho hnd hcp hwt hs ht => ?_
    rw [hop] at hcp
    obtain ⟨y, hy1, hy2⟩ := cop_nxt hcp
    have rx := cx_rel ht.rel hy2
    rw [hx] at rx
    have hrun : ∀ {c : Value} {w1 : World}, (Instr.next (a.eval y) false O.type).run P w = .ok c w1 → (execOp a.eval O).run P w = .ok (.value c) w1 := by
      intro c w1 h
      unfold execOp
      simp only [hy1, Sem.run_bind, h, Result.andThen_ok, Sem.run_pure]
    obtain ⟨hnodup, ⟨hl, hn⟩ | ⟨j, n, e, kk, vv, w1, g1, g2, g3, g4, g5, g6, g7, g8⟩⟩ := next_sound hs rx hi hmm O.type
    · refine ⟨ρ, w, _, _, H, .one (stepR_value ho hnd hwt (hrun hn)), ?_, hs, Fr.refl _ _ _, ih0 hl⟩
      unfold VRel
      exact ⟨_, rfl, VRels.cons (by unfold VRel; rfl) (VRels.nil _)⟩
    · refine ⟨ρ, w1, _, _, _, .one (stepR_value ho hnd hwt (hrun g4)), ?_, g7, g8, ih1 hnodup j n e g1 g2 g3⟩
      unfold VRel
      exact ⟨_, rfl, VRels.cons (by unfold VRel; rfl) (VRels.cons g5 (VRels.cons g6 (VRels.nil _)))⟩
  | onxn hw hop hx hi h ih =>
    refine Snd.op hw fun nt ops i O rest ρ w a b k cs ho hnd hcp hwt hs ht => ?_
    rw [hop] at hcp
    obtain ⟨y, hy1, hy2⟩ := cop_nxt hcp
    have rx := cx_rel ht.rel hy2
    rw [hx] at rx
    have hn := next_none hs rx hi (P := P) O.type
    have hrun : (execOp a.eval O).run P w = .ok (.value (.tuple #[.bool false])) w := by
      unfold execOp
      simp only [hy1, Sem.run_bind, hn, Result.andThen_ok, Sem.run_pure]
    refine ⟨ρ, w, _, _, _, .one (stepR_value ho hnd hwt hrun), ?_, hs, Fr.refl _ _ _, ih⟩
    unfold VRel
    exact ⟨_, rfl, VRels.cons (by unfold VRel; rfl) (VRels.nil _)⟩
  | call hg hl h ih => exact Snd.call hE hg hl ih
  | @rf fn f ps x y k t H R R1 g first caps hf hc hr h ihc ih =>
    intro K S ρ w a b cs N hK hs ht hd hro hN
    cases hK with
    | @code _ _ _ K hc' hk =>
    obtain ⟨F, PS, A, B, rfl, h0, h1, h2, h3⟩ := cc_rf hc'
    have hro' : b.roundOf = none := by cases hb : b.roundOf with
      | none => rfl
      | some l => rw [hb] at hro; cases hro
    have rf := cx_rel ht.rel h0
    rw [hf] at rf
    unfold VRel at rf
    obtain ⟨xs, ys, r1, r2, r3⟩ := rf
    have hn : ρ H.n = none := hs.fresh _ (Nat.le_refl _)
    let w1 : World := { w with heap := w.heap.push (.deferred (some [])) }
    have hw1 : w1.heap.size = w.heap.size + 1 := by simp [w1]
    let L : Loop := { state := .ready, pending := none, fn := b.fn, tmps := a.tmps, params := PS, assign := A, body := B, defers := w.heap.size }
    let w2 : World := { w1 with heap := w1.heap.push (.loop L) }
    have hs1 : Sim P w0 ρ H w1 := hs.push _
    have hs2 : Sim P w0 (ρ.add H.n (w1.heap.size, 0, 0)) (H.new (.lp true fn.nt t ps x y)) w2 := hs1.new _ rfl (.loop L) 0 ⟨L, by simp, rfl, rfl, fun k => VRel.ext (Rn.add_ext hn) _ (ht.rel k), ht.size, h1, h2, h3⟩
    have f2 : Fr ρ H w (ρ.add H.n (w1.heap.size, 0, 0)) (H.new (.lp true fn.nt t ps x y)) w2 := (Fr.push ρ H w _).trans (Fr.new hs1 _ _ _)
    have he : (Instr.enterLoop b.fn a.tmps PS A B b.roundOf).run P w = .ok (w1.heap.size, [{ target := .collected w.heap.size, args := #[] }]) w2 := by
      rw [hro']
      simp [Instr.enterLoop, newObj, Sem.run, Sem.run_bind, Result.andThen, w1, w2, L]
      rfl
    have hrel : VRels (ρ.add H.n (w1.heap.size, 0, 0)) (first ++ [.fn (.yield H.n) [] []] ++ caps) (xs ++ #[Value.func (.yield w1.heap.size) #[] #[]] ++ ys).toList := by
      simp only [Array.toList_append]
      refine VRels.append (VRels.append (VRels.ext (Rn.add_ext hn) _ r2) (VRels.cons ?_ (VRels.nil _))) (VRels.ext (Rn.add_ext hn) _ r3)
      unfold VRel
      exact ⟨_, _, _, Rn.add_self _ _ _, rfl, rfl, rfl⟩
    obtain ⟨hent, hcalls⟩ := ihc _ w2 _ hs2 hrel
    have hres : (resolve a.eval (rfCall F w1.heap.size) 0).run P w2 = .ok { target := .fn (.func g) ys, args := xs ++ #[Value.func (.yield w1.heap.size) #[] #[]] } w2 := by
      have hc1 : a.eval (.const (Value.func (.yield w1.heap.size) #[] #[])) = Value.func (.yield w1.heap.size) #[] #[] := rfl
      simp only [rfCall, resolve, r1, Deferred.ofValue, Sem.run_pure, List.map_toArray, List.map_cons, List.map_nil, hc1]
    have hinv : (invoke (.fn (.func g) ys) (xs ++ #[Value.func (.yield w1.heap.size) #[] #[]])).run P w2 = .ok (.enter g (xs ++ #[Value.func (.yield w1.heap.size) #[] #[]] ++ ys)) w2 := hent
    have s1 := stepR_rf (k := K ++ S) (cs := cs) he hres hinv
    obtain ⟨e, w3, fr, ⟨ρ3, c3, v3, H3, rfl, v1, hs3, f3, hR1⟩, s2, _, hl⟩ := hcalls (b.atR { a with defers := [{ target := .collected w.heap.size, args := #[] }] ++ a.defers } (.inRangeFunc w1.heap.size :: (K ++ S)) :: cs)
    have s3 := step_leave_returned (c := b.atR { a with defers := [{ target := .collected w.heap.size, args := #[] }] ++ a.defers } (.inRangeFunc w1.heap.size :: (K ++ S))) (cs := cs) hl
    rw [finish_inRangeFunc] at s3
    have ho3 := hr _ _ hR1
    have hx3 : ρ3 H.n = some (w1.heap.size, 0, 0) := f3.ext _ _ (Rn.add_self _ _ _)
    obtain ⟨q, hq, L3, g1, g2, g3, _⟩ := hs3.live _ _ ho3
    rw [hx3] at hq
    cases hq
    have g1' : w3.heap[w1.heap.size]? = some (.loop L3) := g1
    let w4 : World := { w3 with heap := w3.heap.setIfInBounds w1.heap.size (.loop { L3 with state := .exhausted, pending := none }) }
    have hend : (Instr.endLoop w1.heap.size).run P w3 = .ok none w4 := by
      have hst : (L3.state == LoopState.busy) = false := by rw [g2]; rfl
      simp only [Instr.endLoop, Instr.getLoop, Sem.run_bind, run_getObj_of g1' (fun _ _ _ h => by cases h), Result.andThen_ok, Sem.run_pure, hst, Bool.false_eq_true, if_false, run_setObj_of _ g1' (fun _ _ _ h => by cases h), g3]
      rfl
    have s4 := stepR_endLoop (b := b) (a := { a with defers := [{ target := .collected w.heap.size, args := #[] }] ++ a.defers }) (k := K ++ S) (cs := cs) hend
    have hfoot : Foot ρ3 H3 w1.heap.size := ⟨H.n, _, _, ho3, rfl, hx3, rfl⟩
    have hnf : ¬ Foot ρ3 (H3.drop H.n) w1.heap.size := by
      rintro ⟨b1, o1, x1, k1, k2, k3, k4⟩
      simp only [AH.drop] at k1
      split at k1
      · cases k1
      · rename_i hne
        exact hne (hs3.inj _ _ _ _ _ _ k1 k2 ho3 k3 hx3 (by rw [k4]))
    have hs4 : Sim P w0 ρ3 (H3.drop H.n) w4 := (hs3.drop H.n).aside (hs3.own _ _ _ ho3 rfl hx3) hnf _
    have f4 : Fr ρ3 H3 w3 ρ3 (H3.drop H.n) w4 := ⟨Ext.refl _, by simp [w4], fun k hk => Or.inl hk.drop, fun k hk hn => by
      have : k ≠ w1.heap.size := fun e => hn (e ▸ hfoot)
      show (w3.heap.setIfInBounds _ _)[k]? = _
      simp [Ne.symm this]⟩
    have hd2 : DOk N (ρ.add H.n (w1.heap.size, 0, 0)) (H.new (.lp true fn.nt t ps x y)) w2 ([{ target := .collected w.heap.size, args := #[] }] ++ a.defers) := by
      obtain ⟨rs, e1, e2, e3⟩ := hd.fr f2
      obtain ⟨rs', e1', e2', e3'⟩ := hd
      refine ⟨w.heap.size :: rs, by rw [e1]; rfl, List.nodup_cons.2 ⟨fun hm => ?_, e2⟩, ?_⟩
      · have h1 : ({ target := .collected w.heap.size, args := #[] } : Deferred) ∈ a.defers := by rw [e1]; exact List.mem_map.2 ⟨_, hm, rfl⟩
        rw [e1'] at h1
        obtain ⟨r', hr', e⟩ := List.mem_map.1 h1
        have h2 := (e3' r' hr').2.1
        injection e with e _
        injection e with e
        omega
      · intro r hr
        rcases List.mem_cons.1 hr with rfl | hr
        · refine ⟨hN, by simp [w2, w1]; omega, ?_, ?_⟩
          · rintro ⟨b1, o1, x1, k1, k2, k3, k4⟩
            simp only [AH.new] at k1
            unfold Rn.add at k3
            split at k1
            · rename_i e
              rw [if_pos e] at k3
              cases k3
              simp at k4
              omega
            · rename_i e
              rw [if_neg e] at k3
              have := Foot.lt hs ⟨b1, o1, x1, k1, k2, k3, k4⟩
              omega
          · show (w1.heap.push _)[w.heap.size]? = _
            rw [Array.getElem?_push, if_neg (by omega)]
            simp [w1]
        · exact e3 r hr
    have f24 := f2.trans (f3.trans f4)
    obtain ⟨ρ5, w5, a5, K5, H5, t5, k1, k2, k3, k4, k5⟩ := ih _ _ hR1 K S ρ3 w4 { a with defers := [{ target := .collected w.heap.size, args := #[] }] ++ a.defers } b cs N hk hs4 ⟨(ht.ext f24.ext).rel, (ht.ext f24.ext).size⟩ (hd2.fr (f3.trans f4)) hro (Nat.le_trans hN f24.size)
    exact ⟨ρ5, w5, a5, K5, H5, t5, .head s1 (Steps.trans s2 (.head s3 (.head s4 k1))), k2, k3, f24.trans k4, k5⟩
  | @yield l args H R R1 R2 nt t ps x y hl hn hp ha hr hb hfin iha ihb =>
    intro ρ w cargs B base N hρ hs hargs
    obtain ⟨q, hq, L, g1, g2, g3, g4, g5, g6, g7, g8⟩ := hs.live _ _ hl
    rw [hρ] at hq
    cases hq
    have g1' : w.heap[B]? = some (.loop L) := g1
    have hal := hargs.length
    obtain ⟨p1, p2⟩ := foldl_puts (nt := nt) (tm := L.tmps) hp hargs hn g4 g5
    refine ⟨L.fn, (ps.zip cargs.toList).foldl (fun tmps x => tmps.setIfInBounds x.1 x.2) L.tmps, L.assign, L.body, ?_, ?_⟩
    · have hsz : ¬ (cargs.size ≠ L.params.size) := by
        have e1 : L.params.toList.length = ps.length := by rw [g6]
        simp only [Array.length_toList] at e1 hal
        omega
      simp only [Instr.yield, Instr.getLoop, Sem.run_bind, run_getObj_of g1' (fun _ _ _ h => by cases h), Result.andThen_ok, Sem.run_pure, if_neg hsz]
      rw [← g6, ← Array.foldl_toList, Array.toList_zip]
    · intro c cs
      let bb : Frame := { (default : Frame) with fn := L.fn, kind := .normal, roundOf := some B }
      have hrd : Frame.round B L.fn ((ps.zip cargs.toList).foldl (fun tmps x => tmps.setIfInBounds x.1 x.2) L.tmps) L.assign L.body .normal = bb.atR { tmps := (ps.zip cargs.toList).foldl (fun tmps x => tmps.setIfInBounds x.1 x.2) L.tmps, defers := [] } ([.code L.assign] ++ [.beginRound, .code L.body]) := by
        simp [Frame.round, Frame.atR, bb]
      obtain ⟨ρ1, w1, a1, K1, H1, t1, s1, _, hs1, f1, ht1, rfl, hR1⟩ := iha [.code L.assign] [.beginRound, .code L.body] ρ w { tmps := (ps.zip cargs.toList).foldl (fun tmps x => tmps.setIfInBounds x.1 x.2) L.tmps, defers := [] } bb (c :: cs) 0 (.code g7 .nil) hs ⟨p1, p2⟩ (DOk.nil _ _ _ _) rfl (Nat.zero_le _)
      rw [← hrd] at s1
      have ho1 := hr _ _ hR1
      have hρ1 := f1.ext _ _ hρ
      obtain ⟨q, hq, L1, m1, m2, m3, m4, m5, m6, m7, m8⟩ := hs1.live _ _ ho1
      rw [hρ1] at hq
      cases hq
      have m1' : w1.heap[B]? = some (.loop L1) := m1
      let w2 : World := { w1 with heap := w1.heap.setIfInBounds B (.loop { L1 with state := .busy }) }
      have hh := Go.MapKept.heap_set (o' := .loop { L1 with state := .busy }) m1'
      have hbeg : (Instr.beginRound B).run P w1 = .ok () w2 := by
        have hst : L1.state = LoopState.ready := m2
        simp only [Instr.beginRound, Instr.getLoop, Sem.run_bind, run_getObj_of m1' (fun _ _ _ h => by cases h), Result.andThen_ok, Sem.run_pure, run_setObj_of _ m1' (fun _ _ _ h => by cases h), hst]
        rfl
      have hbel : Below w0.heap.size w1 w2 := ⟨rfl, rfl, rfl, by simp [w2], fun k hk => hh.2 k (by have := hs1.own _ _ _ ho1 rfl hρ1; simp only at this; omega)⟩
      have hs2 : Sim P w0 ρ1 (H1.set l (.lp false nt t ps x y)) w2 := hs1.turn ho1 rfl hρ1 hbel (fun k hk => hh.2 k hk) rfl ⟨_, hh.1, rfl, m3, m4, m5, m6, m7, m8⟩
      have f2 : Fr ρ1 H1 w1 ρ1 (H1.set l (.lp false nt t ps x y)) w2 := Fr.turn ho1 rfl hρ1 (by simp [w2]) (fun k hk => hh.2 k hk)
      have s2 : step P (lone (bb.atR a1 [.beginRound, .code L.body]) (c :: cs) w1) = .next (lone (bb.atR a1 [.code L.body]) (c :: cs) w2) := stepR_beginRound rfl hbeg
      obtain ⟨ρ3, w3, a3, K3, H3, t3, s3, _, hs3, f3, ht3, rfl, hR2⟩ := ihb _ _ hR1 [.code L.body] [] ρ1 w2 a1 bb (c :: cs) 0 (.code g8 .nil) hs2 ht1 (by
        rename_i hd1
        exact hd1.fr f2) rfl (Nat.zero_le _)
      obtain ⟨ho3, hRv⟩ := hfin _ _ hR2
      have hρ3 := f3.ext _ _ hρ1
      obtain ⟨q, hq, L3, j1, j2, j3, j4, j5, j6, j7, j8⟩ := hs3.live _ _ ho3
      rw [hρ3] at hq
      cases hq
      have j1' : w3.heap[B]? = some (.loop L3) := j1
      let w4 : World := { w3 with heap := w3.heap.setIfInBounds B (.loop { L3 with state := .ready, pending := none }) }
      have hh3 := Go.MapKept.heap_set (o' := .loop { L3 with state := .ready, pending := none }) j1'
      have hend : (Instr.endRound B none).run P w3 = .ok (.bool true) w4 := by
        simp only [Instr.endRound, Instr.getLoop, Sem.run_bind, run_getObj_of j1' (fun _ _ _ h => by cases h), Result.andThen_ok, Sem.run_pure, run_setObj_of _ j1' (fun _ _ _ h => by cases h)]
        rfl
      have hbel3 : Below w0.heap.size w3 w4 := ⟨rfl, rfl, rfl, by simp [w4], fun k hk => hh3.2 k (by have := hs3.own _ _ _ ho3 rfl hρ3; simp only at this; omega)⟩
      have s4 : step P (lone (bb.atR a3 []) (c :: cs) w3) = .next (lone (c.finish (.bool true)) cs w4) := stepR_round_end rfl rfl hend
      refine ⟨ρ3, .bool true, .b true, w4, H3.set l (.lp true nt t ps x y), Steps.trans s1 (.head s2 (Steps.trans s3 (.one s4))), by unfold VRel; rfl, hs3.turn ho3 rfl hρ3 hbel3 (fun k hk => hh3.2 k hk) rfl ⟨_, hh3.1, rfl, rfl, j4, j5, j6, j7, j8⟩, ((f1.trans f2).trans f3).trans (Fr.turn ho3 rfl hρ3 (by simp [w4]) (fun k hk => hh3.2 k hk)), hRv⟩

end
end Go.Proofs.Ythcibbfljcfheaa.Abs
