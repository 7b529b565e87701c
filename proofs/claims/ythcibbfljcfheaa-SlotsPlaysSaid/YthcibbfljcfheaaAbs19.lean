/- The texts behind the plain machine's; calls, rounds, and steps of iterators in the model. No condition of their own. -/
import Derived.Test.YthcibbfljcfheaaAbs18
namespace Go.Proofs.Ythcibbfljcfheaa.Abs
set_option linter.unusedVariables false
set_option linter.unusedSimpArgs false
open Go.RowKit

section
variable {P : Program} {nt : Nat} {C : Code}

theorem cc_skip (h : ccode P nt C = some .skip) : C = .skip := by
  cases C <;> (try simp only [ccode] at h) <;> try (cases h; done)
  case skip => rfl
  case region id ops d => cases d <;> simp only [ccode] at h <;> (obtain ⟨_, _, h⟩ := omap_some h; cases h)
  case seq A B => split at h <;> cases h
  case cond c A B => split at h <;> cases h
  case block id A => obtain ⟨_, _, h⟩ := omap_some h; cases h
  case loop A => obtain ⟨_, _, h⟩ := omap_some h; cases h
  case rangeFunc f ps A B =>
    split at h
    · split at h <;> cases h
    · cases h
theorem cc_ret (h : ccode P nt C = some .ret) : C = .ret := by
  cases C <;> (try simp only [ccode] at h) <;> try (cases h; done)
  case ret => rfl
  case region id ops d => cases d <;> simp only [ccode] at h <;> (obtain ⟨_, _, h⟩ := omap_some h; cases h)
  case seq A B => split at h <;> cases h
  case cond c A B => split at h <;> cases h
  case block id A => obtain ⟨_, _, h⟩ := omap_some h; cases h
  case loop A => obtain ⟨_, _, h⟩ := omap_some h; cases h
  case rangeFunc f ps A B =>
    split at h
    · split at h <;> cases h
    · cases h
theorem cc_exit {id : Nat} (h : ccode P nt C = some (.exit id)) : C = .exit id := by
  cases C <;> (try simp only [ccode] at h) <;> try (cases h; done)
  case exit id => cases h; rfl
  case region id ops d => cases d <;> simp only [ccode] at h <;> (obtain ⟨_, _, h⟩ := omap_some h; cases h)
  case seq A B => split at h <;> cases h
  case cond c A B => split at h <;> cases h
  case block id A => obtain ⟨_, _, h⟩ := omap_some h; cases h
  case loop A => obtain ⟨_, _, h⟩ := omap_some h; cases h
  case rangeFunc f ps A B =>
    split at h
    · split at h <;> cases h
    · cases h
theorem cc_seq {a b : ACode} (h : ccode P nt C = some (.seq a b)) : ∃ A B, C = .seq A B ∧ ccode P nt A = some a ∧ ccode P nt B = some b := by
  cases C <;> (try simp only [ccode] at h) <;> try (cases h; done)
  case seq A B =>
    split at h
    · rename_i h1 h2; cases h; exact ⟨A, B, rfl, h1, h2⟩
    · cases h
  case region id ops d => cases d <;> simp only [ccode] at h <;> (obtain ⟨_, _, h⟩ := omap_some h; cases h)
  case cond c A B => split at h <;> cases h
  case block id A => obtain ⟨_, _, h⟩ := omap_some h; cases h
  case loop A => obtain ⟨_, _, h⟩ := omap_some h; cases h
  case rangeFunc f ps A B =>
    split at h
    · split at h <;> cases h
    · cases h
theorem cc_cond {c : AX} {a b : ACode} (h : ccode P nt C = some (.cond c a b)) : ∃ c' A B, C = .cond c' A B ∧ cx c' = some c ∧ ccode P nt A = some a ∧ ccode P nt B = some b := by
  cases C <;> (try simp only [ccode] at h) <;> try (cases h; done)
  case cond c' A B =>
    split at h
    · rename_i h0 h1 h2; cases h; exact ⟨c', A, B, rfl, h0, h1, h2⟩
    · cases h
  case region id ops d => cases d <;> simp only [ccode] at h <;> (obtain ⟨_, _, h⟩ := omap_some h; cases h)
  case seq A B => split at h <;> cases h
  case block id A => obtain ⟨_, _, h⟩ := omap_some h; cases h
  case loop A => obtain ⟨_, _, h⟩ := omap_some h; cases h
  case rangeFunc f ps A B =>
    split at h
    · split at h <;> cases h
    · cases h
theorem cc_block {id : Nat} {a : ACode} (h : ccode P nt C = some (.block id a)) : ∃ A, C = .block id A ∧ ccode P nt A = some a := by
  cases C <;> (try simp only [ccode] at h) <;> try (cases h; done)
  case block id A => obtain ⟨_, h1, h⟩ := omap_some h; cases h; exact ⟨A, rfl, h1⟩
  case region id ops d => cases d <;> simp only [ccode] at h <;> (obtain ⟨_, _, h⟩ := omap_some h; cases h)
  case seq A B => split at h <;> cases h
  case cond c A B => split at h <;> cases h
  case loop A => obtain ⟨_, _, h⟩ := omap_some h; cases h
  case rangeFunc f ps A B =>
    split at h
    · split at h <;> cases h
    · cases h
theorem cc_loop {a : ACode} (h : ccode P nt C = some (.loop a)) : ∃ A, C = .loop A ∧ ccode P nt A = some a := by
  cases C <;> (try simp only [ccode] at h) <;> try (cases h; done)
  case loop A => obtain ⟨_, h1, h⟩ := omap_some h; cases h; exact ⟨A, rfl, h1⟩
  case region id ops d => cases d <;> simp only [ccode] at h <;> (obtain ⟨_, _, h⟩ := omap_some h; cases h)
  case seq A B => split at h <;> cases h
  case cond c A B => split at h <;> cases h
  case block id A => obtain ⟨_, _, h⟩ := omap_some h; cases h
  case rangeFunc f ps A B =>
    split at h
    · split at h <;> cases h
    · cases h
theorem cc_reg {os : List AOper} (h : ccode P nt C = some (.reg os)) : ∃ id ops, C = .region id ops false ∧ copers P nt ops ops.toList = some os := by
  cases C <;> (try simp only [ccode] at h) <;> try (cases h; done)
  case region id ops d =>
    cases d <;> simp only [ccode] at h
    · obtain ⟨_, h1, h⟩ := omap_some h; cases h; exact ⟨id, ops, rfl, h1⟩
    · obtain ⟨_, _, h⟩ := omap_some h; cases h
  case seq A B => split at h <;> cases h
  case cond c A B => split at h <;> cases h
  case block id A => obtain ⟨_, _, h⟩ := omap_some h; cases h
  case loop A => obtain ⟨_, _, h⟩ := omap_some h; cases h
  case rangeFunc f ps A B =>
    split at h
    · split at h <;> cases h
    · cases h
theorem cc_drw {das : List (AOper × List Nat)} (h : ccode P nt C = some (.drw das)) : ∃ id ops, C = .region id ops true ∧ cdrawn P nt ops = some das := by
  cases C <;> (try simp only [ccode] at h) <;> try (cases h; done)
  case region id ops d =>
    cases d <;> simp only [ccode] at h
    · obtain ⟨_, _, h⟩ := omap_some h; cases h
    · obtain ⟨_, h1, h⟩ := omap_some h; cases h; exact ⟨id, ops, rfl, h1⟩
  case seq A B => split at h <;> cases h
  case cond c A B => split at h <;> cases h
  case block id A => obtain ⟨_, _, h⟩ := omap_some h; cases h
  case loop A => obtain ⟨_, _, h⟩ := omap_some h; cases h
  case rangeFunc f ps A B =>
    split at h
    · split at h <;> cases h
    · cases h
theorem cc_rf {f : AX} {ps : List Nat} {a b : ACode} (h : ccode P nt C = some (.rf f ps a b)) : ∃ F PS A B, C = .rangeFunc F PS A B ∧ cx F = some f ∧ PS.toList = ps ∧ ccode P nt A = some a ∧ ccode P nt B = some b := by
  cases C <;> (try simp only [ccode] at h) <;> try (cases h; done)
  case rangeFunc F PS A B =>
    split at h
    · rename_i h0 h1 h2
      split at h
      · cases h; exact ⟨F, PS, A, B, rfl, h0, rfl, h1, h2⟩
      · cases h
    · cases h
  case region id ops d => cases d <;> simp only [ccode] at h <;> (obtain ⟨_, _, h⟩ := omap_some h; cases h)
  case seq A B => split at h <;> cases h
  case cond c A B => split at h <;> cases h
  case block id A => obtain ⟨_, _, h⟩ := omap_some h; cases h
  case loop A => obtain ⟨_, _, h⟩ := omap_some h; cases h

theorem cop_nd {o : Op} {ao : AOp} (h : cop P o = some ao) : ∀ c, o ≠ .defer c := by
  intro c e
  subst e
  unfold cop at h
  simp [cop0, opSel] at h
theorem copers_nd {ops : Array Oper} : ∀ {os : List Oper} {as : List AOper}, copers P nt ops os = some as → ∀ o ∈ os, ∀ c, o.op ≠ .defer c
  | [], _, _, o, ho => by simp at ho
  | x :: xs, as, h, o, ho => by
    unfold copers at h
    split at h
    case h_2 => cases h
    rename_i a as' h1 h2
    rcases List.mem_cons.1 ho with rfl | ho
    · exact cop_nd (coper_some h1).2.1
    · exact copers_nd h2 o ho
theorem cdrawn_nd {ops : Array Oper} {das : List (AOper × List Nat)} (h : cdrawn P nt ops = some das) : ∀ o, o ∈ ops → ∀ c, o.op ≠ .defer c := by
  unfold cdrawn at h
  split at h
  case h_2 => cases h
  rename_i os h1
  exact fun o ho => copers_nd h1 o (Array.mem_toList_iff.2 ho)
theorem cop_nxt {o : Op} {x : AX} (h : cop P o = some (.nxt x)) : ∃ y, o = .next y false ∧ cx y = some x := by
  unfold cop at h
  split at h
  · rename_i a0 h0
    cases h
    cases o <;> simp only [cop0] at h0 <;> try (cases h0; done)
    case next y b =>
      cases b with
      | true => simp only [cop0] at h0; cases h0
      | false =>
        simp only [cop0] at h0
        obtain ⟨_, h1, h⟩ := omap_some h0
        cases h
        exact ⟨y, rfl, h1⟩
    case binOp op T x y yT =>
      exfalso
      unfold cbin at h0
      repeat' (split at h0)
      all_goals (cases h0; done)
    case convert src dst x =>
      exfalso
      unfold cconv at h0
      repeat' (split at h0)
      all_goals (cases h0; done)
    case call c =>
      exfalso
      split at h0
      case h_2 => cases h0
      split at h0
      · unfold cbuiltin at h0
        repeat' (split at h0)
        all_goals (cases h0; done)
      all_goals (cases h0; done)
    all_goals
      exfalso
      repeat' (split at h0)
      all_goals first
        | (cases h0; done)
        | (obtain ⟨_, _, h⟩ := omap_some h0; cases h; done)
  · split at h
    · cases h
    · obtain ⟨_, _, h⟩ := omap_some h; cases h
end

section
variable {P : Program} {w0 : World} {ρ : Rn} {H : AH} {w : World} {t : Nat → AV} {a : Act} {o : Oper}

theorem exec_call (ht : ∀ k, VRel ρ (t k) (a.tmps.getD k undef)) {g : FuncId} {args : List AX} (hc : cop P o.op = some (.call g args)) : ∃ cargs : Array Value, VRels ρ (asX t args) cargs.toList ∧ (execOp a.eval o).run P w = (callFunc g cargs).run P w := by
  obtain ⟨c, args', hop, hargs, hcase⟩ := cop_call hc rfl
  have hev : (c.args.map a.eval).toList = c.args.toList.map a.eval := by simp
  rcases hcase with ⟨g', hg, e⟩ | ⟨k, hk, e⟩
  · cases e
    refine ⟨c.args.map a.eval, by rw [hev]; exact cxs_rel ht hargs, ?_⟩
    unfold execOp
    simp only [hop, resolve, hg, Act.eval, Deferred.ofValue, Sem.run_bind, Sem.run_pure, Result.andThen_ok, invoke, Array.append_empty, Array.empty_append]
  · cases e
theorem exec_callv (ht : ∀ k, VRel ρ (t k) (a.tmps.getD k undef)) {f : AX} {args : List AX} (hc : cop P o.op = some (.callv f args)) {g : FuncId} {first caps : List AV} (hf : f.ev t = .fn (.func g) first caps) : ∃ cargs : Array Value, VRels ρ (first ++ asX t args ++ caps) cargs.toList ∧ (execOp a.eval o).run P w = (callFunc g cargs).run P w := by
  obtain ⟨c, args', hop, hargs, hcase⟩ := cop_call hc rfl
  have hev : (c.args.map a.eval).toList = c.args.toList.map a.eval := by simp
  rcases hcase with ⟨g', hg, e⟩ | ⟨k, hk, e⟩
  · cases e
  · cases e
    have rk := ht k
    have e' : t k = .fn (.func g) first caps := hf
    rw [e'] at rk
    unfold VRel at rk
    obtain ⟨xs, ys, r1, r2, r3⟩ := rk
    refine ⟨xs ++ c.args.map a.eval ++ ys, ?_, ?_⟩
    · rw [Array.toList_append, Array.toList_append, hev]
      exact VRels.append (VRels.append r2 (cxs_rel ht hargs)) r3
    · unfold execOp
      have hev2 : a.eval (.tmp k) = .func (.func g) xs ys := r1
      simp only [hop, resolve, hk, hev2, Deferred.ofValue, Sem.run_bind, Sem.run_pure, Result.andThen_ok, invoke]
theorem exec_yield (ht : ∀ k, VRel ρ (t k) (a.tmps.getD k undef)) {f : AX} {args : List AX} (hc : cop P o.op = some (.callv f args)) {l : Nat} (hf : f.ev t = .fn (.yield l) [] []) : ∃ (B base N : Nat) (cargs : Array Value), ρ l = some (B, base, N) ∧ VRels ρ (asX t args) cargs.toList ∧ (execOp a.eval o).run P w = (Instr.yield B cargs).run P w := by
  obtain ⟨c, args', hop, hargs, hcase⟩ := cop_call hc rfl
  have hev : (c.args.map a.eval).toList = c.args.toList.map a.eval := by simp
  rcases hcase with ⟨g', hg, e⟩ | ⟨k, hk, e⟩
  · cases e
  · cases e
    have rk := ht k
    have e' : t k = .fn (.yield l) [] [] := hf
    rw [e'] at rk
    unfold VRel at rk
    obtain ⟨B, base, N, r1, _, _, r2⟩ := rk
    refine ⟨B, base, N, c.args.map a.eval, r1, by rw [hev]; exact cxs_rel ht hargs, ?_⟩
    unfold execOp
    have hev2 : a.eval (.tmp k) = .func (.yield B) #[] #[] := r2
    simp only [hop, resolve, hk, hev2, Deferred.ofValue, Sem.run_bind, Sem.run_pure, Result.andThen_ok, invoke, Array.empty_append]

theorem run_getObj_of {r : Nat} {ob : Obj} (hb : w.heap[r]? = some ob) (hn : ∀ c e f, ob ≠ .cells c e f) : (getObj r).run P w = .ok ob w := by
  cases ob <;> first | (exact absurd rfl (hn _ _ _)) | simp [getObj, Sem.run, hb]
theorem run_setObj_of {r : Nat} {ob : Obj} (o' : Obj) (hb : w.heap[r]? = some ob) (hn : ∀ c e f, ob ≠ .cells c e f) : (setObj r o').run P w = .ok () { w with heap := w.heap.setIfInBounds r o' } := by
  cases ob <;> first | (exact absurd rfl (hn _ _ _)) | simp [setObj, Sem.run, hb]

theorem choose_next (n : Nat) (hn : 0 < n) : ∃ i d, i < n ∧ (choose (.mapNext n)).run P w = .ok i { w with drawn := d } := by
  by_cases h : n ≤ 1
  · refine ⟨0, w.drawn, hn, ?_⟩
    simp [choose, Sem.run, Question.forced, h]
  · refine ⟨w.tape w.drawn (.mapNext n) % n, w.drawn + 1, Nat.mod_lt _ hn, ?_⟩
    simp [choose, Sem.run, Question.forced, h, Question.cut]

/-- An operation that needs no choice. -/
theorem oper_steps {v : AV} {H' : AH} {kk : Nat} (hrun : RunOk P w0 ρ H w ((execOp a.eval o).run P w) v H' kk) {ops : Array Oper} {i : Nat} {rest : List Nat} {b : Frame} {k : List Item} {cs : List Frame} (ho : ops[i]? = some o) (hnd : ∀ c, o.op ≠ .defer c) (hw : Region.wanted o (yielded ops a.tmps) = true) :
    ∃ ρ' w' c, Steps P (lone (b.atR a (.inRegion ops (i :: rest) :: k)) cs w) (lone (b.atR (a.put o.dst c) (.inRegion ops rest :: k)) cs w') ∧ VRel ρ' v c ∧ Sim P w0 ρ' H' w' ∧ Fr ρ H w ρ' H' w' := by
  rcases hrun with ⟨ρ', w', c, hr, h1, h2, h3, _⟩ | ⟨_, f, cargs, hr, hcalls⟩
  · rcases hr with hr | ⟨hr, rfl⟩
    · exact ⟨ρ', w', c, .one (stepR_value ho hnd hw hr), h1, h2, h3⟩
    · refine ⟨ρ', w', undef, .one ?_, h1, h2, h3⟩
      have hsem : o.semAt b.roundOf a.eval = execOp a.eval o := Oper.semAt_eq _ _ _ hnd
      have hg := stepGR_op (P := P) (b := b) (k := k) (cs := cs) (w := w) (rest := rest) ho hw
      rw [hsem] at hg
      have hfin : (b.atR a (.inRegion ops (i :: rest) :: k)).finish undef = b.atR (a.put o.dst undef) (.inRegion ops rest :: k) := by
        rw [Frame.finish_atR, ho]; rfl
      exact step_lone_go (by rw [hg, ← hfin]; simp [stepG.apply, hr])
  · obtain ⟨e, w', fr, ⟨ρ', c, rfl, h1, h2, h3⟩, hst, _, hl⟩ := hcalls (b.atR a (.inRegion ops (i :: rest) :: k) :: cs)
    refine ⟨ρ', w', c, .head (stepR_enter ho hnd hw hr) (Steps.trans hst (.one ?_)), h1, h2, h3⟩
    have hfin : (b.atR a (.inRegion ops (i :: rest) :: k)).finish c = b.atR (a.put o.dst c) (.inRegion ops rest :: k) := by
      rw [Frame.finish_atR, ho]; rfl
    rw [← hfin]
    exact step_leave_returned hl
end
end Go.Proofs.Ythcibbfljcfheaa.Abs
