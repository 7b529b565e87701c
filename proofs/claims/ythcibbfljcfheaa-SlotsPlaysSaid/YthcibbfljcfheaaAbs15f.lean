/- A drawn region does, in whatever order, what the plain machine's does in the order of the text. No condition of their own. -/
import Derived.Test.YthcibbfljcfheaaAbs15e
namespace Go.Proofs.Ythcibbfljcfheaa.Abs
set_option linter.unusedVariables false
set_option linter.unusedSimpArgs false
open Go.RowKit

theorem filter_less {p q : Nat → Bool} : ∀ (l : List Nat), (∀ x, q x = true → p x = true) → ∀ a ∈ l, p a = true → q a = false → (l.filter q).length < (l.filter p).length
  | [], _, a, ha, _, _ => by simp at ha
  | x :: l, h, a, ha, hp, hq => by
    have hle : ∀ l : List Nat, (l.filter q).length ≤ (l.filter p).length := by
      intro l
      induction l with
      | nil => simp
      | cons y l ih =>
        simp only [List.filter_cons]
        split
        · rename_i hy; rw [if_pos (h y hy)]; simp; exact ih
        · split
          · simp; omega
          · exact ih
    simp only [List.filter_cons]
    rcases List.mem_cons.mp ha with rfl | ha
    · rw [hq, hp]
      simp only [Bool.false_eq_true, if_false, if_true, List.length_cons]
      have := hle l
      omega
    · have := filter_less l h a ha hp hq
      split
      · rename_i hx; rw [if_pos (h x hx)]; simp; omega
      · split
        · simp; omega
        · exact this

section
variable {P : Program} {w0 : World} {call : CallF} {nt : Nat} {ops : Array Oper}
variable {C : DCtx P w0 call nt ops} {ρ0 : Rn} {w1 : World} {a1 : Act} {L : Array Bool} {a : Act} {w : World} {ρ : Rn} {β : Nat}

/-- The operation's own slots alone. -/
theorem mask (t : Nat → AV) (a : Act) (S : List Nat) (h : ∀ k ∈ S, VRel ρ (t k) (a.tmps.getD k undef)) : ∃ (t2 : Nat → AV) (a2 : Act), (∀ k, VRel ρ (t2 k) (a2.tmps.getD k undef)) ∧ (∀ k ∈ S, t k = t2 k) ∧ ∀ x : Operand, (∀ k ∈ osl x, k ∈ S) → a.eval x = a2.eval x := by
  refine ⟨fun k => if k ∈ S then t k else undefA, ⟨(Array.range a.tmps.size).map fun k => if k ∈ S then a.tmps.getD k undef else undef, []⟩, ?_, ?_, ?_⟩
  · intro k
    have hg : ((Array.range a.tmps.size).map fun k => if k ∈ S then a.tmps.getD k undef else undef).getD k undef = if k ∈ S then a.tmps.getD k undef else undef := by
      by_cases hk : k < a.tmps.size
      · simp [Array.getD, hk]
      · simp [Array.getD, hk]
    simp only [hg]
    by_cases hS : k ∈ S
    · rw [if_pos hS, if_pos hS]; exact h k hS
    · rw [if_neg hS, if_neg hS]; exact undef_rel _
  · intro k hk
    simp only [if_pos hk]
  · intro x hx
    cases x with
    | tmp k =>
      have hS : k ∈ S := hx k (by simp [osl])
      simp only [Act.eval]
      by_cases hk : k < a.tmps.size
      · simp [Array.getD, hk, hS]
      · simp [Array.getD, hk]
    | const v => rfl
    | global g => rfl
    | func f => rfl

theorem empty_sim (hb : Below w0.heap.size w0 w) (n : Nat) : Sim P w0 (res ρ n) ⟨n, fun _ => none⟩ w := by
  refine ⟨hb, nofun, ?_, nofun, nofun, nofun⟩
  intro b hb
  unfold res
  rw [if_neg (by simp at hb; omega)]

theorem kinds (o : AOp) : o.kind = 0 ∨ o.kind = 1 ∨ o.kind = 2 ∨ o.kind = 3 := by cases o <;> simp [AOp.kind]

theorem reads_op {o : AOper} {k : Nat} (h : k ∈ o.op.slots) : k ∈ o.reads := by
  unfold AOper.reads; exact List.mem_append.mpr (Or.inr h)

/-- An operation that is ready. -/
theorem DInv.step (I : DInv C ρ0 w1 a1 L a w ρ β) {i : Nat} {o : Oper} (ho : ops[i]? = some o) (hL : lst L i = false) (hpre : ∀ j, (C.B i).testBit j = true → lst L j = true) {K : Act → World → Prop} {Q : Exit → Act → World → Prop}
    (hK : ∀ a' w' ρ' β', DInv C ρ0 w1 a1 (L.setIfInBounds i true) a' w' ρ' β' → K a' w') : wpOp P ops Q i K a w := by
  have hi : i < ops.size := (Array.getElem?_eq_some_iff.1 ho).1
  obtain ⟨c1, c2, c3, c4⟩ := coper_some (C.plan.oper i o ho)
  have ht := C.tr i hi
  have hread := fun k => I.slot_read hi hL hpre (k := k)
  have hsel : ∀ cs b, o.op ≠ .select cs b := by
    intro cs b e
    rw [e] at c2
    simp only [cop, cop0, opSel, if_true] at c2
    cases c2
  have hw : Region.wanted o (yielded ops a.tmps) = C.wz i := by
    refine wanted_on (ρ := res ρ (C.N (max i β))) c3 ?_ ht.want
    intro d want hg
    refine hread d ?_
    unfold AOper.reads
    rw [hg]
    simp
  unfold wpOp
  simp only [ho, hw]
  cases hz : C.wz i with
  | false =>
    simp only [Bool.false_eq_true, if_false]
    have hv := (ht.skip hz).1
    by_cases h3 : C.K i = 3
    · have hH := (ht.skip hz).2
      obtain ⟨hsim, _, _⟩ := I.at3 hi hL hpre h3
      refine hK _ _ _ _ (I.adv3 ho hL hpre (c := undef) (w' := w) (ρ'' := res ρ (C.N i)) h3 ?_ ?_ ?_)
      · rw [hH]; exact hsim
      · rw [hH]; exact Fr.refl _ _ _
      · rw [hv]; exact undef_rel _
    · exact hK _ _ _ _ (I.adv0 ho hL hpre h3 (fun h => by rw [hz] at h; cases h) (by rw [hv]; exact undef_rel _))
  | true =>
    simp only [if_true]
    left
    unfold Oper.wp
    -- the run, by the operation's own slots
    have hrun : ∀ {n : Nat} {H H' : AH} {v : AV}, C.N (max i β) ≤ n ∨ C.N i ≤ n ∧ β ≤ i → Sim P w0 (res ρ n) H w → aop call (C.st i).t (C.O i).op H = some (v, H') → RunOk P w0 (res ρ n) H w ((execOp a.eval o).run P w) v H' (C.O i).op.kind := by
      intro n H H' v hn hs hop
      have hn' : C.N (max i β) ≤ n := by
        rcases hn with h | ⟨h, h2⟩
        · exact h
        · rw [show max i β = i by omega]; exact h
      obtain ⟨t2, a2, m1, m2, m3⟩ := mask (ρ := res ρ n) (C.st i).t a (C.O i).op.slots (fun k hk => VRel.ext (res_ext hn') _ (hread k (reads_op hk)))
      have he : execOp a.eval o = execOp a2.eval o := execOp_congr o hsel fun x hx => m3 x (cop_slots c2 x hx)
      rw [he]
      rw [aop_congr m2] at hop
      exact oper_run C.hcall hs m1 c2 hop
    rcases kinds (C.O i).op with hk | hk | hk | hk
    · -- it computes
      have hact := ht.act hz (by show (C.O i).op.kind ≠ 1; rw [hk]; decide)
      obtain ⟨_, hany⟩ := kind0 hk hact
      have hR := hrun (n := C.N (max i β)) (Or.inl (Nat.le_refl _)) (empty_sim I.sim.below _) (hany ⟨C.N (max i β), fun _ => none⟩)
      refine hR.upon ?_
      intro ρ' w' c h1 h2 h3 h4
      rcases h4 with ⟨rfl, rfl⟩ | ⟨h, _⟩ | h
      · exact hK _ _ _ _ (I.adv0 ho hL hpre (by show (C.O i).op.kind ≠ 3; rw [hk]; decide) (fun _ => by show (C.O i).op.kind ≠ 2; rw [hk]; decide) (VRel.ext (res_ext (C.N_mono (by omega) (by have := I.b_le; omega))) _ h1))
      · rw [hk] at h; cases h
      · rw [hk] at h; cases h
    · -- it reads
      obtain ⟨H', hr⟩ := C.read_at (L := lst L) hi hk hz hL hpre I.closed I.hb I.hmax
      obtain ⟨_, hany⟩ := kind1 hk hr
      have hmax : C.N β ≤ C.N (max i β) := C.N_mono (by omega) (by have := I.b_le; omega)
      have hsim : Sim P w0 (res ρ (C.N (max i β))) ⟨C.N (max i β), (C.st β).H.o⟩ w := by
        have hext := res_ext (ρ := ρ) hmax
        refine ⟨I.sim.below, ?_, ?_, ?_, ?_, ?_⟩
        · intro b o' h1
          obtain ⟨x, h2, h3⟩ := I.sim.live b o' h1
          exact ⟨x, hext _ _ h2, h3.ext hext⟩
        · intro b hb
          unfold res
          rw [if_neg (by simp at hb; omega)]
        · intro b o1 b' o2 x x' h1 h2 h3 h4 h5 h6
          obtain ⟨y, g1, _⟩ := I.sim.live b o1 h1
          obtain ⟨y', g2, _⟩ := I.sim.live b' o2 h3
          have e1 := hext _ _ g1
          have e2 := hext _ _ g2
          rw [h4] at e1
          rw [h5] at e2
          cases e1
          cases e2
          exact I.sim.inj b o1 b' o2 _ _ h1 h2 h3 g1 g2 h6
        · intro b o1 x h1 h2 h3
          obtain ⟨y, g1, _⟩ := I.sim.live b o1 h1
          have e1 := hext _ _ g1
          rw [h3] at e1
          cases e1
          exact I.sim.own b o1 _ h1 h2 g1
        · intro b o1 x h1 h2 h3
          obtain ⟨y, g1, _⟩ := I.sim.live b o1 h1
          have e1 := hext _ _ g1
          rw [h3] at e1
          cases e1
          exact I.sim.ro b o1 _ h1 h2 g1
      have hR := hrun (n := C.N (max i β)) (Or.inl (Nat.le_refl _)) hsim (hany (C.N (max i β)))
      refine hR.upon ?_
      intro ρ' w' c h1 h2 h3 h4
      rcases h4 with ⟨rfl, rfl⟩ | ⟨h, _⟩ | h
      · exact hK _ _ _ _ (I.adv0 ho hL hpre (by show (C.O i).op.kind ≠ 3; rw [hk]; decide) (fun _ => by show (C.O i).op.kind ≠ 2; rw [hk]; decide) (VRel.ext (res_ext (C.N_mono (by omega) (by have := I.b_le; omega))) _ h1))
      · rw [hk] at h; cases h
      · rw [hk] at h; cases h
    · -- it makes an object
      have hβ := I.b_le_i hi hL (Or.inl hk)
      have hact := ht.act hz (by show (C.O i).op.kind ≠ 1; rw [hk]; decide)
      obtain ⟨x, hx, hrw, hany⟩ := kind2 hk hact
      have hR := hrun (n := C.N i) (Or.inr ⟨Nat.le_refl _, hβ⟩) (empty_sim I.sim.below _) (hany fun _ => none)
      refine hR.upon ?_
      intro ρ' w' c h1 h2 h3 h4
      rcases h4 with ⟨rfl, rfl⟩ | ⟨_, y, rfl⟩ | h
      · -- no new name: it cannot be
        exfalso
        obtain ⟨y, hy, _⟩ := h2.live (C.N i) x (by simp [AH.new, DCtx.N])
        have := res_some hy
        omega
      · exact hK _ _ _ _ (I.adv2 ho hL hpre hk hz hβ hx hrw h2 h3 h1)
      · rw [hk] at h; cases h
    · -- it turns memory
      have hact := ht.act hz (by show (C.O i).op.kind ≠ 1; rw [hk]; decide)
      have hβ := I.b_le_i hi hL (Or.inr hk)
      obtain ⟨hsim, _, _⟩ := I.at3 hi hL hpre hk
      have hR := hrun (n := C.N i) (Or.inr ⟨Nat.le_refl _, hβ⟩) hsim hact
      refine hR.upon ?_
      intro ρ' w' c h1 h2 h3 h4
      exact hK _ _ _ _ (I.adv3 ho hL hpre hk h2 h3 h1)

theorem ready_spec {i : Nat} (C : DCtx P w0 call nt ops) (I : DInv C ρ0 w1 a1 L a w ρ β) (h : i ∈ Region.ready .any ops L) : ∃ o, ops[i]? = some o ∧ lst L i = false ∧ ∀ j, (C.B i).testBit j = true → lst L j = true := by
  rw [mem_ready] at h
  obtain ⟨h0, o, ho, hall⟩ := h
  have hi : i < ops.size := (Array.getElem?_eq_some_iff.1 ho).1
  refine ⟨o, ho, ?_, ?_⟩
  · unfold lst
    have hiL : i < L.size := by rw [I.lsz]; exact hi
    simp [Array.getD, hiL] at h0 ⊢
    exact h0
  · intro j hj
    obtain ⟨e, he, hb, h⟩ := C.plan.only i o ho j hj
    have hle : lst L e.on = true := hall e he hb
    rcases h with rfl | h
    · exact hle
    · exact I.closed e.on hle j h

theorem all_of_none (C : DCtx P w0 call nt ops) (I : DInv C ρ0 w1 a1 L a w ρ β) (h : Region.ready .any ops L = []) : ∀ i, i < ops.size → lst L i = true := by
  intro i
  induction i using Nat.strongRecOn with
  | _ i ih =>
    intro hi
    cases hl : lst L i with
    | true => rfl
    | false =>
      exfalso
      have ho : ops[i]? = some ops[i] := Array.getElem?_eq_getElem hi
      have hm : i ∈ Region.ready .any ops L := by
        rw [mem_ready]
        refine ⟨?_, _, ho, ?_⟩
        · have hiL : i < L.size := by rw [I.lsz]; exact hi
          unfold lst at hl
          simp [Array.getD, hiL] at hl ⊢
          exact hl
        · intro e he hb
          have := (C.plan.edge i _ ho e he hb).1
          exact ih e.on this (by omega)
      rw [h] at hm
      cases hm

theorem DInv.all (I : DInv C ρ0 w1 a1 L a w ρ β) {Q : Exit → Act → World → Prop}
    (hQ : ∀ ρ' w' tmps, Sim P w0 ρ' (C.st ops.size).H w' → TRel ρ' nt (C.st ops.size).t { a1 with tmps := tmps } → Fr ρ0 (C.st 0).H w1 ρ' (C.st ops.size).H w' → Q .normal { a1 with tmps := tmps } w') (h : ∀ i, i < ops.size → lst L i = true) : Q .normal a w := by
  obtain ⟨hsim, horig⟩ := I.chain ops.size I.b_le (Nat.le_refl _) (by
    intro i h1 h2 h3
    have := I.hmax i (h i h2) h3
    omega) (fun i _ h2 _ => h i h2)
  have e : a = { a1 with tmps := a.tmps } := by
    have := I.adef
    cases a; cases a1; simp_all
  rw [e]
  have hext : Ext ρ0 (res ρ (C.N ops.size)) := by
    intro b x hb
    have := I.ext b x hb
    exact res_of (Nat.lt_of_lt_of_le this.2 (C.N_mono (Nat.zero_le _) (Nat.le_refl _))) this.1
  refine hQ (res ρ (C.N ops.size)) w a.tmps hsim ⟨?_, I.asz⟩ ⟨hext, I.sz, ?_, I.same⟩
  · intro k
    rcases C.t_at k ops.size (Nat.le_refl _) with ⟨j, hj, hd, he⟩ | ⟨hno, he⟩
    · rw [he]
      exact VRel.ext (res_ext (C.N_mono (by have := I.b_le; omega) (Nat.le_refl _))) _ (I.slots j k hj (h j hj) hd)
    · rw [he]
      exact VRel.ext hext _ (I.slot0 k fun j hj _ => hno j hj)
  · rintro k ⟨b, o, z, h1, h2, h4, h5⟩
    rcases horig b o z h1 h4 with ⟨h6, h7⟩ | ⟨j, g1, g2, g3, g4, g5, g6, g7⟩
    · exact I.foot k ⟨b, o, z, h6, h2, h7, h5⟩
    · obtain ⟨x, y, e1, _, e2, _, _, e3, _⟩ := I.objs j g1 g2 g3 g4 g5
      rw [g7] at e2
      cases e2
      right
      omega

theorem drawn_any {Q : Exit → Act → World → Prop}
    (hQ : ∀ ρ' w' tmps, Sim P w0 ρ' (C.st ops.size).H w' → TRel ρ' nt (C.st ops.size).t { a1 with tmps := tmps } → Fr ρ0 (C.st 0).H w1 ρ' (C.st ops.size).H w' → Q .normal { a1 with tmps := tmps } w') :
    ∀ (fuel : Nat) (L : Array Bool) (a : Act) (w : World) (ρ : Rn) (β : Nat), DInv C ρ0 w1 a1 L a w ρ β → ((List.range ops.size).filter fun i => !lst L i).length ≤ fuel → wpAny P .any ops Q fuel L a w := by
  intro fuel
  induction fuel with
  | zero =>
    intro L a w ρ β I hc
    have hall : ∀ i, i < ops.size → lst L i = true := by
      intro i hi
      have : (List.range ops.size).filter (fun i => !lst L i) = [] := List.length_eq_zero_iff.mp (by omega)
      have := List.filter_eq_nil_iff.mp this i (by simpa using hi)
      simpa using this
    refine ⟨?_, I.all hQ hall⟩
    cases hr : Region.ready .any ops L with
    | nil => rfl
    | cons i r =>
      exfalso
      obtain ⟨o, ho, hl, _⟩ := ready_spec C I (i := i) (by rw [hr]; simp)
      rw [hall i (Array.getElem?_eq_some_iff.1 ho).1] at hl
      cases hl
  | succ fuel ih =>
    intro L a w ρ β I hc
    refine ⟨fun hr => I.all hQ (all_of_none C I hr), ?_⟩
    intro i hi
    obtain ⟨o, ho, hl, hpre⟩ := ready_spec C I hi
    refine I.step ho hl hpre ?_
    intro a' w' ρ' β' I'
    refine ih _ a' w' ρ' β' I' ?_
    have hilt : i < ops.size := (Array.getElem?_eq_some_iff.1 ho).1
    have hiL : i < L.size := by rw [I.lsz]; exact hilt
    have := filter_less (p := fun i => !lst L i) (q := fun j => !lst (L.setIfInBounds i true) j) (List.range ops.size) (by
      intro x hx
      cases hlx : lst L x with
      | false => rfl
      | true =>
        have := (lst_set hiL x).mpr (Or.inr hlx)
        rw [this] at hx
        cases hx) i (by simpa using hilt) (by simp [hl]) (by simp [(lst_set hiL i).mpr (Or.inl rfl)])
    omega

/-- A drawn region, whatever is drawn. -/
theorem drw_any (hcall : CallOk P w0 call) {das : List (AOper × List Nat)} (hc : cdrawn P nt ops = some das) {t t' : Nat → AV} {H H' : AH} (h : adrw call das t H [H] [] = some (t', H')) (hs : Sim P w0 ρ H w) (ht : TRel ρ nt t a) {Q : Exit → Act → World → Prop}
    (hQ : ∀ ρ' w' tmps, Sim P w0 ρ' H' w' → TRel ρ' nt t' { a with tmps := tmps } → Fr ρ H w ρ' H' w' → Q .normal { a with tmps := tmps } w') : wpAny P .any ops Q ops.size (Array.replicate ops.size false) a { w with drawn := w.drawn + 1 } := by
  obtain ⟨O, B, PL, hplan, hlen, hget⟩ := cdrawn_plan hc
  obtain ⟨st, val, wz, e0, e1, e2, htr⟩ := trace_of das h
  rw [hlen] at e1 e2
  let C : DCtx P w0 call nt ops := ⟨O, B, PL, st, val, wz, hcall, hplan, fun i hi => htr i _ (hget i hi), by rw [e0], by rw [e0]⟩
  have hs' := hs.drawn (w.drawn + 1)
  refine drawn_any (C := C) (ρ0 := ρ) (w1 := { w with drawn := w.drawn + 1 }) (a1 := a) ?_ ops.size _ a _ ρ 0 ?_ ?_
  · intro ρ' w' tmps h1 h2 h3
    have h1' : Sim P w0 ρ' (st ops.size).H w' := h1
    have h2' : TRel ρ' nt (st ops.size).t { a with tmps := tmps } := h2
    have h3' : Fr ρ (st 0).H { w with drawn := w.drawn + 1 } ρ' (st ops.size).H w' := h3
    rw [e2] at h1' h3'
    rw [e1] at h2'
    rw [e0] at h3'
    exact hQ ρ' w' tmps h1' h2' h3'.drawn
  · have hN : C.N 0 = H.n := by show (st 0).H.n = H.n; rw [e0]
    have hH : (C.st 0).H = H := by show (st 0).H = H; rw [e0]
    have hT : (C.st 0).t = t := by show (st 0).t = t; rw [e0]
    have hres : res ρ (C.N 0) = ρ := by
      funext b
      unfold res
      rw [hN]
      split
      · rfl
      · rw [hs.fresh b (by omega)]
    have hno : ∀ i, lst (Array.replicate ops.size false) i = false := by
      intro i
      unfold lst
      by_cases hi : i < ops.size <;> simp [Array.getD, hi]
    refine ⟨by simp, ht.size, rfl, ?_, Or.inl rfl, ?_, ?_, ?_, ?_, ?_, ?_, ?_, ?_, Nat.le_refl _, fun _ _ _ => rfl, ?_⟩
    · intro i hi; rw [hno] at hi; cases hi
    · intro i hi; rw [hno] at hi; cases hi
    · rw [hres, hH]; exact hs'
    · intro i _ _ hi; rw [hno] at hi; cases hi
    · intro i j y z _ _ _ _ hi; rw [hno] at hi; cases hi
    · intro b x hb
      left
      rw [hN]
      rcases Nat.lt_or_ge b H.n with h | h
      · exact h
      · rw [hs.fresh b h] at hb; cases hb
    · intro j d _ hj; rw [hno] at hj; cases hj
    · intro d _
      rw [hT]
      exact ht.rel d
    · intro b x hb
      refine ⟨hb, ?_⟩
      rw [hN]
      rcases Nat.lt_or_ge b H.n with h | h
      · exact h
      · rw [hs.fresh b h] at hb; cases hb
    · intro k hk
      rw [hres] at hk
      exact Or.inl hk
  · refine Nat.le_trans (List.length_filter_le _ _) ?_
    simp

/-- A drawn region. -/
theorem drw_sound (hm : P.follows .mixedOrders = true) (hcall : CallOk P w0 call) {id : Nat} {das : List (AOper × List Nat)} (hc : cdrawn P nt ops = some das) {t t' : Nat → AV} {H H' : AH} (h : adrw call das t H [H] [] = some (t', H')) (hs : Sim P w0 ρ H w) (ht : TRel ρ nt t a) {Q : Exit → Act → World → Prop}
    (hQ : ∀ ρ' w' tmps, Sim P w0 ρ' H' w' → TRel ρ' nt t' { a with tmps := tmps } → Fr ρ H w ρ' H' w' → Q .normal { a with tmps := tmps } w') : (Code.region id ops true).wp P Q a w :=
  wp_region_any hm (drw_any hcall hc h hs ht hQ)

end
end Go.Proofs.Ythcibbfljcfheaa.Abs
