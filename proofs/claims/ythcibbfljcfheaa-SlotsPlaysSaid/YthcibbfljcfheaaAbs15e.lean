/- A drawn region, in whatever order: each operation that is ready keeps what holds. No condition of their own. -/
import Derived.Test.YthcibbfljcfheaaAbs15d
namespace Go.Proofs.Ythcibbfljcfheaa.Abs
set_option linter.unusedVariables false
set_option linter.unusedSimpArgs false
open Go.RowKit

section
variable {P : Program} {w0 : World} {call : CallF} {nt : Nat} {ops : Array Oper}
variable {C : DCtx P w0 call nt ops} {ρ0 : Rn} {w1 : World} {a1 : Act} {L : Array Bool} {a : Act} {w : World} {ρ : Rn} {β : Nat}

theorem res_ext2 {ρ ρ' : Rn} {n m : Nat} (he : Ext ρ ρ') (h : n ≤ m) : Ext (res ρ n) (res ρ' m) := by
  intro b x hb
  have := res_some hb
  exact res_of (by omega) (he _ _ this.2)

theorem put_get {a : Act} {nt d : Nat} (hs : a.tmps.size = nt) (hd : d < nt) (c : Value) (k : Nat) : (a.put (some d) c).tmps.getD k undef = if k = d then c else a.tmps.getD k undef := by
  simp only [Act.put]
  split
  · rename_i e; subst e; simp [Array.getD, hs, hd]
  · rename_i e
    simp only [Array.getD_eq_getD_getElem?, Array.getElem?_setIfInBounds]
    rw [if_neg (fun e' => e e'.symm)]

theorem DInv.adv (I : DInv C ρ0 w1 a1 L a w ρ β) {i : Nat} {o : Oper} (ho : ops[i]? = some o) (hL : lst L i = false) (hpre : ∀ j, (C.B i).testBit j = true → lst L j = true) {c : Value} {w' : World} {ρ' : Rn} {β' : Nat}
    (hβ : (β' = β ∧ C.K i ≠ 3) ∨ (β' = i + 1 ∧ C.K i = 3 ∧ β ≤ i)) (hext : Ext ρ ρ') (hsim : Sim P w0 (res ρ' (C.N β')) (C.st β').H w')
    (hval : VRel (res ρ' (C.N (max (i + 1) β'))) (C.val i) c)
    (hsz : w.heap.size ≤ w'.heap.size) (hsame : ∀ k, k < w1.heap.size → ¬ Foot ρ0 (C.st 0).H k → w'.heap[k]? = w.heap[k]?)
    (hfoot : ∀ k, Foot (res ρ' (C.N β')) (C.st β').H k → Foot ρ0 (C.st 0).H k ∨ w1.heap.size ≤ k)
    (hobjs : ∀ j, β' ≤ j → j < ops.size → lst (L.setIfInBounds i true) j = true → C.wz j = true → C.K j = 2 → ∃ x y, (C.st (j + 1)).H = (C.st j).H.new x ∧ x.rw = true ∧ ρ' (C.N j) = some y ∧ ORel P (res ρ' (C.N (j + 1))) y w' x ∧ w0.heap.size ≤ y.1 ∧ w1.heap.size ≤ y.1 ∧
      (∀ b o z, (C.st β').H.o b = some o → res ρ' (C.N β') b = some z → z.1 ≠ y.1))
    (hdist : ∀ j k y z, β' ≤ j → β' ≤ k → j < ops.size → k < ops.size → lst (L.setIfInBounds i true) j = true → lst (L.setIfInBounds i true) k = true → C.wz j = true → C.wz k = true → C.K j = 2 → C.K k = 2 → ρ' (C.N j) = some y → ρ' (C.N k) = some z → y.1 = z.1 → j = k)
    (hdom : ∀ b x, ρ' b = some x → b < C.N β' ∨ ∃ j, β' ≤ j ∧ j < ops.size ∧ lst (L.setIfInBounds i true) j = true ∧ C.wz j = true ∧ C.K j = 2 ∧ b = C.N j) :
    DInv C ρ0 w1 a1 (L.setIfInBounds i true) (a.put o.dst c) w' ρ' β' := by
  have hi : i < ops.size := (Array.getElem?_eq_some_iff.1 ho).1
  have hiL : i < L.size := by rw [I.lsz]; exact hi
  obtain ⟨c1, c2, c3, c4⟩ := coper_some (C.plan.oper i o ho)
  have hset := fun j => lst_set (L := L) hiL j
  have hββ : β ≤ β' := by rcases hβ with ⟨rfl, _⟩ | ⟨rfl, _, h⟩ <;> omega
  have hb' : β' ≤ ops.size := by rcases hβ with ⟨rfl, _⟩ | ⟨rfl, _, h⟩; exact I.b_le; omega
  have hdd : ∀ j d, j < ops.size → j ≠ i → (C.O j).dst = some d → (C.O i).dst ≠ some d := by
    intro j d hj hne hd
    rcases Nat.lt_trichotomy j i with h | h | h
    · exact (C.plan.apart i j hi h).1 d hd
    · exact absurd h hne
    · intro e; exact (C.plan.apart j i hj h).1 d e hd
  have hget : ∀ k, (C.O i).dst ≠ some k → (a.put o.dst c).tmps.getD k undef = a.tmps.getD k undef := by
    intro k hk
    rw [c1] at hk
    cases hd : o.dst with
    | none => rfl
    | some d =>
      rw [hd] at hk c4
      rw [put_get I.asz (by simpa [cdst] using c4), if_neg (fun e => hk (by rw [e]))]
  refine ⟨by simp [I.lsz], ?_, ?_, ?_, ?_, ?_, hsim, hobjs, hdist, hdom, ?_, ?_, ?_, Nat.le_trans I.sz hsz, ?_, hfoot⟩
  · cases hd : o.dst <;> simp [Act.put, I.asz]
  · rw [← I.adef]; cases o.dst <;> rfl
  · intro j hj k hk
    rw [hset]
    right
    rcases (hset j).mp hj with rfl | hj
    · exact hpre k hk
    · exact I.closed j hj k hk
  · rcases hβ with ⟨rfl, _⟩ | ⟨rfl, h3, _⟩
    · rcases I.hb with h | ⟨c', h1, h2, h3, h4⟩
      · exact Or.inl h
      · exact Or.inr ⟨c', h1, h2, (hset c').mpr (Or.inr h3), h4⟩
    · exact Or.inr ⟨i, rfl, hi, (hset i).mpr (Or.inl rfl), h3⟩
  · intro c' h1 h2
    rcases (hset c').mp h1 with rfl | h1
    · rcases hβ with ⟨_, h⟩ | ⟨rfl, _, _⟩
      · exact absurd h2 h
      · omega
    · exact Nat.lt_of_lt_of_le (I.hmax c' h1 h2) hββ
  · intro j d hj h1 h2
    by_cases hji : j = i
    · subst hji
      have hd : o.dst = some d := by rw [← c1]; exact h2
      rw [hd] at c4 ⊢
      rw [put_get I.asz (by simpa [cdst] using c4), if_pos rfl]
      exact hval
    · have h1' : lst L j = true := by
        rcases (hset j).mp h1 with e | h
        · exact absurd e hji
        · exact h
      rw [hget d (hdd j d hj hji h2)]
      exact VRel.ext (res_ext2 hext (C.N_mono (by omega) (by omega))) _ (I.slots j d hj h1' h2)
  · intro d hd
    have hni : (C.O i).dst ≠ some d := hd i hi ((hset i).mpr (Or.inl rfl))
    rw [hget d hni]
    exact I.slot0 d fun j hj h1 => hd j hj ((hset j).mpr (Or.inr h1))
  · intro b x hb
    have := I.ext b x hb
    exact ⟨hext _ _ this.1, this.2⟩
  · intro k hk hf
    rw [hsame k hk hf, I.same k hk hf]

/-- An operation that leaves memory as it is. -/
theorem DInv.adv0 (I : DInv C ρ0 w1 a1 L a w ρ β) {i : Nat} {o : Oper} (ho : ops[i]? = some o) (hL : lst L i = false) (hpre : ∀ j, (C.B i).testBit j = true → lst L j = true) {c : Value} (h3 : C.K i ≠ 3) (h2 : C.wz i = true → C.K i ≠ 2)
    (hval : VRel (res ρ (C.N (max (i + 1) β))) (C.val i) c) : DInv C ρ0 w1 a1 (L.setIfInBounds i true) (a.put o.dst c) w ρ β := by
  have hi : i < ops.size := (Array.getElem?_eq_some_iff.1 ho).1
  have hiL : i < L.size := by rw [I.lsz]; exact hi
  have hset := fun j => lst_set (L := L) hiL j
  have hold : ∀ j, lst (L.setIfInBounds i true) j = true → C.wz j = true → C.K j = 2 → lst L j = true := by
    intro j hj h4 h5
    rcases (hset j).mp hj with rfl | h
    · exact absurd h5 (h2 h4)
    · exact h
  refine I.adv ho hL hpre (Or.inl ⟨rfl, h3⟩) (Ext.refl _) I.sim hval (Nat.le_refl _) (fun _ _ _ => rfl) I.foot ?_ ?_ ?_
  · intro j h4 h5 h6 h7 h8; exact I.objs j h4 h5 (hold j h6 h7 h8) h7 h8
  · intro j k y z h4 h5 h6 h7 h8 h9 h10 h11 h12 h13; exact I.dist j k y z h4 h5 h6 h7 (hold j h8 h10 h12) (hold k h9 h11 h13) h10 h11 h12 h13
  · intro b x hb
    rcases I.dom b x hb with h | ⟨j, g1, g2, g3, g4⟩
    · exact Or.inl h
    · exact Or.inr ⟨j, g1, g2, (hset j).mpr (Or.inr g3), g4⟩

/-- An operation that makes an object. -/
theorem DInv.adv2 (I : DInv C ρ0 w1 a1 L a w ρ β) {i : Nat} {o : Oper} (ho : ops[i]? = some o) (hL : lst L i = false) (hpre : ∀ j, (C.B i).testBit j = true → lst L j = true) {c : Value} {w' : World} (h2 : C.K i = 2) (hw : C.wz i = true) (hβ : β ≤ i) {x : AObj} (hx : (C.st (i + 1)).H = (C.st i).H.new x) (hrw : x.rw = true) {y : Nat × Nat × Nat}
    (hs : Sim P w0 ((res ρ (C.N i)).add (C.N i) y) ((⟨C.N i, fun _ => none⟩ : AH).new x) w') (hf : Fr (res ρ (C.N i)) ⟨C.N i, fun _ => none⟩ w ((res ρ (C.N i)).add (C.N i) y) ((⟨C.N i, fun _ => none⟩ : AH).new x) w')
    (hval : VRel ((res ρ (C.N i)).add (C.N i) y) (C.val i) c) : DInv C ρ0 w1 a1 (L.setIfInBounds i true) (a.put o.dst c) w' (fun b => if b = C.N i then some y else ρ b) β := by
  have hi : i < ops.size := (Array.getElem?_eq_some_iff.1 ho).1
  have hiL : i < L.size := by rw [I.lsz]; exact hi
  have hset := fun j => lst_set (L := L) hiL j
  have hN : C.N (i + 1) = C.N i + 1 := by unfold DCtx.N; rw [hx]; rfl
  have hsucc : ∀ j, j < ops.size → C.wz j = true → C.K j = 2 → C.N (j + 1) = C.N j + 1 := by
    intro j hj h4 h5
    have ht := C.tr j hj
    have hk' : (C.O j).op.kind = 2 := h5
    obtain ⟨x', e, _⟩ := kind2 hk' (ht.act h4 (by show (C.O j).op.kind ≠ 1; rw [hk']; decide))
    unfold DCtx.N; rw [e]; rfl
  have hne : ∀ j, j < ops.size → j ≠ i → C.wz j = true → C.K j = 2 → C.N j ≠ C.N i := by
    intro j hj h4 h5 h6 e
    rcases Nat.lt_trichotomy j i with h | h | h
    · have := C.N_mono (i := j + 1) (j := i) (by omega) (by omega)
      rw [hsucc j hj h5 h6] at this
      omega
    · exact h4 h
    · have := C.N_mono (i := i + 1) (j := j) (by omega) (by omega)
      omega
  have hnone : ρ (C.N i) = none := by
    cases hh : ρ (C.N i) with
    | none => rfl
    | some z =>
      rcases I.dom _ _ hh with h | ⟨j, g1, g2, g3, g4, g5, g6⟩
      · have := C.N_mono (i := β) (j := i) hβ (by omega); omega
      · by_cases e : j = i
        · rw [e, hL] at g3; cases g3
        · exact absurd g6.symm (hne j g2 e g4 g5)
  have hext : Ext ρ (fun b => if b = C.N i then some y else ρ b) := by
    intro b z hb
    show (if b = C.N i then some y else ρ b) = some z
    rw [if_neg (fun e => by rw [e, hnone] at hb; cases hb)]
    exact hb
  have hadd : Ext ((res ρ (C.N i)).add (C.N i) y) (res (fun b => if b = C.N i then some y else ρ b) (C.N (i + 1))) := by
    intro b z hb
    unfold Rn.add at hb
    rw [hN]
    split at hb
    · rename_i e
      exact res_of (by omega) (by show (if b = C.N i then some y else ρ b) = some z; rw [if_pos e]; exact hb)
    · rename_i e
      have := res_some hb
      exact res_of (by omega) (by show (if b = C.N i then some y else ρ b) = some z; rw [if_neg e]; exact this.2)
  have hnew : (⟨C.N i, fun _ => none⟩ : AH).new x = ⟨C.N i + 1, fun b => if b = C.N i then some x else none⟩ := rfl
  have hyl : w.heap.size ≤ y.1 := by
    have hfo := hf.foot y.1 ⟨C.N i, x, y, by simp [AH.new], hrw, Rn.add_self _ _ _, rfl⟩
    rcases hfo with ⟨b, o', z, h1, _⟩ | h
    · cases h1
    · exact h
  have hblk : ∀ k, k < w.heap.size → w'.heap[k]? = w.heap[k]? := by
    intro k hk
    exact hf.same k hk (by rintro ⟨b, o', z, h1, _⟩; cases h1)
  obtain ⟨y', hy', hO⟩ := hs.live (C.N i) x (by simp [AH.new])
  rw [Rn.add_self] at hy'
  cases hy'
  have hw0y : w0.heap.size ≤ y.1 := hs.own (C.N i) x y (by simp [AH.new]) hrw (Rn.add_self _ _ _)
  have hresβ : res (fun b => if b = C.N i then some y else ρ b) (C.N β) = res ρ (C.N β) := by
    funext b
    unfold res
    have := C.N_mono (i := β) (j := i) hβ (by omega)
    by_cases hb : b < C.N β
    · rw [if_pos hb, if_pos hb]; show (if b = C.N i then some y else ρ b) = ρ b; rw [if_neg (by omega)]
    · rw [if_neg hb, if_neg hb]
  have hold : ∀ j, lst (L.setIfInBounds i true) j = true → j ≠ i → lst L j = true := by
    intro j hj h4
    rcases (hset j).mp hj with h | h
    · exact absurd h h4
    · exact h
  refine I.adv ho hL hpre (Or.inl ⟨rfl, by rw [h2]; decide⟩) hext ?_ ?_ hf.size ?_ ?_ ?_ ?_ ?_
  · rw [hresβ]
    refine ⟨hs.below, ?_, I.sim.fresh, I.sim.inj, I.sim.own, I.sim.ro⟩
    intro b o' h1
    obtain ⟨z, h4, h5⟩ := I.sim.live b o' h1
    exact ⟨z, h4, h5.world (hblk _ h5.lt)⟩
  · rw [show max (i + 1) β = i + 1 by omega]
    exact VRel.ext hadd _ hval
  · intro k hk hfo
    exact hblk k (Nat.lt_of_lt_of_le hk I.sz)
  · rw [hresβ]; exact I.foot
  · intro j h4 h5 h6 h7 h8
    by_cases e : j = i
    · subst e
      refine ⟨x, y, hx, hrw, by simp, hO.ext hadd, hw0y, Nat.le_trans I.sz hyl, ?_⟩
      rw [hresβ]
      intro b o' z h9 h10 h11
      obtain ⟨z', h12, h13⟩ := I.sim.live b o' h9
      rw [h10] at h12
      cases h12
      have := h13.lt
      omega
    · obtain ⟨x2, y2, g1, g2, g3, g4, g5, g6, g7⟩ := I.objs j h4 h5 (hold j h6 e) h7 h8
      refine ⟨x2, y2, g1, g2, hext _ _ g3, ?_, g5, g6, ?_⟩
      · exact (g4.ext (res_ext2 hext (Nat.le_refl _))).world (hblk _ g4.lt)
      · rw [hresβ]; exact g7
  · intro j k y1 y2 h4 h5 h6 h7 h8 h9 h10 h11 h12 h13 h14 h15 h16
    by_cases ej : j = i
    · by_cases ek : k = i
      · rw [ej, ek]
      · exfalso
        obtain ⟨x2, y3, g1, g2, g3, g4, _⟩ := I.objs k h5 h7 (hold k h9 ek) h11 h13
        subst ej
        simp only [if_true] at h14
        injection h14 with h14
        have h15' : ρ (C.N k) = some y2 := by
          have := h15
          rwa [if_neg (hne k h7 ek h11 h13)] at this
        rw [g3] at h15'
        cases h15'
        have := g4.lt
        subst h14
        omega
    · by_cases ek : k = i
      · exfalso
        obtain ⟨x2, y3, g1, g2, g3, g4, _⟩ := I.objs j h4 h6 (hold j h8 ej) h10 h12
        subst ek
        simp only [if_true] at h15
        injection h15 with h15
        have h14' : ρ (C.N j) = some y1 := by
          have := h14
          rwa [if_neg (hne j h6 ej h10 h12)] at this
        rw [g3] at h14'
        cases h14'
        have := g4.lt
        subst h15
        omega
      · have h14' : ρ (C.N j) = some y1 := by
          have := h14
          rwa [if_neg (hne j h6 ej h10 h12)] at this
        have h15' : ρ (C.N k) = some y2 := by
          have := h15
          rwa [if_neg (hne k h7 ek h11 h13)] at this
        exact I.dist j k y1 y2 h4 h5 h6 h7 (hold j h8 ej) (hold k h9 ek) h10 h11 h12 h13 h14' h15' h16
  · intro b z hb
    by_cases e : b = C.N i
    · exact Or.inr ⟨i, hβ, hi, (hset i).mpr (Or.inl rfl), hw, h2, e⟩
    · have hb' : ρ b = some z := by
        have := hb
        rwa [if_neg e] at this
      rcases I.dom b z hb' with h | ⟨j, g1, g2, g3, g4⟩
      · exact Or.inl h
      · exact Or.inr ⟨j, g1, g2, (hset j).mpr (Or.inr g3), g4⟩

theorem DCtx.pre3 (C : DCtx P w0 call nt ops) {i : Nat} (hi : i < ops.size) (h3 : C.K i = 3) {j : Nat} (hj : j < i) (hk : C.K j = 2 ∨ C.K j = 3) : (C.B i).testBit j = true := by
  have hp := C.plan.plan i hi
  have hk' : (C.O i).op.kind = 3 := h3
  unfold cplan at hp
  rw [hk'] at hp
  simp only at hp
  split at hp
  · rename_i hall
    have := List.all_eq_true.mp hall (j, C.K j) (List.mem_map.mpr ⟨j, by simpa using hj, rfl⟩)
    rcases hk with hk | hk <;> simpa [hk] using this
  · cases hp

theorem DInv.b_le_i (I : DInv C ρ0 w1 a1 L a w ρ β) {i : Nat} (hi : i < ops.size) (hL : lst L i = false) (hk : C.K i = 2 ∨ C.K i = 3) : β ≤ i := by
  rcases I.hb with rfl | ⟨c, rfl, hc, hLc, hKc⟩
  · exact Nat.zero_le _
  · rcases Nat.lt_trichotomy c i with h | h | h
    · omega
    · rw [h, hL] at hLc; cases hLc
    · have := I.closed c hLc i (C.pre3 hc hKc h hk)
      rw [hL] at this; cases this

/-- What is known at an operation that turns memory. -/
theorem DInv.at3 (I : DInv C ρ0 w1 a1 L a w ρ β) {i : Nat} (hi : i < ops.size) (hL : lst L i = false) (hpre : ∀ j, (C.B i).testBit j = true → lst L j = true) (h3 : C.K i = 3) :
    Sim P w0 (res ρ (C.N i)) (C.st i).H w ∧ (∀ k, Foot (res ρ (C.N i)) (C.st i).H k → Foot ρ0 (C.st 0).H k ∨ w1.heap.size ≤ k) ∧
    (∀ j, i < j → j < ops.size → lst L j = true → C.wz j = true → C.K j = 2 → ∃ x y, (C.st (j + 1)).H = (C.st j).H.new x ∧ x.rw = true ∧ ρ (C.N j) = some y ∧ ORel P (res ρ (C.N (j + 1))) y w x ∧ w0.heap.size ≤ y.1 ∧ w1.heap.size ≤ y.1 ∧
      (∀ b o z, (C.st i).H.o b = some o → res ρ (C.N i) b = some z → z.1 ≠ y.1)) := by
  have hβ := I.b_le_i hi hL (Or.inr h3)
  obtain ⟨hsim, horig⟩ := I.chain i hβ (by omega) (by
    intro j h1 h2 h4
    have := I.hmax j (hpre j (C.pre3 hi h3 h2 (Or.inr h4))) h4
    omega) (fun j h1 h2 h4 => hpre j (C.pre3 hi h3 h2 (Or.inl h4)))
  refine ⟨hsim, ?_, ?_⟩
  · rintro k ⟨b, o, z, h1, h2, h4, h5⟩
    rcases horig b o z h1 h4 with ⟨h6, h7⟩ | ⟨j, g1, g2, g3, g4, g5, g6, g7⟩
    · exact I.foot k ⟨b, o, z, h6, h2, h7, h5⟩
    · obtain ⟨x, y, e1, _, e2, _, _, e3, _⟩ := I.objs j g1 (by omega) g3 g4 g5
      rw [g7] at e2
      cases e2
      right
      omega
  · intro j h1 h2 h4 h5 h6
    obtain ⟨x, y, e1, e2, e3, e4, e5, e6, e7⟩ := I.objs j (by omega) h2 h4 h5 h6
    refine ⟨x, y, e1, e2, e3, e4, e5, e6, ?_⟩
    intro b o z g1 g2 g3
    rcases horig b o z g1 g2 with ⟨h7, h8⟩ | ⟨j', g4, g5, g6, g7, g8, g9, g10⟩
    · exact e7 b o z h7 h8 g3
    · have := I.dist j' j z y g4 (by omega) (by omega) h2 g6 h4 g7 h5 g8 h6 g10 e3 g3
      omega

/-- An operation that turns memory, and one of these that is not wanted. -/
theorem DInv.adv3 (I : DInv C ρ0 w1 a1 L a w ρ β) {i : Nat} {o : Oper} (ho : ops[i]? = some o) (hL : lst L i = false) (hpre : ∀ j, (C.B i).testBit j = true → lst L j = true) {c : Value} {w' : World} {ρ'' : Rn} (h3 : C.K i = 3)
    (hs : Sim P w0 ρ'' (C.st (i + 1)).H w') (hf : Fr (res ρ (C.N i)) (C.st i).H w ρ'' (C.st (i + 1)).H w') (hval : VRel ρ'' (C.val i) c) :
    DInv C ρ0 w1 a1 (L.setIfInBounds i true) (a.put o.dst c) w' (fun b => if b < C.N (i + 1) then ρ'' b else ρ b) (i + 1) := by
  have hi : i < ops.size := (Array.getElem?_eq_some_iff.1 ho).1
  have hiL : i < L.size := by rw [I.lsz]; exact hi
  have hset := fun j => lst_set (L := L) hiL j
  have hβ := I.b_le_i hi hL (Or.inr h3)
  obtain ⟨hsim, hfi, hobi⟩ := I.at3 hi hL hpre h3
  have hNi := C.N_mono (i := i) (j := i + 1) (by omega) (by omega)
  have hres : res (fun b => if b < C.N (i + 1) then ρ'' b else ρ b) (C.N (i + 1)) = ρ'' := by
    funext b
    unfold res
    by_cases hb : b < C.N (i + 1)
    · rw [if_pos hb]; show (if b < C.N (i + 1) then ρ'' b else ρ b) = ρ'' b; rw [if_pos hb]
    · rw [if_neg hb, hs.fresh b (by unfold DCtx.N at hb; omega)]
  have hsucc : ∀ j, j < ops.size → C.wz j = true → C.K j = 2 → C.N (j + 1) = C.N j + 1 := by
    intro j hj h4 h5
    have ht := C.tr j hj
    have hk' : (C.O j).op.kind = 2 := h5
    obtain ⟨x', e, _⟩ := kind2 hk' (ht.act h4 (by show (C.O j).op.kind ≠ 1; rw [hk']; decide))
    unfold DCtx.N; rw [e]; rfl
  have hext : Ext ρ (fun b => if b < C.N (i + 1) then ρ'' b else ρ b) := by
    intro b z hb
    show (if b < C.N (i + 1) then ρ'' b else ρ b) = some z
    split
    · rename_i hlt
      by_cases hlt2 : b < C.N i
      · exact hf.ext b z (res_of hlt2 hb)
      · exfalso
        rcases I.dom b z hb with h | ⟨j, g1, g2, g3, g4, g5, g6⟩
        · have := C.N_mono (i := β) (j := i) hβ (by omega); omega
        · rcases Nat.lt_trichotomy j i with h | h | h
          · have := C.N_mono (i := j + 1) (j := i) (by omega) (by omega)
            rw [hsucc j g2 g4 g5] at this
            omega
          · rw [h, hL] at g3; cases g3
          · have := C.N_mono (i := i + 1) (j := j) (by omega) (by omega)
            omega
    · exact hb
  have hge : ∀ j, i < j → j < ops.size → (fun b => if b < C.N (i + 1) then ρ'' b else ρ b) (C.N j) = ρ (C.N j) := by
    intro j h1 h2
    have := C.N_mono (i := i + 1) (j := j) (by omega) (by omega)
    show (if C.N j < C.N (i + 1) then ρ'' (C.N j) else ρ (C.N j)) = ρ (C.N j)
    rw [if_neg (by omega)]
  have hold : ∀ j, lst (L.setIfInBounds i true) j = true → i < j → lst L j = true := by
    intro j hj h4
    rcases (hset j).mp hj with h | h
    · omega
    · exact h
  refine I.adv ho hL hpre (Or.inr ⟨rfl, h3, hβ⟩) hext (by rw [hres]; exact hs) ?_ hf.size ?_ ?_ ?_ ?_ ?_
  · rw [show max (i + 1) (i + 1) = i + 1 by omega, hres]; exact hval
  · intro k hk hfo
    refine hf.same k (Nat.lt_of_lt_of_le hk I.sz) ?_
    intro h
    rcases hfi k h with h | h
    · exact hfo h
    · omega
  · intro k hk
    rw [hres] at hk
    rcases hf.foot k hk with h | h
    · exact hfi k h
    · right; have := I.sz; omega
  · intro j h4 h5 h6 h7 h8
    obtain ⟨x, y, e1, e2, e3, e4, e5, e6, e7⟩ := hobi j (by omega) h5 (hold j h6 (by omega)) h7 h8
    have hnf : ¬ Foot (res ρ (C.N i)) (C.st i).H y.1 := by
      rintro ⟨b, o', z, g1, g2, g3, g4⟩
      exact e7 b o' z g1 g3 g4
    refine ⟨x, y, e1, e2, (hge j (by omega) h5).trans e3, ?_, e5, e6, ?_⟩
    · exact (e4.ext (res_ext2 hext (Nat.le_refl _))).world (hf.same _ e4.lt hnf)
    · rw [hres]
      intro b o' z g1 g2 g3
      cases hrw : o'.rw with
      | false => have := hs.ro b o' z g1 hrw g2; omega
      | true =>
        rcases hf.foot y.1 ⟨b, o', z, g1, hrw, g2, g3⟩ with h | h
        · exact hnf h
        · have := e4.lt; omega
  · intro j k y1 y2 h4 h5 h6 h7 h8 h9 h10 h11 h12 h13 h14 h15 h16
    replace h14 := (hge j (by omega) h6).symm.trans h14
    replace h15 := (hge k (by omega) h7).symm.trans h15
    exact I.dist j k y1 y2 (by omega) (by omega) h6 h7 (hold j h8 (by omega)) (hold k h9 (by omega)) h10 h11 h12 h13 h14 h15 h16
  · intro b z hb
    by_cases hlt : b < C.N (i + 1)
    · exact Or.inl hlt
    · have hb' : ρ b = some z := by
        have := hb
        rwa [if_neg hlt] at this
      rcases I.dom b z hb' with h | ⟨j, g1, g2, g3, g4, g5, g6⟩
      · have := C.N_mono (i := β) (j := i + 1) (by omega) (by omega); omega
      · by_cases hji : j ≤ i
        · rcases Nat.lt_or_eq_of_le hji with h | h
          · have := C.N_mono (i := j + 1) (j := i + 1) (by omega) (by omega)
            rw [hsucc j g2 g4 g5] at this
            omega
          · rw [h, hL] at g3; cases g3
        · exact Or.inr ⟨j, by omega, g2, (hset j).mpr (Or.inr g3), g4, g5, g6⟩

end
end Go.Proofs.Ythcibbfljcfheaa.Abs
