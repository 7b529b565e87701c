/- A drawn region's run in the order of the text, step by step; what the plan of a region says. No condition of their own. -/
import Derived.Test.YthcibbfljcfheaaAbs15a
namespace Go.Proofs.Ythcibbfljcfheaa.Abs
set_option linter.unusedVariables false
set_option linter.unusedSimpArgs false

structure TrS where
  t : Nat → AV
  H : AH
  sn : List AH
  ld : List (AOp × (Nat → AV) × AV)

def entryOf (o : AOp) (t : Nat → AV) (v : AV) (z : Bool) : AOp × (Nat → AV) × AV := if z then (o, t, v) else (.val (.c undefA), t, undefA)

structure TStep (call : CallF) (x : AOper × List Nat) (s s' : TrS) (v : AV) (z : Bool) : Prop where
  want : awanted x.1.g s.t = some z
  slot : s'.t = put s.t x.1.dst v
  skip : z = false → v = undefA ∧ s'.H = s.H
  sn3 : x.1.op.kind = 3 → s'.sn = s'.H :: s.sn
  snN : x.1.op.kind ≠ 3 → s'.sn = s.sn
  ld1 : x.1.op.kind = 1 → s'.ld = entryOf x.1.op s.t v z :: s.ld
  ldN : x.1.op.kind ≠ 1 → s'.ld = s.ld
  still : x.1.op.kind = 3 → astill call s'.H s.ld x.2 = true
  read : z = true → x.1.op.kind = 1 → s'.H = s.H ∧ ∃ m, x.2 = [m] ∧ asame (aop call s.t x.1.op) (s.sn.take m) = some v
  act : z = true → x.1.op.kind ≠ 1 → aop call s.t x.1.op s.H = some (v, s'.H)

theorem trace_of {call : CallF} : ∀ (das : List (AOper × List Nat)) {t : Nat → AV} {H : AH} {sn : List AH} {ld : List (AOp × (Nat → AV) × AV)} {t' : Nat → AV} {H' : AH}, adrw call das t H sn ld = some (t', H') →
    ∃ (st : Nat → TrS) (val : Nat → AV) (wz : Nat → Bool), st 0 = ⟨t, H, sn, ld⟩ ∧ (st das.length).t = t' ∧ (st das.length).H = H' ∧ ∀ i x, das[i]? = some x → TStep call x (st i) (st (i + 1)) (val i) (wz i)
  | [], t, H, sn, ld, t', H', h => by
    unfold adrw at h
    cases h
    exact ⟨fun _ => ⟨t, H, sn, ld⟩, fun _ => undefA, fun _ => false, rfl, rfl, rfl, by simp⟩
  | (o, pl) :: das, t, H, sn, ld, t', H', h => by
    have key : ∀ (s1 : TrS) (v : AV) (z : Bool), TStep call (o, pl) ⟨t, H, sn, ld⟩ s1 v z → adrw call das s1.t s1.H s1.sn s1.ld = some (t', H') →
        ∃ (st : Nat → TrS) (val : Nat → AV) (wz : Nat → Bool), st 0 = ⟨t, H, sn, ld⟩ ∧ (st ((o, pl) :: das).length).t = t' ∧ (st ((o, pl) :: das).length).H = H' ∧ ∀ i x, ((o, pl) :: das)[i]? = some x → TStep call x (st i) (st (i + 1)) (val i) (wz i) := by
      intro s1 v z hst hr
      obtain ⟨st, val, wz, h1, h2, h3, h4⟩ := trace_of das hr
      refine ⟨fun i => match i with | 0 => ⟨t, H, sn, ld⟩ | i + 1 => st i, fun i => match i with | 0 => v | i + 1 => val i, fun i => match i with | 0 => z | i + 1 => wz i, rfl, h2, h3, ?_⟩
      intro i x hx
      cases i with
      | zero =>
        simp at hx
        subst hx
        simp only
        rw [h1]
        exact hst
      | succ i => exact h4 i x (by simpa using hx)
    unfold adrw at h
    split at h
    · rename_i hw
      split at h
      · rename_i hk
        split at h
        · rename_i m
          split at h
          · rename_i v hs
            exact key ⟨put t o.dst v, H, sn, (o.op, t, v) :: ld⟩ v true ⟨hw, rfl, nofun, (fun e => by rw [hk] at e; cases e), fun _ => rfl, fun _ => rfl, fun e => absurd hk e, (fun e => by rw [hk] at e; cases e), fun _ _ => ⟨rfl, m, rfl, hs⟩, fun _ e => absurd hk e⟩ h
          · cases h
        · cases h
      · rename_i hk
        split at h
        · rename_i v H1 ho
          split at h
          · rename_i hst
            exact key ⟨put t o.dst v, H1, H1 :: sn, ld⟩ v true ⟨hw, rfl, nofun, fun _ => rfl, fun e => absurd hk e, (fun e => by rw [hk] at e; cases e), fun _ => rfl, fun _ => hst, (fun _ e => by rw [hk] at e; cases e), fun _ _ => ho⟩ h
          · cases h
        · cases h
      · rename_i hk1 hk3
        split at h
        · rename_i v H1 ho
          exact key ⟨put t o.dst v, H1, sn, ld⟩ v true ⟨hw, rfl, nofun, fun e => (hk3 e).elim, fun _ => rfl, fun e => (hk1 e).elim, fun _ => rfl, fun e => (hk3 e).elim, fun _ e => (hk1 e).elim, fun _ _ => ho⟩ h
        · cases h
    · rename_i hw
      split at h
      · rename_i hk
        exact key ⟨put t o.dst undefA, H, sn, (.val (.c undefA), t, undefA) :: ld⟩ undefA false ⟨hw, rfl, fun _ => ⟨rfl, rfl⟩, (fun e => by rw [hk] at e; cases e), fun _ => rfl, fun _ => rfl, fun e => absurd hk e, (fun e => by rw [hk] at e; cases e), nofun, nofun⟩ h
      · rename_i hk
        split at h
        · rename_i hst
          exact key ⟨put t o.dst undefA, H, H :: sn, ld⟩ undefA false ⟨hw, rfl, fun _ => ⟨rfl, rfl⟩, fun _ => rfl, fun e => absurd hk e, (fun e => by rw [hk] at e; cases e), fun _ => rfl, fun _ => hst, nofun, nofun⟩ h
        · cases h
      · rename_i hk1 hk3
        exact key ⟨put t o.dst undefA, H, sn, ld⟩ undefA false ⟨hw, rfl, fun _ => ⟨rfl, rfl⟩, fun e => (hk3 e).elim, fun _ => rfl, fun e => (hk1 e).elim, fun _ => rfl, fun e => (hk3 e).elim, nofun, nofun⟩ h
    · cases h

/-- A reading that is the same in some heaps is so in each. -/
theorem asame_mem {f : AH → Option (AV × AH)} : ∀ {l : List AH} {v : AV}, asame f l = some v → ∀ H ∈ l, ∃ H', f H = some (v, H')
  | [], _, h, H, hm => by simp at hm
  | [H0], v, h, H, hm => by
    simp at hm
    subst hm
    simp only [asame] at h
    split at h
    · rename_i u H' e; cases h; exact ⟨H', e⟩
    · cases h
  | H0 :: H1 :: l, v, h, H, hm => by
    simp only [asame] at h
    split at h
    · rename_i u H' w e1 e2
      split at h
      · rename_i e
        cases h
        subst e
        rcases List.mem_cons.mp hm with rfl | hm
        · exact ⟨H', e1⟩
        · exact asame_mem e2 H hm
      · cases h
    · cases h

theorem astill_mem {call : CallF} {H : AH} {ld : List (AOp × (Nat → AV) × AV)} : ∀ {l : List Nat}, astill call H ld l = true → ∀ j ∈ l, ∃ o t v H', ld[j]? = some (o, t, v) ∧ aop call t o H = some (v, H')
  | [], _, j, hm => by simp at hm
  | j0 :: l, h, j, hm => by
    simp only [astill] at h
    split at h
    · rename_i o t v e1
      split at h
      · rename_i u H' e2
        split at h
        · rename_i e
          subst e
          rcases List.mem_cons.mp hm with rfl | hm
          · exact ⟨o, t, u, H', e1, e2⟩
          · exact astill_mem h j hm
        · cases h
      · cases h
    · cases h

/-- The rows of what stands ahead. -/
theorem befRow_edges (acc : List Nat) : ∀ (es : List Edge) (s : Nat), (∀ j, s.testBit j = true → (es.foldl (fun s e => if Region.binds .any e then s ||| 2 ^ e.on ||| acc.getD e.on 0 else s) s).testBit j = true) ∧
    ∀ e ∈ es, Region.binds .any e = true → (es.foldl (fun s e => if Region.binds .any e then s ||| 2 ^ e.on ||| acc.getD e.on 0 else s) s).testBit e.on = true ∧ ∀ j, (acc.getD e.on 0).testBit j = true → (es.foldl (fun s e => if Region.binds .any e then s ||| 2 ^ e.on ||| acc.getD e.on 0 else s) s).testBit j = true
  | [], s => ⟨fun _ h => h, by simp⟩
  | e0 :: es, s => by
    simp only [List.foldl_cons]
    obtain ⟨h1, h2⟩ := befRow_edges acc es (if Region.binds .any e0 then s ||| 2 ^ e0.on ||| acc.getD e0.on 0 else s)
    refine ⟨fun j hj => h1 j ?_, ?_⟩
    · split
      · simp [Nat.testBit_or, hj]
      · exact hj
    · intro e he hb
      rcases List.mem_cons.mp he with rfl | he
      · refine ⟨h1 _ ?_, fun j hj => h1 j ?_⟩
        · rw [if_pos hb]; simp [Nat.testBit_or, Nat.testBit_two_pow_self]
        · rw [if_pos hb]; simp only [Nat.testBit_or, hj, Bool.or_true]
      · exact h2 e he hb

theorem befRow_only (acc : List Nat) : ∀ (es : List Edge) (s j : Nat), (es.foldl (fun s e => if Region.binds .any e then s ||| 2 ^ e.on ||| acc.getD e.on 0 else s) s).testBit j = true → s.testBit j = true ∨ ∃ e ∈ es, Region.binds .any e = true ∧ (j = e.on ∨ (acc.getD e.on 0).testBit j = true)
  | [], s, j, h => Or.inl h
  | e0 :: es, s, j, h => by
    simp only [List.foldl_cons] at h
    rcases befRow_only acc es _ j h with h | ⟨e, he, hb, h⟩
    · split at h
      · rename_i hb
        simp only [Nat.testBit_or, Bool.or_eq_true] at h
        rcases h with (h | h) | h
        · exact Or.inl h
        · rw [Nat.testBit_two_pow] at h
          have h' : e0.on = j := by simpa using h
          exact Or.inr ⟨e0, List.mem_cons_self, hb, Or.inl h'.symm⟩
        · exact Or.inr ⟨e0, List.mem_cons_self, hb, Or.inr h⟩
      · exact Or.inl h
    · exact Or.inr ⟨e, List.mem_cons_of_mem _ he, hb, h⟩

theorem cbefore_spec : ∀ (os : List Oper) (acc : List Nat), ∃ tail, cbefore os acc = acc ++ tail ∧ tail.length = os.length ∧ ∀ k o, os[k]? = some o → tail[k]? = some (cbefRow (acc ++ tail.take k) o)
  | [], acc => ⟨[], by simp [cbefore], rfl, by simp⟩
  | o :: os, acc => by
    obtain ⟨tail, h1, h2, h3⟩ := cbefore_spec os (acc ++ [cbefRow acc o])
    refine ⟨cbefRow acc o :: tail, by rw [cbefore, h1]; simp, by simp [h2], ?_⟩
    intro k p hk
    cases k with
    | zero => simp at hk; subst hk; simp
    | succ k =>
      have := h3 k p (by simpa using hk)
      simpa using this

/-- What a region's plan says of its operations. -/
structure Plan (P : Program) (nt : Nat) (ops : Array Oper) (O : Nat → AOper) (B : Nat → Nat) (PL : Nat → List Nat) : Prop where
  oper : ∀ i o, ops[i]? = some o → coper P nt ops o = some (O i)
  plan : ∀ i, i < ops.size → cplan (B i) (O i).op.kind ((List.range i).reverse.map fun j => (j, (O j).op.kind)) = some (PL i)
  apart : ∀ i j, i < ops.size → j < i → (∀ d, (O j).dst = some d → (O i).dst ≠ some d) ∧ ((B i).testBit j = true ∨ AOper.off (O j) (O i) = true)
  edge : ∀ i o, ops[i]? = some o → ∀ e ∈ o.after, Region.binds .any e = true → e.on < i ∧ (B i).testBit e.on = true ∧ ∀ j, (B e.on).testBit j = true → (B i).testBit j = true
  only : ∀ i o, ops[i]? = some o → ∀ j, (B i).testBit j = true → ∃ e ∈ o.after, Region.binds .any e = true ∧ (j = e.on ∨ (B e.on).testBit j = true)

theorem copers_get {P : Program} {nt : Nat} {ops : Array Oper} : ∀ {os : List Oper} {as : List AOper}, copers P nt ops os = some as → as.length = os.length ∧ ∀ (k : Nat) (o : Oper), os[k]? = some o → ∃ ao, as[k]? = some ao ∧ coper P nt ops o = some ao
  | [], as, h => by unfold copers at h; cases h; exact ⟨rfl, by simp⟩
  | o :: os, as, h => by
    unfold copers at h
    split at h
    · rename_i ao as' h1 h2
      cases h
      obtain ⟨h3, h4⟩ := copers_get h2
      refine ⟨by simp [h3], ?_⟩
      intro k p hk
      cases k with
      | zero => simp at hk; subst hk; exact ⟨ao, by simp, h1⟩
      | succ k => simpa using h4 k p (by simpa using hk)
    · cases h

theorem cplans_get : ∀ {l : List (AOper × Nat × Nat)} {done : List (Nat × Nat)} {das : List (AOper × List Nat)}, cplans l done = some das → das.length = l.length ∧
    ∀ (k : Nat) (o : AOper) (bef i : Nat), l[k]? = some (o, bef, i) → ∃ pl, das[k]? = some (o, pl) ∧ cplan bef o.op.kind ((l.take k).reverse.map (fun x => (x.2.2, x.1.op.kind)) ++ done) = some pl
  | [], done, das, h => by unfold cplans at h; cases h; exact ⟨rfl, by simp⟩
  | (o, bef, i) :: l, done, das, h => by
    unfold cplans at h
    split at h
    · rename_i pl q h1 h2
      cases h
      obtain ⟨h3, h4⟩ := cplans_get h2
      refine ⟨by simp [h3], ?_⟩
      intro k o' bef' i' hk
      cases k with
      | zero => simp at hk; obtain ⟨rfl, rfl, rfl⟩ := hk; exact ⟨pl, by simp, by simpa using h1⟩
      | succ k =>
        obtain ⟨pl', h5, h6⟩ := h4 k o' bef' i' (by simpa using hk)
        exact ⟨pl', by simpa using h5, by simpa using h6⟩
    · cases h

theorem coff_get : ∀ {l : List (AOper × Nat × Nat)} {done : List (AOper × Nat)}, coff l done = true → ∀ (k : Nat) (o : AOper) (bef i : Nat), l[k]? = some (o, bef, i) →
    ∀ x ∈ (l.take k).reverse.map (fun x => (x.1, x.2.2)) ++ done, (!(o.dst.isSome && o.dst == x.1.dst) && (bef.testBit x.2 || AOper.off x.1 o)) = true
  | [], _, _, k, o, bef, i, hk => by simp at hk
  | (o0, bef0, i0) :: l, done, h, k, o, bef, i, hk => by
    unfold coff at h
    rw [Bool.and_eq_true] at h
    cases k with
    | zero =>
      simp at hk
      obtain ⟨rfl, rfl, rfl⟩ := hk
      intro x hx
      simp at hx
      exact List.all_eq_true.mp h.1 x hx
    | succ k =>
      intro x hx
      refine coff_get h.2 k o bef i (by simpa using hk) x ?_
      simpa using hx

theorem cdrawn_plan {P : Program} {nt : Nat} {ops : Array Oper} {das : List (AOper × List Nat)} (h : cdrawn P nt ops = some das) : ∃ O B PL, Plan P nt ops O B PL ∧ das.length = ops.size ∧ ∀ i, i < ops.size → das[i]? = some (O i, PL i) := by
  unfold cdrawn at h
  split at h
  case h_2 => cases h
  rename_i os hos
  simp only at h
  split at h
  case isFalse => cases h
  rename_i hck
  rw [Bool.and_eq_true] at hck
  obtain ⟨hlen, hget⟩ := copers_get hos
  simp only [Array.length_toList] at hlen
  obtain ⟨bef, hb1, hb2, hb3⟩ := cbefore_spec ops.toList []
  simp only [List.nil_append, Array.length_toList] at hb1 hb2 hb3
  rw [hb1] at h hck
  have hl : ∀ (k : Nat), k < ops.size → ((os.zip bef).zipIdx.map fun (x : (AOper × Nat) × Nat) => (x.1.1, x.1.2, x.2))[k]? = some (os.getD k default, bef.getD k 0, k) := by
    intro k hk
    have h1 : os[k]? = some (os.getD k default) := by simp [List.getD, List.getElem?_eq_getElem (show k < os.length by omega)]
    have h2 : bef[k]? = some (bef.getD k 0) := by simp [List.getD, List.getElem?_eq_getElem (show k < bef.length by omega)]
    have hz : (os.zip bef)[k]? = some (os.getD k default, bef.getD k 0) := List.getElem?_zip_eq_some.mpr ⟨h1, h2⟩
    rw [List.getElem?_map, List.getElem?_zipIdx, hz]
    simp
  have hll : ((os.zip bef).zipIdx.map fun (x : (AOper × Nat) × Nat) => (x.1.1, x.1.2, x.2)).length = ops.size := by simp; omega
  have htake : ∀ k, k ≤ ops.size → (((os.zip bef).zipIdx.map fun (x : (AOper × Nat) × Nat) => (x.1.1, x.1.2, x.2)).take k) = (List.range k).map fun j => (os.getD j default, bef.getD j 0, j) := by
    intro k hk
    apply List.ext_getElem?
    intro j
    rw [List.getElem?_take]
    split
    · rename_i hj
      rw [hl j (by omega), List.getElem?_map, List.getElem?_range hj]
      rfl
    · rename_i hj
      rw [List.getElem?_eq_none (by simp; omega)]
  obtain ⟨hp1, hp2⟩ := cplans_get h
  refine ⟨fun k => os.getD k default, fun k => bef.getD k 0, fun k => (das.getD k default).2, ⟨?_, ?_, ?_, ?_, ?_⟩, by rw [hp1]; exact hll, ?_⟩
  · intro i o ho
    obtain ⟨ao, h1, h2⟩ := hget i o (by simpa using ho)
    simp only [List.getD, h1, Option.getD_some]
    exact h2
  · intro i hi
    obtain ⟨pl, h1, h2⟩ := hp2 i _ _ _ (hl i hi)
    rw [htake i (by omega)] at h2
    simp only [List.getD, h1, Option.getD_some]
    simp only [List.append_nil, ← List.map_reverse, List.map_map] at h2
    exact h2
  · intro i j hi hj
    have h1 := coff_get hck.2 i _ _ _ (hl i hi) (os.getD j default, j) (by
      rw [htake i (by omega)]
      simp only [List.append_nil, ← List.map_reverse, List.map_map]
      exact List.mem_map.mpr ⟨j, by simpa using hj, rfl⟩)
    rw [Bool.and_eq_true] at h1
    refine ⟨?_, by simpa using h1.2⟩
    intro d hd e
    have := h1.1
    rw [hd, e] at this
    simp at this
  · intro i o ho e he hb
    have ho' : ops.toList[i]? = some o := by simpa using ho
    have hon : e.on < i := by
      have h1 := hck.1
      unfold cback at h1
      have h2 := List.all_eq_true.mp h1 (o, i) (by
        refine List.mem_of_getElem? (i := i) ?_
        simp [List.getElem?_zipIdx, ho'])
      have h3 := List.all_eq_true.mp h2 e (by simpa using he)
      simp only [hb, Bool.not_true, Bool.false_or] at h3
      simpa using h3
    have hrow := hb3 i o ho'
    have hedge := (befRow_edges (bef.take i) o.after.toList 0).2 e (by simpa using he) hb
    have hBi : bef.getD i 0 = cbefRow (bef.take i) o := by simp [List.getD, hrow]
    have hBe : (bef.take i).getD e.on 0 = bef.getD e.on 0 := by simp only [List.getD, List.getElem?_take, if_pos hon]
    refine ⟨hon, ?_, ?_⟩
    · show (bef.getD i 0).testBit e.on = true
      rw [hBi]; exact hedge.1
    · intro j hj
      show (bef.getD i 0).testBit j = true
      rw [hBi]
      exact hedge.2 j (by rw [hBe]; exact hj)
  · intro i o ho j hj
    have ho' : ops.toList[i]? = some o := by simpa using ho
    have hrow := hb3 i o ho'
    have hBi : bef.getD i 0 = cbefRow (bef.take i) o := by simp [List.getD, hrow]
    have hj' : (bef.getD i 0).testBit j = true := hj
    rw [hBi] at hj'
    rcases befRow_only (bef.take i) o.after.toList 0 j hj' with h | ⟨e, he, hb, h⟩
    · simp at h
    · refine ⟨e, by simpa using he, hb, ?_⟩
      rcases h with h | h
      · exact Or.inl h
      · right
        show (bef.getD e.on 0).testBit j = true
        simp only [List.getD, List.getElem?_take] at h ⊢
        split at h
        · exact h
        · simp at h
  · intro i hi
    obtain ⟨pl, h1, h2⟩ := hp2 i _ _ _ (hl i hi)
    simp only [List.getD, h1, Option.getD_some]

end Go.Proofs.Ythcibbfljcfheaa.Abs
