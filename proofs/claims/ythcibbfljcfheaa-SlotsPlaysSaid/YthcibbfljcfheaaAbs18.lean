/- A machine with choices: ranges over functions, and over maps in whatever order. Definitions, and what is wanted of the model. No condition of their own. -/
import Derived.Test.YthcibbfljcfheaaAbs17
namespace Go.Proofs.Ythcibbfljcfheaa.Abs
set_option linter.unusedVariables false
set_option linter.unusedSimpArgs false
open Go.RowKit

/-- A state: a text that is run (in a round, or not), operations, a call of a function, a call of a loop's yield. -/
inductive Cfg where
  | k (rd : Bool) (fn : AFun) (k : List AItem) (t : Nat → AV) (H : AH)
  | o (os : List AOper) (t : Nat → AV) (H : AH)
  | c (f : FuncId) (args : List AV) (H : AH)
  | y (l : Nat) (args : List AV) (H : AH)

/-- What it comes to: a value, or slots; and the heap. -/
inductive Out where
  | v (v : AV) (H : AH)
  | s (t : Nat → AV) (H : AH)

def puts (t : Nat → AV) (ps : List Nat) (args : List AV) : Nat → AV := (ps.zip args).foldl (fun t x => upd t x.1 x.2) t

/-- It comes to an end, however is chosen, with something of which R holds. T: the functions that are run without choices; E: all texts. -/
inductive Ev (T : Tbl) (E : FuncId → Option AFun) : Cfg → (Out → Prop) → Prop
  | fin {fn : AFun} {t : Nat → AV} {H : AH} {v : AV} {H' : AH} {R : Out → Prop} (h : afinish fn t H = some (v, H')) (hR : R (.v v H')) : Ev T E (.k false fn [] t H) R
  | seg {fn : AFun} {t : Nat → AV} {H : AH} {R : Out → Prop} (hR : R (.s t H)) : Ev T E (.k true fn [] t H) R
  | ret {fn : AFun} {k : List AItem} {t : Nat → AV} {H : AH} {v : AV} {H' : AH} {R : Out → Prop} (h : afinish fn t H = some (v, H')) (hR : R (.v v H')) : Ev T E (.k false fn (.code .ret :: k) t H) R
  | inBlock {rd : Bool} {fn : AFun} {id : Nat} {k : List AItem} {t : Nat → AV} {H : AH} {R : Out → Prop} (h : Ev T E (.k rd fn k t H) R) : Ev T E (.k rd fn (.inBlock id :: k) t H) R
  | inLoop {rd : Bool} {fn : AFun} {c : ACode} {k : List AItem} {t : Nat → AV} {H : AH} {R : Out → Prop} (h : Ev T E (.k rd fn (.code c :: .inLoop c :: k) t H) R) : Ev T E (.k rd fn (.inLoop c :: k) t H) R
  | skip {rd : Bool} {fn : AFun} {k : List AItem} {t : Nat → AV} {H : AH} {R : Out → Prop} (h : Ev T E (.k rd fn k t H) R) : Ev T E (.k rd fn (.code .skip :: k) t H) R
  | seq {rd : Bool} {fn : AFun} {a b : ACode} {k : List AItem} {t : Nat → AV} {H : AH} {R : Out → Prop} (h : Ev T E (.k rd fn (.code a :: .code b :: k) t H) R) : Ev T E (.k rd fn (.code (.seq a b) :: k) t H) R
  | block {rd : Bool} {fn : AFun} {id : Nat} {a : ACode} {k : List AItem} {t : Nat → AV} {H : AH} {R : Out → Prop} (h : Ev T E (.k rd fn (.code a :: .inBlock id :: k) t H) R) : Ev T E (.k rd fn (.code (.block id a) :: k) t H) R
  | loop {rd : Bool} {fn : AFun} {a : ACode} {k : List AItem} {t : Nat → AV} {H : AH} {R : Out → Prop} (h : Ev T E (.k rd fn (.code a :: .inLoop a :: k) t H) R) : Ev T E (.k rd fn (.code (.loop a) :: k) t H) R
  | cond {rd : Bool} {fn : AFun} {c : AX} {a b : ACode} {k : List AItem} {t : Nat → AV} {H : AH} {R : Out → Prop} {z : Bool} (hc : c.ev t = .b z) (h : Ev T E (.k rd fn (.code (if z then a else b) :: k) t H) R) : Ev T E (.k rd fn (.code (.cond c a b) :: k) t H) R
  | exit {rd : Bool} {fn : AFun} {id : Nat} {k k' : List AItem} {t : Nat → AV} {H : AH} {R : Out → Prop} (hk : aexit id k = some k') (h : Ev T E (.k rd fn k' t H) R) : Ev T E (.k rd fn (.code (.exit id) :: k) t H) R
  | reg {rd : Bool} {fn : AFun} {ops : List AOper} {k : List AItem} {t : Nat → AV} {H : AH} {R R1 : Out → Prop} (ho : Ev T E (.o ops t H) R1) (h : ∀ t' H', R1 (.s t' H') → Ev T E (.k rd fn k t' H') R) : Ev T E (.k rd fn (.code (.reg ops) :: k) t H) R
  | drw {rd : Bool} {fn : AFun} {ops : List (AOper × List Nat)} {k : List AItem} {t : Nat → AV} {H : AH} {R : Out → Prop} {t' : Nat → AV} {H' : AH} (ho : adrw (callR T) ops t H [H] [] = some (t', H')) (h : Ev T E (.k rd fn k t' H') R) : Ev T E (.k rd fn (.code (.drw ops) :: k) t H) R
  | rf {fn : AFun} {f : AX} {ps : List Nat} {a b : ACode} {k : List AItem} {t : Nat → AV} {H : AH} {R R1 : Out → Prop} {g : FuncId} {first caps : List AV} (hf : f.ev t = .fn (.func g) first caps)
      (hc : Ev T E (.c g (first ++ [.fn (.yield H.n) [] []] ++ caps) (H.new (.lp true fn.nt t ps a b))) R1)
      (hr : ∀ v H', R1 (.v v H') → H'.o H.n = some (.lp true fn.nt t ps a b)) (h : ∀ v H', R1 (.v v H') → Ev T E (.k false fn k t (H'.drop H.n)) R) : Ev T E (.k false fn (.code (.rf f ps a b) :: k) t H) R
  | onil {t : Nat → AV} {H : AH} {R : Out → Prop} (hR : R (.s t H)) : Ev T E (.o [] t H) R
  | ooff {o : AOper} {os : List AOper} {t : Nat → AV} {H : AH} {R : Out → Prop} (hw : awanted o.g t = some false) (h : Ev T E (.o os (put t o.dst undefA) H) R) : Ev T E (.o (o :: os) t H) R
  | oop {o : AOper} {os : List AOper} {t : Nat → AV} {H : AH} {R : Out → Prop} {v : AV} {H' : AH} (hw : awanted o.g t = some true) (hop : aop (callR T) t o.op H = some (v, H')) (h : Ev T E (.o os (put t o.dst v) H') R) : Ev T E (.o (o :: os) t H) R
  | ocall {o : AOper} {os : List AOper} {t : Nat → AV} {H : AH} {R R1 : Out → Prop} {g : FuncId} {args : List AX} (hw : awanted o.g t = some true) (hop : o.op = .call g args) (hc : Ev T E (.c g (asX t args) H) R1) (h : ∀ v H', R1 (.v v H') → Ev T E (.o os (put t o.dst v) H') R) : Ev T E (.o (o :: os) t H) R
  | ocallv {o : AOper} {os : List AOper} {t : Nat → AV} {H : AH} {R R1 : Out → Prop} {f : AX} {args : List AX} {g : FuncId} {first caps : List AV} (hw : awanted o.g t = some true) (hop : o.op = .callv f args) (hf : f.ev t = .fn (.func g) first caps)
      (hc : Ev T E (.c g (first ++ asX t args ++ caps) H) R1) (h : ∀ v H', R1 (.v v H') → Ev T E (.o os (put t o.dst v) H') R) : Ev T E (.o (o :: os) t H) R
  | oyield {o : AOper} {os : List AOper} {t : Nat → AV} {H : AH} {R R1 : Out → Prop} {f : AX} {args : List AX} {l : Nat} (hw : awanted o.g t = some true) (hop : o.op = .callv f args) (hf : f.ev t = .fn (.yield l) [] [])
      (hc : Ev T E (.y l (asX t args) H) R1) (h : ∀ v H', R1 (.v v H') → Ev T E (.o os (put t o.dst v) H') R) : Ev T E (.o (o :: os) t H) R
  | onxt {o : AOper} {os : List AOper} {t : Nat → AV} {H : AH} {R : Out → Prop} {x : AX} {i m cl : Nat} {all left : List Nat} {cur : Option Nat} {es : List (AV × AV)} (hw : awanted o.g t = some true) (hop : o.op = .nxt x) (hx : x.ev t = .p (some (i, 0))) (hi : H.o i = some (.it (some m) cl all left cur)) (hm : H.o m = some (.mapo es (all, cl)))
      (h0 : (∀ n ∈ all, n ∉ left) → Ev T E (.o os (put t o.dst (.tup [.b false])) H) R)
      (h1 : all.Nodup → ∀ (j n : Nat) (e : AV × AV), all[j]? = some n → n ∈ left → es[j]? = some e → Ev T E (.o os (put t o.dst (.tup [.b true, e.1, e.2])) (H.set i (.it (some m) cl all (left.filter (· != n)) (some n)))) R) : Ev T E (.o (o :: os) t H) R
  | onxn {o : AOper} {os : List AOper} {t : Nat → AV} {H : AH} {R : Out → Prop} {x : AX} {i cl : Nat} {all left : List Nat} {cur : Option Nat} (hw : awanted o.g t = some true) (hop : o.op = .nxt x) (hx : x.ev t = .p (some (i, 0))) (hi : H.o i = some (.it none cl all left cur))
      (h : Ev T E (.o os (put t o.dst (.tup [.b false])) H) R) : Ev T E (.o (o :: os) t H) R
  | call {f : FuncId} {args : List AV} {H : AH} {R : Out → Prop} {g : AFun} (hg : E f = some g) (hl : args.length ≤ g.nt) (h : Ev T E (.k false g [.code g.body] (ainit args) H) R) : Ev T E (.c f args H) R
  | yield {l : Nat} {args : List AV} {H : AH} {R R1 R2 : Out → Prop} {nt : Nat} {t : Nat → AV} {ps : List Nat} {a b : ACode} (hl : H.o l = some (.lp true nt t ps a b)) (hn : args.length = ps.length) (hp : ∀ p ∈ ps, p < nt)
      (ha : Ev T E (.k true ⟨nt, [], .skip⟩ [.code a] (puts t ps args) H) R1)
      (hr : ∀ t1 H1, R1 (.s t1 H1) → H1.o l = some (.lp true nt t ps a b)) (hb : ∀ t1 H1, R1 (.s t1 H1) → Ev T E (.k true ⟨nt, [], .skip⟩ [.code b] t1 (H1.set l (.lp false nt t ps a b))) R2)
      (h : ∀ t2 H2, R2 (.s t2 H2) → H2.o l = some (.lp false nt t ps a b) ∧ R (.v (.b true) (H2.set l (.lp true nt t ps a b)))) : Ev T E (.y l args H) R

section
variable {P : Program} {w0 : World}

/-- The marks of deferred calls that a frame bears: each of a block of its own, beyond N, of which no name tells. -/
def DOk (N : Nat) (ρ : Rn) (H : AH) (w : World) (ds : List Deferred) : Prop :=
  ∃ rs : List Nat, ds = rs.map (fun r => { target := .collected r, args := #[] }) ∧ rs.Nodup ∧ ∀ r ∈ rs, N ≤ r ∧ r < w.heap.size ∧ ¬ Foot ρ H r ∧ w.heap[r]? = some (.deferred (some []))

theorem DOk.nil (N : Nat) (ρ : Rn) (H : AH) (w : World) : DOk N ρ H w [] := ⟨[], rfl, List.nodup_nil, by simp⟩
theorem DOk.fr {N : Nat} {ρ ρ' : Rn} {H H' : AH} {w w' : World} {ds : List Deferred} (h : DOk N ρ H w ds) (f : Fr ρ H w ρ' H' w') : DOk N ρ' H' w' ds := by
  obtain ⟨rs, h1, h2, h3⟩ := h
  refine ⟨rs, h1, h2, fun r hr => ?_⟩
  obtain ⟨k1, k2, k3, k4⟩ := h3 r hr
  refine ⟨k1, Nat.lt_of_lt_of_le k2 f.size, fun hf => ?_, (f.same r k2 k3).trans k4⟩
  rcases f.foot r hf with h | h
  · exact k3 h
  · omega

/-- What is wanted of the model. -/
def Snd (P : Program) (w0 : World) : Cfg → (Out → Prop) → Prop
  | .k rd fn k t H, R => ∀ (K S : List Item) (ρ : Rn) (w : World) (a : Act) (b : Frame) (cs : List Frame) (N : Nat), IRel P fn.nt k K → Sim P w0 ρ H w → TRel ρ fn.nt t a → DOk N ρ H w a.defers → b.roundOf.isSome = rd → N ≤ w.heap.size →
      ∃ ρ' w' a' K' H' t', Steps P (lone (b.atR a (K ++ S)) cs w) (lone (b.atR a' K') cs w') ∧ DOk N ρ' H' w' a'.defers ∧ Sim P w0 ρ' H' w' ∧ Fr ρ H w ρ' H' w' ∧ TRel ρ' fn.nt t' a' ∧
        (match rd with
          | true => K' = S ∧ R (.s t' H')
          | false => (K' = S ∨ ∃ k2, K' = .code .ret :: k2) ∧ ∃ v, afinish fn t' H' = some (v, H') ∧ R (.v v H'))
  | .o os t H, R => ∀ (nt : Nat) (ops : Array Oper) (Os : List Oper) (i : Nat) (ρ : Rn) (w : World) (a : Act) (b : Frame) (k : List Item) (cs : List Frame), ops.toList.drop i = Os → copers P nt ops Os = some os → (∀ o, o ∈ ops → ∀ c, o.op ≠ .defer c) → Sim P w0 ρ H w → TRel ρ nt t a →
      ∃ ρ' w' tmps H' t', Steps P (lone (b.atR a (.inRegion ops (List.range' i Os.length) :: k)) cs w) (lone (b.atR { a with tmps := tmps } k) cs w') ∧ Sim P w0 ρ' H' w' ∧ Fr ρ H w ρ' H' w' ∧ TRel ρ' nt t' { a with tmps := tmps } ∧ R (.s t' H')
  | .c f args H, R => ∀ (ρ : Rn) (w : World) (cargs : Array Value), Sim P w0 ρ H w → VRels ρ args cargs.toList →
      (callFunc f cargs).run P w = .ok (.enter f cargs) w ∧ Calls P f cargs w fun e w' => ∃ ρ' c v H', e = .returned c ∧ VRel ρ' v c ∧ Sim P w0 ρ' H' w' ∧ Fr ρ H w ρ' H' w' ∧ R (.v v H')
  | .y l args H, R => ∀ (ρ : Rn) (w : World) (cargs : Array Value) (B base N : Nat), ρ l = some (B, base, N) → Sim P w0 ρ H w → VRels ρ args cargs.toList →
      ∃ f tmps assign body, (Instr.yield B cargs).run P w = .ok (.round B f tmps assign body) w ∧ ∀ (c : Frame) (cs : List Frame), ∃ ρ' u v w' H', Steps P (lone (Frame.round B f tmps assign body .normal) (c :: cs) w) (lone (c.finish u) cs w') ∧ VRel ρ' v u ∧ Sim P w0 ρ' H' w' ∧ Fr ρ H w ρ' H' w' ∧ R (.v v H')

/-- A block that no name leads to is turned. -/
theorem Sim.aside {ρ : Rn} {H : AH} {w : World} (h : Sim P w0 ρ H w) {r : Nat} (hr : w0.heap.size ≤ r) (hf : ¬ Foot ρ H r) (o : Obj) : Sim P w0 ρ H { w with heap := w.heap.setIfInBounds r o } := by
  have hother : ∀ k, k ≠ r → (w.heap.setIfInBounds r o)[k]? = w.heap[k]? := fun k hk => by simp [Ne.symm hk]
  refine ⟨h.below.trans ⟨rfl, rfl, rfl, by simp, fun k hk => hother k (by omega)⟩, ?_, h.fresh, h.inj, h.own, h.ro⟩
  intro b1 o1 h1
  obtain ⟨x, k1, k2⟩ := h.live _ _ h1
  refine ⟨x, k1, k2.world (hother _ ?_)⟩
  intro e
  cases hrw : o1.rw with
  | true => exact hf ⟨b1, o1, x, h1, hrw, k1, e⟩
  | false => have := h.ro _ _ _ h1 hrw k1; omega

/-- A block that no name leads to is laid. -/
theorem Sim.push {ρ : Rn} {H : AH} {w : World} (h : Sim P w0 ρ H w) (o : Obj) : Sim P w0 ρ H { w with heap := w.heap.push o } := by
  refine ⟨h.below.alloc h.below.size o, ?_, h.fresh, h.inj, h.own, h.ro⟩
  intro b1 o1 h1
  obtain ⟨x, k1, k2⟩ := h.live _ _ h1
  exact ⟨x, k1, k2.world (heap_push_old _ _ _ k2.lt)⟩
theorem Fr.push (ρ : Rn) (H : AH) (w : World) (o : Obj) : Fr ρ H w ρ H { w with heap := w.heap.push o } := ⟨Ext.refl _, by simp, fun k hk => Or.inl hk, fun k hk _ => heap_push_old _ _ _ hk⟩
theorem Fr.drop (ρ : Rn) (H : AH) (w : World) (b : Nat) : Fr ρ H w ρ (H.drop b) w := ⟨Ext.refl _, Nat.le_refl _, fun k hk => Or.inl hk.drop, fun _ _ _ => rfl⟩
theorem Foot.lt {ρ : Rn} {H : AH} {w : World} (hs : Sim P w0 ρ H w) {k : Nat} (h : Foot ρ H k) : k < w.heap.size := by
  obtain ⟨b, o, x, h1, h2, h3, rfl⟩ := h
  obtain ⟨y, k1, k2⟩ := hs.live _ _ h1
  rw [h3] at k1
  cases k1
  exact k2.lt

theorem exit_append {id : Nat} {S : List Item} : ∀ {K K' : List Item}, exitTo id K = some K' → exitTo id (K ++ S) = some (K' ++ S)
  | [], _, h => by simp [exitTo] at h
  | x :: K, K', h => by
    cases x <;> simp only [exitTo, List.cons_append] at h ⊢ <;> first | exact exit_append h | skip
    split at h
    · rename_i e
      cases h
      rw [if_pos e]
    · rename_i e
      rw [if_neg e]
      exact exit_append h

/-- The deferred calls of the loops' rounds are taken over, block by block. -/
theorem take_all {ρ : Rn} {H : AH} {N : Nat} {fr : Frame} {cs : List Frame} (hm : fr.mode = .returning) (hN : w0.heap.size ≤ N) : ∀ (rs : List Nat) (w : World), rs.Nodup → Sim P w0 ρ H w → (∀ r ∈ rs, N ≤ r ∧ r < w.heap.size ∧ ¬ Foot ρ H r ∧ w.heap[r]? = some (.deferred (some []))) →
    ∃ w', Steps P (lone { fr with defers := rs.map fun r => { target := .collected r, args := #[] } } cs w) (lone { fr with defers := [] } cs w') ∧ Sim P w0 ρ H w' ∧ w'.heap.size = w.heap.size ∧ ∀ k, k < N → w'.heap[k]? = w.heap[k]?
  | [], w, _, hs, _ => ⟨w, .refl _ _, hs, rfl, fun _ _ => rfl⟩
  | r :: rs, w, hnd, hs, h => by
    obtain ⟨h1, h2, h3, h4⟩ := h r (by simp)
    have hnd' := List.nodup_cons.1 hnd
    have hs1 := hs.aside (by omega) h3 (.deferred none)
    obtain ⟨w', k1, k2, k3, k4⟩ := take_all hm hN rs { w with heap := w.heap.setIfInBounds r (.deferred none) } hnd'.2 hs1 (fun r' hr' => by
      obtain ⟨m1, m2, m3, m4⟩ := h r' (by simp [hr'])
      have : r' ≠ r := fun e => hnd'.1 (e ▸ hr')
      exact ⟨m1, by simpa using m2, m3, by simp [Ne.symm this]; exact m4⟩)
    refine ⟨w', .head (step_take (fr := { fr with defers := (r :: rs).map fun r => { target := .collected r, args := #[] } }) hm rfl h4) k1, k2, by simpa using k3, fun k hk => (k4 k hk).trans ?_⟩
    have : r ≠ k := by omega
    simp [this]

end
end Go.Proofs.Ythcibbfljcfheaa.Abs
