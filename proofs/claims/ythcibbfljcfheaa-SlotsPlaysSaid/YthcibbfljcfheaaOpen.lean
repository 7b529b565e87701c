/- How the arguments that came in stand for the plain machine's values, and how a law that the plain machine answers 'true' is one of the program's. No condition of their own. -/
import Derived.Test.YthcibbfljcfheaaTb
import Derived.Test.YthcibbfljcfheaaIsin
import Derived.WalkKit
import Derived.ProofKit
import Derived.OpenShut
import Derived.Deep.Slices
import Derived.SizedLaws
import Derived.WideShapes
import Derived.KernelRfl
namespace Go.Proofs.Ythcibbfljcfheaa.Abs
open Go.RowKit
set_option linter.unusedVariables false

/-- No names. -/
abbrev ρN : Rn := fun _ => none

/-- Whatever the cells of a value of type t read as: they are the plain machine's f a, and a meets 'ok'. -/
def Rd {H : Type} (enc : TypeId × Value → H) (P : Program) (W : World) (t : TypeId) {α : Type} (f : α → List AV) (ok : α → Prop) : Prop :=
  ∀ (fuel : Nat) (cs : List Value) (x : DataW H × List MemPlace), DataW.trod enc P W 0 (fun _ => true) true fuel t cs = some x → ∃ a, VRels ρN (f a) cs ∧ ok a

section
variable {H : Type} {enc : TypeId × Value → H} {P : Program} {W : World}

theorem rel1 {v : AV} {c : Value} (h : VRel ρN v c) : VRels ρN [v] [c] := VRels.cons h (VRels.nil _)
theorem rel_int {k : IntKind} {n : Int} : VRel ρN (.i k n) (.int k n) := by unfold VRel; rfl
theorem rel_bool {b : Bool} : VRel ρN (.b b) (.bool b) := by unfold VRel; rfl
theorem rd_int {t : TypeId} {k : IntKind} (ht : P.underlying t = some (.int k)) : Rd enc P W t (fun n : Int => [AV.i k n]) (fun n => (Lit.int k n).wf = true) := by
  intro fuel cs x h
  obtain ⟨n, rfl, _, hw⟩ := DataW.trod_int ht h
  exact ⟨n, rel1 rel_int, hw⟩
theorem rd_bool {t : TypeId} (ht : P.underlying t = some .bool) : Rd enc P W t (fun b : Bool => [AV.b b]) (fun _ => True) := by
  intro fuel cs x h
  obtain ⟨b, rfl, _⟩ := DataW.trod_bool ht h
  exact ⟨b, rel1 rel_bool, trivial⟩

theorem cut2 {cs : List Value} {a b : Nat} (h : cs.length = a + b) : cs = cs.take a ++ (cs.drop a).take b := by
  rw [List.take_of_length_le (l := cs.drop a) (by simp; omega), List.take_append_drop]

theorem rd_struct1 {t : TypeId} {f0 : Field} {α : Type} {g0 : α → List AV} {ok0 : α → Prop} (ht : P.underlying t = some (.struct #[f0])) (o0 : f0.offset = 0) (hc : P.cellsOf t = P.cellsOf f0.type)
    (h0 : Rd enc P W f0.type g0 ok0) : Rd enc P W t g0 ok0 := by
  intro fuel cs x h
  obtain ⟨xs, n, _, rfl, hl, hlen, hf⟩ := DataW.trod_struct ht h
  have e0 := hf 0 f0 rfl
  simp only [List.size_toArray, List.length_cons, List.length_nil] at hlen
  rw [o0, List.drop_zero, List.take_of_length_le (by omega), List.getElem?_eq_getElem (by omega)] at e0
  exact h0 _ _ _ e0
theorem rd_struct2 {t : TypeId} {f0 f1 : Field} {α β : Type} {g0 : α → List AV} {g1 : β → List AV} {ok0 : α → Prop} {ok1 : β → Prop} (ht : P.underlying t = some (.struct #[f0, f1])) (o0 : f0.offset = 0) (o1 : f1.offset = P.cellsOf f0.type) (hc : P.cellsOf t = P.cellsOf f0.type + P.cellsOf f1.type)
    (h0 : Rd enc P W f0.type g0 ok0) (h1 : Rd enc P W f1.type g1 ok1) : Rd enc P W t (fun a : α × β => g0 a.1 ++ g1 a.2) (fun a => ok0 a.1 ∧ ok1 a.2) := by
  intro fuel cs x h
  obtain ⟨xs, n, _, rfl, hl, hlen, hf⟩ := DataW.trod_struct ht h
  have e0 := hf 0 f0 rfl
  have e1 := hf 1 f1 rfl
  simp only [List.size_toArray, List.length_cons, List.length_nil] at hlen
  rw [o0, List.drop_zero, List.getElem?_eq_getElem (by omega)] at e0
  rw [o1, List.getElem?_eq_getElem (by omega)] at e1
  obtain ⟨a, ka, oa⟩ := h0 _ _ _ e0
  obtain ⟨b, kb, ob⟩ := h1 _ _ _ e1
  refine ⟨(a, b), ?_, oa, ob⟩
  rw [cut2 (hl.trans hc)]
  exact VRels.append ka kb
theorem rd_struct3 {t : TypeId} {f0 f1 f2 : Field} {α β γ : Type} {g0 : α → List AV} {g1 : β → List AV} {g2 : γ → List AV} {ok0 : α → Prop} {ok1 : β → Prop} {ok2 : γ → Prop} (ht : P.underlying t = some (.struct #[f0, f1, f2])) (o0 : f0.offset = 0) (o1 : f1.offset = P.cellsOf f0.type) (o2 : f2.offset = P.cellsOf f0.type + P.cellsOf f1.type)
    (hc : P.cellsOf t = P.cellsOf f0.type + (P.cellsOf f1.type + P.cellsOf f2.type))
    (h0 : Rd enc P W f0.type g0 ok0) (h1 : Rd enc P W f1.type g1 ok1) (h2 : Rd enc P W f2.type g2 ok2) : Rd enc P W t (fun a : α × β × γ => g0 a.1 ++ (g1 a.2.1 ++ g2 a.2.2)) (fun a => ok0 a.1 ∧ ok1 a.2.1 ∧ ok2 a.2.2) := by
  intro fuel cs x h
  obtain ⟨xs, n, _, rfl, hl, hlen, hf⟩ := DataW.trod_struct ht h
  have e0 := hf 0 f0 rfl
  have e1 := hf 1 f1 rfl
  have e2 := hf 2 f2 rfl
  simp only [List.size_toArray, List.length_cons, List.length_nil] at hlen
  rw [o0, List.drop_zero, List.getElem?_eq_getElem (by omega)] at e0
  rw [o1, List.getElem?_eq_getElem (by omega)] at e1
  rw [o2, List.getElem?_eq_getElem (by omega)] at e2
  obtain ⟨a, ka, oa⟩ := h0 _ _ _ e0
  obtain ⟨b, kb, ob⟩ := h1 _ _ _ e1
  obtain ⟨c, kc, oc⟩ := h2 _ _ _ e2
  refine ⟨(a, b, c), ?_, oa, ob, oc⟩
  rw [cut2 (hl.trans hc)]
  refine VRels.append ka ?_
  rw [List.take_of_length_le (l := cs.drop (P.cellsOf f0.type)) (by simp; omega), cut2 (cs := cs.drop (P.cellsOf f0.type)) (a := P.cellsOf f1.type) (b := P.cellsOf f2.type) (by simp; omega), List.drop_drop]
  exact VRels.append kb kc

theorem rd_struct4 {t : TypeId} {f0 f1 f2 f3 : Field} {α β γ δ : Type} {g0 : α → List AV} {g1 : β → List AV} {g2 : γ → List AV} {g3 : δ → List AV} {ok0 : α → Prop} {ok1 : β → Prop} {ok2 : γ → Prop} {ok3 : δ → Prop} (ht : P.underlying t = some (.struct #[f0, f1, f2, f3])) (o0 : f0.offset = 0) (o1 : f1.offset = P.cellsOf f0.type) (o2 : f2.offset = P.cellsOf f0.type + P.cellsOf f1.type) (o3 : f3.offset = P.cellsOf f0.type + P.cellsOf f1.type + P.cellsOf f2.type)
    (hc : P.cellsOf t = P.cellsOf f0.type + (P.cellsOf f1.type + (P.cellsOf f2.type + (P.cellsOf f3.type))))
    (h0 : Rd enc P W f0.type g0 ok0) (h1 : Rd enc P W f1.type g1 ok1) (h2 : Rd enc P W f2.type g2 ok2) (h3 : Rd enc P W f3.type g3 ok3) : Rd enc P W t (fun a : α × β × γ × δ => g0 a.1 ++ (g1 a.2.1 ++ (g2 a.2.2.1 ++ (g3 a.2.2.2)))) (fun a => ok0 a.1 ∧ ok1 a.2.1 ∧ ok2 a.2.2.1 ∧ ok3 a.2.2.2) := by
  intro fuel cs x h
  obtain ⟨xs, n, _, rfl, hl, hlen, hf⟩ := DataW.trod_struct ht h
  have e0 := hf 0 f0 rfl
  have e1 := hf 1 f1 rfl
  have e2 := hf 2 f2 rfl
  have e3 := hf 3 f3 rfl
  simp only [List.size_toArray, List.length_cons, List.length_nil] at hlen
  rw [o0, List.drop_zero, List.getElem?_eq_getElem (by omega)] at e0
  rw [o1, List.getElem?_eq_getElem (by omega)] at e1
  rw [o2, List.getElem?_eq_getElem (by omega)] at e2
  rw [o3, List.getElem?_eq_getElem (by omega)] at e3
  obtain ⟨a0, ka0, oa0⟩ := h0 _ _ _ e0
  obtain ⟨a1, ka1, oa1⟩ := h1 _ _ _ e1
  obtain ⟨a2, ka2, oa2⟩ := h2 _ _ _ e2
  obtain ⟨a3, ka3, oa3⟩ := h3 _ _ _ e3
  refine ⟨(a0, a1, a2, a3), ?_, oa0, oa1, oa2, oa3⟩
  rw [cut2 (hl.trans hc)]
  refine VRels.append ka0 ?_
  rw [List.take_of_length_le (l := cs.drop (P.cellsOf f0.type)) (by simp; omega), cut2 (cs := cs.drop (P.cellsOf f0.type)) (a := P.cellsOf f1.type) (b := P.cellsOf f2.type + (P.cellsOf f3.type)) (by simp; omega), List.drop_drop]
  refine VRels.append ka1 ?_
  rw [List.take_of_length_le (l := cs.drop (P.cellsOf f0.type + P.cellsOf f1.type)) (by simp; omega), cut2 (cs := cs.drop (P.cellsOf f0.type + P.cellsOf f1.type)) (a := P.cellsOf f2.type) (b := P.cellsOf f3.type) (by simp; omega), List.drop_drop]
  exact VRels.append ka2 ka3
theorem rd_struct5 {t : TypeId} {f0 f1 f2 f3 f4 : Field} {α β γ δ ε : Type} {g0 : α → List AV} {g1 : β → List AV} {g2 : γ → List AV} {g3 : δ → List AV} {g4 : ε → List AV} {ok0 : α → Prop} {ok1 : β → Prop} {ok2 : γ → Prop} {ok3 : δ → Prop} {ok4 : ε → Prop} (ht : P.underlying t = some (.struct #[f0, f1, f2, f3, f4])) (o0 : f0.offset = 0) (o1 : f1.offset = P.cellsOf f0.type) (o2 : f2.offset = P.cellsOf f0.type + P.cellsOf f1.type) (o3 : f3.offset = P.cellsOf f0.type + P.cellsOf f1.type + P.cellsOf f2.type) (o4 : f4.offset = P.cellsOf f0.type + P.cellsOf f1.type + P.cellsOf f2.type + P.cellsOf f3.type)
    (hc : P.cellsOf t = P.cellsOf f0.type + (P.cellsOf f1.type + (P.cellsOf f2.type + (P.cellsOf f3.type + (P.cellsOf f4.type)))))
    (h0 : Rd enc P W f0.type g0 ok0) (h1 : Rd enc P W f1.type g1 ok1) (h2 : Rd enc P W f2.type g2 ok2) (h3 : Rd enc P W f3.type g3 ok3) (h4 : Rd enc P W f4.type g4 ok4) : Rd enc P W t (fun a : α × β × γ × δ × ε => g0 a.1 ++ (g1 a.2.1 ++ (g2 a.2.2.1 ++ (g3 a.2.2.2.1 ++ (g4 a.2.2.2.2))))) (fun a => ok0 a.1 ∧ ok1 a.2.1 ∧ ok2 a.2.2.1 ∧ ok3 a.2.2.2.1 ∧ ok4 a.2.2.2.2) := by
  intro fuel cs x h
  obtain ⟨xs, n, _, rfl, hl, hlen, hf⟩ := DataW.trod_struct ht h
  have e0 := hf 0 f0 rfl
  have e1 := hf 1 f1 rfl
  have e2 := hf 2 f2 rfl
  have e3 := hf 3 f3 rfl
  have e4 := hf 4 f4 rfl
  simp only [List.size_toArray, List.length_cons, List.length_nil] at hlen
  rw [o0, List.drop_zero, List.getElem?_eq_getElem (by omega)] at e0
  rw [o1, List.getElem?_eq_getElem (by omega)] at e1
  rw [o2, List.getElem?_eq_getElem (by omega)] at e2
  rw [o3, List.getElem?_eq_getElem (by omega)] at e3
  rw [o4, List.getElem?_eq_getElem (by omega)] at e4
  obtain ⟨a0, ka0, oa0⟩ := h0 _ _ _ e0
  obtain ⟨a1, ka1, oa1⟩ := h1 _ _ _ e1
  obtain ⟨a2, ka2, oa2⟩ := h2 _ _ _ e2
  obtain ⟨a3, ka3, oa3⟩ := h3 _ _ _ e3
  obtain ⟨a4, ka4, oa4⟩ := h4 _ _ _ e4
  refine ⟨(a0, a1, a2, a3, a4), ?_, oa0, oa1, oa2, oa3, oa4⟩
  rw [cut2 (hl.trans hc)]
  refine VRels.append ka0 ?_
  rw [List.take_of_length_le (l := cs.drop (P.cellsOf f0.type)) (by simp; omega), cut2 (cs := cs.drop (P.cellsOf f0.type)) (a := P.cellsOf f1.type) (b := P.cellsOf f2.type + (P.cellsOf f3.type + (P.cellsOf f4.type))) (by simp; omega), List.drop_drop]
  refine VRels.append ka1 ?_
  rw [List.take_of_length_le (l := cs.drop (P.cellsOf f0.type + P.cellsOf f1.type)) (by simp; omega), cut2 (cs := cs.drop (P.cellsOf f0.type + P.cellsOf f1.type)) (a := P.cellsOf f2.type) (b := P.cellsOf f3.type + (P.cellsOf f4.type)) (by simp; omega), List.drop_drop]
  refine VRels.append ka2 ?_
  rw [List.take_of_length_le (l := cs.drop (P.cellsOf f0.type + P.cellsOf f1.type + P.cellsOf f2.type)) (by simp; omega), cut2 (cs := cs.drop (P.cellsOf f0.type + P.cellsOf f1.type + P.cellsOf f2.type)) (a := P.cellsOf f3.type) (b := P.cellsOf f4.type) (by simp; omega), List.drop_drop]
  exact VRels.append ka3 ka4

theorem list_of_all {α : Type} {Q : Nat → α → Prop} : ∀ n : Nat, (∀ i, i < n → ∃ x, Q i x) → ∃ xs : List α, xs.length = n ∧ ∀ i x, xs[i]? = some x → Q i x
  | 0, _ => ⟨[], rfl, fun i x h => by simp at h⟩
  | n + 1, h => by
    obtain ⟨xs, hl, hq⟩ := list_of_all n (fun i hi => h i (by omega))
    obtain ⟨x, hx⟩ := h n (by omega)
    refine ⟨xs ++ [x], by simp [hl], fun i y hy => ?_⟩
    rcases Nat.lt_trichotomy i n with hi | hi | hi
    · rw [List.getElem?_append_left (by omega)] at hy
      exact hq i y hy
    · subst hi
      rw [List.getElem?_append_right (by omega), hl, Nat.sub_self] at hy
      injection hy with hy
      exact hy ▸ hx
    · rw [List.getElem?_append_right (by omega), hl] at hy
      rw [List.getElem?_eq_none (by simp; omega)] at hy
      cases hy

/-- What came in as a slice. -/
def InS (W : World) (A : Option Addr) (len cap sz : Nat) (cs : List AV) : Prop :=
  (A = none ∧ len = 0 ∧ cap = 0 ∧ cs = []) ∨ ∃ B off, A = some ⟨B, off, none⟩ ∧ len ≤ cap ∧ B < W.heap.size ∧ ORel Try.prog ρN (B, off, off + cap * sz) W (.row true cs)
theorem InS.cast {A : Option Addr} {len cap sz : Nat} {cs cs' : List AV} (h : InS W A len cap sz cs) (e : cs = cs') : InS W A len cap sz cs' := e ▸ h

theorem rels_flat {α : Type} {f : α → List AV} {sz : Nat} (hf : ∀ a, (f a).length = sz) : ∀ (l : List α) (vs : List Value), (∀ i x, l[i]? = some x → VRels ρN (f x) ((vs.drop (i * sz)).take sz)) → vs.length = l.length * sz → VRels ρN (l.flatMap f) vs
  | [], vs, _, hl => by
    have : vs = [] := List.length_eq_zero_iff.1 (by simpa using hl)
    subst this
    exact VRels.nil _
  | a :: l, vs, h, hl => by
    have h0 := h 0 a rfl
    simp only [Nat.zero_mul, List.drop_zero] at h0
    have hlen : vs.length = sz + l.length * sz := by rw [hl, List.length_cons, Nat.succ_mul]; omega
    rw [cut2 hlen, List.flatMap_cons]
    refine VRels.append h0 ?_
    rw [List.take_of_length_le (l := vs.drop sz) (by simp; omega)]
    refine rels_flat hf l (vs.drop sz) (fun i x hx => ?_) (by simp; omega)
    have := h (i + 1) x (by simpa using hx)
    rw [List.drop_drop, show sz + i * sz = (i + 1) * sz by rw [Nat.succ_mul]; omega]
    exact this

/-- A slice that came in. -/
theorem open_row {t e : TypeId} {α : Type} {f : α → List AV} {ok : α → Prop} {a : Option Addr} {len cap sz base : Nat} {dd : DataW H} {ps : List MemPlace} (ht : P.underlying t = some (.slice e)) (hc : P.cellsOf e = sz) (hf : ∀ a, (f a).length = sz) (hone : ∀ a, ∀ c ∈ f a, c.one = true) (h : Rd enc P W e f ok)
    (hv : Value.okWide P W .any base t (.slice a len cap))
    (hx : DataW.Trod enc P W 0 (fun _ => true) true t (.slice a len cap) dd ps) : ∃ l : List α, l.length = len ∧ (∀ x ∈ l, ok x) ∧ InS W a len cap sz (l.flatMap f) := by
  obtain ⟨fuel, hf0⟩ := hx
  subst hc
  rcases Go.Deep.open_slice ht hf0 with ⟨h0, _⟩ | ⟨A, len', cap', m, n, D, Pl, h0, _, hl, hm, hmm, _, hel⟩
  · simp [Value.cells] at h0
    obtain ⟨rfl, rfl, rfl⟩ := h0
    exact ⟨[], rfl, by simp, Or.inl ⟨rfl, rfl, rfl, rfl⟩⟩
  · simp [Value.cells] at h0
    obtain ⟨rfl, rfl, rfl⟩ := h0
    have hhas : World.has P W .any base A e cap := by
      simp only [Value.okWide, ht, Cell.okWide] at hv
      unfold Cell.ok at hv
      simp only [ht] at hv
      exact hv.2.2
    obtain ⟨_, hsp, row, ncells, hshape, _⟩ := hhas
    unfold World.shape? at hshape
    split at hshape
    · rename_i c el fr hheap
      have hle : len ≤ m := by rw [hmm]; split <;> omega
      obtain ⟨B, off, sp⟩ := A
      simp only at hsp hheap
      subst hsp
      obtain ⟨xs, hlen, hq⟩ := list_of_all (Q := fun i x => ok x ∧ VRels ρN (f x) ((c.toList.drop (off + i * P.cellsOf e)).take (P.cellsOf e)) ∧ (0 < P.cellsOf e → off + i * P.cellsOf e + P.cellsOf e ≤ c.size)) len (fun i hi => by
        obtain ⟨cs', h1, h2⟩ := hel i (by omega)
        obtain ⟨x, kx, ox⟩ := h _ _ _ h2
        obtain ⟨_, hl', hcell⟩ := World.cells?_some h1
        have hcell' : ∀ j, j < P.cellsOf e → c[off + i * P.cellsOf e + j]? = cs'[j]? := by
          intro j hj
          have := hcell j hj
          rw [Go.Deep.add_add] at this
          rw [← this]
          have e1 : ∀ k, W.cell? (({ block := B, off := off, spot := none } : Addr).add k) = c[off + k]? := by
            intro k
            unfold Addr.add
            split
            · rename_i h0
              simp [World.cell?, hheap, h0]
            · simp [World.cell?, hheap]
          rw [e1, Nat.add_assoc]
        refine ⟨x, ox, ?_, ?_⟩
        · have : (c.toList.drop (off + i * P.cellsOf e)).take (P.cellsOf e) = cs' := by
            apply List.ext_getElem?
            intro j
            rw [List.getElem?_take, List.getElem?_drop]
            split
            · rename_i hj
              rw [← hcell' j hj]
              simp
            · rw [List.getElem?_eq_none (by omega)]
          rw [this]
          exact kx
        · intro hpos
          have := hcell' (P.cellsOf e - 1) (by omega)
          rw [List.getElem?_eq_getElem (by omega)] at this
          have := (Array.getElem?_eq_some_iff.1 this).1
          omega)
      refine ⟨xs, hlen, fun x hx => ?_, Or.inr ⟨B, off, rfl, hl, (Array.getElem?_eq_some_iff.1 hheap).1, c, el, fr, hheap, (fun hh => by cases hh), ?_, ?_⟩⟩
      · obtain ⟨i, hi⟩ := List.mem_iff_getElem?.1 hx
        exact (hq i x hi).1
      · have hfl : (xs.flatMap f).length = len * P.cellsOf e := by
          rw [← hlen]
          clear hq hlen hel h
          induction xs with
          | nil => simp
          | cons a l ih => rw [List.flatMap_cons, List.length_append, hf, ih, List.length_cons, Nat.succ_mul]; omega
        rw [hfl]
        simp only
        refine rels_flat hf xs _ (fun i x hx => ?_) ?_
        · have := (hq i x hx).2.1
          have hi : i < len := hlen ▸ (List.getElem?_eq_some_iff.1 hx).1
          rw [List.drop_take, List.drop_drop, List.take_take, Nat.min_eq_left]
          · exact this
          · have : (i + 1) * P.cellsOf e ≤ len * P.cellsOf e := Nat.mul_le_mul_right _ hi
            rw [Nat.succ_mul] at this
            omega
        · rw [List.length_take, List.length_drop, hlen, Nat.min_eq_left]
          by_cases hz : P.cellsOf e = 0
          · simp [hz]
          · by_cases hlz : len = 0
            · subst hlz; simp
            · have hk : xs[len - 1]? = some xs[len - 1] := List.getElem?_eq_getElem (by omega)
              have := (hq _ _ hk).2.2 (by omega)
              rw [Nat.add_assoc, ← Nat.succ_mul, show (len - 1).succ = len by omega] at this
              simp
              omega
      · intro a ha
        obtain ⟨x, _, hx2⟩ := List.mem_flatMap.1 ha
        exact hone _ _ hx2
    · cases hshape
/-- A struct that came in. -/
theorem open_agg {t : TypeId} {α : Type} {f : α → List AV} {ok : α → Prop} {cs : Array Value} {dd : DataW H} {ps : List MemPlace} (h : Rd enc P W t f ok) (hx : DataW.Trod enc P W 0 (fun _ => true) true t (.agg cs) dd ps) : ∃ a : α, VRels ρN (f a) cs.toList ∧ ok a := by
  obtain ⟨fuel, hf⟩ := hx
  exact h _ _ _ hf
theorem rel_agg {l : List AV} {cs : Array Value} (h : VRels ρN l cs.toList) (h1 : ∀ c ∈ l, c.one = true) : VRel ρN (.agg l) (.agg cs) := by
  unfold VRel; exact ⟨cs, rfl, h, h1⟩
end

theorem sim_ro {W : World} (xs : List ((Nat × Nat × Nat) × List AV)) (h : ∀ p, p ∈ xs → ORel Try.prog ρN p.1 W (.row true p.2) ∧ p.1.1 < W.heap.size) :
    Sim Try.prog W (fun b => (xs[b]?).map (·.1)) ⟨xs.length, fun b => (xs[b]?).map fun p => .row true p.2⟩ W := by
  refine ⟨Below.refl _ _, ?_, ?_, ?_, ?_, ?_⟩
  · intro b o hb
    simp only at hb
    obtain ⟨p, hp, rfl⟩ := Option.map_eq_some_iff.1 hb
    refine ⟨p.1, by simp [hp], ORel.ext (fun _ _ h => by cases h) (h p (List.mem_of_getElem? hp)).1⟩
  · intro b hb
    have hb : xs.length ≤ b := hb
    simp [List.getElem?_eq_none hb]
  · intro b o b' o' x x' hb hr
    simp only at hb
    obtain ⟨p, hp, rfl⟩ := Option.map_eq_some_iff.1 hb
    simp [AObj.rw] at hr
  · intro b o x hb hr
    simp only at hb
    obtain ⟨p, hp, rfl⟩ := Option.map_eq_some_iff.1 hb
    simp [AObj.rw] at hr
  · intro b o x hb hr hx
    have hx : (xs[b]?).map (·.1) = some x := hx
    obtain ⟨p, hp, rfl⟩ := Option.map_eq_some_iff.1 hx
    exact (h p (List.mem_of_getElem? hp)).2

theorem link {n : FuncId} {args : List AV} {H H' : AH} {ρ : Rn} {W : World} {vs : List Value} (hs : Sim Try.prog W ρ H W) (hv : VRels ρ args vs) (h : callR tbl n args H = some (.b true, H')) (hn : (tblF n).isSome = true := by rfl) :
    Calls Try.prog n vs.toArray W fun e W' => e = .returned (.bool true) ∧ Below W.heap.size W W' := by
  obtain ⟨g, hg⟩ := Option.isSome_iff_exists.1 hn
  refine (call_sound (w0 := W) mixed tblF_ok (prim_ok W) (T := tbl) hg h ρ W vs.toArray hs (by simpa using hv)).mono fun e W' ⟨ρ', c, he, hc, hs', _⟩ => ?_
  unfold VRel at hc
  exact ⟨by rw [he, hc], hs'.below⟩

/-- No slice. -/
theorem link0 {n : FuncId} {args : List AV} {W : World} {vs : List Value} (hv : VRels ρN args vs) (h : ∀ H, ∃ H', callR tbl n args H = some (.b true, H')) (hn : (tblF n).isSome = true := by rfl) :
    Calls Try.prog n vs.toArray W fun e W' => e = .returned (.bool true) ∧ Below W.heap.size W W' := by
  have hs := sim_ro (W := W) [] (by simp)
  obtain ⟨H', hh⟩ := h ⟨0, fun b => ([][b]?).map fun p : (Nat × Nat × Nat) × List AV => .row true p.2⟩
  exact link hs (VRels.ext (fun _ _ h => by cases h) _ hv) hh hn
/-- One slice. -/
theorem link1 {n : FuncId} {pre post : List AV} {W : World} {vpre vpost : List Value} {A : Option Addr} {len cap sz : Nat} {cs : List AV} (hpre : VRels ρN pre vpre) (hin : InS W A len cap sz cs) (hpost : VRels ρN post vpost)
    (h : ∀ H x, IsIn H x sz len cs → ∃ H', callR tbl n (pre ++ x :: post) H = some (.b true, H')) (hn : (tblF n).isSome = true := by rfl) (h3 : sz ≠ 1 := by decide) :
    Calls Try.prog n (vpre ++ .slice A len cap :: vpost).toArray W fun e W' => e = .returned (.bool true) ∧ Below W.heap.size W W' := by
  rcases hin with ⟨rfl, rfl, rfl, rfl⟩ | ⟨B, off, rfl, hle, hB, ho⟩
  · have hs := sim_ro (W := W) [] (by simp)
    obtain ⟨H', hh⟩ := h ⟨0, fun b => ([][b]?).map fun p : (Nat × Nat × Nat) × List AV => .row true p.2⟩ (.sl none 0 0 true sz) (Or.inl ⟨rfl, rfl⟩)
    refine link hs (VRels.append (VRels.ext (fun _ _ h => by cases h) _ hpre) (VRels.cons ?_ (VRels.ext (fun _ _ h => by cases h) _ hpost))) hh hn
    unfold VRel
    exact ⟨rfl, rfl, rfl, rfl⟩
  · have hs := sim_ro (W := W) [((B, off, off + cap * sz), cs)] (by simpa using ⟨ho, hB⟩)
    obtain ⟨H', hh⟩ := h ⟨1, fun b => ([((B, off, off + cap * sz), cs)][b]?).map fun p : (Nat × Nat × Nat) × List AV => .row true p.2⟩ (.sl (some (0, 0)) len len false sz) (Or.inr ⟨0, rfl, Nat.zero_lt_one, rfl⟩)
    refine link hs (VRels.append (VRels.ext (fun _ _ h => by cases h) _ hpre) (VRels.cons ?_ (VRels.ext (fun _ _ h => by cases h) _ hpost))) hh hn
    unfold VRel
    exact ⟨B, off, off + cap * sz, off, cap, rfl, rfl, Or.inl rfl, Nat.le_refl _, ⟨hle, fun e => absurd e h3⟩, (fun h => by cases h), Nat.le_refl _⟩
end Go.Proofs.Ythcibbfljcfheaa.Abs
