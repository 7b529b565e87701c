/- How a value that came in reads, kind by kind: what the row of a law needs ahead of its walk. Plain lemmas: no condition of their own. -/
import Derived.Test.YtfbfpiibmgofeaaWWords
import Derived.WalkKit
import Derived.ProofKit
import Derived.OpenShut
import Derived.Deep.Slices
import Derived.SizedLaws
import Derived.Carry
namespace Go.Proofs.Ytfbfpiibmgofeaa.Opens
open Go.RowKit Go.Proofs.YtfbfpiibmgofeaaW.PrintWords
set_option linter.unusedVariables false

/-- Whatever the cells of a value of type t read as: they are of the kind d, and what they say meets 'ok'. -/
def Rd {H : Type} (enc : TypeId × Value → H) (P : Program) (W : World) (t : TypeId) {α : Type} (d : Kd α) (ok : α → Prop) : Prop :=
  ∀ (fuel : Nat) (cs : List Value) (x : DataW H × List MemPlace), DataW.trod enc P W 0 (fun _ => true) true fuel t cs = some x → ∃ a, d.K W a cs ∧ ok a

section
variable {H : Type} {enc : TypeId × Value → H} {P : Program} {W : World}

theorem rd_int {t : TypeId} {k : IntKind} (ht : P.underlying t = some (.int k)) : Rd enc P W t (Kd.int k) (fun n => (Lit.int k n).wf = true) := by
  intro fuel cs x h
  obtain ⟨n, rfl, _, hw⟩ := DataW.trod_int ht h
  exact ⟨n, rfl, hw⟩
theorem rd_bool {t : TypeId} (ht : P.underlying t = some .bool) : Rd enc P W t Kd.bool (fun _ => True) := by
  intro fuel cs x h
  obtain ⟨b, rfl, _⟩ := DataW.trod_bool ht h
  exact ⟨b, rfl, trivial⟩
theorem rd_imp {t : TypeId} {α : Type} {d : Kd α} {ok ok' : α → Prop} (h : Rd enc P W t d ok) (hi : ∀ a, ok a → ok' a) : Rd enc P W t d ok' := fun f cs x hx => by
  obtain ⟨a, h1, h2⟩ := h f cs x hx
  exact ⟨a, h1, hi a h2⟩
theorem rd_iso {t : TypeId} {α β : Type} {d : Kd α} {ok : α → Prop} (h : Rd enc P W t d ok) (f : β → α) (g : α → β) (hfg : ∀ a, f (g a) = a) : Rd enc P W t (Kd.iso d f) (fun b => ok (f b)) := fun n cs x hx => by
  obtain ⟨a, h1, h2⟩ := h n cs x hx
  exact ⟨g a, by show d.K W (f (g a)) cs; rw [hfg]; exact h1, by show ok (f (g a)); rw [hfg]; exact h2⟩

theorem cut2 {cs : List Value} {a b : Nat} (h : cs.length = a + b) : cs = cs.take a ++ (cs.drop a).take b := by
  rw [List.take_of_length_le (l := cs.drop a) (by simp; omega), List.take_append_drop]

theorem cut3 {cs : List Value} {a b c : Nat} (h : cs.length = a + (b + c)) : cs = cs.take a ++ ((cs.drop a).take b ++ (cs.drop (a + b)).take c) := by
  have h2 := cut2 (a := a) (b := b + c) h
  rw [List.take_add (i := b), List.drop_drop] at h2
  exact h2
theorem cut4 {cs : List Value} {a b c d : Nat} (h : cs.length = a + (b + (c + d))) : cs = cs.take a ++ ((cs.drop a).take b ++ ((cs.drop (a + b)).take c ++ (cs.drop (a + b + c)).take d)) := by
  have h2 := cut3 (a := a) (b := b) (c := c + d) h
  rw [List.take_add (i := c), List.drop_drop] at h2
  exact h2

theorem rd_struct1 {t : TypeId} {f0 : Field} {α : Type} {d0 : Kd α} {ok0 : α → Prop} (ht : P.underlying t = some (.struct #[f0])) (o0 : f0.offset = 0) (hc : P.cellsOf t = P.cellsOf f0.type)
    (h0 : Rd enc P W f0.type d0 ok0) : Rd enc P W t d0 ok0 := by
  intro fuel cs x h
  obtain ⟨xs, n, _, rfl, hl, hlen, hf⟩ := DataW.trod_struct ht h
  have e0 := hf 0 f0 rfl
  simp only [List.size_toArray, List.length_cons, List.length_nil] at hlen
  rw [o0, List.drop_zero, List.take_of_length_le (by omega), List.getElem?_eq_getElem (by omega)] at e0
  exact h0 _ _ _ e0
theorem rd_struct2 {t : TypeId} {f0 f1 : Field} {α β : Type} {d0 : Kd α} {d1 : Kd β} {ok0 : α → Prop} {ok1 : β → Prop} (ht : P.underlying t = some (.struct #[f0, f1])) (o0 : f0.offset = 0) (o1 : f1.offset = P.cellsOf f0.type) (hc : P.cellsOf t = P.cellsOf f0.type + P.cellsOf f1.type)
    (h0 : Rd enc P W f0.type d0 ok0) (h1 : Rd enc P W f1.type d1 ok1) : Rd enc P W t (Kd.pair d0 d1) (fun a => ok0 a.1 ∧ ok1 a.2) := by
  intro fuel cs x h
  obtain ⟨xs, n, _, rfl, hl, hlen, hf⟩ := DataW.trod_struct ht h
  have e0 := hf 0 f0 rfl
  have e1 := hf 1 f1 rfl
  simp only [List.size_toArray, List.length_cons, List.length_nil] at hlen
  rw [o0, List.drop_zero, List.getElem?_eq_getElem (by omega)] at e0
  rw [o1, List.getElem?_eq_getElem (by omega)] at e1
  obtain ⟨a, ka, oa⟩ := h0 _ _ _ e0
  obtain ⟨b, kb, ob⟩ := h1 _ _ _ e1
  exact ⟨(a, b), ⟨_, _, cut2 (hl.trans hc), ka, kb⟩, oa, ob⟩
theorem rd_struct3 {t : TypeId} {f0 f1 f2 : Field} {α β γ : Type} {d0 : Kd α} {d1 : Kd β} {d2 : Kd γ} {ok0 : α → Prop} {ok1 : β → Prop} {ok2 : γ → Prop} (ht : P.underlying t = some (.struct #[f0, f1, f2])) (o0 : f0.offset = 0) (o1 : f1.offset = P.cellsOf f0.type) (o2 : f2.offset = P.cellsOf f0.type + P.cellsOf f1.type)
    (hc : P.cellsOf t = P.cellsOf f0.type + (P.cellsOf f1.type + P.cellsOf f2.type))
    (h0 : Rd enc P W f0.type d0 ok0) (h1 : Rd enc P W f1.type d1 ok1) (h2 : Rd enc P W f2.type d2 ok2) : Rd enc P W t (Kd.pair d0 (Kd.pair d1 d2)) (fun a => ok0 a.1 ∧ ok1 a.2.1 ∧ ok2 a.2.2) := by
  intro fuel cs x h
  obtain ⟨xs, n, _, rfl, hl, hlen, hf⟩ := DataW.trod_struct ht h
  have e0 := hf 0 f0 rfl
  have e1 := hf 1 f1 rfl
  have e2 := hf 2 f2 rfl
  simp only [List.size_toArray, List.length_cons, List.length_nil] at hlen
  rw [o0, List.drop_zero, List.getElem?_eq_getElem (by omega)] at e0
  rw [o1, List.getElem?_eq_getElem (by omega)] at e1
  rw [o2, List.getElem?_eq_getElem (by omega)] at e2
  obtain ⟨a, ka, oa⟩ := h0 _ _ _ e0
  obtain ⟨b, kb, ob⟩ := h1 _ _ _ e1
  obtain ⟨c, kc, oc⟩ := h2 _ _ _ e2
  exact ⟨(a, b, c), ⟨_, _, cut3 (hl.trans hc), ka, _, _, rfl, kb, kc⟩, oa, ob, oc⟩
theorem rd_struct4 {t : TypeId} {f0 f1 f2 f3 : Field} {α β γ δ : Type} {d0 : Kd α} {d1 : Kd β} {d2 : Kd γ} {d3 : Kd δ} {ok0 : α → Prop} {ok1 : β → Prop} {ok2 : γ → Prop} {ok3 : δ → Prop} (ht : P.underlying t = some (.struct #[f0, f1, f2, f3])) (o0 : f0.offset = 0) (o1 : f1.offset = P.cellsOf f0.type) (o2 : f2.offset = P.cellsOf f0.type + P.cellsOf f1.type) (o3 : f3.offset = P.cellsOf f0.type + P.cellsOf f1.type + P.cellsOf f2.type)
    (hc : P.cellsOf t = P.cellsOf f0.type + (P.cellsOf f1.type + (P.cellsOf f2.type + P.cellsOf f3.type)))
    (h0 : Rd enc P W f0.type d0 ok0) (h1 : Rd enc P W f1.type d1 ok1) (h2 : Rd enc P W f2.type d2 ok2) (h3 : Rd enc P W f3.type d3 ok3) : Rd enc P W t (Kd.pair d0 (Kd.pair d1 (Kd.pair d2 d3))) (fun a => ok0 a.1 ∧ ok1 a.2.1 ∧ ok2 a.2.2.1 ∧ ok3 a.2.2.2) := by
  intro fuel cs x h
  obtain ⟨xs, n, _, rfl, hl, hlen, hf⟩ := DataW.trod_struct ht h
  have e0 := hf 0 f0 rfl
  have e1 := hf 1 f1 rfl
  have e2 := hf 2 f2 rfl
  have e3 := hf 3 f3 rfl
  simp only [List.size_toArray, List.length_cons, List.length_nil] at hlen
  rw [o0, List.drop_zero, List.getElem?_eq_getElem (by omega)] at e0
  rw [o1, List.getElem?_eq_getElem (by omega)] at e1
  rw [o2, List.getElem?_eq_getElem (by omega)] at e2
  rw [o3, List.getElem?_eq_getElem (by omega)] at e3
  obtain ⟨a, ka, oa⟩ := h0 _ _ _ e0
  obtain ⟨b, kb, ob⟩ := h1 _ _ _ e1
  obtain ⟨c, kc, oc⟩ := h2 _ _ _ e2
  obtain ⟨d, kd, od⟩ := h3 _ _ _ e3
  exact ⟨(a, b, c, d), ⟨_, _, cut4 (hl.trans hc), ka, _, _, rfl, kb, _, _, rfl, kc, kd⟩, oa, ob, oc, od⟩

theorem list_of_all {α : Type} {Q : Nat → α → Prop} : ∀ n : Nat, (∀ i, i < n → ∃ x, Q i x) → ∃ xs : List α, xs.length = n ∧ ∀ i x, xs[i]? = some x → Q i x
  | 0, _ => ⟨[], rfl, fun i x h => by simp at h⟩
  | n + 1, h => by
    obtain ⟨xs, hl, hq⟩ := list_of_all n (fun i hi => h i (by omega))
    obtain ⟨x, hx⟩ := h n (by omega)
    refine ⟨xs ++ [x], by simp [hl], fun i y hy => ?_⟩
    rcases Nat.lt_trichotomy i n with hi | hi | hi
    · rw [List.getElem?_append_left (by omega)] at hy
      exact hq i y hy
    · subst hi
      rw [List.getElem?_append_right (by omega), hl, Nat.sub_self] at hy
      injection hy with hy
      exact hy ▸ hx
    · rw [List.getElem?_append_right (by omega), hl] at hy
      rw [List.getElem?_eq_none (by simp; omega)] at hy
      cases hy

theorem rd_slice {t e : TypeId} {α : Type} {d : Kd α} {ok : α → Prop} (ht : P.underlying t = some (.slice e)) (hc : P.cellsOf e = d.sz) (h : Rd enc P W e d ok) : Rd enc P W t (Kd.slice e d) (fun l => ∀ x ∈ l, ok x) := by
  intro fuel cs x hx
  rcases Go.Deep.open_slice ht hx with ⟨rfl, _⟩ | ⟨a, len, cap, m, n, D, Pl, rfl, _, hl, hm, hmm, _, hel⟩
  · exact ⟨[], ⟨none, 0, rfl, Nat.le_refl _, rfl, by simp, fun h0 => absurd h0 (by simp)⟩, by simp⟩
  · have hle : len ≤ m := by rw [hmm]; split <;> omega
    obtain ⟨xs, hlen, hq⟩ := list_of_all (Q := fun i x => ok x ∧ ∃ c, c.length = d.sz ∧ d.K W x c ∧ ∀ j u, c[j]? = some u → W.cell? (a.add (i * d.sz + j)) = some u) len (fun i hi => by
      obtain ⟨cs', h1, h2⟩ := hel i (by omega)
      obtain ⟨x, kx, ox⟩ := h _ _ _ h2
      obtain ⟨_, hl', hcell⟩ := World.cells?_some h1
      refine ⟨x, ox, cs', hl'.trans hc, kx, fun j u hu => ?_⟩
      have hj : j < P.cellsOf e := by
        have := (List.getElem?_eq_some_iff.1 hu).1
        omega
      have := hcell j hj
      rw [Go.Deep.add_add, hc] at this
      rw [this, hu])
    subst hlen
    refine ⟨xs, ⟨some a, cap, rfl, hl, rfl, by unfold maxLen at hm; omega, fun _ => ⟨a, rfl, fun j p hj => (hq j p hj).2⟩⟩, fun x hx => ?_⟩
    obtain ⟨i, hi⟩ := List.mem_iff_getElem?.1 hx
    exact (hq i x hi).1

theorem rd_array {t e : TypeId} {α : Type} {d : Kd α} {ok : α → Prop} {n : Nat} (ht : P.underlying t = some (.array n e)) (h : Rd enc P W e d ok) (fuel : Nat) (cs : List Value) (x : DataW H × List MemPlace)
    (hx : DataW.trod enc P W 0 (fun _ => true) true fuel t cs = some x) : cs.length = P.cellsOf t ∧ ∀ i, i < n → ∃ a, d.K W a ((cs.drop (i * P.cellsOf e)).take (P.cellsOf e)) ∧ ok a := by
  obtain ⟨xs, m, _, _, hl, hlen, hf⟩ := DataW.trod_array ht hx
  refine ⟨hl, fun i hi => ?_⟩
  have e0 := hf i hi
  rw [List.getElem?_eq_getElem (by omega)] at e0
  exact h _ _ _ e0

/-- An array of whole numbers that came in. -/
theorem open_arr {t e : TypeId} {n : Nat} {k : IntKind} {cs : Array Value} {dd : DataW H} {ps : List MemPlace} (ht : P.underlying t = some (.array n e)) (hc : P.cellsOf e = 1) (hct : P.cellsOf t = n) (he : P.underlying e = some (.int k))
    (hx : DataW.Trod enc P W 0 (fun _ => true) true t (.agg cs) dd ps) : ∃ xs : List Int, xs.length = n ∧ cs = (xs.map (Value.int k)).toArray ∧ ∀ x ∈ xs, (Lit.int k x).wf = true := by
  obtain ⟨fuel, hf⟩ := hx
  obtain ⟨hl, hel⟩ := rd_array ht (rd_int he) fuel _ _ hf
  have hl' : cs.toList.length = n := hl.trans hct
  obtain ⟨xs, hxl, hq⟩ := list_of_all (Q := fun i x => cs.toList[i]? = some (.int k x) ∧ (Lit.int k x).wf = true) n (fun i hi => by
    obtain ⟨a, ha, hw⟩ := hel i hi
    refine ⟨a, ?_, hw⟩
    have ha : (cs.toList.drop (i * P.cellsOf e)).take (P.cellsOf e) = [.int k a] := ha
    rw [hc, Nat.mul_one] at ha
    have := congrArg (fun l => l[0]?) ha
    simpa [List.getElem?_take, List.getElem?_drop] using this)
  refine ⟨xs, hxl, ?_, fun x hx => ?_⟩
  · apply Array.ext'
    apply List.ext_getElem?
    intro i
    by_cases hi : i < n
    · have hx : xs[i]? = some xs[i] := List.getElem?_eq_getElem (by omega)
      rw [(hq i _ hx).1]
      simp [hx]
    · rw [List.getElem?_eq_none (by omega), List.getElem?_eq_none (by simp; omega)]
  · obtain ⟨i, hi⟩ := List.mem_iff_getElem?.1 hx
    exact (hq i x hi).2

/-- A slice that came in. -/
theorem open_row {t e : TypeId} {α : Type} {d : Kd α} {ok : α → Prop} {a : Option Addr} {len cap : Nat} {dd : DataW H} {ps : List MemPlace} (ht : P.underlying t = some (.slice e)) (hc : P.cellsOf e = d.sz) (h : Rd enc P W e d ok)
    (hx : DataW.Trod enc P W 0 (fun _ => true) true t (.slice a len cap) dd ps) : ∃ l : List α, l.length = len ∧ len ≤ cap ∧ d.C W a l.length l ∧ ∀ x ∈ l, ok x := by
  obtain ⟨fuel, hf⟩ := hx
  obtain ⟨l, ⟨A, c, hcs, hl, hC⟩, ho⟩ := rd_slice ht hc h _ _ _ hf
  simp [Value.cells] at hcs
  obtain ⟨rfl, rfl, rfl⟩ := hcs
  exact ⟨l, rfl, hl, hC, ho⟩

/-- A struct that came in. -/
theorem open_agg {t : TypeId} {α : Type} {d : Kd α} {ok : α → Prop} {cs : Array Value} {dd : DataW H} {ps : List MemPlace} (h : Rd enc P W t d ok) (hx : DataW.Trod enc P W 0 (fun _ => true) true t (.agg cs) dd ps) : ∃ a : α, d.K W a cs.toList ∧ ok a := by
  obtain ⟨fuel, hf⟩ := hx
  exact h _ _ _ hf

theorem okWide_array {w : World} {r : Reach} {base : Nat} {t : TypeId} {v : Value} {n : Nat} {e : TypeId} (ht : P.underlying t = some (.array n e)) (h : Value.okWide P w r base t v) : ∃ cs, v = .agg cs ∧ cs.size = P.cellsOf t := by
  simp only [Value.okWide, ht] at h
  obtain ⟨cs, h1, h2, _⟩ := h
  exact ⟨cs, h1, h2⟩
end
end Go.Proofs.Ytfbfpiibmgofeaa.Opens
