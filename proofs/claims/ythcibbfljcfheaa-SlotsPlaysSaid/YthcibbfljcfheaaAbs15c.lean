/- A drawn region: the heaps in which a reading may come to be done. No condition of their own. -/
import Derived.Test.YthcibbfljcfheaaAbs15b
namespace Go.Proofs.Ythcibbfljcfheaa.Abs
set_option linter.unusedVariables false
set_option linter.unusedSimpArgs false

/-- A drawn region and its run in the order of the text. -/
structure DCtx (P : Program) (w0 : World) (call : CallF) (nt : Nat) (ops : Array Oper) where
  O : Nat → AOper
  B : Nat → Nat
  PL : Nat → List Nat
  st : Nat → TrS
  val : Nat → AV
  wz : Nat → Bool
  hcall : CallOk P w0 call
  plan : Plan P nt ops O B PL
  tr : ∀ i, i < ops.size → TStep call (O i, PL i) (st i) (st (i + 1)) (val i) (wz i)
  sn0 : (st 0).sn = [(st 0).H]
  ld0 : (st 0).ld = []

namespace DCtx
variable {P : Program} {w0 : World} {call : CallF} {nt : Nat} {ops : Array Oper} (C : DCtx P w0 call nt ops)

def K (i : Nat) : Nat := (C.O i).op.kind
def N (i : Nat) : Nat := (C.st i).H.n
def ofK (k i : Nat) : List Nat := (List.range i).reverse.filter fun c => C.K c == k

theorem ofK_succ (k i : Nat) : C.ofK k (i + 1) = if C.K i = k then i :: C.ofK k i else C.ofK k i := by
  unfold ofK
  rw [List.range_succ, List.reverse_append]
  simp only [List.reverse_cons, List.reverse_nil, List.nil_append, List.singleton_append, List.filter_cons, beq_iff_eq]

theorem sn_eq : ∀ i, i ≤ ops.size → (C.st i).sn = (C.ofK 3 i).map (fun c => (C.st (c + 1)).H) ++ [(C.st 0).H]
  | 0, _ => C.sn0
  | i + 1, h => by
    have ht := C.tr i (by omega)
    rw [C.ofK_succ]
    by_cases hk : C.K i = 3
    · rw [if_pos hk, ht.sn3 hk, sn_eq i (by omega)]; rfl
    · rw [if_neg hk, ht.snN hk, sn_eq i (by omega)]

theorem ld_eq : ∀ i, i ≤ ops.size → (C.st i).ld = (C.ofK 1 i).map (fun c => entryOf (C.O c).op (C.st c).t (C.val c) (C.wz c))
  | 0, _ => C.ld0
  | i + 1, h => by
    have ht := C.tr i (by omega)
    rw [C.ofK_succ]
    by_cases hk : C.K i = 1
    · rw [if_pos hk, ht.ld1 hk, ld_eq i (by omega)]; rfl
    · rw [if_neg hk, ht.ldN hk, ld_eq i (by omega)]

theorem mem_ofK {k i c : Nat} : c ∈ C.ofK k i ↔ c < i ∧ C.K c = k := by
  unfold ofK; simp

theorem ofK_sorted (k i : Nat) : (C.ofK k i).Pairwise (· > ·) := by
  unfold ofK
  apply List.Pairwise.filter
  rw [List.pairwise_reverse]
  exact List.pairwise_lt_range

theorem filter_len {α : Type} {q : α → Bool} : ∀ {l : List α} {p : Nat}, p ≤ l.length → (∀ p' x, p' < p → l[p']? = some x → q x = true) → p ≤ (l.filter q).length
  | l, 0, _, _ => Nat.zero_le _
  | [], p + 1, h, _ => by simp at h
  | x :: l, p + 1, h, hq => by
    have hx : q x = true := hq 0 x (by omega) rfl
    rw [List.filter_cons, if_pos hx, List.length_cons]
    have := filter_len (q := q) (l := l) (p := p) (by simpa using h) (fun p' y hp hy => hq (p' + 1) y (by omega) (by simpa using hy))
    omega

theorem done_filter (k i : Nat) : (((List.range i).reverse.map fun j => (j, (C.O j).op.kind)).filter fun x => x.2 == k) = (C.ofK k i).map fun c => (c, C.K c) := by
  unfold ofK
  rw [List.filter_map]
  rfl

/-- A reading reads the same in the heap behind what was done last. -/
theorem read_at {L : Nat → Bool} {i β : Nat} (hi : i < ops.size) (hk : C.K i = 1) (hw : C.wz i = true) (hL : L i = false) (hpre : ∀ j, (C.B i).testBit j = true → L j = true) (hclosed : ∀ i, L i = true → ∀ j, (C.B i).testBit j = true → L j = true)
    (hb : β = 0 ∨ ∃ c, β = c + 1 ∧ c < ops.size ∧ L c = true ∧ C.K c = 3) (hmax : ∀ c, L c = true → C.K c = 3 → c < β) : ∃ H', aop call (C.st i).t (C.O i).op (C.st β).H = some (C.val i, H') := by
  have ht := C.tr i hi
  by_cases hle : β ≤ i
  · obtain ⟨_, m, hm, hs⟩ := ht.read hw hk
    have hp := C.plan.plan i hi
    have hk' : (C.O i).op.kind = 1 := hk
    unfold cplan at hp
    rw [hk'] at hp
    simp only at hp
    rw [C.done_filter 3 i] at hp
    split at hp
    case isFalse => cases hp
    injection hp with hp
    simp only at hm
    rw [hm] at hp
    injection hp with hp
    refine asame_mem hs _ ?_
    rw [C.sn_eq i (by omega)]
    have hcs : ((C.ofK 3 i).map fun c => (c, C.K c)).map (·.1) = C.ofK 3 i := by rw [List.map_map]; simp [Function.comp_def]
    rw [hcs] at hp
    rcases hb with rfl | ⟨c, rfl, hc, hLc, hKc⟩
    · -- nothing yet
      have hall : (C.ofK 3 i).length ≤ ((C.ofK 3 i).filter fun c => !(C.B i).testBit c).length := by
        refine filter_len (Nat.le_refl _) ?_
        intro p' x _ hx
        have hm := C.mem_ofK.mp (List.mem_of_getElem? hx)
        cases hbt : (C.B i).testBit x with
        | false => rfl
        | true => have := hmax x (hpre x hbt) hm.2; omega
      rw [List.take_of_length_le (by simp; omega)]
      simp
    · have hmem : c ∈ C.ofK 3 i := C.mem_ofK.mpr ⟨by omega, hKc⟩
      obtain ⟨p, hp2⟩ := List.getElem?_of_mem hmem
      have hplt : p < (C.ofK 3 i).length := by
        rcases Nat.lt_or_ge p (C.ofK 3 i).length with h | h
        · exact h
        · rw [List.getElem?_eq_none h] at hp2; cases hp2
      have hle2 : p ≤ ((C.ofK 3 i).filter fun c => !(C.B i).testBit c).length := by
        refine filter_len (by omega) ?_
        intro p' x hp' hx
        have hm := C.mem_ofK.mp (List.mem_of_getElem? hx)
        have hgt : x > c := by
          have hs := List.pairwise_iff_getElem.mp (C.ofK_sorted 3 i) p' p (by omega) hplt hp'
          rw [List.getElem?_eq_getElem (by omega)] at hx hp2
          injection hx with hx
          injection hp2 with hp2
          rw [hx, hp2] at hs
          exact hs
        cases hbt : (C.B i).testBit x with
        | false => rfl
        | true => have := hmax x (hpre x hbt) hm.2; omega
      refine List.mem_of_getElem? (i := p) ?_
      rw [List.getElem?_take, if_pos (by omega), List.getElem?_append_left (by simpa using hplt), List.getElem?_map, hp2]
      rfl
  · rcases hb with rfl | ⟨c, rfl, hc, hLc, hKc⟩
    · omega
    · have hci : c ≠ i := by intro e; rw [e, hL] at hLc; cases hLc
      have hnb : (C.B c).testBit i = false := by
        cases hbt : (C.B c).testBit i with
        | false => rfl
        | true => have := hclosed c hLc i hbt; rw [hL] at this; cases this
      have hst := (C.tr c hc).still hKc
      have hp := C.plan.plan c hc
      have hk' : (C.O c).op.kind = 3 := hKc
      unfold cplan at hp
      rw [hk'] at hp
      simp only at hp
      split at hp
      case isFalse => cases hp
      injection hp with hp
      rw [C.done_filter 1 c] at hp
      have hmem : i ∈ C.ofK 1 c := C.mem_ofK.mpr ⟨by omega, hk⟩
      obtain ⟨p, hp2⟩ := List.getElem?_of_mem hmem
      have hin : p ∈ C.PL c := by
        rw [← hp]
        refine List.mem_map.mpr ⟨((i, C.K i), p), ?_, rfl⟩
        rw [List.mem_filter]
        refine ⟨?_, by simp [hnb]⟩
        refine List.mem_of_getElem? (i := p) ?_
        simp [List.getElem?_zipIdx, hp2]
      obtain ⟨o, t, v, H', h1, h2⟩ := astill_mem hst p hin
      rw [C.ld_eq c (by omega), List.getElem?_map, hp2] at h1
      simp only [Option.map_some, entryOf, hw, if_true, Option.some.injEq, Prod.mk.injEq] at h1
      obtain ⟨rfl, rfl, rfl⟩ := h1
      exact ⟨H', h2⟩

end DCtx
end Go.Proofs.Ythcibbfljcfheaa.Abs
