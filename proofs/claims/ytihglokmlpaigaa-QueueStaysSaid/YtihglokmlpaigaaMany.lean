/- Queues stored, and what each held. No condition of its own. -/
import Derived.Test.YtihglokmlpaigaaRef2
namespace Go.Proofs.Ytihglokmlpaigaa.Abs
set_option linter.unusedSimpArgs false
set_option linter.unusedVariables false
set_option maxRecDepth 100000
set_option maxHeartbeats 8000000
variable {q : Prm}
abbrev QL := AV × List Int
/-- Stored queues A, stored views B, queues at hand C. -/
structure SI (n0 : Nat) (H : AH) (a b : AV) (A B C : List QL) : Prop where
  wa : Wr H a 1 A.length (A.map (·.1))
  wb : Wr H b 1 B.length (B.map (·.1))
  qa : ∀ z : QL, z ∈ A ∨ z ∈ C → IsQ H (.agg [z.1]) z.2
  qb : ∀ z : QL, z ∈ B → Ro H z.1 1 z.2.length (z.2.map I1)
  sep : ∀ c, blk a = some c ∨ blk b = some c → n0 < c ∧ ∀ z : QL, z ∈ A ∨ z ∈ B ∨ z ∈ C → blk z.1 ≠ some c
  ab : ∀ c, blk a = some c → blk b ≠ some c
  ge : ∀ z : QL, z ∈ A ∨ z ∈ B ∨ z ∈ C → ∀ c, blk z.1 = some c → n0 < c
  ln : ∀ z : QL, z ∈ A ∨ z ∈ B ∨ z ∈ C → z.2.length ≤ 2000
theorem IsQ.ro {H : AH} {s : AV} {l : List Int} (h : IsQ H (.agg [s]) l) : Ro H s 1 l.length (l.map I1) := by
  obtain ⟨s', e, h⟩ := h
  cases e
  exact h
theorem isq_keep {H H' : AH} {s : AV} {l : List Int} (h : IsQ H (.agg [s]) l) (hn : H.n ≤ H'.n) (ho : ∀ b, blk s = some b → b < H.n → H'.o b = H.o b) : IsQ H' (.agg [s]) l := ⟨s, rfl, h.ro.keep hn ho⟩
theorem SI.move {n0 : Nat} {H H' : AH} {a b : AV} {A B C : List QL} (h : SI n0 H a b A B C) (hn : H.n ≤ H'.n) (ho : ∀ c, c < H.n → (blk a = some c ∨ blk b = some c ∨ n0 < c) → H'.o c = H.o c) : SI n0 H' a b A B C :=
  ⟨h.wa.keep hn (fun c hc hl => ho c hl (Or.inl hc)), h.wb.keep hn (fun c hc hl => ho c hl (Or.inr (Or.inl hc))),
   fun z hz => isq_keep (h.qa z hz) hn (fun c hc hl => ho c hl (Or.inr (Or.inr (h.ge z (hz.imp id Or.inr) c hc)))),
   fun z hz => (h.qb z hz).keep hn (fun c hc hl => ho c hl (Or.inr (Or.inr (h.ge z (Or.inr (Or.inl hz)) c hc)))), h.sep, h.ab, h.ge, h.ln⟩
theorem SI.keeps {n0 : Nat} {H H' : AH} {a b : AV} {A B C : List QL} (h : SI n0 H a b A B C) (k : Keeps H H') : SI n0 H' a b A B C := h.move k.1 (fun c hc _ => k.o hc)
theorem SI.set0 {n0 : Nat} {H : AH} {a b : AV} {A B C : List QL} (h : SI n0 H a b A B C) {x : AObj} : SI n0 (H.set n0 x) a b A B C :=
  h.move (Nat.le_refl _) (fun c _ hc => by
    rw [AH_set_o, if_neg]
    rintro rfl
    rcases hc with hc | hc | hc
    · have := (h.sep _ (Or.inl hc)).1; omega
    · have := (h.sep _ (Or.inr hc)).1; omega
    · omega)
theorem SI.sub {n0 : Nat} {H : AH} {a b : AV} {A B C C' : List QL} (h : SI n0 H a b A B C) (hs : ∀ z, z ∈ C' → z ∈ C) : SI n0 H a b A B C' :=
  ⟨h.wa, h.wb, fun z hz => h.qa z (hz.imp id (hs z)), h.qb, fun c hc => ⟨(h.sep c hc).1, fun z hz => (h.sep c hc).2 z (hz.imp id (Or.imp id (hs z)))⟩, h.ab, fun z hz => h.ge z (hz.imp id (Or.imp id (hs z))), fun z hz => h.ln z (hz.imp id (Or.imp id (hs z)))⟩
theorem SI.old {n0 : Nat} {H : AH} {a b : AV} {A B C : List QL} (h : SI n0 H a b A B C) {c : Nat} (hc : blk a = some c ∨ blk b = some c) : c < H.n := hc.elim h.wa.old h.wb.old
/-- One more at hand. -/
theorem SI.add {n0 : Nat} {H H1 : AH} {a b s s1 : AV} {A B C : List QL} {L L1 : List Int} (h : SI n0 H a b A B C) (hn0 : n0 < H.n) (k : Keeps H H1) (hs : (s, L) ∈ C) (iq : IsQ H1 (.agg [s1]) L1) (hl : L1.length ≤ 2000) (pv : Pv H (.agg [s]) (.agg [s1])) : SI n0 H1 a b A B ((s1, L1) :: C) := by
  have hk := h.keeps k
  have hp : ∀ c, blk s1 = some c → n0 < c ∧ ¬ (blk a = some c ∨ blk b = some c) := by
    intro c hc
    rcases pv s s1 c rfl rfl hc with h1 | h1
    · exact ⟨h.ge (s, L) (Or.inr (Or.inr hs)) c h1, fun hx => (h.sep c hx).2 (s, L) (Or.inr (Or.inr hs)) h1⟩
    · exact ⟨by omega, fun hx => by have := h.old hx; omega⟩
  refine ⟨hk.wa, hk.wb, fun z hz => ?_, hk.qb, fun c hc => ⟨(hk.sep c hc).1, fun z hz => ?_⟩, hk.ab, fun z hz => ?_, fun z hz => ?_⟩
  · rcases hz with hz | hz
    · exact hk.qa z (Or.inl hz)
    · rcases List.mem_cons.1 hz with rfl | hz
      · exact iq
      · exact hk.qa z (Or.inr hz)
  all_goals
    rcases hz with hz | hz | hz
    rotate_left 2
    rcases List.mem_cons.1 hz with rfl | hz
  · exact fun e => (hp c e).2 hc
  · exact (hk.sep c hc).2 z (Or.inr (Or.inr hz))
  · exact (hk.sep c hc).2 z (Or.inl hz)
  · exact (hk.sep c hc).2 z (Or.inr (Or.inl hz))
  · exact fun c hc => (hp c hc).1
  · exact hk.ge z (Or.inr (Or.inr hz))
  · exact hk.ge z (Or.inl hz)
  · exact hk.ge z (Or.inr (Or.inl hz))
  · exact hl
  · exact hk.ln z (Or.inr (Or.inr hz))
  · exact hk.ln z (Or.inl hz)
  · exact hk.ln z (Or.inr (Or.inl hz))
/-- A queue stored. -/
theorem SI.appA {n0 : Nat} {H : AH} {a b : AV} {A B C : List QL} {z : QL} (h : SI n0 H a b A B C) (hn0 : n0 < H.n) (hz : z ∈ C) (hl : A.length ≤ 1000) :
    ∃ a' H', aappend [.sl none 0 0 true 0] 24 a (.sl (some (H.n, 0)) 1 1 true 1) (H.new (.row false [z.1])) = some (a', H') ∧ SI n0 H' a' b (A ++ [z]) B C ∧ H.n ≤ H'.n ∧ (∀ c, c < H.n → blk a ≠ some c → H'.o c = H.o c) ∧ ∀ c, blk a' = some c → blk a = some c ∨ H.n ≤ c := by
  obtain ⟨a', H', e, w1, n1, k1, b1⟩ := Wr.one (z := [.sl none 0 0 true 0]) (y := 24) (sz := 1) rfl (ex := true) (xs := [z.1]) h.wa rfl (by omega)
  refine ⟨a', H', e, ⟨by rw [List.length_append, List.map_append]; exact w1, h.wb.keep n1 (fun c hc hl => k1 c hl (fun e => h.ab c e hc)), fun y hy => ?_, fun y hy => ?_, fun c hc => ?_, fun c hc => ?_, fun y hy => ?_, fun y hy => ?_⟩, n1, k1, b1⟩
  · have hy' : y ∈ A ∨ y ∈ C := by
      rcases hy with hy | hy
      · rcases List.mem_append.1 hy with hy | hy
        · exact Or.inl hy
        · rw [List.mem_singleton] at hy; subst hy; exact Or.inr hz
      · exact Or.inr hy
    exact isq_keep (h.qa y hy') n1 (fun c hc hl => k1 c hl (fun e => (h.sep c (Or.inl e)).2 y (hy'.imp id Or.inr) hc))
  · exact (h.qb y hy).keep n1 (fun c hc hl => k1 c hl (fun e => (h.sep c (Or.inl e)).2 y (Or.inr (Or.inl hy)) hc))
  · have hall : ∀ y : QL, y ∈ A ++ [z] ∨ y ∈ B ∨ y ∈ C → y ∈ A ∨ y ∈ B ∨ y ∈ C := by
      intro y hy
      rcases hy with hy | hy
      · rcases List.mem_append.1 hy with hy | hy
        · exact Or.inl hy
        · rw [List.mem_singleton] at hy; subst hy; exact Or.inr (Or.inr hz)
      · exact Or.inr hy
    have hold : ∀ y : QL, y ∈ A ∨ y ∈ B ∨ y ∈ C → ∀ c, blk y.1 = some c → c < H.n := by
      intro y hy c hc
      rcases hy with hy | hy | hy
      · exact (h.qa y (Or.inl hy)).ro.old hc
      · exact (h.qb y hy).old hc
      · exact (h.qa y (Or.inr hy)).ro.old hc
    have hne : (blk a = some c ∨ blk b = some c) ∨ H.n ≤ c := by
      rcases hc with hc | hc
      · rcases b1 c hc with h1 | h1
        · exact Or.inl (Or.inl h1)
        · exact Or.inr h1
      · exact Or.inl (Or.inr hc)
    rcases hne with hne | hne
    · exact ⟨(h.sep c hne).1, fun y hy => (h.sep c hne).2 y (hall y hy)⟩
    · exact ⟨by omega, fun y hy hcc => by have := hold y (hall y hy) c hcc; omega⟩
  · rcases b1 c hc with h1 | h1
    · exact h.ab c h1
    · intro h2; have := h.wb.old h2; omega
  · rcases hy with hy | hy
    · rcases List.mem_append.1 hy with hy | hy
      · exact h.ge y (Or.inl hy)
      · rw [List.mem_singleton] at hy; subst hy; exact h.ge y (Or.inr (Or.inr hz))
    · exact h.ge y (Or.inr hy)
  · rcases hy with hy | hy
    · rcases List.mem_append.1 hy with hy | hy
      · exact h.ln y (Or.inl hy)
      · rw [List.mem_singleton] at hy; subst hy; exact h.ln y (Or.inr (Or.inr hz))
    · exact h.ln y (Or.inr hy)
/-- A view stored. -/
theorem SI.appB {n0 : Nat} {H : AH} {a b : AV} {A B C : List QL} {z : QL} (h : SI n0 H a b A B C) (hn0 : n0 < H.n) (hro : Ro H z.1 1 z.2.length (z.2.map I1)) (hzl : z.2.length ≤ 2000) (hz : ∀ c, blk z.1 = some c → n0 < c ∧ blk a ≠ some c ∧ blk b ≠ some c) (hl : B.length ≤ 1000) :
    ∃ b' H', aappend [.sl none 0 0 true 0] 24 b (.sl (some (H.n, 0)) 1 1 true 1) (H.new (.row false [z.1])) = some (b', H') ∧ SI n0 H' a b' A (B ++ [z]) C ∧ H.n ≤ H'.n ∧ (∀ c, c < H.n → blk b ≠ some c → H'.o c = H.o c) ∧ ∀ c, blk b' = some c → blk b = some c ∨ H.n ≤ c := by
  obtain ⟨b', H', e, w1, n1, k1, b1⟩ := Wr.one (z := [.sl none 0 0 true 0]) (y := 24) (sz := 1) rfl (ex := true) (xs := [z.1]) h.wb rfl (by omega)
  refine ⟨b', H', e, ⟨h.wa.keep n1 (fun c hc hl => k1 c hl (fun e => h.ab c hc e)), by rw [List.length_append, List.map_append]; exact w1, fun y hy => ?_, fun y hy => ?_, fun c hc => ?_, fun c hc hd => ?_, fun y hy => ?_, fun y hy => ?_⟩, n1, k1, b1⟩
  · exact isq_keep (h.qa y hy) n1 (fun c hc hl => k1 c hl (fun e => (h.sep c (Or.inr e)).2 y (hy.imp id Or.inr) hc))
  · rcases List.mem_append.1 hy with hy | hy
    · exact (h.qb y hy).keep n1 (fun c hc hl => k1 c hl (fun e => (h.sep c (Or.inr e)).2 y (Or.inr (Or.inl hy)) hc))
    · rw [List.mem_singleton] at hy
      subst hy
      exact hro.keep n1 (fun c hc hl => k1 c hl (hz c hc).2.2)
  · have hne : (blk a = some c ∨ blk b = some c) ∨ H.n ≤ c := by
      rcases hc with hc | hc
      · exact Or.inl (Or.inl hc)
      · rcases b1 c hc with h1 | h1
        · exact Or.inl (Or.inr h1)
        · exact Or.inr h1
    have hold : ∀ y : QL, y ∈ A ∨ y ∈ B ++ [z] ∨ y ∈ C → ∀ c, blk y.1 = some c → c < H.n := by
      intro y hy c hc
      rcases hy with hy | hy | hy
      · exact (h.qa y (Or.inl hy)).ro.old hc
      · rcases List.mem_append.1 hy with hy | hy
        · exact (h.qb y hy).old hc
        · rw [List.mem_singleton] at hy; subst hy; exact hro.old hc
      · exact (h.qa y (Or.inr hy)).ro.old hc
    rcases hne with hne | hne
    · refine ⟨(h.sep c hne).1, fun y hy hcc => ?_⟩
      rcases hy with hy | hy | hy
      · exact (h.sep c hne).2 y (Or.inl hy) hcc
      · rcases List.mem_append.1 hy with hy | hy
        · exact (h.sep c hne).2 y (Or.inr (Or.inl hy)) hcc
        · rw [List.mem_singleton] at hy
          subst hy
          rcases hne with hne | hne
          · exact (hz c hcc).2.1 hne
          · exact (hz c hcc).2.2 hne
      · exact (h.sep c hne).2 y (Or.inr (Or.inr hy)) hcc
    · exact ⟨by omega, fun y hy hcc => by have := hold y hy c hcc; omega⟩
  · rcases b1 c hd with h1 | h1
    · exact h.ab c hc h1
    · have := h.wa.old hc; omega
  · rcases hy with hy | hy | hy
    · exact h.ge y (Or.inl hy)
    · rcases List.mem_append.1 hy with hy | hy
      · exact h.ge y (Or.inr (Or.inl hy))
      · rw [List.mem_singleton] at hy; subst hy; exact fun c hc => (hz c hc).1
    · exact h.ge y (Or.inr (Or.inr hy))
  · rcases hy with hy | hy | hy
    · exact h.ln y (Or.inl hy)
    · rcases List.mem_append.1 hy with hy | hy
      · exact h.ln y (Or.inr (Or.inl hy))
      · rw [List.mem_singleton] at hy; subst hy; exact hzl
    · exact h.ln y (Or.inr (Or.inr hy))
/-- A queue and its view stored: one round of the inner loop. -/
theorem SI.both {n0 : Nat} {H : AH} {a b : AV} {A B C : List QL} {z : QL} (h : SI n0 H a b A B C) (hn0 : n0 < H.n) (hz : z ∈ C) (hl : A.length ≤ 1000) (hl2 : B.length ≤ 1000) :
    ∃ a' H2 v H3 b' H4, aappend [.sl none 0 0 true 0] 24 a (.sl (some (H.n + 1, 0)) 1 1 true 1) ((H.new (.row false [z.1])).new (.row false [z.1])) = some (a', H2) ∧ H2.o H.n = some (.row false [z.1]) ∧ callR (tblP q) 19 [.agg [z.1]] H2 = some (v, H3) ∧
      aappend [.sl none 0 0 true 0] 24 b (.sl (some (H3.n, 0)) 1 1 true 1) (H3.new (.row false [v])) = some (b', H4) ∧ SI n0 H4 a' b' (A ++ [z]) (B ++ [(v, z.2)]) C ∧
      H.n ≤ H4.n ∧ (∀ c, c < H.n → blk a ≠ some c → blk b ≠ some c → H4.o c = H.o c) ∧ (∀ c, blk a' = some c → blk a = some c ∨ H.n ≤ c) ∧ (∀ c, blk b' = some c → blk b = some c ∨ H.n ≤ c) ∧ (∃ x lo ex sz, a' = .sl x (A.length + 1) lo ex sz) ∧ ∃ x lo ex sz, v = .sl x z.2.length lo ex sz := by
  have hN : SI n0 (H.new (.row false [z.1])) a b A B C := h.keeps (Keeps.refl _).new
  obtain ⟨a', H2, e1, s1, n1, k1, b1⟩ := hN.appA (by simp only [AH_new_n]; omega) hz hl
  simp only [AH_new_n] at n1 k1 b1 e1
  have hzo : H2.o H.n = some (.row false [z.1]) := by
    rw [k1 _ (by omega) (fun e => by have := h.wa.old e; omega), AH_new_o, if_pos rfl]
  obtain ⟨v, H3, e2, w2, k2, f2⟩ := all_new (q := q) (s1.qa z (Or.inr hz)) (by have := h.ln z (Or.inr (Or.inr hz)); omega)
  have s2 := s1.keeps k2
  have kn := k2.1
  obtain ⟨b', H4, e3, s3, n3, k3, b3⟩ := s2.appB (z := (v, z.2)) (by omega) w2.ro (h.ln z (Or.inr (Or.inr hz))) (fun c hc => by
    have := f2 c hc
    refine ⟨by omega, fun e => by have := s1.wa.old e; omega, fun e => by have := s1.wb.old e; omega⟩) hl2
  obtain ⟨x, lo, ex, sz, hae⟩ := s3.wa.len
  rw [List.length_append] at hae
  refine ⟨a', H2, v, H3, b', H4, e1, hzo, e2, e3, s3, by omega, fun c hc ha hb => ?_, fun c hc => ?_, fun c hc => ?_, ⟨x, lo, ex, sz, hae⟩, w2.len⟩
  · rw [k3 c (by omega) hb, k2.o (by omega), k1 c (by omega) ha, AH_new_o, if_neg (by omega)]
  · rcases b1 c hc with h1 | h1
    · exact Or.inl h1
    · exact Or.inr (by omega)
  · rcases b3 c hc with h1 | h1
    · exact Or.inl h1
    · exact Or.inr (by omega)
/-- Cut from the front. -/
theorem SI.cut {n0 k : Nat} {H : AH} {a b : AV} {A B C : List QL} (h : SI n0 H a b A B C) (hk : k ≤ A.length) (hk2 : k ≤ B.length) :
    ∃ a' b', aslice 1 a (some (.i .i64 k)) none none = some a' ∧ aslice 1 b (some (.i .i64 k)) none none = some b' ∧ SI n0 H a' b' (A.drop k) (B.drop k) C := by
  obtain ⟨a', e1, w1, b1⟩ := h.wa.from (k := .i64) hk
  obtain ⟨b', e2, w2, b2⟩ := h.wb.from (k := .i64) hk2
  rw [Nat.mul_one] at w1 w2
  have hA : ∀ z, z ∈ A.drop k → z ∈ A := fun z hz => List.mem_of_mem_drop hz
  have hB : ∀ z, z ∈ B.drop k → z ∈ B := fun z hz => List.mem_of_mem_drop hz
  have hall : ∀ z, z ∈ A.drop k ∨ z ∈ B.drop k ∨ z ∈ C → z ∈ A ∨ z ∈ B ∨ z ∈ C := fun z hz => hz.imp (hA z) (Or.imp (hB z) id)
  refine ⟨a', b', e1, e2, ⟨by rw [List.length_drop, List.map_drop]; exact w1, by rw [List.length_drop, List.map_drop]; exact w2, fun z hz => h.qa z (hz.imp (hA z) id), fun z hz => h.qb z (hB z hz), fun c hc => ?_, fun c hc hd => h.ab c (b1 c hc) (b2 c hd), fun z hz => h.ge z (hall z hz), fun z hz => h.ln z (hall z hz)⟩⟩
  have := h.sep c (hc.imp (b1 c) (b2 c))
  exact ⟨this.1, fun z hz => this.2 z (hall z hz)⟩
/-- Popped. -/
theorem pop_pv {H : AH} {s : AV} {l : List Int} (h : IsQ H (.agg [s]) l) (hl : l.length ≤ 1000000) : ∃ x s' bo H', callR (tblP q) 9 [.agg [s]] H = some (.tup [.i .i64 x, .agg [s'], .b bo], H') ∧ IsQ H' (.agg [s']) l.tail ∧ Keeps H H' ∧ Pv H (.agg [s]) (.agg [s']) := by
  cases l with
  | nil =>
    obtain ⟨H', e, k⟩ := pop_nil (q := q) h
    exact ⟨_, _, _, H', e, h.keeps k, k, Pv.same⟩
  | cons x l =>
    obtain ⟨s', H', e, h1, k, hb⟩ := pop_cons' (q := q) h (by simp at hl; omega)
    exact ⟨_, _, _, H', e, h1, k, fun s1 s2 b e1 e2 h2 => by cases e1; cases e2; exact Or.inl (hb b h2)⟩
end Go.Proofs.Ytihglokmlpaigaa.Abs
