/- A function's text gone through call by call; names in the heap told apart. No condition of its own. -/
import Derived.Test.YthcibbfljcfheaaKeeps
import Derived.Test.YthcibbfljcfheaaAbs10
namespace Go.Proofs.Ythcibbfljcfheaa.Abs
set_option linter.unusedVariables false
set_option linter.unusedSimpArgs false
theorem setR_s {x : AV} {cs vs : List AV} {n : Nat} : setR (x :: cs) (n + 1) vs = x :: setR cs n vs := by
  unfold setR
  rw [Nat.add_right_comm]
  simp only [List.take_succ_cons, List.drop_succ_cons, List.cons_append]
theorem setR_z {x v : AV} {cs vs : List AV} : setR (x :: cs) 0 (v :: vs) = v :: setR cs 0 vs := by
  unfold setR
  simp only [List.take_zero, List.nil_append, List.length_cons, Nat.zero_add, List.drop_succ_cons, List.cons_append]
theorem setR_e {cs : List AV} : setR cs 0 [] = cs := by
  unfold setR
  simp only [List.take_zero, List.nil_append, List.length_nil, Nat.zero_add, List.drop_zero]
/-- It comes to an end, with a value and a heap of which Q holds. -/
def Sp (r : Option (AV × AH)) (Q : AV → AH → Prop) : Prop := ∃ v H', r = some (v, H') ∧ Q v H'
theorem Sp.ret {v : AV} {H : AH} {Q : AV → AH → Prop} (h : Q v H) : Sp (some (v, H)) Q := ⟨v, H, rfl, h⟩
theorem Sp.mono {r : Option (AV × AH)} {P Q : AV → AH → Prop} (h : Sp r P) (hg : ∀ v H', P v H' → Q v H') : Sp r Q := h.elim fun v h => h.elim fun H' h => ⟨v, H', h.1, hg _ _ h.2⟩
theorem Sp.one {r : Option (AV × AH)} {v : AV} {P : AH → Prop} (h : ∀ Q : AV → AH → Prop, (∀ H', P H' → Q v H') → Sp r Q) : ∃ H', r = some (v, H') ∧ P H' := by
  obtain ⟨u, H', e, h1, h2⟩ := h (fun u H' => u = v ∧ P H') (fun H' h => ⟨rfl, h⟩)
  exact ⟨H', by rw [← h1]; exact e, h2⟩
theorem Sp.two {α : Type} {r : Option (AV × AH)} {f : α → AV} {P : α → AH → Prop} (h : ∀ Q : AV → AH → Prop, (∀ a H', P a H' → Q (f a) H') → Sp r Q) : ∃ a H', r = some (f a, H') ∧ P a H' := by
  obtain ⟨u, H', e, a, h1, h2⟩ := h (fun u H' => ∃ a, u = f a ∧ P a H') (fun a H' h => ⟨a, rfl, h⟩)
  exact ⟨a, H', by rw [← h1]; exact e, h2⟩
theorem Sp.tt {r : Option (AV × AH)} (h : ∀ Q : AV → AH → Prop, (∀ H', Q (.b true) H') → Sp r Q) : ∃ H', r = some (.b true, H') := by
  obtain ⟨H', e, _⟩ := Sp.one (P := fun _ => True) (fun Q hQ => h Q (fun H' => hQ H' trivial))
  exact ⟨H', e⟩
section
variable {T : Tbl} {fn : AFun} {K : List AItem} {c : CallF} {t : Nat → AV} {d : Option Nat} {Q : AV → AH → Prop} {r : Option (AV × AH)}
theorem Sp.call {os : List AOper} {P : AV → AH → Prop} (h : Sp r P) (hg : ∀ v H', P v H' → Sp (regR T fn K (aops c os (put t d v) H')) Q) : Sp (regR T fn K (thenOps r c os t d)) Q := by
  obtain ⟨v, H', rfl, h⟩ := h; exact hg _ _ h
theorem Sp.c0 {os : List AOper} {v : AV} {H' : AH} (h : r = some (v, H')) (hg : Sp (regR T fn K (aops c os (put t d v) H')) Q) : Sp (regR T fn K (thenOps r c os t d)) Q := by
  subst h; exact hg
theorem Sp.n0 {os : List (AOper × List Nat)} {sn : List AH} {v : AV} {H' : AH} (h : r = some (v, H')) (hg : Sp (regR T fn K (adrn c os (put t d v) H' (H' :: sn))) Q) : Sp (regR T fn K (thenNC r c os t d sn)) Q := by
  subst h; exact hg
theorem Sp.d0 {os : List (AOper × List Nat)} {sn : List AH} {ld : Lds} {pl : List Nat} {v : AV} {H' : AH} (h : r = some (v, H')) (hg : Sp (regR T fn K (if astill c H' ld pl = true then adrw c os (put t d v) H' (H' :: sn) ld else none)) Q) : Sp (regR T fn K (thenC r pl c os t d sn ld)) Q := by
  subst h; exact hg
theorem Sp.c1 {os : List AOper} {v : AV} {P : AH → Prop} (h : ∃ H', r = some (v, H') ∧ P H') (hg : ∀ H', P H' → Sp (regR T fn K (aops c os (put t d v) H')) Q) : Sp (regR T fn K (thenOps r c os t d)) Q := by
  obtain ⟨H', rfl, h⟩ := h; exact hg _ h
theorem Sp.c2 {α : Type} {os : List AOper} {f : α → AV} {P : α → AH → Prop} (h : ∃ a H', r = some (f a, H') ∧ P a H') (hg : ∀ a H', P a H' → Sp (regR T fn K (aops c os (put t d (f a)) H')) Q) : Sp (regR T fn K (thenOps r c os t d)) Q := by
  obtain ⟨a, H', rfl, h⟩ := h; exact hg _ _ h
theorem Sp.n1 {os : List (AOper × List Nat)} {sn : List AH} {v : AV} {P : AH → Prop} (h : ∃ H', r = some (v, H') ∧ P H') (hg : ∀ H', P H' → Sp (regR T fn K (adrn c os (put t d v) H' (H' :: sn))) Q) : Sp (regR T fn K (thenNC r c os t d sn)) Q := by
  obtain ⟨H', rfl, h⟩ := h; exact hg _ h
theorem Sp.n2 {α : Type} {os : List (AOper × List Nat)} {sn : List AH} {f : α → AV} {P : α → AH → Prop} (h : ∃ a H', r = some (f a, H') ∧ P a H') (hg : ∀ a H', P a H' → Sp (regR T fn K (adrn c os (put t d (f a)) H' (H' :: sn))) Q) : Sp (regR T fn K (thenNC r c os t d sn)) Q := by
  obtain ⟨a, H', rfl, h⟩ := h; exact hg _ _ h
theorem Sp.d1 {os : List (AOper × List Nat)} {sn : List AH} {ld : Lds} {pl : List Nat} {v : AV} {P : AH → Prop} (h : ∃ H', r = some (v, H') ∧ P H') (hg : ∀ H', P H' → Sp (regR T fn K (if astill c H' ld pl = true then adrw c os (put t d v) H' (H' :: sn) ld else none)) Q) : Sp (regR T fn K (thenC r pl c os t d sn ld)) Q := by
  obtain ⟨H', rfl, h⟩ := h; exact hg _ h
theorem Sp.d2 {α : Type} {os : List (AOper × List Nat)} {sn : List AH} {ld : Lds} {pl : List Nat} {f : α → AV} {P : α → AH → Prop} (h : ∃ a H', r = some (f a, H') ∧ P a H') (hg : ∀ a H', P a H' → Sp (regR T fn K (if astill c H' ld pl = true then adrw c os (put t d (f a)) H' (H' :: sn) ld else none)) Q) : Sp (regR T fn K (thenC r pl c os t d sn ld)) Q := by
  obtain ⟨a, H', rfl, h⟩ := h; exact hg _ _ h
end
theorem hn_o {H : AH} {x : AObj} {b : Nat} : (H.new x).o b = if b = H.n then some x else H.o b := id rfl
theorem hn_n {H : AH} {x : AObj} : (H.new x).n = H.n + 1 := id rfl
theorem hs_o {H : AH} {a : Nat} {x : AObj} {b : Nat} : (H.set a x).o b = if b = a then some x else H.o b := id rfl
theorem hs_n {H : AH} {a : Nat} {x : AObj} : (H.set a x).n = H.n := id rfl
theorem nm1 {b : Nat} {H : AH} (h : b < H.n) : (b = H.n) = False := eq_false (by omega)
theorem nm2 {b k : Nat} {H : AH} (h : b < H.n) : (b = H.n + k) = False := eq_false (by omega)
theorem nm3 {b : Nat} {H : AH} (h : b < H.n) : (H.n = b) = False := eq_false (by omega)
theorem nm4 {b k : Nat} {H : AH} (h : b < H.n) : (H.n + k = b) = False := eq_false (by omega)
theorem ltn1 {b k : Nat} {H : AH} (h : b < H.n) : b < H.n + k := by omega
theorem ltn2 {j k : Nat} {H : AH} : (H.n + j < H.n + k) = (j < k) := by rw [eq_iff_iff]; omega
theorem ltn3 {k : Nat} {H : AH} : (H.n < H.n + k) = (0 < k) := by rw [eq_iff_iff]; omega
theorem Keeps.lt {H H' : AH} (k : Keeps H H') {b : Nat} (h : b < H.n) : b < H'.n := Nat.lt_of_lt_of_le h k.1
theorem Keeps.o {H H' : AH} (k : Keeps H H') {b : Nat} (h : b < H.n) : H'.o b = H.o b := k.2 b h
theorem set_back {H : AH} {r : Nat} {x : AObj} (h : H.o r = some x) : H.set r x = H := by
  obtain ⟨n, o⟩ := H
  unfold AH.set
  congr 1
  funext b
  split
  · rename_i e; subst e; exact h.symm
  · rfl
theorem AH_drop_o {H : AH} {b b' : Nat} : (H.drop b).o b' = if b' = b then none else H.o b' := id rfl
theorem AH_drop_n {H : AH} {b : Nat} : (H.drop b).n = H.n := id rfl
theorem new_set {H : AH} {x y : AObj} : (H.new x).set H.n y = H.new y := by
  unfold AH.set AH.new
  congr 1
  funext b
  simp only
  split <;> rfl
theorem set_set {H : AH} {r : Nat} {x y : AObj} : (H.set r x).set r y = H.set r y := by
  unfold AH.set
  congr 1
  funext b
  simp only
  split <;> rfl
end Go.Proofs.Ythcibbfljcfheaa.Abs
