/- The plain machine's equations in the form in which they are used to rewrite. No condition of their own. -/
import Derived.Test.YthcibbfljcfheaaAbs2
namespace Go.Proofs.Ythcibbfljcfheaa.Abs
set_option linter.unusedVariables false

/-- What is left of a region behind an operation. -/
def thenOps (r : Option (AV × AH)) (c : CallF) (os : List AOper) (t : Nat → AV) (d : Option Nat) : Option ((Nat → AV) × AH) :=
  match r with
  | some (v, H') => aops c os (put t d v) H'
  | none => none
theorem thenOps_some {v : AV} {H' : AH} {c : CallF} {os : List AOper} {t : Nat → AV} {d : Option Nat} : thenOps (some (v, H')) c os t d = aops c os (put t d v) H' := id rfl

/-- An operation under a guard. -/
def gOps (x : AV) (want : Bool) (op : AOp) (c : CallF) (os : List AOper) (t : Nat → AV) (d : Option Nat) (H : AH) : Option ((Nat → AV) × AH) :=
  match x with
  | .b z => if z = want then thenOps (aop c t op H) c os t d else aops c os (put t d undefA) H
  | .tup _ => aops c os (put t d undefA) H
  | _ => none
theorem gOps_b {z : Bool} {want : Bool} {op : AOp} {c : CallF} {os : List AOper} {t : Nat → AV} {d : Option Nat} {H : AH} : gOps (.b z) want op c os t d H = if z = want then thenOps (aop c t op H) c os t d else aops c os (put t d undefA) H := id rfl
theorem gOps_u {want : Bool} {op : AOp} {c : CallF} {os : List AOper} {t : Nat → AV} {d : Option Nat} {H : AH} : gOps undefA want op c os t d H = aops c os (put t d undefA) H := id rfl

theorem aops_nil {c : CallF} {t : Nat → AV} {H : AH} : aops c [] t H = some (t, H) := rfl
theorem aops_cons {c : CallF} {os : List AOper} {t : Nat → AV} {d : Option Nat} {op : AOp} {H : AH} : aops c (⟨d, none, op⟩ :: os) t H = thenOps (aop c t op H) c os t d := by
  simp only [aops, awanted, thenOps]
  cases aop c t op H <;> rfl
theorem aops_g {c : CallF} {os : List AOper} {t : Nat → AV} {d : Option Nat} {g : Nat} {want : Bool} {op : AOp} {H : AH} : aops c (⟨d, some (g, want), op⟩ :: os) t H = gOps (t g) want op c os t d H := by
  simp only [aops, awanted, gOps, thenOps]
  cases t g <;> try rfl
  rename_i z
  cases z <;> cases want <;> simp <;> cases aop c t op H <;> rfl

theorem put_some {t : Nat → AV} {d : Nat} {v : AV} : put t (some d) v = upd t d v := rfl
theorem put_none {t : Nat → AV} {v : AV} : put t none v = t := rfl
theorem upd_get {t : Nat → AV} {d k : Nat} {v : AV} : upd t d v k = if k = d then v else t k := rfl
theorem ev_t {t : Nat → AV} {k : Nat} : AX.ev t (.t k) = t k := rfl
theorem ev_c {t : Nat → AV} {v : AV} : AX.ev t (.c v) = v := rfl
theorem asX_nil {t : Nat → AV} : asX t [] = [] := rfl
theorem asX_cons {t : Nat → AV} {x : AX} {xs : List AX} : asX t (x :: xs) = x.ev t :: asX t xs := rfl
theorem withH_some' {H : AH} {v : AV} : withH H (some v) = some (v, H) := rfl
theorem withU_some' {H : AH} : withU (some H) = some (undefA, H) := rfl

section
variable {T : Tbl} {fn : AFun} {k : List AItem} {t : Nat → AV} {H : AH}

noncomputable def regR (T : Tbl) (fn : AFun) (k : List AItem) (r : Option ((Nat → AV) × AH)) : Option (AV × AH) :=
  match r with
  | some (t', H') => runR T fn k t' H'
  | none => none
theorem regR_some {t' : Nat → AV} {H' : AH} : regR T fn k (some (t', H')) = runR T fn k t' H' := id rfl
theorem runR_reg' {ops : List AOper} : runR T fn (.code (.reg ops) :: k) t H = regR T fn k (aops (callR T) ops t H) := by
  rw [runR_reg]; rfl

noncomputable def condR (T : Tbl) (fn : AFun) (a b : ACode) (k : List AItem) (t : Nat → AV) (H : AH) (x : AV) : Option (AV × AH) :=
  match x with
  | .b z => if z = true then runR T fn (.code a :: k) t H else runR T fn (.code b :: k) t H
  | _ => none
theorem condR_b {a b : ACode} {z : Bool} : condR T fn a b k t H (.b z) = if z = true then runR T fn (.code a :: k) t H else runR T fn (.code b :: k) t H := id rfl
theorem runR_cond' {c : AX} {a b : ACode} : runR T fn (.code (.cond c a b) :: k) t H = condR T fn a b k t H (c.ev t) := by
  cases h : c.ev t
  case b z => rw [runR_cond h]; rfl
  all_goals exact runR_is fun n => by simp only [arun, h]; rfl

noncomputable def exitR (T : Tbl) (fn : AFun) (t : Nat → AV) (H : AH) (k : Option (List AItem)) : Option (AV × AH) :=
  match k with
  | some k => runR T fn k t H
  | none => none
theorem exitR_some : exitR T fn t H (some k) = runR T fn k t H := id rfl
theorem runR_exit' {id : Nat} : runR T fn (.code (.exit id) :: k) t H = exitR T fn t H (aexit id k) := by
  cases h : aexit id k with
  | some k' => rw [runR_exit h]; rfl
  | none => exact runR_is fun n => by simp only [arun, h]; rfl
theorem aexit_inBlock {id id' : Nat} : aexit id (.inBlock id' :: k) = if id' = id then some k else aexit id k := rfl
theorem aexit_inLoop {id : Nat} {c : ACode} : aexit id (.inLoop c :: k) = aexit id k := rfl
theorem aexit_code {id : Nat} {c : ACode} : aexit id (.code c :: k) = aexit id k := rfl
end

/-- A call, by the function's own text. -/
theorem callR_of {T : Tbl} {f : FuncId} {g : AFun} (h : T.f f = some g) {args : List AV} (hl : args.length ≤ g.nt) {H : AH} : callR T f args H = runR T g [.code g.body] (ainit args) H := by
  unfold callR; rw [h]; simp only [if_pos hl]
theorem ainit_get {args : List AV} {k : Nat} : ainit args k = args.getD k undefA := rfl
theorem afinish_def {fn : AFun} {t : Nat → AV} {H : AH} : afinish fn t H = (match aresults H t fn.res with
  | some vs => some (aback vs, H)
  | none => none) := rfl

theorem AH.set_same {H : AH} {b : Nat} {x : AObj} : (H.set b x).o b = some x := by simp [AH.set]
theorem AH.set_ne {H : AH} {b b' : Nat} {x : AObj} (h : b' ≠ b) : (H.set b x).o b' = H.o b' := by simp [AH.set, h]
theorem AH.new_ne {H : AH} {b' : Nat} {x : AObj} (h : b' ≠ H.n) : (H.new x).o b' = H.o b' := by simp [AH.new, h]
theorem AH.new_same {H : AH} {x : AObj} : (H.new x).o H.n = some x := by simp [AH.new]

theorem wrap_i64 {x : Int} (h : -9223372036854775808 ≤ x ∧ x ≤ 9223372036854775807) : IntKind.i64.wrap x = x := by
  unfold IntKind.wrap IntKind.bits IntKind.signed
  simp only [Bool.true_and, decide_eq_true_eq]
  split <;> omega

theorem AH_new_o {H : AH} {x : AObj} {b : Nat} : (H.new x).o b = if b = H.n then some x else H.o b := rfl
theorem AH_new_n {H : AH} {x : AObj} : (H.new x).n = H.n + 1 := rfl
theorem AH_set_o {H : AH} {a : Nat} {x : AObj} {b : Nat} : (H.set a x).o b = if b = a then some x else H.o b := rfl
theorem AH_set_n {H : AH} {a : Nat} {x : AObj} : (H.set a x).n = H.n := rfl
theorem cast_of {n : Nat} : ((no_index (OfNat.ofNat n) : Nat) : Int) = OfNat.ofNat n := rfl
theorem cast_0 : ((0 : Nat) : Int) = 0 := rfl
theorem cast_1 : ((1 : Nat) : Int) = 1 := rfl
/-- The heap behind a call, where the call's value is told apart from it. -/
noncomputable def hAft (r : Option (AV × AH)) : AH :=
  match r with
  | some (_, H) => H
  | none => ⟨0, fun _ => none⟩
theorem aft_of {r : Option (AV × AH)} {v : AV} (h : ∃ H', r = some (v, H')) : r = some (v, hAft r) := by
  obtain ⟨H', rfl⟩ := h
  rfl
-- whole numbers
def bAnd (k : IntKind) (a b : Int) : Int := k.wrap (BitVec.ofInt k.bits a &&& BitVec.ofInt k.bits b).toNat
def bOr (k : IntKind) (a b : Int) : Int := k.wrap (BitVec.ofInt k.bits a ||| BitVec.ofInt k.bits b).toNat
def bXor (k : IntKind) (a b : Int) : Int := k.wrap (BitVec.ofInt k.bits a ^^^ BitVec.ofInt k.bits b).toNat
def bAndn (k : IntKind) (a b : Int) : Int := k.wrap (BitVec.ofInt k.bits a &&& ~~~ BitVec.ofInt k.bits b).toNat
def bShl (k : IntKind) (a b : Int) : Int := k.wrap (a * 2 ^ (min b.toNat k.bits))
def bShr (k : IntKind) (a b : Int) : Int := a.fdiv (2 ^ (min b.toNat k.bits))
def bInv (k : IntKind) (n : Int) : Int := k.wrap (BitVec.ofInt k.bits (if k.signed then -1 else k.max) ^^^ BitVec.ofInt k.bits n).toNat
def bQuo (k : IntKind) (a b : Int) : Int := k.wrap (a.tdiv b)
section
variable {k : IntKind} {a b : Int}
theorem aInt_add : aInt .add k a b = some (.i k (k.wrap (a + b))) := rfl
theorem aInt_sub : aInt .sub k a b = some (.i k (k.wrap (a - b))) := rfl
theorem aInt_mul : aInt .mul k a b = some (.i k (k.wrap (a * b))) := rfl
theorem aInt_quo : aInt .quo k a b = if b = 0 then none else some (.i k (bQuo k a b)) := rfl
theorem aInt_rem : aInt .rem k a b = if b = 0 then none else some (.i k (a.tmod b)) := rfl
theorem aInt_and : aInt .and k a b = some (.i k (bAnd k a b)) := rfl
theorem aInt_or : aInt .or k a b = some (.i k (bOr k a b)) := rfl
theorem aInt_xor : aInt .xor k a b = some (.i k (bXor k a b)) := rfl
theorem aInt_andn : aInt .andNot k a b = some (.i k (bAndn k a b)) := rfl
theorem aInt_eql : aInt .eql k a b = some (.b (a == b)) := rfl
theorem aInt_neq : aInt .neq k a b = some (.b (a != b)) := rfl
theorem aInt_lss : aInt .lss k a b = some (.b (decide (a < b))) := rfl
theorem aInt_leq : aInt .leq k a b = some (.b (decide (a ≤ b))) := rfl
theorem aInt_gtr : aInt .gtr k a b = some (.b (decide (a > b))) := rfl
theorem aInt_geq : aInt .geq k a b = some (.b (decide (a ≥ b))) := rfl
theorem aInt_shl : aInt .shl k a b = if b < 0 then none else some (.i k (bShl k a b)) := rfl
theorem aInt_shr : aInt .shr k a b = if b < 0 then none else some (.i k (bShr k a b)) := rfl
theorem aUn_not {z : Bool} : aUn .not (.b z) = some (.b (!z)) := rfl
theorem aUn_neg : aUn .neg (.i k a) = some (.i k (k.wrap (0 - a))) := rfl
theorem aUn_xor : aUn .xor (.i k a) = some (.i k (bInv k a)) := rfl
end
theorem wrap_u {x m : Int} {k : IntKind} (hs : k.signed = false) (hm : (2 : Int) ^ k.bits = m) (h : 0 ≤ x ∧ x < m) : k.wrap x = x := by
  unfold IntKind.wrap
  simp only [hs, Bool.false_and, Bool.false_eq_true, if_false]
  rw [hm]
  exact Int.emod_eq_of_lt h.1 h.2
theorem wrap_u8 {x : Int} (h : 0 ≤ x ∧ x ≤ 255) : IntKind.u8.wrap x = x := wrap_u (m := 256) rfl rfl ⟨h.1, by omega⟩
theorem wrap_u16 {x : Int} (h : 0 ≤ x ∧ x ≤ 65535) : IntKind.u16.wrap x = x := wrap_u (m := 65536) rfl rfl ⟨h.1, by omega⟩
theorem wrap_u32 {x : Int} (h : 0 ≤ x ∧ x ≤ 4294967295) : IntKind.u32.wrap x = x := wrap_u (m := 4294967296) rfl rfl ⟨h.1, by omega⟩
theorem wrap_u64 {x : Int} (h : 0 ≤ x ∧ x ≤ 18446744073709551615) : IntKind.u64.wrap x = x := wrap_u (m := 18446744073709551616) rfl rfl ⟨h.1, by omega⟩
-- .. of which none is below 0
theorem ofInt_nat {n m : Nat} (w : Nat) (h : n < 2 ^ w) : (BitVec.ofInt w (n : Int)).toNat = n := by
  rw [BitVec.ofInt_natCast, BitVec.toNat_ofNat, Nat.mod_eq_of_lt h]
theorem and_u64 {a b : Nat} (ha : a < 18446744073709551616) (hb : b < 18446744073709551616) : bAnd .u64 a b = (a &&& b : Nat) := by
  unfold bAnd
  rw [BitVec.toNat_and, ofInt_nat (m := 0) _ ha, ofInt_nat (m := 0) _ hb]
  exact wrap_u64 ⟨by omega, by have := Nat.and_le_left (n := a) (m := b); omega⟩
theorem or_u64 {a b : Nat} (ha : a < 18446744073709551616) (hb : b < 18446744073709551616) : bOr .u64 a b = (a ||| b : Nat) := by
  unfold bOr
  rw [BitVec.toNat_or, ofInt_nat (m := 0) _ ha, ofInt_nat (m := 0) _ hb]
  exact wrap_u64 ⟨by omega, by have := Nat.or_lt_two_pow (n := 64) ha hb; omega⟩
theorem shr_nat {k : IntKind} {a b : Nat} (h : b ≤ k.bits) : bShr k a b = (a / 2 ^ b : Nat) := by
  unfold bShr
  rw [Int.toNat_natCast, Nat.min_eq_left h, Int.fdiv_eq_ediv_of_nonneg _ (Int.le_of_lt (Int.pow_pos (by decide)))]
  simp
theorem shl_nat {k : IntKind} {a b : Nat} (h : b ≤ k.bits) : bShl k a b = k.wrap ((a * 2 ^ b : Nat) : Int) := by
  unfold bShl
  rw [Int.toNat_natCast, Nat.min_eq_left h]
  simp
-- regions whose order is drawn
abbrev Lds := List (AOp × (Nat → AV) × AV)

noncomputable def thenD (r : Option (AV × AH)) (c : CallF) (os : List (AOper × List Nat)) (t : Nat → AV) (d : Option Nat) (sn : List AH) (ld : Lds) : Option ((Nat → AV) × AH) :=
  match r with
  | some (v, H') => adrw c os (put t d v) H' sn ld
  | none => none
theorem thenD_some {v : AV} {H' : AH} {c : CallF} {os : List (AOper × List Nat)} {t : Nat → AV} {d : Option Nat} {sn : List AH} {ld : Lds} : thenD (some (v, H')) c os t d sn ld = adrw c os (put t d v) H' sn ld := id rfl
noncomputable def thenL (r : Option AV) (op : AOp) (c : CallF) (os : List (AOper × List Nat)) (t : Nat → AV) (d : Option Nat) (H : AH) (sn : List AH) (ld : Lds) : Option ((Nat → AV) × AH) :=
  match r with
  | some v => adrw c os (put t d v) H sn ((op, t, v) :: ld)
  | none => none
theorem thenL_some {v : AV} {op : AOp} {H : AH} {c : CallF} {os : List (AOper × List Nat)} {t : Nat → AV} {d : Option Nat} {sn : List AH} {ld : Lds} : thenL (some v) op c os t d H sn ld = adrw c os (put t d v) H sn ((op, t, v) :: ld) := id rfl
noncomputable def thenC (r : Option (AV × AH)) (pl : List Nat) (c : CallF) (os : List (AOper × List Nat)) (t : Nat → AV) (d : Option Nat) (sn : List AH) (ld : Lds) : Option ((Nat → AV) × AH) :=
  match r with
  | some (v, H') => if astill c H' ld pl = true then adrw c os (put t d v) H' (H' :: sn) ld else none
  | none => none
theorem thenC_some {v : AV} {H' : AH} {pl : List Nat} {c : CallF} {os : List (AOper × List Nat)} {t : Nat → AV} {d : Option Nat} {sn : List AH} {ld : Lds} : thenC (some (v, H')) pl c os t d sn ld = if astill c H' ld pl = true then adrw c os (put t d v) H' (H' :: sn) ld else none := id rfl

noncomputable def dStep (k : Nat) (op : AOp) (pl : List Nat) (c : CallF) (os : List (AOper × List Nat)) (t : Nat → AV) (d : Option Nat) (H : AH) (sn : List AH) (ld : Lds) : Option ((Nat → AV) × AH) :=
  match k with
  | 1 => (match pl with
    | [m] => thenL (asame (aop c t op) (sn.take m)) op c os t d H sn ld
    | _ => none)
  | 3 => thenC (aop c t op H) pl c os t d sn ld
  | _ => thenD (aop c t op H) c os t d sn ld
theorem dStep_0 {op : AOp} {pl : List Nat} {c : CallF} {os : List (AOper × List Nat)} {t : Nat → AV} {d : Option Nat} {H : AH} {sn : List AH} {ld : Lds} : dStep 0 op pl c os t d H sn ld = thenD (aop c t op H) c os t d sn ld := id rfl
theorem dStep_1 {op : AOp} {m : Nat} {c : CallF} {os : List (AOper × List Nat)} {t : Nat → AV} {d : Option Nat} {H : AH} {sn : List AH} {ld : Lds} : dStep 1 op [m] c os t d H sn ld = thenL (asame (aop c t op) (sn.take m)) op c os t d H sn ld := id rfl
theorem dStep_2 {op : AOp} {pl : List Nat} {c : CallF} {os : List (AOper × List Nat)} {t : Nat → AV} {d : Option Nat} {H : AH} {sn : List AH} {ld : Lds} : dStep 2 op pl c os t d H sn ld = thenD (aop c t op H) c os t d sn ld := id rfl
theorem dStep_3 {op : AOp} {pl : List Nat} {c : CallF} {os : List (AOper × List Nat)} {t : Nat → AV} {d : Option Nat} {H : AH} {sn : List AH} {ld : Lds} : dStep 3 op pl c os t d H sn ld = thenC (aop c t op H) pl c os t d sn ld := id rfl

noncomputable def dSkip (k : Nat) (pl : List Nat) (c : CallF) (os : List (AOper × List Nat)) (t : Nat → AV) (d : Option Nat) (H : AH) (sn : List AH) (ld : Lds) : Option ((Nat → AV) × AH) :=
  match k with
  | 1 => adrw c os (put t d undefA) H sn ((.val (.c undefA), t, undefA) :: ld)
  | 3 => if astill c H ld pl = true then adrw c os (put t d undefA) H (H :: sn) ld else none
  | _ => adrw c os (put t d undefA) H sn ld
theorem dSkip_0 {pl : List Nat} {c : CallF} {os : List (AOper × List Nat)} {t : Nat → AV} {d : Option Nat} {H : AH} {sn : List AH} {ld : Lds} : dSkip 0 pl c os t d H sn ld = adrw c os (put t d undefA) H sn ld := id rfl
theorem dSkip_1 {pl : List Nat} {c : CallF} {os : List (AOper × List Nat)} {t : Nat → AV} {d : Option Nat} {H : AH} {sn : List AH} {ld : Lds} : dSkip 1 pl c os t d H sn ld = adrw c os (put t d undefA) H sn ((.val (.c undefA), t, undefA) :: ld) := id rfl
theorem dSkip_2 {pl : List Nat} {c : CallF} {os : List (AOper × List Nat)} {t : Nat → AV} {d : Option Nat} {H : AH} {sn : List AH} {ld : Lds} : dSkip 2 pl c os t d H sn ld = adrw c os (put t d undefA) H sn ld := id rfl
theorem dSkip_3 {pl : List Nat} {c : CallF} {os : List (AOper × List Nat)} {t : Nat → AV} {d : Option Nat} {H : AH} {sn : List AH} {ld : Lds} : dSkip 3 pl c os t d H sn ld = if astill c H ld pl = true then adrw c os (put t d undefA) H (H :: sn) ld else none := id rfl

noncomputable def gD (x : AV) (want : Bool) (op : AOp) (pl : List Nat) (c : CallF) (os : List (AOper × List Nat)) (t : Nat → AV) (d : Option Nat) (H : AH) (sn : List AH) (ld : Lds) : Option ((Nat → AV) × AH) :=
  match x with
  | .b z => if z = want then dStep op.kind op pl c os t d H sn ld else dSkip op.kind pl c os t d H sn ld
  | .tup _ => dSkip op.kind pl c os t d H sn ld
  | _ => none
theorem gD_b {z : Bool} {want : Bool} {op : AOp} {pl : List Nat} {c : CallF} {os : List (AOper × List Nat)} {t : Nat → AV} {d : Option Nat} {H : AH} {sn : List AH} {ld : Lds} : gD (.b z) want op pl c os t d H sn ld = if z = want then dStep op.kind op pl c os t d H sn ld else dSkip op.kind pl c os t d H sn ld := id rfl
theorem gD_u {want : Bool} {op : AOp} {pl : List Nat} {c : CallF} {os : List (AOper × List Nat)} {t : Nat → AV} {d : Option Nat} {H : AH} {sn : List AH} {ld : Lds} : gD undefA want op pl c os t d H sn ld = dSkip op.kind pl c os t d H sn ld := id rfl

theorem adrw_nil {c : CallF} {t : Nat → AV} {H : AH} {sn : List AH} {ld : Lds} : adrw c [] t H sn ld = some (t, H) := by simp only [adrw]
theorem dStep_eq {c : CallF} {os : List (AOper × List Nat)} {t : Nat → AV} {d : Option Nat} {op : AOp} {pl : List Nat} {H : AH} {sn : List AH} {ld : Lds} : (match op.kind with
      | 1 => (match pl with
        | [m] => (match asame (aop c t op) (sn.take m) with
          | some v => adrw c os (put t d v) H sn ((op, t, v) :: ld)
          | none => none)
        | _ => none)
      | 3 => (match aop c t op H with
        | some (v, H') => if astill c H' ld pl = true then adrw c os (put t d v) H' (H' :: sn) ld else none
        | none => none)
      | _ => (match aop c t op H with
        | some (v, H') => adrw c os (put t d v) H' sn ld
        | none => none)) = dStep op.kind op pl c os t d H sn ld := by
  unfold dStep
  split
  · split
    · unfold thenL; split <;> rfl
    · rfl
  · unfold thenC; split <;> rfl
  · unfold thenD; split <;> rfl
theorem adrw_cons {c : CallF} {os : List (AOper × List Nat)} {t : Nat → AV} {d : Option Nat} {op : AOp} {pl : List Nat} {H : AH} {sn : List AH} {ld : Lds} : adrw c ((⟨d, none, op⟩, pl) :: os) t H sn ld = dStep op.kind op pl c os t d H sn ld := by
  unfold adrw
  simp only [awanted]
  exact dStep_eq
theorem adrw_g {c : CallF} {os : List (AOper × List Nat)} {t : Nat → AV} {d : Option Nat} {g : Nat} {want : Bool} {op : AOp} {pl : List Nat} {H : AH} {sn : List AH} {ld : Lds} : adrw c ((⟨d, some (g, want), op⟩, pl) :: os) t H sn ld = gD (t g) want op pl c os t d H sn ld := by
  unfold adrw
  simp only [awanted, gD]
  have hskip : (match op.kind with
      | 1 => adrw c os (put t d undefA) H sn ((.val (.c undefA), t, undefA) :: ld)
      | 3 => if astill c H ld pl = true then adrw c os (put t d undefA) H (H :: sn) ld else none
      | _ => adrw c os (put t d undefA) H sn ld) = dSkip op.kind pl c os t d H sn ld := by
    unfold dSkip
    split <;> rfl
  cases t g <;> try rfl
  · rename_i z
    cases z <;> cases want
    all_goals first
      | exact dStep_eq
      | exact hskip

def fst1 (r : Option (AV × AH)) : Option AV :=
  match r with
  | some (v, _) => some v
  | none => none
theorem fst1_some {v : AV} {H : AH} : fst1 (some (v, H)) = some v := id rfl
open Classical in
noncomputable def both (r : Option (AV × AH)) (u : Option AV) : Option AV :=
  match r, u with
  | some (v, _), some u => if v = u then some v else none
  | _, _ => none
theorem both_same {v : AV} {H : AH} : both (some (v, H)) (some v) = some v := by unfold both; simp
theorem asame_one {f : AH → Option (AV × AH)} {H : AH} : asame f [H] = fst1 (f H) := by simp only [asame, fst1]; split <;> simp_all
theorem asame_more {f : AH → Option (AV × AH)} {H H2 : AH} {Hs : List AH} : asame f (H :: H2 :: Hs) = both (f H) (asame f (H2 :: Hs)) := by
  simp only [asame, both]
  split <;> simp_all

theorem astill_nil {c : CallF} {H : AH} {ld : Lds} : astill c H ld [] = true := by simp only [astill]
theorem astill_cons {c : CallF} {H : AH} {ld : Lds} {j : Nat} {js : List Nat} {o : AOp} {t : Nat → AV} {v : AV} (h : ld[j]? = some (o, t, v)) : (astill c H ld (j :: js) = true) = (fst1 (aop c t o H) = some v ∧ astill c H ld js = true) := by
  simp only [astill, h, fst1]
  cases aop c t o H with
  | none => simp
  | some y => simp only; split <;> simp_all
theorem astill_0 {c : CallF} {H : AH} {ld : Lds} {js : List Nat} {o : AOp} {t : Nat → AV} {v : AV} : (astill c H ((o, t, v) :: ld) (0 :: js) = true) = (fst1 (aop c t o H) = some v ∧ astill c H ((o, t, v) :: ld) js = true) := astill_cons rfl
theorem astill_1 {c : CallF} {H : AH} {ld : Lds} {js : List Nat} {x : AOp × (Nat → AV) × AV} {o : AOp} {t : Nat → AV} {v : AV} : (astill c H (x :: (o, t, v) :: ld) (1 :: js) = true) = (fst1 (aop c t o H) = some v ∧ astill c H (x :: (o, t, v) :: ld) js = true) := astill_cons rfl
theorem astill_2 {c : CallF} {H : AH} {ld : Lds} {js : List Nat} {x y : AOp × (Nat → AV) × AV} {o : AOp} {t : Nat → AV} {v : AV} : (astill c H (x :: y :: (o, t, v) :: ld) (2 :: js) = true) = (fst1 (aop c t o H) = some v ∧ astill c H (x :: y :: (o, t, v) :: ld) js = true) := astill_cons rfl
theorem astill_3 {c : CallF} {H : AH} {ld : Lds} {js : List Nat} {x y z : AOp × (Nat → AV) × AV} {o : AOp} {t : Nat → AV} {v : AV} : (astill c H (x :: y :: z :: (o, t, v) :: ld) (3 :: js) = true) = (fst1 (aop c t o H) = some v ∧ astill c H (x :: y :: z :: (o, t, v) :: ld) js = true) := astill_cons rfl

theorem astill_4 {c : CallF} {H : AH} {ld : Lds} {js : List Nat} {x0 x1 x2 x3 : AOp × (Nat → AV) × AV} {o : AOp} {t : Nat → AV} {v : AV} : (astill c H (x0 :: x1 :: x2 :: x3 :: (o, t, v) :: ld) (4 :: js) = true) = (fst1 (aop c t o H) = some v ∧ astill c H (x0 :: x1 :: x2 :: x3 :: (o, t, v) :: ld) js = true) := astill_cons rfl
theorem astill_5 {c : CallF} {H : AH} {ld : Lds} {js : List Nat} {x0 x1 x2 x3 x4 : AOp × (Nat → AV) × AV} {o : AOp} {t : Nat → AV} {v : AV} : (astill c H (x0 :: x1 :: x2 :: x3 :: x4 :: (o, t, v) :: ld) (5 :: js) = true) = (fst1 (aop c t o H) = some v ∧ astill c H (x0 :: x1 :: x2 :: x3 :: x4 :: (o, t, v) :: ld) js = true) := astill_cons rfl
theorem astill_6 {c : CallF} {H : AH} {ld : Lds} {js : List Nat} {x0 x1 x2 x3 x4 x5 : AOp × (Nat → AV) × AV} {o : AOp} {t : Nat → AV} {v : AV} : (astill c H (x0 :: x1 :: x2 :: x3 :: x4 :: x5 :: (o, t, v) :: ld) (6 :: js) = true) = (fst1 (aop c t o H) = some v ∧ astill c H (x0 :: x1 :: x2 :: x3 :: x4 :: x5 :: (o, t, v) :: ld) js = true) := astill_cons rfl
theorem astill_7 {c : CallF} {H : AH} {ld : Lds} {js : List Nat} {x0 x1 x2 x3 x4 x5 x6 : AOp × (Nat → AV) × AV} {o : AOp} {t : Nat → AV} {v : AV} : (astill c H (x0 :: x1 :: x2 :: x3 :: x4 :: x5 :: x6 :: (o, t, v) :: ld) (7 :: js) = true) = (fst1 (aop c t o H) = some v ∧ astill c H (x0 :: x1 :: x2 :: x3 :: x4 :: x5 :: x6 :: (o, t, v) :: ld) js = true) := astill_cons rfl
theorem astill_8 {c : CallF} {H : AH} {ld : Lds} {js : List Nat} {x0 x1 x2 x3 x4 x5 x6 x7 : AOp × (Nat → AV) × AV} {o : AOp} {t : Nat → AV} {v : AV} : (astill c H (x0 :: x1 :: x2 :: x3 :: x4 :: x5 :: x6 :: x7 :: (o, t, v) :: ld) (8 :: js) = true) = (fst1 (aop c t o H) = some v ∧ astill c H (x0 :: x1 :: x2 :: x3 :: x4 :: x5 :: x6 :: x7 :: (o, t, v) :: ld) js = true) := astill_cons rfl
theorem astill_9 {c : CallF} {H : AH} {ld : Lds} {js : List Nat} {x0 x1 x2 x3 x4 x5 x6 x7 x8 : AOp × (Nat → AV) × AV} {o : AOp} {t : Nat → AV} {v : AV} : (astill c H (x0 :: x1 :: x2 :: x3 :: x4 :: x5 :: x6 :: x7 :: x8 :: (o, t, v) :: ld) (9 :: js) = true) = (fst1 (aop c t o H) = some v ∧ astill c H (x0 :: x1 :: x2 :: x3 :: x4 :: x5 :: x6 :: x7 :: x8 :: (o, t, v) :: ld) js = true) := astill_cons rfl

section
variable {T : Tbl} {fn : AFun} {k : List AItem} {t : Nat → AV} {H : AH}
theorem runR_drw' {ops : List (AOper × List Nat)} : runR T fn (.code (.drw ops) :: k) t H = regR T fn k (adrw (callR T) ops t H [H] []) := by
  rw [runR_drw]; rfl
end

/-- Regions whose order does not matter: each reads what is there now. (f: is memory as at the last pushing?) -/
def plainD : Bool → List (AOper × List Nat) → Bool
  | _, [] => true
  | f, (o, pl) :: os => (match o.op.kind with
    | 0 => plainD f os
    | 1 => f && (match pl with
      | [1] => plainD f os
      | _ => false)
    | 2 => plainD false os
    | _ => (match pl with
      | [] => plainD true os
      | _ => false))
theorem withH_ap' {H H' : AH} {x : Option AV} {v : AV} (h : withH H x = some (v, H')) : H' = H := by
  cases x with
  | none => cases h
  | some y => cases h; rfl
theorem kind0' {c : CallF} {t : Nat → AV} {o : AOp} (hk : o.kind = 0) {H : AH} {v : AV} {H' : AH} (h : aop c t o H = some (v, H')) : H' = H := by
  cases o <;> simp only [AOp.kind] at hk <;> (try cases hk) <;> simp only [aop] at h ⊢
  all_goals
    repeat' (split at h)
    all_goals first
      | (cases h; done)
      | exact withH_ap' h
      | (cases h; rfl)
theorem kind1' {c : CallF} {t : Nat → AV} {o : AOp} (hk : o.kind = 1) {H : AH} {v : AV} {H' : AH} (h : aop c t o H = some (v, H')) : H' = H := by
  cases o <;> simp only [AOp.kind] at hk <;> (try cases hk) <;> simp only [aop] at h ⊢
  all_goals
    repeat' (split at h)
    all_goals first
      | (cases h; done)
      | exact withH_ap' h
      | (cases h; rfl)
theorem kinds' (o : AOp) : o.kind = 0 ∨ o.kind = 1 ∨ o.kind = 2 ∨ o.kind = 3 := by cases o <;> simp [AOp.kind]
theorem adrw_plain {c : CallF} : ∀ (ops : List (AOper × List Nat)) (f : Bool), plainD f ops = true → ∀ (t : Nat → AV) (H : AH) (sn : List AH) (ld : Lds), (f = true → ∃ r, sn = H :: r) → adrw c ops t H sn ld = aops c (ops.map Prod.fst) t H
  | [], _, _, t, H, sn, ld, _ => by simp only [adrw, aops, List.map_nil]
  | (o, pl) :: os, f, hp, t, H, sn, ld, hs => by
    simp only [plainD] at hp
    simp only [adrw, aops, List.map_cons]
    cases hw : awanted o.g t with
    | none => rfl
    | some b =>
      rcases kinds' o.op with k | k | k | k <;> rw [k] at hp ⊢ <;> simp only at hp ⊢
      · cases b with
        | false => exact adrw_plain os f hp _ _ _ _ hs
        | true =>
          cases ho : aop c t o.op H with
          | none => rfl
          | some y =>
            obtain ⟨v, H'⟩ := y
            have e := kind0' k ho
            subst e
            exact adrw_plain os f hp _ _ _ _ hs
      · simp only [Bool.and_eq_true] at hp
        obtain ⟨hf, hp⟩ := hp
        split at hp
        · cases b with
          | false => exact adrw_plain os f hp _ _ _ _ hs
          | true =>
            obtain ⟨r, rfl⟩ := hs hf
            simp only [List.take_succ_cons, List.take_zero, asame_one]
            cases ho : aop c t o.op H with
            | none => rfl
            | some y =>
              obtain ⟨v, H'⟩ := y
              have e := kind1' k ho
              subst e
              exact adrw_plain os f hp _ _ _ _ hs
        · cases hp
      · cases b with
        | false => exact adrw_plain os false hp _ _ _ _ (fun h => by cases h)
        | true =>
          cases ho : aop c t o.op H with
          | none => rfl
          | some y =>
            obtain ⟨v, H'⟩ := y
            exact adrw_plain os false hp _ _ _ _ (fun h => by cases h)
      · split at hp
        · simp only [astill_nil, if_true]
          cases b with
          | false => exact adrw_plain os true hp _ _ _ _ (fun _ => ⟨_, rfl⟩)
          | true =>
            cases ho : aop c t o.op H with
            | none => rfl
            | some y =>
              obtain ⟨v, H'⟩ := y
              exact adrw_plain os true hp _ _ _ _ (fun _ => ⟨_, rfl⟩)
        · cases hp
theorem runR_plain {T : Tbl} {fn : AFun} {k : List AItem} {t : Nat → AV} {H : AH} {ops : List (AOper × List Nat)} (h : plainD true ops = true) : runR T fn (.code (.drw ops) :: k) t H = regR T fn k (aops (callR T) (ops.map Prod.fst) t H) := by
  rw [runR_drw', adrw_plain ops true h t H [H] [] (fun _ => ⟨_, rfl⟩)]

-- regions in which no reading is looked at again: without the readings
noncomputable def adrn (call : CallF) : List (AOper × List Nat) → (Nat → AV) → AH → List AH → Option ((Nat → AV) × AH)
  | [], t, H, _ => some (t, H)
  | (o, pl) :: os, t, H, sn => match awanted o.g t with
    | some true => (match o.op.kind with
      | 1 => (match pl with
        | [m] => (match asame (aop call t o.op) (sn.take m) with
          | some v => adrn call os (put t o.dst v) H sn
          | none => none)
        | _ => none)
      | 3 => (match aop call t o.op H with
        | some (v, H') => adrn call os (put t o.dst v) H' (H' :: sn)
        | none => none)
      | _ => (match aop call t o.op H with
        | some (v, H') => adrn call os (put t o.dst v) H' sn
        | none => none))
    | some false => (match o.op.kind with
      | 3 => adrn call os (put t o.dst undefA) H (H :: sn)
      | _ => adrn call os (put t o.dst undefA) H sn)
    | none => none
def freeD : List (AOper × List Nat) → Bool
  | [] => true
  | (o, pl) :: os => (match o.op.kind with
    | 3 => (match pl with
      | [] => freeD os
      | _ => false)
    | _ => freeD os)
theorem adrw_free {c : CallF} : ∀ (ops : List (AOper × List Nat)), freeD ops = true → ∀ (t : Nat → AV) (H : AH) (sn : List AH) (ld : Lds), adrw c ops t H sn ld = adrn c ops t H sn
  | [], _, t, H, sn, ld => by simp only [adrw, adrn]
  | (o, pl) :: os, hp, t, H, sn, ld => by
    simp only [freeD] at hp
    simp only [adrw, adrn]
    cases hw : awanted o.g t with
    | none => rfl
    | some b =>
      rcases kinds' o.op with k | k | k | k <;> rw [k] at hp ⊢ <;> simp only at hp ⊢
      · cases b with
        | false => exact adrw_free os hp _ _ _ _
        | true =>
          cases ho : aop c t o.op H with
          | none => rfl
          | some y => exact adrw_free os hp _ _ _ _
      · cases b with
        | false => exact adrw_free os hp _ _ _ _
        | true =>
          cases pl with
          | nil => rfl
          | cons m r =>
            cases r with
            | cons _ _ => rfl
            | nil =>
              simp only
              cases ho : asame (aop c t o.op) (sn.take m) with
              | none => rfl
              | some y => exact adrw_free os hp _ _ _ _
      · cases b with
        | false => exact adrw_free os hp _ _ _ _
        | true =>
          cases ho : aop c t o.op H with
          | none => rfl
          | some y => exact adrw_free os hp _ _ _ _
      · split at hp
        · simp only [astill_nil, if_true]
          cases b with
          | false => exact adrw_free os hp _ _ _ _
          | true =>
            cases ho : aop c t o.op H with
            | none => rfl
            | some y => exact adrw_free os hp _ _ _ _
        · cases hp
noncomputable def thenN (r : Option (AV × AH)) (c : CallF) (os : List (AOper × List Nat)) (t : Nat → AV) (d : Option Nat) (sn : List AH) : Option ((Nat → AV) × AH) :=
  match r with
  | some (v, H') => adrn c os (put t d v) H' sn
  | none => none
theorem thenN_some {v : AV} {H' : AH} {c : CallF} {os : List (AOper × List Nat)} {t : Nat → AV} {d : Option Nat} {sn : List AH} : thenN (some (v, H')) c os t d sn = adrn c os (put t d v) H' sn := id rfl
noncomputable def thenNL (r : Option AV) (c : CallF) (os : List (AOper × List Nat)) (t : Nat → AV) (d : Option Nat) (H : AH) (sn : List AH) : Option ((Nat → AV) × AH) :=
  match r with
  | some v => adrn c os (put t d v) H sn
  | none => none
theorem thenNL_some {v : AV} {H : AH} {c : CallF} {os : List (AOper × List Nat)} {t : Nat → AV} {d : Option Nat} {sn : List AH} : thenNL (some v) c os t d H sn = adrn c os (put t d v) H sn := id rfl
noncomputable def thenNC (r : Option (AV × AH)) (c : CallF) (os : List (AOper × List Nat)) (t : Nat → AV) (d : Option Nat) (sn : List AH) : Option ((Nat → AV) × AH) :=
  match r with
  | some (v, H') => adrn c os (put t d v) H' (H' :: sn)
  | none => none
theorem thenNC_some {v : AV} {H' : AH} {c : CallF} {os : List (AOper × List Nat)} {t : Nat → AV} {d : Option Nat} {sn : List AH} : thenNC (some (v, H')) c os t d sn = adrn c os (put t d v) H' (H' :: sn) := id rfl
noncomputable def nStep (k : Nat) (op : AOp) (pl : List Nat) (c : CallF) (os : List (AOper × List Nat)) (t : Nat → AV) (d : Option Nat) (H : AH) (sn : List AH) : Option ((Nat → AV) × AH) :=
  match k with
  | 1 => (match pl with
    | [m] => thenNL (asame (aop c t op) (sn.take m)) c os t d H sn
    | _ => none)
  | 3 => thenNC (aop c t op H) c os t d sn
  | _ => thenN (aop c t op H) c os t d sn
theorem nStep_0 {op : AOp} {pl : List Nat} {c : CallF} {os : List (AOper × List Nat)} {t : Nat → AV} {d : Option Nat} {H : AH} {sn : List AH} : nStep 0 op pl c os t d H sn = thenN (aop c t op H) c os t d sn := id rfl
theorem nStep_1 {op : AOp} {m : Nat} {c : CallF} {os : List (AOper × List Nat)} {t : Nat → AV} {d : Option Nat} {H : AH} {sn : List AH} : nStep 1 op [m] c os t d H sn = thenNL (asame (aop c t op) (sn.take m)) c os t d H sn := id rfl
theorem nStep_2 {op : AOp} {pl : List Nat} {c : CallF} {os : List (AOper × List Nat)} {t : Nat → AV} {d : Option Nat} {H : AH} {sn : List AH} : nStep 2 op pl c os t d H sn = thenN (aop c t op H) c os t d sn := id rfl
theorem nStep_3 {op : AOp} {pl : List Nat} {c : CallF} {os : List (AOper × List Nat)} {t : Nat → AV} {d : Option Nat} {H : AH} {sn : List AH} : nStep 3 op pl c os t d H sn = thenNC (aop c t op H) c os t d sn := id rfl
noncomputable def nSkip (k : Nat) (c : CallF) (os : List (AOper × List Nat)) (t : Nat → AV) (d : Option Nat) (H : AH) (sn : List AH) : Option ((Nat → AV) × AH) :=
  match k with
  | 3 => adrn c os (put t d undefA) H (H :: sn)
  | _ => adrn c os (put t d undefA) H sn
theorem nSkip_0 {c : CallF} {os : List (AOper × List Nat)} {t : Nat → AV} {d : Option Nat} {H : AH} {sn : List AH} : nSkip 0 c os t d H sn = adrn c os (put t d undefA) H sn := id rfl
theorem nSkip_1 {c : CallF} {os : List (AOper × List Nat)} {t : Nat → AV} {d : Option Nat} {H : AH} {sn : List AH} : nSkip 1 c os t d H sn = adrn c os (put t d undefA) H sn := id rfl
theorem nSkip_2 {c : CallF} {os : List (AOper × List Nat)} {t : Nat → AV} {d : Option Nat} {H : AH} {sn : List AH} : nSkip 2 c os t d H sn = adrn c os (put t d undefA) H sn := id rfl
theorem nSkip_3 {c : CallF} {os : List (AOper × List Nat)} {t : Nat → AV} {d : Option Nat} {H : AH} {sn : List AH} : nSkip 3 c os t d H sn = adrn c os (put t d undefA) H (H :: sn) := id rfl
noncomputable def gN (x : AV) (want : Bool) (op : AOp) (pl : List Nat) (c : CallF) (os : List (AOper × List Nat)) (t : Nat → AV) (d : Option Nat) (H : AH) (sn : List AH) : Option ((Nat → AV) × AH) :=
  match x with
  | .b z => if z = want then nStep op.kind op pl c os t d H sn else nSkip op.kind c os t d H sn
  | .tup _ => nSkip op.kind c os t d H sn
  | _ => none
theorem gN_b {z : Bool} {want : Bool} {op : AOp} {pl : List Nat} {c : CallF} {os : List (AOper × List Nat)} {t : Nat → AV} {d : Option Nat} {H : AH} {sn : List AH} : gN (.b z) want op pl c os t d H sn = if z = want then nStep op.kind op pl c os t d H sn else nSkip op.kind c os t d H sn := id rfl
theorem gN_u {want : Bool} {op : AOp} {pl : List Nat} {c : CallF} {os : List (AOper × List Nat)} {t : Nat → AV} {d : Option Nat} {H : AH} {sn : List AH} : gN undefA want op pl c os t d H sn = nSkip op.kind c os t d H sn := id rfl
theorem adrn_nil {c : CallF} {t : Nat → AV} {H : AH} {sn : List AH} : adrn c [] t H sn = some (t, H) := by simp only [adrn]
theorem nStep_eq {c : CallF} {os : List (AOper × List Nat)} {t : Nat → AV} {d : Option Nat} {op : AOp} {pl : List Nat} {H : AH} {sn : List AH} : (match op.kind with
      | 1 => (match pl with
        | [m] => (match asame (aop c t op) (sn.take m) with
          | some v => adrn c os (put t d v) H sn
          | none => none)
        | _ => none)
      | 3 => (match aop c t op H with
        | some (v, H') => adrn c os (put t d v) H' (H' :: sn)
        | none => none)
      | _ => (match aop c t op H with
        | some (v, H') => adrn c os (put t d v) H' sn
        | none => none)) = nStep op.kind op pl c os t d H sn := by
  unfold nStep
  split
  · split
    · unfold thenNL; split <;> rfl
    · rfl
  · unfold thenNC; split <;> rfl
  · unfold thenN; split <;> rfl
theorem adrn_cons {c : CallF} {os : List (AOper × List Nat)} {t : Nat → AV} {d : Option Nat} {op : AOp} {pl : List Nat} {H : AH} {sn : List AH} : adrn c ((⟨d, none, op⟩, pl) :: os) t H sn = nStep op.kind op pl c os t d H sn := by
  unfold adrn
  simp only [awanted]
  exact nStep_eq
theorem adrn_g {c : CallF} {os : List (AOper × List Nat)} {t : Nat → AV} {d : Option Nat} {g : Nat} {want : Bool} {op : AOp} {pl : List Nat} {H : AH} {sn : List AH} : adrn c ((⟨d, some (g, want), op⟩, pl) :: os) t H sn = gN (t g) want op pl c os t d H sn := by
  unfold adrn
  simp only [awanted, gN]
  have hskip : (match op.kind with
      | 3 => adrn c os (put t d undefA) H (H :: sn)
      | _ => adrn c os (put t d undefA) H sn) = nSkip op.kind c os t d H sn := by
    unfold nSkip
    split <;> rfl
  cases t g <;> try rfl
  · rename_i z
    cases z <;> cases want
    all_goals first
      | exact nStep_eq
      | exact hskip
theorem runR_free {T : Tbl} {fn : AFun} {k : List AItem} {t : Nat → AV} {H : AH} {ops : List (AOper × List Nat)} (h : freeD ops = true) : runR T fn (.code (.drw ops) :: k) t H = regR T fn k (adrn (callR T) ops t H [H]) := by
  rw [runR_drw', adrw_free ops h]

theorem runR_loop' {T : Tbl} {fn : AFun} {k : List AItem} {a : ACode} {t : Nat → AV} {H : AH} : runR T fn (.code (.loop a) :: k) t H = runR T fn (.inLoop a :: k) t H := by rw [runR_loop, runR_inLoop]
/-- A loop, by what holds before each round. -/
theorem loop_law {T : Tbl} {fn : AFun} {k : List AItem} {body : ACode} (n : Nat) (Inv : Nat → (Nat → AV) → AH → Prop) (Goal : Option (AV × AH) → Prop)
    (hstep : ∀ i t H, i < n → Inv i t H → (∀ t' H', Inv (i + 1) t' H' → Goal (runR T fn (.inLoop body :: k) t' H')) → Goal (runR T fn (.code body :: .inLoop body :: k) t H))
    (hend : ∀ t H, Inv n t H → Goal (runR T fn (.code body :: .inLoop body :: k) t H)) :
    ∀ i t H, i ≤ n → Inv i t H → Goal (runR T fn (.inLoop body :: k) t H) := by
  have : ∀ d i t H, i + d = n → Inv i t H → Goal (runR T fn (.inLoop body :: k) t H) := by
    intro d
    induction d with
    | zero =>
      intro i t H hi h
      rw [runR_inLoop]
      exact hend t H (by rw [Nat.add_zero] at hi; rw [← hi]; exact h)
    | succ d ih =>
      intro i t H hi h
      rw [runR_inLoop]
      exact hstep i t H (by omega) h (fun t' H' h' => ih (i + 1) t' H' (by omega) h')
  intro i t H hi h
  exact this (n - i) i t H (by omega) h
/-- One element put in its place. -/
theorem setR_map {α : Type} {f : α → AV} {l : List α} {k : Nat} {x : α} (h : k < l.length) : setR (l.map f) k [f x] = (l.set k x).map f := by
  unfold setR
  rw [List.set_eq_take_append_cons_drop, if_pos h]
  simp [List.map_take, List.map_drop]
end Go.Proofs.Ythcibbfljcfheaa.Abs
