/- A plain machine for the loaded functions: values whose addresses are names, a heap of named objects, operations whose types are resolved, and what each operation does there. Definitions alone. No condition of their own. -/
import Derived.Orders
import Derived.Laws.Sem
import Derived.Below
namespace Go.Proofs.Ythcibbfljcfheaa.Abs
set_option linter.unusedVariables false

/-- A value: as the model's, but that an address is a name and a place. -/
inductive AV where
  | b (x : Bool)
  | i (k : IntKind) (n : Int)
  | s (x : ByteArray)
  | p (a : Option (Nat × Nat))
  | sl (a : Option (Nat × Nat)) (len lo : Nat) (ex : Bool) (sz : Nat)
  | fn (f : Fn) (first caps : List AV)
  | nf
  | ni
  | ifc (t : TypeId) (v : AV)
  | agg (cs : List AV)
  | tup (vs : List AV)
  | mp (r : Option Nat)
  | un
  | em
  deriving Inhabited

def AV.one : AV → Bool
  | .agg _ => false
  | .tup _ => false
  | _ => true

def AV.cells : AV → List AV
  | .agg cs => cs
  | v => [v]

def undefA : AV := .tup []

/-- A constant. -/
def toAV1 : Value → Option AV
  | .bool x => some (.b x)
  | .int k n => some (.i k n)
  | .string s => some (.s s)
  | .pointer none => some (.p none)
  | .slice none 0 0 => some (.sl none 0 0 true 0)
  | .map none => some (.mp none)
  | .nilFunc => some .nf
  | .nilIface => some .ni
  | _ => none

def toAVs : List Value → Option (List AV)
  | [] => some []
  | v :: vs => match toAV1 v, toAVs vs with
    | some a, some as => some (a :: as)
    | _, _ => none

def toAV : Value → Option AV
  | .agg cs => (toAVs cs.toList).map .agg
  | .tuple vs => if vs.size = 0 then some (.tup []) else none
  | v => toAV1 v

/-- An operand: a slot, or a constant. -/
inductive AX where
  | t (k : Nat)
  | c (v : AV)
  deriving Inhabited

def AX.ev (t : Nat → AV) : AX → AV
  | .t k => t k
  | .c v => v

/-- The operations, with their types resolved: n is a size in cells (none: one cell, of what is no aggregate), z a zero value's cells, y a size in bytes. -/
inductive AOp where
  | val (x : AX)
  | pick (c a b : AX)
  | alloc (z : List AV)
  | box (x : AX)
  | build (z : List AV) (parts : List (Nat × Nat × AX))
  | bsl (z : List AV) (len : Nat) (parts : List (Nat × Nat × AX))
  | ld (n : Option Nat) (a : AX)
  | st (n : Nat) (a x : AX)
  | nilc (x : AX)
  | bin (op : BinOp) (x y : AX)
  | eqc (ks : List Nat) (neg : Bool) (x y : AX)
  | eqb (neg : Bool) (x y : AX)
  | eqn (tag : Nat) (neg : Bool) (x y : AX)
  | un (op : UnOp) (x : AX)
  | cvi (k : IntKind) (x : AX)
  | cvs (x : AX)
  | cvg (x : AX)
  | mkf (f : Fn) (first caps : List AX)
  | mkm
  | mks (z : List AV) (y : Nat) (l c : AX)
  | sls (n : Nat) (x : AX) (lo hi mx : Option AX)
  | slg (x : AX) (lo hi : Option AX)
  | fa (off : Nat) (x : AX)
  | fd (n : Option Nat) (off : Nat) (x : AX)
  | ia (n : Nat) (x i : AX)
  | iaa (len n : Nat) (x i : AX)
  | ix (n : Option Nat) (len sz : Nat) (x i : AX)
  | ixs (x i : AX)
  | lk (ks : List Nat) (z : AV) (x k : AX) (ok : Bool)
  | mu (ks : List Nat) (m k x : AX)
  | dl (ks : List Nat) (m k : AX)
  | mke (ks : List Nat) (z : AV) (m k : AX)
  | ens (m s x : AX)
  | mki (T : TypeId) (x : AX)
  | ext (x : AX) (j : Nat)
  | len (x : AX)
  | lens (x : AX)
  | lenk (n : Nat) (x : AX)
  | lenm (x : AX)
  | cap (x : AX)
  | app (z : List AV) (y : Nat) (s x : AX)
  | apm (z : List AV) (y : Nat) (s x : AX)
  | rng (x : AX)
  | nxt (x : AX)
  | ent (x : AX)
  | dead (xs : List AX)
  | cpy (n : Nat) (d x : AX)
  | clr (z : List AV) (x : AX)
  | mm (mx : Bool) (xs : List AX)
  | call (g : FuncId) (args : List AX)
  | callv (f : AX) (args : List AX)
  deriving Inhabited

/-- An operation in a function: where its result goes, under which guard (a slot, and what it is to hold) it is done. -/
structure AOper where
  dst : Option Nat
  g : Option (Nat × Bool)
  op : AOp
  deriving Inhabited

inductive ACode where
  | skip
  | reg (ops : List AOper)
  | drw (ops : List (AOper × List Nat))
  | seq (a b : ACode)
  | cond (c : AX) (a b : ACode)
  | block (id : Nat) (a : ACode)
  | loop (a : ACode)
  | exit (id : Nat)
  | ret
  | rf (f : AX) (ps : List Nat) (a b : ACode)
  deriving Inhabited

/-- A named object: a row of cells, a map, the record of a range over a function (ready, or in a round), an iterator over a map (the births of all entries, and of those that are left). -/
inductive AObj where
  | row (ro : Bool) (cs : List AV)
  | mapo (es : List (AV × AV)) (bc : List Nat × Nat)
  | lp (rdy : Bool) (nt : Nat) (t : Nat → AV) (ps : List Nat) (a b : ACode)
  | it (m : Option Nat) (cl : Nat) (all left : List Nat) (cur : Option Nat)

/-- The heap: the next name, and the objects that are there. -/
structure AH where
  n : Nat
  o : Nat → Option AObj

def AH.new (H : AH) (x : AObj) : AH := ⟨H.n + 1, fun b => if b = H.n then some x else H.o b⟩
def AH.set (H : AH) (b : Nat) (x : AObj) : AH := ⟨H.n, fun b' => if b' = b then some x else H.o b'⟩
def AH.move (H : AH) (b : Nat) (x : AObj) : AH := ⟨H.n + 1, fun b' => if b' = H.n then some x else if b' = b then none else H.o b'⟩

inductive ARes where
  | tmp (k : Nat)
  | cell (k : Nat) (n : Option Nat)
  deriving Inhabited

structure AFun where
  nt : Nat
  res : List ARes
  body : ACode
  deriving Inhabited

def upd (t : Nat → AV) (d : Nat) (v : AV) : Nat → AV := fun j => if j = d then v else t j

def put (t : Nat → AV) (d : Option Nat) (v : AV) : Nat → AV :=
  match d with
  | none => t
  | some d => upd t d v

/-- Cells put over those from a place on. -/
def setR (cs : List AV) (o : Nat) (vs : List AV) : List AV := cs.take o ++ vs ++ cs.drop (o + vs.length)

/-- A value out of cells. -/
def apart (n : Option Nat) (cs : List AV) (off : Nat) : Option AV :=
  match n with
  | some n => if off + n ≤ cs.length then some (.agg ((cs.drop off).take n)) else none
  | none => cs[off]?

def aload (n : Option Nat) (a : AV) (H : AH) : Option AV :=
  match a with
  | .p (some (b, o)) => match H.o b with
    | some (.row _ cs) => apart n cs o
    | _ => none
  | _ => none

def astore (n : Nat) (a v : AV) (H : AH) : Option AH :=
  match a with
  | .p (some (b, o)) => match v with
    | .tup _ => none
    | v => match H.o b with
      | some (.row false cs) => if v.cells.length = n ∧ o + n ≤ cs.length then some (H.set b (.row false (setR cs o v.cells))) else none
      | _ => none
  | _ => none

def aInt (op : BinOp) (k : IntKind) (a b : Int) : Option AV :=
  match op with
  | .add => some (.i k (k.wrap (a + b)))
  | .sub => some (.i k (k.wrap (a - b)))
  | .mul => some (.i k (k.wrap (a * b)))
  | .quo => if b = 0 then none else some (.i k (k.wrap (a.tdiv b)))
  | .rem => if b = 0 then none else some (.i k (a.tmod b))
  | .and => some (.i k (k.wrap (BitVec.ofInt k.bits a &&& BitVec.ofInt k.bits b).toNat))
  | .or => some (.i k (k.wrap (BitVec.ofInt k.bits a ||| BitVec.ofInt k.bits b).toNat))
  | .xor => some (.i k (k.wrap (BitVec.ofInt k.bits a ^^^ BitVec.ofInt k.bits b).toNat))
  | .andNot => some (.i k (k.wrap (BitVec.ofInt k.bits a &&& ~~~ BitVec.ofInt k.bits b).toNat))
  | .eql => some (.b (a == b))
  | .neq => some (.b (a != b))
  | .lss => some (.b (decide (a < b)))
  | .leq => some (.b (decide (a ≤ b)))
  | .gtr => some (.b (decide (a > b)))
  | .geq => some (.b (decide (a ≥ b)))
  | .shl => if b < 0 then none else some (.i k (k.wrap (a * 2 ^ (min b.toNat k.bits))))
  | .shr => if b < 0 then none else some (.i k (a.fdiv (2 ^ (min b.toNat k.bits))))

def BinOp.isShift : BinOp → Bool
  | .shl => true
  | .shr => true
  | _ => false

def aStr (op : BinOp) (x y : ByteArray) : Option AV :=
  match op with
  | .eql => some (.b (x.toList == y.toList))
  | .neq => some (.b (!(x.toList == y.toList)))
  | .add => if ((x.size + y.size : Nat) : Int) > IntKind.i64.max then none else some (.s (x ++ y))
  | _ => none

def aBin (op : BinOp) (x y : AV) : Option AV :=
  match x, y with
  | .i k a, .i k' b => if BinOp.isShift op = true ∨ k = k' then aInt op k a b else none
  | .s a, .s b => aStr op a b
  | _, _ => none

/-- Equality of cells that hold whole numbers (0), bools (1), strings (2). -/
def aEqC : List Nat → List AV → List AV → Option Bool
  | [], [], [] => some true
  | 0 :: ks, .i k a :: xs, .i k' b :: ys => if k = k' then (match aEqC ks xs ys with
    | some r => some ((a == b) && r)
    | none => none) else none
  | 1 :: ks, .b a :: xs, .b b :: ys => (match aEqC ks xs ys with
    | some r => some ((a == b) && r)
    | none => none)
  | 2 :: ks, .s a :: xs, .s b :: ys => (match aEqC ks xs ys with
    | some r => some ((a == b) && r)
    | none => none)
  | _, _, _ => none

/-- Equality with nil: of pointers (0), slices (1), maps (2), functions (3), interface values (4). -/
def aEqN (tag : Nat) (x y : AV) : Option Bool :=
  match tag, x, y with
  | 0, .p none, .p b => some b.isNone
  | 0, .p (some _), .p none => some false
  | 1, .sl none _ _ _ _, .sl b _ _ _ _ => some b.isNone
  | 1, .sl (some _) _ _ _ _, .sl none _ _ _ _ => some false
  | 2, .mp none, .mp b => some b.isNone
  | 2, .mp (some _), .mp none => some false
  | 3, .nf, .nf => some true
  | 3, .nf, .fn _ _ _ => some false
  | 3, .fn _ _ _, .nf => some false
  | 4, .ni, .ifc _ _ => some false
  | 4, .ifc _ _, .ni => some false
  | _, _, _ => none

def aUn (op : UnOp) (x : AV) : Option AV :=
  match op, x with
  | .not, .b z => some (.b (!z))
  | .neg, .i k n => some (.i k (k.wrap (0 - n)))
  | .xor, .i k n => some (.i k (k.wrap (BitVec.ofInt k.bits (if k.signed then -1 else k.max) ^^^ BitVec.ofInt k.bits n).toNat))
  | _, _ => none

/-- A bound of a slice expression. -/
def abound (v : Option AV) (d top : Nat) : Option Nat :=
  match v with
  | none => some d
  | some (.i _ j) => if 0 ≤ j ∧ j ≤ top then some j.toNat else none
  | some _ => none

/-- A cut of a slice, from l to h, with the room up to m known (and no more, if ex). -/
def acut (n : Nat) (a : Option (Nat × Nat)) (l h m : Nat) (ex : Bool) : AV :=
  match a with
  | none => .sl none 0 0 true 0
  | some (b, o) => if l < m then .sl (some (b, o + l * n)) (h - l) (m - l) ex n
    else if l = 0 then .sl (some (b, o)) 0 0 ex n
    else .sl (some (b, o)) 0 0 ex n

def aslice (n : Nat) (x : AV) (lo hi mx : Option AV) : Option AV :=
  match x with
  | .sl a len lw ex sz =>
    if sz = n ∨ a = none then
    match mx, hi with
    | none, hi => match abound hi len lw with
      | some h => match abound lo 0 h with
        | some l => some (acut n a l h lw ex)
        | none => none
      | none => none
    | some mx, some hi => match abound (some mx) 0 lw with
      | some m => match abound (some hi) 0 m with
        | some h => match abound lo 0 h with
          | some l => some (acut n a l h m true)
          | none => none
        | none => none
      | none => none
    | some _, none => none
    else none
  | _ => none

def asliceG (x : AV) (lo hi : Option AV) : Option AV :=
  match x with
  | .s x => match abound hi x.size x.size with
    | some h => match abound lo 0 h with
      | some l => some (.s (x.extract l h))
      | none => none
    | none => none
  | _ => none

/-- n times the cells of a zero value. -/
def zerosA (z : List AV) : Nat → List AV
  | 0 => []
  | n + 1 => z ++ zerosA z n

/-- Parts put into the cells of an aggregate. -/
def afill (t : Nat → AV) (cells : List AV) : List (Nat × Nat × AX) → Option (List AV)
  | [] => some cells
  | (off, size, x) :: rest => match x.ev t with
    | .tup _ => none
    | v => if v.cells.length = size ∧ off + size ≤ cells.length then afill t (setR cells off v.cells) rest else none

/-- The first n cells behind a slice. -/
def afirst (n : Nat) (x : AV) (H : AH) : Option (List AV) :=
  match x with
  | .sl none _ _ _ _ => if n = 0 then some [] else none
  | .sl (some (b, o)) _ _ _ _ => if n = 0 then some [] else match H.o b with
    | some (.row _ cs) => if o + n ≤ cs.length then some ((cs.drop o).take n) else none
    | _ => none
  | _ => none

def amakeSlice (z : List AV) (y : Nat) (l c : AV) (H : AH) : Option (AV × AH) :=
  match l, c with
  | .i _ l, .i _ c => if 0 ≤ l ∧ l ≤ c ∧ c ≤ 1099511627776 ∧ (y : Int) * c ≤ 281474976710656 then some (.sl (some (H.n, 0)) l.toNat c.toNat true z.length, H.new (.row false (zerosA z c.toNat))) else none
  | _, _ => none

def aappend (z : List AV) (y : Nat) (s x : AV) (H : AH) : Option (AV × AH) :=
  match s, x with
  | .sl a len lo ex sz, .sl _ n _ _ _ =>
    if len ≤ lo ∧ (2 * (len + n) + 1000) * y ≤ 281474976710656 then
      match afirst (n * z.length) x H with
      | some new =>
        if len + n ≤ lo then
          match a with
          | none => some (s, H)
          | some (b, o) =>
            if n = 0 then some (s, H) else
            match H.o b with
            | some (.row false cs) => if o + (len + n) * z.length ≤ cs.length then some (.sl (some (b, o)) (len + n) lo ex sz, H.set b (.row false (setR cs (o + len * z.length) new))) else none
            | _ => none
        else match afirst (len * z.length) s H with
          | some old =>
            if ex then some (.sl (some (H.n, 0)) (len + n) (len + n) false z.length, H.new (.row false (old ++ new)))
            else match a with
              | some (b, _) => match H.o b with
                | some (.row false _) => if sz = z.length then some (.sl (some (H.n, 0)) (len + n) (len + n) false z.length, H.move b (.row false (old ++ new))) else none
                | _ => none
              | none => none
          | none => none
      | none => none
    else none
  | _, _ => none

/-- Zeros appended to none. -/
def agrow (z : List AV) (y : Nat) (s x : AV) (H : AH) : Option (AV × AH) :=
  match s, x with
  | .sl none _ _ _ _, .i .i64 n => if 0 < n ∧ n ≤ 1099511627776 ∧ (2 * n.toNat + 1000) * y ≤ 281474976710656 then some (.sl (some (H.n, 0)) n.toNat n.toNat false z.length, H.new (.row false (zerosA z n.toNat))) else none
  | _, _ => none

def acopy (n : Nat) (d x : AV) (H : AH) : Option (AV × AH) :=
  match d, x with
  | .sl a dlen _ _ _, .sl _ m _ _ _ =>
    match afirst (min m dlen * n) x H with
    | some new => match a with
      | none => some (.i .i64 (min m dlen : Nat), H)
      | some (b, o) => if min m dlen = 0 then some (.i .i64 0, H) else
        match H.o b with
        | some (.row false cs) => if o + min m dlen * n ≤ cs.length then some (.i .i64 (min m dlen : Nat), H.set b (.row false (setR cs o new))) else none
        | _ => none
    | none => none
  | _, _ => none

def aclear (z : List AV) (x : AV) (H : AH) : Option (AV × AH) :=
  match x with
  | .sl a n _ _ _ => match a with
    | none => some (.tup [], H)
    | some (b, o) => if n = 0 then some (.tup [], H) else
      match H.o b with
      | some (.row false cs) => if o + n * z.length ≤ cs.length then some (.tup [], H.set b (.row false (setR cs o (zerosA z n)))) else none
      | _ => none
  | _ => none

/-- The first entry of a key that is a whole number: its place and its value. -/
def afind (kk : IntKind) (n : Int) : List (AV × AV) → Option (Option (Nat × AV))
  | [] => some none
  | (.i kk' n', v) :: es => if kk = kk' then (if n = n' then some (some (0, v)) else match afind kk n es with
    | some (some (i, w)) => some (some (i + 1, w))
    | r => r) else none
  | _ :: _ => none

/-- The first entry of a key that is a struct of scalars. -/
def afindS (ks : List Nat) (xs : List AV) : List (AV × AV) → Option (Option (Nat × AV))
  | [] => some none
  | (.agg ys, v) :: es => (match aEqC ks xs ys with
    | some true => some (some (0, v))
    | some false => (match afindS ks xs es with
      | some (some (i, w)) => some (some (i + 1, w))
      | r => r)
    | none => none)
  | _ :: _ => none

def aentries (r : Option Nat) (H : AH) : Option (List (AV × AV)) :=
  match r with
  | none => some []
  | some b => match H.o b with
    | some (.mapo es _) => some es
    | _ => none

def alookup (ks : List Nat) (z : AV) (x k : AV) (ok : Bool) (H : AH) : Option AV :=
  match x, k with
  | .mp r, .i kk n => if ks = [0] then (match aentries r H with
    | some es => match afind kk n es with
      | some (some (_, v)) => some (if ok then .tup [v, .b true] else v)
      | some none => some (if ok then .tup [z, .b false] else z)
      | none => none
    | none => none) else none
  | .mp r, .agg xs => (match ks with
    | 9 :: ks => if xs.length = ks.length then (match aentries r H with
      | some es => (match afindS ks xs es with
        | some (some (_, v)) => some (if ok then .tup [v, .b true] else v)
        | some none => some (if ok then .tup [z, .b false] else z)
        | none => none)
      | none => none) else none
    | _ => none)
  | _, _ => none

def amapUpdate (ks : List Nat) (m k v : AV) (H : AH) : Option AH :=
  match m, k, v with
  | _, _, .tup _ => none
  | .mp (some b), .i kk n, v => if ks = [0] then (match H.o b with
    | some (.mapo es bc) => match afind kk n es with
      | some (some (i, _)) => some (H.set b (.mapo (es.modify i fun e => (e.1, v)) bc))
      | some none => some (H.set b (.mapo (es ++ [(.i kk n, v)]) (bc.1 ++ [bc.2], bc.2 + 1)))
      | none => none
    | _ => none) else none
  | .mp (some b), .agg xs, v => (match ks with
    | 9 :: ks => if xs.length = ks.length then (match H.o b with
      | some (.mapo es bc) => (match afindS ks xs es with
        | some (some (i, _)) => some (H.set b (.mapo (es.modify i fun e => (e.1, v)) bc))
        | some none => some (H.set b (.mapo (es ++ [(.agg xs, v)]) (bc.1 ++ [bc.2], bc.2 + 1)))
        | none => none)
      | _ => none) else none
    | _ => none)
  | _, _, _ => none

def adelete (ks : List Nat) (m k : AV) (H : AH) : Option AH :=
  match m, k with
  | .mp none, .i _ _ => if ks = [0] then some H else none
  | .mp (some b), .i kk n => if ks = [0] then (match H.o b with
    | some (.mapo es bc) => match afind kk n es with
      | some (some (i, _)) => some (H.set b (.mapo (es.eraseIdx i) (bc.1.eraseIdx i, bc.2)))
      | some none => some (H.set b (.mapo es bc))
      | none => none
    | _ => none) else none
  | .mp none, .agg xs => (match ks with
    | 9 :: ks => if xs.length = ks.length then some H else none
    | _ => none)
  | .mp (some b), .agg xs => (match ks with
    | 9 :: ks => if xs.length = ks.length then (match H.o b with
      | some (.mapo es bc) => (match afindS ks xs es with
        | some (some (i, _)) => some (H.set b (.mapo (es.eraseIdx i) (bc.1.eraseIdx i, bc.2)))
        | some none => some (H.set b (.mapo es bc))
        | none => none)
      | _ => none) else none
    | _ => none)
  | _, _ => none

/-- The entry of a key, that comes to be where there is none: its value, and the number of its birth. -/
def aentry (ks : List Nat) (z m k : AV) (H : AH) : Option (AV × AH) :=
  match m, k, z with
  | _, _, .tup _ => none
  | .mp (some b), .i kk n, z => if ks = [0] then (match H.o b with
    | some (.mapo es bc) => match afind kk n es with
      | some (some (i, v)) => (match bc.1[i]? with
        | some st => some (.tup [v, .i .i64 st], H)
        | none => none)
      | some none => some (.tup [z, .i .i64 bc.2], H.set b (.mapo (es ++ [(.i kk n, z)]) (bc.1 ++ [bc.2], bc.2 + 1)))
      | none => none
    | _ => none) else none
  | .mp (some b), .agg xs, z => (match ks with
    | 9 :: ks => if xs.length = ks.length then (match H.o b with
      | some (.mapo es bc) => (match afindS ks xs es with
        | some (some (i, v)) => (match bc.1[i]? with
          | some st => some (.tup [v, .i .i64 st], H)
          | none => none)
        | some none => some (.tup [z, .i .i64 bc.2], H.set b (.mapo (es ++ [(.agg xs, z)]) (bc.1 ++ [bc.2], bc.2 + 1)))
        | none => none)
      | _ => none) else none
    | _ => none)
  | _, _, _ => none

/-- A value for the entry of a birth. -/
def aentst (m st v : AV) (H : AH) : Option AH :=
  match m, st, v with
  | _, _, .tup _ => none
  | .mp (some b), .i _ n, v => (match H.o b with
    | some (.mapo es bc) => (match bc.1.findIdx? (fun (x : Nat) => (x : Int) == n) with
      | some i => some (H.set b (.mapo (es.modify i fun e => (e.1, v)) bc))
      | none => none)
    | _ => none)
  | _, _, _ => none

def aminmax (mx : Bool) : AV → List AV → Option AV
  | x, [] => some x
  | .i k a, .i k' b :: r => if k = k' then aminmax mx (.i k (if mx then (if b > a then b else a) else (if b < a then b else a))) r else none
  | _, _ => none

/-- The bytes that cells read as. -/
def abytesOf : List AV → Option (List UInt8)
  | [] => some []
  | .i .u8 n :: r => (match abytesOf r with
    | some l => some (UInt8.ofNat n.toNat :: l)
    | none => none)
  | _ => none

def aconvS (x : AV) (H : AH) : Option AV :=
  match x with
  | .sl none _ _ _ _ => some (.s ByteArray.empty)
  | .sl (some a) len lo ex sz => match afirst len (.sl (some a) len lo ex sz) H with
    | some cs => match abytesOf cs with
      | some l => some (.s ⟨l.toArray⟩)
      | none => none
    | none => none
  | _ => none

abbrev CallF := FuncId → List AV → AH → Option (AV × AH)

def asX (t : Nat → AV) : List AX → List AV
  | [] => []
  | x :: xs => x.ev t :: asX t xs

def optX (t : Nat → AV) : Option AX → Option AV
  | none => none
  | some x => some (x.ev t)

def withH (H : AH) : Option AV → Option (AV × AH)
  | some v => some (v, H)
  | none => none

def withU : Option AH → Option (AV × AH)
  | some H => some (undefA, H)
  | none => none

/-- An iterator over a map. -/
def arng (x : AV) (H : AH) : Option (AV × AH) :=
  match x with
  | .mp none => some (.p (some (H.n, 0)), H.new (.it none 0 [] [] none))
  | .mp (some b) => (match H.o b with
    | some (.mapo es bc) => some (.p (some (H.n, 0)), H.new (.it (some b) bc.2 bc.1 bc.1 none))
    | _ => none)
  | _ => none

/-- The entry at which an iterator stands. -/
def aent (x : AV) (H : AH) : Option AV :=
  match x with
  | .p (some (i, 0)) => (match H.o i with
    | some (.it (some m) cl _ _ (some c)) => (match H.o m with
      | some (.mapo es bc) => if bc.2 = cl then (match bc.1.findIdx? (· == c) with
        | some j => (match es[j]? with
          | some e => some (.tup [e.1, e.2])
          | none => none)
        | none => none) else none
      | _ => none)
    | _ => none)
  | _ => none

/-- What an operation does. -/
def aop (call : CallF) (t : Nat → AV) (o : AOp) (H : AH) : Option (AV × AH) :=
  match o with
  | .val x => some (x.ev t, H)
  | .pick c x y => (match c.ev t with
    | .b z => some (if z then x.ev t else y.ev t, H)
    | _ => none)
  | .alloc z => some (.p (some (H.n, 0)), H.new (.row false z))
  | .box x => (match x.ev t with
    | .tup _ => none
    | v => some (.p (some (H.n, 0)), H.new (.row false v.cells)))
  | .build z parts => (match afill t z parts with
    | some cs => some (.agg cs, H)
    | none => none)
  | .bsl z len parts => (match afill t (zerosA z len) parts with
    | some cs => some (.sl (some (H.n, 0)) len len true z.length, H.new (.row false cs))
    | none => none)
  | .ld n a => withH H (aload n (a.ev t) H)
  | .st n a x => withU (astore n (a.ev t) (x.ev t) H)
  | .nilc x => (match x.ev t with
    | .p (some a) => some (.p (some a), H)
    | .fn (.func f) a b => some (.fn (.func f) a b, H)
    | _ => none)
  | .bin op x y => withH H (aBin op (x.ev t) (y.ev t))
  | .eqc ks neg x y => (match x.ev t, y.ev t with
    | .agg xs, .agg ys => (match aEqC ks xs ys with
      | some r => some (.b (r != neg), H)
      | none => none)
    | _, _ => none)
  | .eqb neg x y => (match x.ev t, y.ev t with
    | .b a, .b b => some (.b ((a == b) != neg), H)
    | _, _ => none)
  | .eqn tag neg x y => (match aEqN tag (x.ev t) (y.ev t) with
    | some r => some (.b (r != neg), H)
    | none => none)
  | .un op x => withH H (aUn op (x.ev t))
  | .cvi k x => (match x.ev t with
    | .i _ n => some (.i k (k.wrap n), H)
    | _ => none)
  | .cvs x => withH H (aconvS (x.ev t) H)
  | .cvg x => (match x.ev t with
    | .s x => some (.s x, H)
    | _ => none)
  | .mkf f first caps => some (.fn f (asX t first) (asX t caps), H)
  | .mkm => some (.mp (some H.n), H.new (.mapo [] ([], 0)))
  | .mks z y l c => amakeSlice z y (l.ev t) (c.ev t) H
  | .sls n x lo hi mx => withH H (aslice n (x.ev t) (optX t lo) (optX t hi) (optX t mx))
  | .slg x lo hi => withH H (asliceG (x.ev t) (optX t lo) (optX t hi))
  | .fa off x => (match x.ev t with
    | .p (some (b, o)) => some (.p (some (b, o + off)), H)
    | _ => none)
  | .fd n off x => (match x.ev t with
    | .agg cs => withH H (apart n cs off)
    | _ => none)
  | .ia n x j => (match x.ev t, j.ev t with
    | .sl (some (b, o)) len _ _ _, .i _ j => if 0 ≤ j ∧ j < len then some (.p (some (b, o + j.toNat * n)), H) else none
    | _, _ => none)
  | .iaa len n x j => (match x.ev t, j.ev t with
    | .p (some (b, o)), .i _ j => if 0 ≤ j ∧ j < len then some (.p (some (b, o + j.toNat * n)), H) else none
    | _, _ => none)
  | .ix n len sz x j => (match x.ev t, j.ev t with
    | .agg cs, .i _ j => if 0 ≤ j ∧ j < len then withH H (apart n cs (j.toNat * sz)) else none
    | _, _ => none)
  | .ixs x j => (match x.ev t, j.ev t with
    | .s x, .i _ j => if 0 ≤ j then (match x[j.toNat]? with
      | some c => some (.i .u8 c.toNat, H)
      | none => none) else none
    | _, _ => none)
  | .lk ks z x k ok => withH H (alookup ks z (x.ev t) (k.ev t) ok H)
  | .mu ks m k x => withU (amapUpdate ks (m.ev t) (k.ev t) (x.ev t) H)
  | .dl ks m k => withU (adelete ks (m.ev t) (k.ev t) H)
  | .mke ks z m k => aentry ks z (m.ev t) (k.ev t) H
  | .ens m s x => withU (aentst (m.ev t) (s.ev t) (x.ev t) H)
  | .mki T x => some (.ifc T (x.ev t), H)
  | .ext x j => (match x.ev t with
    | .tup vs => withH H vs[j]?
    | _ => none)
  | .len x => (match x.ev t with
    | .sl _ n _ _ _ => some (.i .i64 n, H)
    | .em => some (.i .i64 0, H)
    | _ => none)
  | .lens x => (match x.ev t with
    | .s x => some (.i .i64 x.size, H)
    | _ => none)
  | .lenk n x => some (.i .i64 n, H)
  | .lenm x => (match x.ev t with
    | .mp r => (match aentries r H with
      | some es => some (.i .i64 es.length, H)
      | none => none)
    | _ => none)
  | .cap x => (match x.ev t with
    | .sl _ _ lo true _ => some (.i .i64 lo, H)
    | _ => none)
  | .app z y s x => aappend z y (s.ev t) (x.ev t) H
  | .apm z y s x => agrow z y (s.ev t) (x.ev t) H
  | .rng x => arng (x.ev t) H
  | .nxt _ => none
  | .ent x => withH H (aent (x.ev t) H)
  | .dead _ => none
  | .cpy n d x => acopy n (d.ev t) (x.ev t) H
  | .clr z x => aclear z (x.ev t) H
  | .mm mx xs => (match asX t xs with
    | x :: r => withH H (aminmax mx x r)
    | [] => none)
  | .call g args => call g (asX t args) H
  | .callv f args => (match f.ev t with
    | .fn (.func g) first caps => call g (first ++ asX t args ++ caps) H
    | _ => none)

/-- Is an operation wanted? -/
def awanted (g : Option (Nat × Bool)) (t : Nat → AV) : Option Bool :=
  match g with
  | none => some true
  | some (d, want) => match t d with
    | .b x => some (x == want)
    | .tup _ => some false
    | _ => none

/-- Operations in the order of the text. -/
def aops (call : CallF) : List AOper → (Nat → AV) → AH → Option ((Nat → AV) × AH)
  | [], t, H => some (t, H)
  | o :: os, t, H => match awanted o.g t with
    | some true => match aop call t o.op H with
      | some (v, H') => aops call os (put t o.dst v) H'
      | none => none
    | some false => aops call os (put t o.dst undefA) H
    | none => none

/-- What an operation does to memory: nothing (0), it reads (1), it makes an object (2), anything (3). -/
def AOp.kind : AOp → Nat
  | .ld _ _ => 1
  | .lk _ _ _ _ _ => 1
  | .lenm _ => 1
  | .cvs _ => 1
  | .alloc _ => 2
  | .box _ => 2
  | .bsl _ _ _ => 2
  | .mks _ _ _ _ => 2
  | .mkm => 2
  | .rng _ => 3
  | .nxt _ => 3
  | .ent _ => 3
  | .st _ _ _ => 3
  | .mu _ _ _ _ => 3
  | .dl _ _ _ => 3
  | .mke _ _ _ _ => 3
  | .ens _ _ _ => 3
  | .app _ _ _ _ => 3
  | .apm _ _ _ _ => 3
  | .cpy _ _ _ => 3
  | .clr _ _ => 3
  | .call _ _ => 3
  | .callv _ _ => 3
  | _ => 0

open Classical in
/-- A reading that is the same in each of some heaps. -/
noncomputable def asame (f : AH → Option (AV × AH)) : List AH → Option AV
  | [] => none
  | [H] => (match f H with
    | some (v, _) => some v
    | none => none)
  | H :: Hs => (match f H, asame f Hs with
    | some (v, _), some u => if v = u then some v else none
    | _, _ => none)

open Classical in
/-- Readings that are the same in a heap, too. -/
noncomputable def astill (call : CallF) (H : AH) (lds : List (AOp × (Nat → AV) × AV)) : List Nat → Bool
  | [] => true
  | j :: js => (match lds[j]? with
    | some (o, t, v) => (match aop call t o H with
      | some (u, _) => if u = v then astill call H lds js else false
      | none => false)
    | none => false)

/-- Operations whose order is drawn: in the order of the text; each reading the same in all heaps in which it may come to be done. sn: the heaps behind what was done last, .., and the first one; lds: the readings, the last one first. -/
noncomputable def adrw (call : CallF) : List (AOper × List Nat) → (Nat → AV) → AH → List AH → List (AOp × (Nat → AV) × AV) → Option ((Nat → AV) × AH)
  | [], t, H, _, _ => some (t, H)
  | (o, pl) :: os, t, H, sn, lds => match awanted o.g t with
    | some true => (match o.op.kind with
      | 1 => (match pl with
        | [m] => (match asame (aop call t o.op) (sn.take m) with
          | some v => adrw call os (put t o.dst v) H sn ((o.op, t, v) :: lds)
          | none => none)
        | _ => none)
      | 3 => (match aop call t o.op H with
        | some (v, H') => if astill call H' lds pl = true then adrw call os (put t o.dst v) H' (H' :: sn) lds else none
        | none => none)
      | _ => (match aop call t o.op H with
        | some (v, H') => adrw call os (put t o.dst v) H' sn lds
        | none => none))
    | some false => (match o.op.kind with
      | 1 => adrw call os (put t o.dst undefA) H sn ((.val (.c undefA), t, undefA) :: lds)
      | 3 => if astill call H lds pl = true then adrw call os (put t o.dst undefA) H (H :: sn) lds else none
      | _ => adrw call os (put t o.dst undefA) H sn lds)
    | none => none

/-- What is still to be done. -/
inductive AItem where
  | code (c : ACode)
  | inBlock (id : Nat)
  | inLoop (c : ACode)

def aexit (id : Nat) : List AItem → Option (List AItem)
  | .inBlock id' :: k => if id' = id then some k else aexit id k
  | _ :: k => aexit id k
  | [] => none

def aresult (H : AH) (t : Nat → AV) : ARes → Option AV
  | .tmp k => some (t k)
  | .cell k n => aload n (t k) H

def aresults (H : AH) (t : Nat → AV) : List ARes → Option (List AV)
  | [] => some []
  | r :: rs => match aresult H t r, aresults H t rs with
    | some v, some vs => some (v :: vs)
    | _, _ => none

def aback : List AV → AV
  | [v] => v
  | vs => .tup vs

def afinish (fn : AFun) (t : Nat → AV) (H : AH) : Option (AV × AH) :=
  match aresults H t fn.res with
  | some vs => some (aback vs, H)
  | none => none

/-- What is known of functions beyond their texts. -/
abbrev PrimF := FuncId → List AV → AH → Option (AV × AH)

/-- The functions: texts, and what else is known. -/
structure Tbl where
  f : FuncId → Option AFun
  p : PrimF
  up : ∀ f a H v H', p f a H = some (v, H') → H.n ≤ H'.n

def ainit (args : List AV) : Nat → AV := fun j => args.getD j undefA

/-- The machine: n steps at the most. -/
noncomputable def arun (T : Tbl) : Nat → AFun → List AItem → (Nat → AV) → AH → Option (AV × AH)
  | 0, _, _, _, _ => none
  | n + 1, fn, k, t, H =>
    let call : CallF := fun f args H => match T.f f with
      | some g => if args.length ≤ g.nt then arun T n g [.code g.body] (ainit args) H else none
      | none => T.p f args H
    match k with
    | [] => afinish fn t H
    | .inBlock _ :: k => arun T n fn k t H
    | .inLoop c :: k => arun T n fn (.code c :: .inLoop c :: k) t H
    | .code .skip :: k => arun T n fn k t H
    | .code (.seq a b) :: k => arun T n fn (.code a :: .code b :: k) t H
    | .code (.cond c a b) :: k => (match c.ev t with
      | .b z => arun T n fn (.code (if z then a else b) :: k) t H
      | _ => none)
    | .code (.block id c) :: k => arun T n fn (.code c :: .inBlock id :: k) t H
    | .code (.loop c) :: k => arun T n fn (.code c :: .inLoop c :: k) t H
    | .code (.exit id) :: k => (match aexit id k with
      | some k' => arun T n fn k' t H
      | none => none)
    | .code .ret :: _ => afinish fn t H
    | .code (.rf _ _ _ _) :: _ => none
    | .code (.reg ops) :: k => (match aops call ops t H with
      | some (t', H') => arun T n fn k t' H'
      | none => none)
    | .code (.drw ops) :: k => (match adrw call ops t H [H] [] with
      | some (t', H') => arun T n fn k t' H'
      | none => none)

noncomputable def acall (T : Tbl) (n : Nat) : CallF := fun f args H => match T.f f with
  | some g => if args.length ≤ g.nt then arun T n g [.code g.body] (ainit args) H else none
  | none => T.p f args H

end Go.Proofs.Ythcibbfljcfheaa.Abs
