/- From the loaded functions to the plain machine's: what each operation comes to with its types resolved, and which orders a drawn region leaves open. Definitions alone. No condition of their own. -/
import Derived.Test.YthcibbfljcfheaaAbs2
namespace Go.Proofs.Ythcibbfljcfheaa.Abs
set_option linter.unusedVariables false

/-- The cells of a type's zero value. -/
def czero (P : Program) (t : TypeId) : Option (List AV) :=
  match P.info? t with
  | some i => match i.zero with
    | some v => match toAVs v.cells.toList with
      | some z => if z.length = i.size ∧ 0 < i.size then some z else none
      | none => none
    | none => none
  | none => none

def csize (P : Program) (t : TypeId) : Option Nat :=
  match P.info? t with
  | some i => some i.size
  | none => none

def cbytes (P : Program) (t : TypeId) : Option Nat :=
  match P.info? t with
  | some i => some i.bytes
  | none => none

/-- How a type's value lies: in n cells as an aggregate, or in one. -/
def cn (P : Program) (t : TypeId) : Option (Option Nat) :=
  match P.underlying t, csize P t with
  | some (.struct _), some n => some (some n)
  | some (.array _ _), some n => some (some n)
  | some _, some 1 => some none
  | _, _ => none

def cx : Operand → Option AX
  | .tmp k => some (.t k)
  | .const v => match toAV v with
    | some a => some (.c a)
    | none => none
  | .func f => some (.c (.fn (.func f) [] []))
  | .global _ => none

def cxs : List Operand → Option (List AX)
  | [] => some []
  | x :: xs => match cx x, cxs xs with
    | some a, some as => some (a :: as)
    | _, _ => none

def cox : Option Operand → Option (Option AX)
  | none => some none
  | some x => match cx x with
    | some a => some (some a)
    | none => none

/-- Parts of an array or a slice, by their places. -/
def cpartsA (n : Nat) : List (Nat × Operand) → Option (List (Nat × Nat × AX))
  | [] => some []
  | (i, x) :: xs => match cx x, cpartsA n xs with
    | some a, some as => some ((i * n, n, a) :: as)
    | _, _ => none

/-- Parts of a struct, by its fields. -/
def cpartsS (P : Program) (fs : Array Field) : List (Nat × Operand) → Option (List (Nat × Nat × AX))
  | [] => some []
  | (i, x) :: xs => match cx x, fs[i]?, cpartsS P fs xs with
    | some a, some f, some as => match csize P f.type with
      | some n => some ((f.offset, n, a) :: as)
      | none => none
    | _, _, _ => none

/-- All of whose fields have a size. -/
def csized (P : Program) : List Field → Bool
  | [] => true
  | f :: fs => (csize P f.type).isSome && csized P fs

/-- Whole numbers (0), bools (1), strings (2). -/
def cscalar (P : Program) (t : TypeId) : Option Nat :=
  match P.underlying t with
  | some (.int _) => some 0
  | some .bool => some 1
  | some .string => some 2
  | _ => none

/-- Fields of scalars, one behind another. -/
def cflatF (P : Program) : Nat → List Field → Option (List Nat)
  | _, [] => some []
  | o, f :: fs => match cscalar P f.type, cflatF P (o + 1) fs with
    | some k, some ks => if f.offset = o ∧ (f.name == "_") = false then some (k :: ks) else none
    | _, _ => none

/-- A struct or an array of scalars. -/
def cflat (P : Program) (t : TypeId) : Option (List Nat) :=
  match P.underlying t with
  | some (.struct fs) => if P.stoodInHeld t then none else cflatF P 0 fs.toList
  | some (.array len e) => match cscalar P e with
    | some k => if csize P e = some 1 then some (List.replicate len k) else none
    | none => none
  | _ => none

def ckey (P : Program) (t : TypeId) : Option (List Nat) :=
  match cscalar P t with
  | some k => some [k]
  | none => match P.underlying t with
    | some (.struct _) => cflat P t
    | _ => none

/-- The zero value of a map's elements. -/
def czv (P : Program) (t : TypeId) : Option AV :=
  match P.info? t with
  | some i => match i.zero with
    | some v => toAV v
    | none => none
  | none => none

def cbin (P : Program) (op : BinOp) (T : TypeId) (x y : AX) : Option AOp :=
  match P.underlying T with
  | some (.int _) => some (.bin op x y)
  | some .string => some (.bin op x y)
  | some .bool => (match op with
    | .eql => some (.eqb false x y)
    | .neq => some (.eqb true x y)
    | _ => none)
  | some (.struct _) => (match cflat P T with
    | some ks => (match op with
      | .eql => some (.eqc ks false x y)
      | .neq => some (.eqc ks true x y)
      | _ => none)
    | none => none)
  | some (.array _ _) => (match cflat P T with
    | some ks => (match op with
      | .eql => some (.eqc ks false x y)
      | .neq => some (.eqc ks true x y)
      | _ => none)
    | none => none)
  | some (.pointer _) => (match op with
    | .eql => some (.eqn 0 false x y)
    | .neq => some (.eqn 0 true x y)
    | _ => none)
  | some (.slice _) => (match op with
    | .eql => some (.eqn 1 false x y)
    | .neq => some (.eqn 1 true x y)
    | _ => none)
  | some (.map _ _) => (match op with
    | .eql => some (.eqn 2 false x y)
    | .neq => some (.eqn 2 true x y)
    | _ => none)
  | some (.func _ _ _) => (match op with
    | .eql => some (.eqn 3 false x y)
    | .neq => some (.eqn 3 true x y)
    | _ => none)
  | some (.interface _) => (match op with
    | .eql => some (.eqn 4 false x y)
    | .neq => some (.eqn 4 true x y)
    | _ => none)
  | _ => none

def cconv (P : Program) (src dst : TypeId) (x : AX) : Option AOp :=
  match P.underlying src, P.underlying dst with
  | some (.int _), some (.int k) => some (.cvi k x)
  | some .string, some .string => some (.cvg x)
  | some (.slice e), some .string => (match P.underlying e with
    | some (.int .u8) => some (.cvs x)
    | _ => none)
  | _, _ => none

def cbuiltin (P : Program) (b : Builtin) (ts : List TypeId) (xs : List AX) : Option AOp :=
  match b, ts, xs with
  | .len, [T], [x] => (match P.underlying T with
    | some (.slice _) => some (.len x)
    | some .string => some (.lens x)
    | some (.array n _) => some (.lenk n x)
    | some (.map _ _) => some (.lenm x)
    | _ => none)
  | .delete, [T, _], [m, k] => (match P.underlying T with
    | some (.map K _) => (match P.underlying K with
      | some (.int _) => some (.dl [0] m k)
      | some (.struct _) => (match cflat P K with
        | some ks => some (.dl (9 :: ks) m k)
        | none => none)
      | _ => none)
    | _ => none)
  | .cap, [T], [x] => (match P.underlying T with
    | some (.slice _) => some (.cap x)
    | _ => none)
  | .append, [T, U], [s, x] => (match P.underlying T, P.underlying U with
    | some (.slice e), some (.slice _) => (match czero P e, cbytes P e with
      | some z, some y => if 0 < y then some (.app z y s x) else none
      | _, _ => none)
    | some (.slice e), some (.int _) => (match czero P e, cbytes P e with
      | some z, some y => if 0 < y then some (.apm z y s x) else none
      | _, _ => none)
    | _, _ => none)
  | .copy, [T, U], [d, x] => (match P.underlying T, P.underlying U with
    | some (.slice e), some (.slice _) => (match csize P e with
      | some n => some (.cpy n d x)
      | none => none)
    | _, _ => none)
  | .clear, [T], [x] => (match P.underlying T with
    | some (.slice e) => (match czero P e with
      | some z => some (.clr z x)
      | none => none)
    | _ => none)
  | .min, _, xs => some (.mm false xs)
  | .max, _, xs => some (.mm true xs)
  | _, _, _ => none

/-- An operation with its types resolved, where the plain machine knows it. -/
def cop0 (P : Program) (o : Op) : Option AOp :=
  match o with
  | .move x => (cx x).map .val
  | .assign x => (cx x).map .val
  | .pick c a b => (match cx c, cx a, cx b with
    | some c, some a, some b => some (.pick c a b)
    | _, _, _ => none)
  | .alloc T => (czero P T).map .alloc
  | .box T x => (cx x).map .box
  | .build T parts => (match czero P T, P.underlying T with
    | some z, some (.struct fs) => if csized P fs.toList then (cpartsS P fs parts.toList).map (.build z) else none
    | some z, some (.array _ e) => (match csize P e with
      | some n => (cpartsA n parts.toList).map (.build z)
      | none => none)
    | _, _ => none)
  | .buildSlice T len parts => (match P.underlying T with
    | some (.slice e) => (match czero P e with
      | some z => if len * z.length ≤ 1000000 then (cpartsA z.length parts.toList).map (.bsl z len) else none
      | none => none)
    | _ => none)
  | .load T a => (match cn P T, cx a with
    | some n, some a => some (.ld n a)
    | _, _ => none)
  | .store T a x => (match csize P T, cx a, cx x with
    | some n, some a, some x => some (.st n a x)
    | _, _, _ => none)
  | .nilCheck x => (cx x).map .nilc
  | .binOp op T x y _ => (match cx x, cx y with
    | some x, some y => cbin P op T x y
    | _, _ => none)
  | .unOp op _ x => (cx x).map (.un op)
  | .convert src dst x => (match cx x with
    | some x => cconv P src dst x
    | none => none)
  | .makeFunc fn first caps => (match fn, cxs first.toList, cxs caps.toList with
    | .func g, some f, some c => some (.mkf (.func g) f c)
    | _, _, _ => none)
  | .makeSlice T l c => (match P.underlying T, cx l, cx c with
    | some (.slice e), some l, some c => (match czero P e, cbytes P e with
      | some z, some y => some (.mks z y l c)
      | _, _ => none)
    | _, _, _ => none)
  | .slice T x lo hi mx => (match cx x, cox lo, cox hi, cox mx with
    | some x, some lo, some hi, some mx => (match P.underlying T, mx with
      | some (.slice e), mx => (match csize P e with
        | some n => if 0 < n then some (.sls n x lo hi mx) else none
        | none => none)
      | some .string, none => some (.slg x lo hi)
      | _, _ => none)
    | _, _, _, _ => none)
  | .fieldAddr T x f => (match P.underlying T, cx x with
    | some (.struct fs), some x => (match fs[f]? with
      | some f => (match csize P f.type with
        | some (_ + 1) => some (.fa f.offset x)
        | _ => none)
      | none => none)
    | _, _ => none)
  | .field T x f => (match P.underlying T, cx x with
    | some (.struct fs), some x => (match fs[f]? with
      | some f => (match cn P f.type with
        | some n => some (.fd n f.offset x)
        | none => none)
      | none => none)
    | _, _ => none)
  | .indexAddr T x j => (match P.underlying T, cx x, cx j with
    | some (.slice e), some x, some j => (csize P e).map fun n => .ia n x j
    | some (.array len e), some x, some j => (csize P e).map fun n => .iaa len n x j
    | _, _, _ => none)
  | .index T x j => (match P.underlying T, cx x, cx j with
    | some (.array len e), some x, some j => (match cn P e, csize P e with
      | some n, some sz => some (.ix n len sz x j)
      | _, _ => none)
    | some .string, some x, some j => some (.ixs x j)
    | _, _, _ => none)
  | .makeInterface T x => (match P.underlying T, cx x with
    | some (.interface _), _ => none
    | some _, some x => some (.mki T x)
    | _, _ => none)
  | .extract x j => (cx x).map fun x => .ext x j
  | .makeMap _ r => (match r with
    | none => some .mkm
    | some _ => none)
  | .lookup T x k ok => (match P.underlying T, cx x, cx k with
    | some (.map K E), some x, some k => (match P.underlying K, czv P E with
      | some (.int _), some z => some (.lk [0] z x k ok)
      | some (.struct _), some z => (match cflat P K with
        | some ks => some (.lk (9 :: ks) z x k ok)
        | none => none)
      | _, _ => none)
    | _, _, _ => none)
  | .mapUpdate T m k v => (match P.underlying T, cx m, cx k, cx v with
    | some (.map K _), some m, some k, some v => (match P.underlying K with
      | some (.int _) => some (.mu [0] m k v)
      | some (.struct _) => (match cflat P K with
        | some ks => some (.mu (9 :: ks) m k v)
        | none => none)
      | _ => none)
    | _, _, _, _ => none)
  | .mapEntry T m k => (match P.underlying T, cx m, cx k with
    | some (.map K E), some m, some k => (match P.underlying K, czv P E with
      | some (.int _), some z => some (.mke [0] z m k)
      | some (.struct _), some z => (match cflat P K with
        | some ks => some (.mke (9 :: ks) z m k)
        | none => none)
      | _, _ => none)
    | _, _, _ => none)
  | .entryStore _ m s v => (match cx m, cx s, cx v with
    | some m, some s, some v => some (.ens m s v)
    | _, _, _ => none)
  | .range T x => (match P.underlying T, cx x with
    | some (.map _ _), some x => some (.rng x)
    | _, _ => none)
  | .next x false => (cx x).map .nxt
  | .entry x => (cx x).map .ent
  | .call c => (match cxs c.args.toList with
    | some args => (match c.callee with
      | .builtin b => cbuiltin P b c.argTypes.toList args
      | .value (.func g) => some (.call g args)
      | .value (.tmp k) => some (.callv (.t k) args)
      | _ => none)
    | none => none)
  | _ => none

def opSel : Op → Bool
  | .select _ _ => true
  | .defer _ => true
  | _ => false

/-- An operation with its types resolved; one that the plain machine does not know ends it. -/
def cop (P : Program) (o : Op) : Option AOp :=
  match cop0 P o with
  | some a => some a
  | none => if opSel o then none else (cxs o.operands.toList).map .dead

def cguard (ops : Array Oper) (g : Option (Nat × Bool)) : Option (Option (Nat × Bool)) :=
  match g with
  | none => some none
  | some (j, want) => match ops[j]? with
    | some o => match o.dst with
      | some d => some (some (d, want))
      | none => none
    | none => none

def cdst (nt : Nat) (d : Option Tmp) : Bool :=
  match d with
  | none => true
  | some d => decide (d < nt)

def coper (P : Program) (nt : Nat) (ops : Array Oper) (o : Oper) : Option AOper :=
  match cop P o.op, cguard ops o.guard, cdst nt o.dst with
  | some a, some g, true => some ⟨o.dst, g, a⟩
  | _, _, _ => none

def copers (P : Program) (nt : Nat) (ops : Array Oper) : List Oper → Option (List AOper)
  | [] => some []
  | o :: os => match coper P nt ops o, copers P nt ops os with
    | some a, some as => some (a :: as)
    | _, _ => none

/-- What stands ahead of an operation in every order (a bit for each place). -/
def cbefRow (acc : List Nat) (o : Oper) : Nat := o.after.toList.foldl (fun s e => if Region.binds .any e then s ||| 2 ^ e.on ||| acc.getD e.on 0 else s) 0

def cbefore : List Oper → List Nat → List Nat
  | [], acc => acc
  | o :: os, acc => cbefore os (acc ++ [cbefRow acc o])

/-- All edges lead back. -/
def cback (ops : List Oper) : Bool := ops.zipIdx.all fun (o, i) => o.after.toList.all fun e => !Region.binds .any e || decide (e.on < i)

def AX.slots : AX → List Nat
  | .t k => [k]
  | .c _ => []

def oslots : Option AX → List Nat
  | none => []
  | some x => x.slots

def pslots : List (Nat × Nat × AX) → List Nat
  | [] => []
  | (_, _, x) :: r => x.slots ++ pslots r

def xslots : List AX → List Nat
  | [] => []
  | x :: r => x.slots ++ xslots r

/-- The slots that an operation reads. -/
def AOp.slots : AOp → List Nat
  | .val x => x.slots
  | .pick c a b => c.slots ++ a.slots ++ b.slots
  | .alloc _ => []
  | .box x => x.slots
  | .build _ ps => pslots ps
  | .bsl _ _ ps => pslots ps
  | .ld _ a => a.slots
  | .st _ a x => a.slots ++ x.slots
  | .nilc x => x.slots
  | .bin _ x y => x.slots ++ y.slots
  | .eqc _ _ x y => x.slots ++ y.slots
  | .eqb _ x y => x.slots ++ y.slots
  | .eqn _ _ x y => x.slots ++ y.slots
  | .un _ x => x.slots
  | .cvi _ x => x.slots
  | .cvs x => x.slots
  | .cvg x => x.slots
  | .mkf _ f c => xslots f ++ xslots c
  | .mkm => []
  | .mks _ _ l c => l.slots ++ c.slots
  | .sls _ x lo hi mx => x.slots ++ oslots lo ++ oslots hi ++ oslots mx
  | .slg x lo hi => x.slots ++ oslots lo ++ oslots hi
  | .fa _ x => x.slots
  | .fd _ _ x => x.slots
  | .ia _ x j => x.slots ++ j.slots
  | .iaa _ _ x j => x.slots ++ j.slots
  | .ix _ _ _ x j => x.slots ++ j.slots
  | .ixs x j => x.slots ++ j.slots
  | .lk _ _ x k _ => x.slots ++ k.slots
  | .mu _ m k x => m.slots ++ k.slots ++ x.slots
  | .dl _ m k => m.slots ++ k.slots
  | .mke _ _ m k => m.slots ++ k.slots
  | .ens m s x => m.slots ++ s.slots ++ x.slots
  | .mki _ x => x.slots
  | .ext x _ => x.slots
  | .len x => x.slots
  | .lens x => x.slots
  | .lenk _ x => x.slots
  | .lenm x => x.slots
  | .cap x => x.slots
  | .app _ _ s x => s.slots ++ x.slots
  | .apm _ _ s x => s.slots ++ x.slots
  | .rng x => x.slots
  | .nxt x => x.slots
  | .ent x => x.slots
  | .dead xs => xslots xs
  | .cpy _ d x => d.slots ++ x.slots
  | .clr _ x => x.slots
  | .mm _ xs => xslots xs
  | .call _ xs => xslots xs
  | .callv f xs => f.slots ++ xslots xs

def AOper.reads (o : AOper) : List Nat := (match o.g with
  | none => []
  | some (d, _) => [d]) ++ o.op.slots

/-- Two operations that keep off each other's slots. -/
def AOper.off (a b : AOper) : Bool :=
  (match a.dst with
    | none => true
    | some d => !(b.dst == some d) && !b.reads.contains d) &&
  (match b.dst with
    | none => true
    | some d => !a.reads.contains d)

/-- The plan of a drawn region: for each reading in how many of the last heaps it may come to be done; for each operation that turns memory, which readings may come behind it. done: the places and kinds of what stands ahead, the last one first. -/
def cplan (bef : Nat) (k : Nat) (done : List (Nat × Nat)) : Option (List Nat) :=
  match k with
  | 1 =>
    let cs := (done.filter fun x => x.2 == 3).map (·.1)
    let un := cs.filter fun c => !bef.testBit c
    if done.all fun x => !(x.2 == 2) || !bef.testBit x.1 || cs.any fun c => decide (x.1 < c) && bef.testBit c then some [un.length + 1] else none
  | 3 =>
    if done.all fun x => !(x.2 == 2 || x.2 == 3) || bef.testBit x.1 then
      some (((done.filter fun x => x.2 == 1).zipIdx.filter fun x => !bef.testBit x.1.1).map (·.2))
    else none
  | _ => some []

def cplans : List (AOper × Nat × Nat) → List (Nat × Nat) → Option (List (AOper × List Nat))
  | [], _ => some []
  | (o, bef, i) :: r, done => match cplan bef o.op.kind done, cplans r ((i, o.op.kind) :: done) with
    | some pl, some q => some ((o, pl) :: q)
    | _, _ => none

/-- No slot is written twice, and operations that stand in no order keep off each other's slots. -/
def coff : List (AOper × Nat × Nat) → List (AOper × Nat) → Bool
  | [], _ => true
  | (o, bef, i) :: r, done => (done.all fun x => !(o.dst.isSome && o.dst == x.1.dst) && (bef.testBit x.2 || AOper.off x.1 o)) && coff r ((o, i) :: done)

def cdrawn (P : Program) (nt : Nat) (ops : Array Oper) : Option (List (AOper × List Nat)) :=
  match copers P nt ops ops.toList with
  | some os =>
    let l := (os.zip (cbefore ops.toList [])).zipIdx.map fun (x, i) => (x.1, x.2, i)
    if cback ops.toList && coff l [] then cplans l [] else none
  | none => none

/-- A text that is left at its end alone, and ranges over no function. -/
def ACode.plain : ACode → Bool
  | .skip => true
  | .reg _ => true
  | .drw _ => true
  | .seq a b => a.plain && b.plain
  | .cond _ a b => a.plain && b.plain
  | .block _ a => a.plain
  | .loop a => a.plain
  | .exit _ => true
  | .ret => false
  | .rf _ _ _ _ => false

def ccode (P : Program) (nt : Nat) : Code → Option ACode
  | .skip => some .skip
  | .region _ ops false => (copers P nt ops ops.toList).map .reg
  | .region _ ops true => (cdrawn P nt ops).map .drw
  | .seq a b => match ccode P nt a, ccode P nt b with
    | some a, some b => some (.seq a b)
    | _, _ => none
  | .cond c a b => match cx c, ccode P nt a, ccode P nt b with
    | some c, some a, some b => some (.cond c a b)
    | _, _, _ => none
  | .block id a => (ccode P nt a).map (.block id)
  | .loop a => (ccode P nt a).map .loop
  | .exit id => some (.exit id)
  | .ret => some .ret
  | .rangeFunc f ps a b => match cx f, ccode P nt a, ccode P nt b with
    | some f, some a, some b => if a.plain && b.plain && ps.toList.all (fun p => decide (p < nt)) then some (.rf f ps.toList a b) else none
    | _, _, _ => none
  | _ => none

def cres (P : Program) : List ResultVar → Option (List ARes)
  | [] => some []
  | .tmp k :: r => (cres P r).map (.tmp k :: ·)
  | .cell k T :: r => match cn P T, cres P r with
    | some n, some r => some (.cell k n :: r)
    | _, _ => none

/-- A function with its types resolved. -/
def cfun (P : Program) (f : FuncId) : Option AFun :=
  match P.funcs[f]? with
  | some fn => match fn.body with
    | some c => match ccode P fn.ntmps c, cres P fn.results.toList with
      | some a, some r => if fn.name == "runtime.NumGoroutine" then none else some ⟨fn.ntmps, r, a⟩
      | _, _ => none
    | none => none
  | none => none

end Go.Proofs.Ythcibbfljcfheaa.Abs
