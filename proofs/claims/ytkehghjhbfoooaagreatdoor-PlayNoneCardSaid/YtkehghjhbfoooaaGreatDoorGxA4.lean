/- From the kit's code to the machine's: values, operations, code. (Executable: run by the kernel over each function.) -/
import Derived.Test.YtkehghjhbfoooaaGreatDoorGxA1
import GoSem.Core.Region
import GoSem.Core.Layout
import GoSem.Op.Equal
noncomputable section
namespace Gw
open Go

mutual
def cV : Value → Option V
  | .bool b => some (.bool b)
  | .int k n => some (.int k n)
  | .string s => some (.str s.data.toList)
  | .pointer none => some .nilp
  | .slice none 0 0 => some .nils
  | .map none => some .nilm
  | .nilFunc => some .nilf
  | .nilIface => some .nili
  | .agg cs => (cVa cs).map .agg
  | .tuple cs => (cVa cs).map .tup
  | _ => none
def cVa : Array Value → Option (List V)
  | ⟨l⟩ => cVs l
def cVs : List Value → Option (List V)
  | [] => some []
  | v :: l => (cV v).bind fun v => (cVs l).map (v :: ·)
end

/-- How many package-level variables a program may name. -/
def NG : Nat := 3

def cOpd : Operand → Option Opd
  | .tmp t => some (.tmp t)
  | .const v => (cV v).map .cst
  | .global g => if g < NG then some (.cst (.ptr g 0)) else none
  | .func f => some (.cst (.func f []))

def cOpds : List Operand → Option (List Opd)
  | [] => some []
  | x :: l => (cOpd x).bind fun x => (cOpds l).map (x :: ·)

def cOpt : Option Operand → Option (Option Opd)
  | none => some none
  | some x => (cOpd x).map some

def szOf (P : Program) (t : TypeId) : Option Nat := (P.info? t).map (·.size)
def aggOf (P : Program) (t : TypeId) : Option Bool := (P.underlying t).map fun
  | .struct _ => true
  | .array _ _ => true
  | _ => false
def zeroV (P : Program) (t : TypeId) : Option V := (P.info? t).bind fun i => i.zero.bind cV
/-- The cells of a type's zero value, as many as the type has. -/
def zeroCs (P : Program) (t : TypeId) : Option (List V) :=
  (zeroV P t).bind fun v => (szOf P t).bind fun n => if v.nt = true ∧ v.cells.length = n then some v.cells else none

/-- Places of a struct's fields. -/
def placesOf (P : Program) : List Field → Option (List (Nat × Nat))
  | [] => some []
  | f :: l => (szOf P f.type).bind fun n => (placesOf P l).map ((f.offset, n) :: ·)
def partsAt (pl : List (Nat × Nat)) : List (Nat × Operand) → Option (List (Nat × Nat × Opd))
  | [] => some []
  | (i, x) :: l => (pl[i]?).bind fun p => (cOpd x).bind fun x => (partsAt pl l).map ((p.1, p.2, x) :: ·)
def partsBy (sz : Nat) : List (Nat × Operand) → Option (List (Nat × Nat × Opd))
  | [] => some []
  | (i, x) :: l => (cOpd x).bind fun x => (partsBy sz l).map ((i * sz, sz, x) :: ·)

/-- The kinds of a struct's fields, if all are plain and lie one behind the other. -/
def plainKinds (P : Program) : Nat → Nat → List Field → Option (List FK)
  | 0, _, _ => none
  | _ + 1, _, [] => some []
  | d + 1, off, f :: l =>
    if f.name ≠ "_" ∧ f.offset = off then
      match P.underlying f.type, szOf P f.type with
      | some .bool, some 1 => (plainKinds P d (off + 1) l).map (.b :: ·)
      | some (.int _), some 1 => (plainKinds P d (off + 1) l).map (.i :: ·)
      | some .string, some 1 => (plainKinds P d (off + 1) l).map (.s :: ·)
      | some (.struct fs), some n => if P.stoodInHeld f.type = false then
          (plainKinds P d 0 fs.toList).bind fun ks => if ks.length = n then (plainKinds P d (off + n) l).map (ks ++ ·) else none else none
      | _, _ => none
    else none

inductive Kc where
  | p (k : PK)
  | r (k : RK)
  | a (k : AK)
  | e (k : EK)

def cEqC (P : Program) (t : TypeId) : Option EqC :=
  match P.underlying t with
  | some .bool => some .bool
  | some (.pointer _) => some .ptr
  | some (.slice _) => some .slice
  | some (.interface ms) => if ms.isEmpty then some .iface else none
  | some (.map _ _) => some .map
  | some (.func _ _ _) => some .fn
  | some (.struct fs) => if P.stoodInHeld t = false ∧ P.eqGuardType P.depth t = false then (plainKinds P 40 0 fs.toList).map .agg else none
  | _ => none

def cBin (P : Program) (op : BinOp) (xt : TypeId) (x y : Opd) : Option Kc :=
  match op with
  | .eql => match P.underlying xt with
    | some (.int _) | some .string => some (.p (.bin .eql x y))
    | _ => (cEqC P xt).map fun c => .p (.eq c false x y)
  | .neq => match P.underlying xt with
    | some (.int _) | some .string => some (.p (.bin .neq x y))
    | _ => (cEqC P xt).map fun c => .p (.eq c true x y)
  | op => some (.p (.bin op x y))

def cConv (P : Program) (s d : TypeId) (x : Opd) : Option Kc :=
  match P.underlying s, P.underlying d with
  | some (.int _), some (.int k) => some (.p (.conv k x))
  | some .string, some .string => some (.p (.isStr x))
  | some .string, some (.slice e) => match P.underlying e with
    | some (.int .u8) => some (.a (.s2b x))
    | _ => none
  | some (.slice e), some .string => match P.underlying e with
    | some (.int .u8) => some (.r (.b2s x))
    | some (.int .i32) => some (.r (.r2s x))
    | _ => none
  | some (.slice _), some (.slice e) => if s = d then match P.underlying e with
    | some (.int .u8) => some (.e (.froz x))
    | _ => none else none
  | _, _ => none

def cSlice (P : Program) (t : TypeId) (x : Opd) (lo hi mx : Option Opd) : Option Kc :=
  match P.underlying t with
  | some .string => match mx with
    | none => some (.p (.sliceS x lo hi))
    | some _ => none
  | some (.slice e) => (szOf P e).bind fun n => if n = 0 then none else some (.p (.slice n x lo hi mx))
  | _ => none

def fieldOf (P : Program) (t : TypeId) (f : Nat) : Option (Nat × Nat × Bool) :=
  match P.underlying t with
  | some (.struct fs) => (fs[f]?).bind fun f => (szOf P f.type).bind fun n => (aggOf P f.type).map fun g => (f.offset, n, g)
  | _ => none

def cBuiltin (P : Program) (b : Builtin) (ats : Array TypeId) (args : List Opd) : Option Kc :=
  match b, args with
  | .len, [x] => (ats[0]?).bind fun t => match P.underlying t with
    | some .string => some (.p (.lenStr x))
    | some (.slice _) => some (.p (.len x))
    | some (.array n _) => some (.p (.lenA n))
    | _ => none
  | .cap, [x] => (ats[0]?).bind fun t => match P.underlying t with
    | some (.slice _) => some (.p (.cap x))
    | _ => none
  | .append, [s, x] => (ats[0]?).bind fun t => (ats[1]?).bind fun u => match P.underlying t, P.underlying u with
    | some (.slice e), some (.int _) => (szOf P e).bind fun n => (P.info? e).bind fun i => if n = 0 ∨ i.bytes = 0 then none else (zeroCs P e).map fun z => .e (.appendZ n i.bytes z s x)
    | some (.slice e), some (.slice _) | some (.slice e), some .string => (szOf P e).bind fun n => (P.info? e).bind fun i => if n = 0 ∨ i.bytes = 0 then none else (zeroCs P e).map fun _ => .e (.append n i.bytes s x)
    | _, _ => none
  | .copy, [d, s] => (ats[0]?).bind fun t => match P.underlying t with
    | some (.slice e) => (szOf P e).bind fun n => if n = 0 then none else some (.e (.copy n d s))
    | _ => none
  | .clear, [x] => (ats[0]?).bind fun t => match P.underlying t with
    | some (.slice e) => (szOf P e).bind fun n => if n = 0 then none else (zeroCs P e).map fun z => .e (.clear n z x)
    | _ => none
  | .min, x :: xs => some (.p (.min x xs))
  | .max, x :: xs => some (.p (.max x xs))
  | _, _ => none

def cOp (P : Program) (o : Oper) : Option Kc :=
  match o.op with
  | .move x | .assign x => (cOpd x).map fun x => .p (.mov x)
  | .pick c a b => (cOpd c).bind fun c => (cOpd a).bind fun a => (cOpd b).map fun b => .p (.pick c a b)
  | .alloc t => (zeroCs P t).map fun z => .a (.alloc z)
  | .box _ x => (cOpd x).map fun x => .a (.box x)
  | .build t ps => (zeroCs P t).bind fun z => match P.underlying t with
    | some (.struct fs) => (placesOf P fs.toList).bind fun pl => (partsAt pl ps.toList).map fun ps => .p (.build z ps)
    | some (.array _ e) => (szOf P e).bind fun n => (partsBy n ps.toList).map fun ps => .p (.build z ps)
    | _ => none
  | .buildSlice t len ps => match P.underlying t with
    | some (.slice e) => (szOf P e).bind fun n => if n = 0 ∨ len * n > 16777216 then none else (zeroCs P e).bind fun z => (partsBy n ps.toList).map fun ps => .a (.bslice n (repL z len) len ps)
    | _ => none
  | .load t a => (cOpd a).bind fun a => (aggOf P t).bind fun g => if g then (szOf P t).map fun n => .r (.ldN n a) else some (.r (.ld a))
  | .store t a x => (cOpd a).bind fun a => (cOpd x).bind fun x => (szOf P t).map fun n => .e (.store n a x)
  | .nilCheck x => (cOpd x).map fun x => .p (.nilCheck x)
  | .binOp op xt x y _ => (cOpd x).bind fun x => (cOpd y).bind fun y => cBin P op xt x y
  | .unOp op _ x => (cOpd x).bind fun x => match op with
    | .neg => some (.p (.neg x))
    | .not => some (.p (.not x))
    | .xor => some (.p (.xor x))
    | .plus => none
  | .convert s d x => (cOpd x).bind fun x => cConv P s d x
  | .makeInterface t x => (cOpd x).bind fun x => match P.underlying t with
    | some (.interface _) => none
    | some _ => some (.p (.mkI t x))
    | none => none
  | .makeFunc (.func f) fst cs => if fst.isEmpty then (cOpds cs.toList).map fun cs => .p (.mkF f cs) else none
  | .makeMap t r => match r, P.underlying t with
    | none, _ => some (.a .mkmap)
    | some (.const (.int _ _)), some (.map _ _) => some (.a .mkmap)
    | _, _ => none
  | .makeSlice t l c => (cOpd l).bind fun l => (cOpd c).bind fun c => match P.underlying t with
    | some (.slice e) => (szOf P e).bind fun n => (P.info? e).bind fun i => if n = 0 then none else (zeroCs P e).map fun z => .a (.mkslice n i.bytes z l c)
    | _ => none
  | .slice t x lo hi mx => (cOpd x).bind fun x => (cOpt lo).bind fun lo => (cOpt hi).bind fun hi => (cOpt mx).bind fun mx => cSlice P t x lo hi mx
  | .fieldAddr t x f => (cOpd x).bind fun x => (fieldOf P t f).bind fun p => if p.2.1 = 0 then none else some (.p (.fieldA p.1 x))
  | .field t x f => (cOpd x).bind fun x => (fieldOf P t f).map fun p => .p (.field p.1 p.2.1 p.2.2 x)
  | .indexAddr t x i => (cOpd x).bind fun x => (cOpd i).bind fun i => match P.underlying t with
    | some (.slice e) => (szOf P e).bind fun n => if n = 0 then none else some (.p (.idxS n x i))
    | some (.array len e) => (szOf P e).bind fun n => if n = 0 then none else some (.p (.idxA len n x i))
    | _ => none
  | .index t x i => (cOpd x).bind fun x => (cOpd i).bind fun i => match P.underlying t with
    | some .string => some (.p (.idxStr x i))
    | some (.array len e) => (szOf P e).bind fun n => (aggOf P e).map fun g => .p (.idxArr len n g x i)
    | _ => none
  | .lookup t m k false => (cOpd m).bind fun m => (cOpd k).bind fun k => match P.underlying t with
    | some (.map kt et) => match P.underlying kt with
      | some (.int _) => (zeroV P et).map fun z => .r (.lk z m k)
      | _ => none
    | _ => none
  | .insert t m k x => (cOpd m).bind fun m => (cOpd k).bind fun k => (cOpd x).bind fun x => match P.underlying t with
    | some (.map kt _) => match P.underlying kt with
      | some (.int _) => some (.e (.insert m k x))
      | _ => none
    | _ => none
  | .range t x => (cOpd x).bind fun x => match P.underlying t with
    | some .string => some (.a (.iter x))
    | _ => none
  | .next x true => (cOpd x).map fun x => .e (.next x)
  | .typeAssert x _ t ok => (cOpd x).bind fun x => match P.underlying t with
    | some (.interface _) => none
    | some _ => (zeroV P t).map fun z => .p (.tassert t z ok x)
    | none => none
  | .extract x i => (cOpd x).map fun x => .p (.extract x i)
  | .panic _ => some (.p .bad)
  | .call c => (cOpds c.args.toList).bind fun args => match c.callee with
    | .value f => (cOpd f).map fun f => .e (.call f args)
    | .builtin b => cBuiltin P b c.argTypes args
    | .invoke _ _ => none
  | _ => none

def Kc.toK : Kc → Nat → K
  | .p k, _ => .p k
  | .r k, _ => .r k
  | .a k, s => .a s k
  | .e k, _ => .e k

def cGuard (ops : Array Oper) : Option (Nat × Bool) → Option (Option (Nat × Bool))
  | none => some none
  | some (j, b) => ((ops[j]?).bind (·.dst)).map fun d => some (d, b)

/-- The operation at a place of a region. -/
def cAt (P : Program) (ops : Array Oper) (i : Nat) (wt : Bool) (cs : List Nat) : Option DOp :=
  (ops[i]?).bind fun o => (cOp P o).bind fun k => (cGuard ops o.guard).map fun g => { i := i, dst := o.dst, g := g, k := k.toK i, wt := wt, cs := cs }

def cList (P : Program) (ops : Array Oper) : List (Nat × Bool × List Nat) → Option (List DOp)
  | [] => some []
  | (i, wt, cs) :: l => (cAt P ops i wt cs).bind fun o => (cList P ops l).map (o :: ·)

/-- How many places a region keeps for the blocks that it makes: none, where it makes none. -/
def makes : List DOp → Bool
  | [] => false
  | o :: l => (match o.k with | .a _ _ => true | _ => false) || makes l
def roomOf (n : Nat) (l : List DOp) : Nat := cond (makes l) n 0

/-- A region whose order is the text's. -/
def cReg (P : Program) (ops : Array Oper) : Option DC :=
  (cList P ops ((List.range ops.size).map fun i => (i, false, []))).map fun l => .reg (roomOf ops.size l) l

def cRes (P : Program) : List ResultVar → Option (List Res)
  | [] => some []
  | .tmp t :: l => (cRes P l).map (.tmp t :: ·)
  | .cell a t :: l => (aggOf P t).bind fun g => (szOf P t).bind fun n => (cRes P l).map ((if g then .cN a n else .c1 a) :: ·)

end Gw
