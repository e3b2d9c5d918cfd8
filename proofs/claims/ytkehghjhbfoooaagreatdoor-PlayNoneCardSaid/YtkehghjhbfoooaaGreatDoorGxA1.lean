/- The deterministic machine: its values, its memory, its code, and the evaluator. Nothing of a program stands here. -/
import GoSem.Core.Code
import GoSem.Core.View
import GoSem.Core.Utf8
import Derived.Test.YtkehghjhbfoooaaGreatDoorGxA0
noncomputable section
namespace Gw
open Go

/-- A value. Pointers and slices name a logical block; the capacity of a slice is known or left open. -/
inductive V where
  | bool (b : Bool)
  | int (k : IntKind) (n : Int)
  | str (s : List UInt8)
  | nilp
  | ptr (id off : Nat)
  | nils
  | slice (id off len esz : Nat) (cap : Option Nat)
  | nilm
  | map (id : Nat)
  | nilf
  | func (f : Nat) (cap : List V)
  | nili
  | iface (t : Nat) (v : V)
  | agg (l : List V)
  | tup (l : List V)

instance : Inhabited V := ⟨.nilp⟩

def undefV : V := .tup []
/-- A slot of which nothing is known. -/
def anyV : V := .tup [.tup []]
def isAnyL : List V → Bool
  | [.tup []] => true
  | _ => false
def V.isAny : V → Bool
  | .tup l => isAnyL l
  | _ => false

/-- Equal values, as a test. -/
def optNatEq : Option Nat → Option Nat → Bool
  | none, none => true
  | some a, some b => a == b
  | _, _ => false

mutual
def V.beq : V → V → Bool
  | .bool a, .bool b => a == b
  | .int k a, .int k' b => k == k' && a == b
  | .str a, .str b => a == b
  | .nilp, .nilp => true
  | .ptr i o, .ptr j p => i == j && o == p
  | .nils, .nils => true
  | .slice i o l e c, .slice j p m f d => i == j && o == p && l == m && e == f && optNatEq c d
  | .nilm, .nilm => true
  | .map i, .map j => i == j
  | .nilf, .nilf => true
  | .func f a, .func g b => f == g && V.beqs a b
  | .nili, .nili => true
  | .iface t x, .iface u y => t == u && V.beq x y
  | .agg a, .agg b => V.beqs a b
  | .tup a, .tup b => V.beqs a b
  | _, _ => false
def V.beqs : List V → List V → Bool
  | [], [] => true
  | x :: xs, y :: ys => V.beq x y && V.beqs xs ys
  | _, _ => false
end

/-- A block of memory: cells (read only, or not), a string that is ranged over, a map. -/
inductive Blk where
  | cells (ro : Bool) (l : List V)
  | iter (s : List UInt8) (pos : Nat)
  | mp (es : List (V × V))
  | dead
  | obj (x : Ob)

/-- A cell of a thing: a plain value, a pointer to another thing that is its own, a slice of one. -/
inductive Ce where
  | v (x : V)
  | p (y : Ob)
  | s (y : Ob) (n e : Nat)

def oS {α : Type} (o : Option (List α)) (f : List α → Ob) (e : Nat) : Ce :=
  match o with
  | none => .v .nils
  | some l => .s (f l) l.length e
def oP {α : Type} (o : Option α) (f : α → Ob) : Ce :=
  match o with
  | none => .v .nilp
  | some x => .p (f x)

abbrev vi (n : Int) : V := .int .i64 n
abbrev vu (n : Int) : V := .int .u32 n
def Xid.vs (x : Xid) : List V := [vu x.src, vu x.dst, vi x.slot, vi x.slots, .bool x.anew, .str x.nick]
def Device.vs (x : Device) : List V := [vu x.id, .str x.nick]
def Ask.vs (x : Ask) : List V := [vi x.kind, vi x.n, vu x.id, .str x.body]
def Addr2.vs (x : Addr2) : List V := [vi x.seat, vi x.count]
def Plain.vs (x : Plain) : List V := [vi x.addr.seat, vi x.addr.count, .bool x.cmd, vi x.kind, vi x.sort, vi x.nr, vi x.ns, .bool x.pf, .str x.body]
def Offer.vs (x : Offer) : List V := [vi x.baud, vi x.silent, vi x.win, vi x.size, vi x.wait]
def Deal.vs (x : Deal) : List V := [vi x.baud, vi x.silent, vi x.win, vi x.size, vi x.wait]
def Seen.vs (x : Seen) : List V := [vu x.id, .str x.nick, vi x.slot]
def Reply.vs (x : Reply) : List V := [vu x.me, .str x.nick, .bool x.round, vu x.asker, vi x.slots, vi x.slot]
def RReply.vs (x : RReply) : List V := [vu x.id, .str x.nick, .bool x.round, vu x.asker, vi x.slots, vi x.slot]
def Judge.vs (x : Judge) : List V := [vi x.now, .bool x.looked]
def In.vs (x : In) : List V := [vi x.next, .bool x.odd]
def Tell.ces (x : Tell) : List Ce := [.v (vi x.kind), .v (vu x.id), .v (.str x.body), oS x.devs .devs 2]

/-- The cells of a thing. -/
def Ob.enc : Ob → List Ce
  | .strs l => l.map fun s => .v (.str s)
  | .ints k l => l.map fun n => .v (.int k n)
  | .bools l => l.map fun b => .v (.bool b)
  | .rows k l => l.map fun o => oS o (.ints k) 1
  | .xids l => l.flatMap fun x => x.vs.map .v
  | .devs l => l.flatMap fun x => x.vs.map .v
  | .asks l => l.flatMap fun x => x.vs.map .v
  | .tells l => l.flatMap Tell.ces
  | .plains l => l.flatMap fun x => x.vs.map .v
  | .offers l => l.flatMap fun x => x.vs.map .v
  | .seens l => l.flatMap fun x => x.vs.map .v
  | .heards l => l.flatMap fun x => [.v (vi x.src), .v (vi x.dst), oS x.bytes (.ints .u8) 1, .v (.bool x.fine)]
  | .tolds l => l.flatMap fun x => .v (vi x.at_) :: x.tell.ces
  | .sendings l => l.map fun o => oP o .sending
  | .stations l => l.map fun x => .p (.station x)
  | .sending x => [oS x.b (.ints .u8) 1, .v (vi x.left), oS x.heard .bools 1]
  | .reply x => x.vs.map .v
  | .rreply x => x.vs.map .v
  | .log x => [.v (vu x.me), oS x.devs .devs 2, oS x.slots (.ints .i64) 1, oS x.clash (.ints .u32) 1]
  | .rlog x => [.v (vu x.me), oS x.l .seens 3, oS x.clash (.ints .u32) 1]
  | .query x => x.x.vs.map .v ++ [.v (vi x.n), .p (.log x.log)]
  | .rquery x => [.v (vu x.me), .v (.str x.nick), .v (vi x.slots), .v (vi x.calls), .p (.rlog x.log)]
  | .box x => [oS x.l .asks 4]
  | .out x => [.v (vi x.win), oS x.l .strs 1, .v (vi x.first), .v (vi x.sent)]
  | .inn x => x.vs.map .v
  | .turn x => [.v (vi x.role), .v (vi x.size), .p (.out x.out), .p (.inn x.inn), .v (.bool x.mine)]
  | .link x => [.v (vu x.me), .v (vi x.seat), .v (vi x.o.baud), .v (vi x.o.silent), .v (vi x.o.win), .v (vi x.o.size), .v (vi x.o.wait), .v (vi x.state), .v (vu x.peer), .v (vi x.addr.seat), .v (vi x.addr.count),
      .v (vi x.deal.baud), .v (vi x.deal.silent), .v (vi x.deal.win), .v (vi x.deal.size), .v (vi x.deal.wait), oP x.t .turn, .v (vi x.count), .v (vi x.next.seat), .v (vi x.next.count),
      .v (vi x.tries), .v (vi x.patience), .v (vi x.pause), .v (vi x.silence), .v (.bool x.ends), .v (.bool x.resets), .v (.bool x.changes), oS x.owed .plains 9]
  | .station x => [.p (.reply x.r), .p (.link x.l), .p (.box x.b), oP x.q .query, oS x.log .devs 2, oS x.owed .plains 9, .v (vi x.quiet)]
  | .air x => [.v (vi x.n), oS x.sees .bools 1, oS x.now .sendings 1]
  | .cell x => [oS x.ss .stations 1, .p (.air x.a), .v (vi x.now)]
  | .judge x => x.vs.map .v
  | .play x => [.p (.cell x.c), .p (.judge x.j), .v (vi x.bad)]
  | .rx x => [.v (vi x.most), oS x.b (.ints .u8) 1, .v (.bool x.inn), .v (.bool x.escaped)]

/-- The cells of a thing that has none of its own but plain ones. -/
def Ob.row : Ob → Option (List V)
  | .strs l => some (l.map V.str)
  | .ints k l => some (l.map (V.int k))
  | .bools l => some (l.map V.bool)
  | .xids l => some (l.flatMap Xid.vs)
  | .devs l => some (l.flatMap Device.vs)
  | .asks l => some (l.flatMap Ask.vs)
  | .plains l => some (l.flatMap Plain.vs)
  | .offers l => some (l.flatMap Offer.vs)
  | .seens l => some (l.flatMap Seen.vs)
  | .reply x => some x.vs
  | .rreply x => some x.vs
  | .judge x => some x.vs
  | .inn x => some x.vs
  | _ => none

/-- Memory as a tree: the place of a block by its number. -/
inductive Tr where
  | nil
  | node (v : Option Blk) (l r : Tr)

def Tr.get (t : Tr) : Nat → Option Blk :=
  Tr.rec (motive := fun _ => Nat → Option Blk) (fun _ => none) (fun v _ _ gl gr i => cond (Nat.beq i 0) v (cond (Nat.beq (i % 2) 1) (gl (i / 2)) (gr (i / 2 - 1)))) t

def Tr.val (t : Tr) : Option Blk := Tr.casesOn (motive := fun _ => Option Blk) t none fun v _ _ => v
def Tr.left (t : Tr) : Tr := Tr.casesOn (motive := fun _ => Tr) t .nil fun _ l _ => l
def Tr.right (t : Tr) : Tr := Tr.casesOn (motive := fun _ => Tr) t .nil fun _ _ r => r

def Tr.setF (f : Nat) : Tr → Nat → Option Blk → Tr :=
  Nat.rec (motive := fun _ => Tr → Nat → Option Blk → Tr) (fun t _ _ => t) (fun _ ih t i b => cond (Nat.beq i 0) (.node b t.left t.right) (cond (Nat.beq (i % 2) 1) (.node t.val (ih t.left (i / 2) b) t.right) (.node t.val t.left (ih t.right (i / 2 - 1) b)))) f

structure Heap where
  t : Tr
  n : Nat

def Heap.get (h : Heap) (i : Nat) : Option Blk := h.t.get i
def Heap.put (h : Heap) (i : Nat) (b : Option Blk) : Heap := ⟨Tr.setF (i + 1) h.t i b, h.n⟩
def Heap.up (h : Heap) (k : Nat) : Heap := ⟨h.t, h.n + k⟩

/-- Lists of slots. -/
def nth (l : List V) : Nat → V :=
  List.rec (motive := fun _ => Nat → V) (fun _ => undefV) (fun v _ ih n => Nat.casesOn (motive := fun _ => V) n v ih) l
theorem nth_nil (n : Nat) : nth [] n = undefV := rfl
theorem nth_zero (v : V) (l : List V) : nth (v :: l) 0 = v := rfl
theorem nth_succ (v : V) (l : List V) (n : Nat) : nth (v :: l) (n + 1) = nth l n := rfl
def upd (l : List V) : Nat → V → List V :=
  List.rec (motive := fun _ => Nat → V → List V) (fun _ _ => []) (fun x l ih n v => Nat.casesOn (motive := fun _ => List V) n (v :: l) fun n => x :: ih n v) l
theorem upd_nil (n : Nat) (v : V) : upd [] n v = [] := rfl
theorem upd_zero (x : V) (l : List V) (v : V) : upd (x :: l) 0 v = v :: l := rfl
theorem upd_succ (x : V) (l : List V) (n : Nat) (v : V) : upd (x :: l) (n + 1) v = x :: upd l n v := rfl
/-- The cell of a row; none: there is none. -/
def cellAt : List V → Nat → Option V
  | [], _ => none
  | v :: _, 0 => some v
  | _ :: l, n + 1 => cellAt l n
/-- A row in which cells are written from a place on; none: they do not fit. -/
def putAt : List V → Nat → List V → Option (List V)
  | l, 0, [] => some l
  | _ :: l, 0, v :: vs => (putAt l 0 vs).map (v :: ·)
  | [], 0, _ :: _ => none
  | x :: l, n + 1, vs => (putAt l n vs).map (x :: ·)
  | [], _ + 1, _ => none
/-- So many cells from a place on. -/
def takeN : List V → Nat → Option (List V)
  | _, 0 => some []
  | [], _ + 1 => none
  | v :: l, n + 1 => (takeN l n).map (v :: ·)
def cellsAt : List V → Nat → Nat → Option (List V)
  | l, 0, k => takeN l k
  | [], _ + 1, k => if k = 0 then some [] else none
  | _ :: l, n + 1, k => cellsAt l n k

def putD (t : List V) (d : Option Nat) (v : V) : List V :=
  match d with
  | some d => upd t d v
  | none => t

inductive Opd where
  | tmp (t : Nat)
  | cst (v : V)

def Opd.ev (t : List V) : Opd → V
  | .tmp i => nth t i
  | .cst v => v

def V.cells : V → List V
  | .agg l => l
  | v => [v]

/-- A value that one cell holds. -/
def V.one : V → Bool
  | .agg _ => false
  | .tup _ => false
  | _ => true
/-- No row of answers. -/
def V.nt : V → Bool
  | .tup _ => false
  | _ => true
def allOne : List V → Bool
  | [] => true
  | v :: l => v.one && allOne l

/-- Whole numbers of a kind. -/
def wrapK (k : IntKind) (n : Int) : Int :=
  match k with
  | .u8 => n % 256
  | .u16 => n % 65536
  | .u32 => n % 4294967296
  | .u64 => n % 18446744073709551616
  | .i8 => if n % 256 ≥ 128 then n % 256 - 256 else n % 256
  | .i16 => if n % 65536 ≥ 32768 then n % 65536 - 65536 else n % 65536
  | .i32 => if n % 4294967296 ≥ 2147483648 then n % 4294967296 - 4294967296 else n % 4294967296
  | .i64 => if n % 18446744073709551616 ≥ 9223372036854775808 then n % 18446744073709551616 - 18446744073709551616 else n % 18446744073709551616

def modK (k : IntKind) : Nat :=
  match k with
  | .u8 | .i8 => 256
  | .u16 | .i16 => 65536
  | .u32 | .i32 => 4294967296
  | .u64 | .i64 => 18446744073709551616

/-- A number's bits, as one that is not below zero. -/
def bitsK (k : IntKind) (n : Int) : Nat := (n % (modK k : Int)).toNat

def binI (op : BinOp) (k : IntKind) (a b : Int) : Option V :=
  match op with
  | .add => some (.int k (wrapK k (a + b)))
  | .sub => some (.int k (wrapK k (a - b)))
  | .mul => some (.int k (wrapK k (a * b)))
  | .quo => if b = 0 then none else some (.int k (wrapK k (a.tdiv b)))
  | .rem => if b = 0 then none else some (.int k (a.tmod b))
  | .and => some (.int k (wrapK k (Nat.land (bitsK k a) (bitsK k b))))
  | .or => some (.int k (wrapK k (Nat.lor (bitsK k a) (bitsK k b))))
  | .xor => some (.int k (wrapK k (Nat.xor (bitsK k a) (bitsK k b))))
  | .andNot => some (.int k (wrapK k (Nat.land (bitsK k a) (modK k - 1 - bitsK k b))))
  | .eql => some (.bool (a == b))
  | .neq => some (.bool (a != b))
  | .lss => some (.bool (a < b))
  | .leq => some (.bool (a ≤ b))
  | .gtr => some (.bool (a > b))
  | .geq => some (.bool (a ≥ b))
  | _ => none

def bitsOf (k : IntKind) : Nat :=
  match k with
  | .i8 | .u8 => 8
  | .i16 | .u16 => 16
  | .i32 | .u32 => 32
  | .i64 | .u64 => 64

/-- x << n, x >> n. -/
def shlI (k : IntKind) (a b : Int) : Option V :=
  if b < 0 then none else some (.int k (wrapK k (a * ((2 ^ (min b.toNat (bitsOf k)) : Nat) : Int))))
def shrI (k : IntKind) (a b : Int) : Option V :=
  if b < 0 then none else some (.int k (a.fdiv ((2 ^ (min b.toNat (bitsOf k)) : Nat) : Int)))

def bound : Nat := 4611686018427387904

/-- An operation on two numbers, or on two strings. -/
def binV (op : BinOp) (x y : V) : Option V :=
  match x, y with
  | .int k a, .int k' b =>
    match op with
    | .shl => shlI k a b
    | .shr => shrI k a b
    | op => if k = k' then binI op k a b else none
  | .str a, .str b =>
    match op with
    | .add => if a.length + b.length ≤ bound then some (.str (a ++ b)) else none
    | .eql => some (.bool (a == b))
    | .neq => some (.bool (!(a == b)))
    | _ => none
  | _, _ => none

/-- The kinds of a plain struct's fields. -/
inductive FK where
  | b | i | s
  deriving DecidableEq

/-- What '==' is asked of, besides numbers and strings. -/
inductive EqC where
  | bool | ptr | slice | iface | map | fn
  | agg (ks : List FK)

def eqCells : List FK → List V → List V → Option Bool
  | [], [], [] => some true
  | .b :: ks, .bool a :: xs, .bool b :: ys => if a == b then eqCells ks xs ys else some false
  | .i :: ks, .int k a :: xs, .int k' b :: ys => if k = k' then (if a == b then eqCells ks xs ys else some false) else none
  | .s :: ks, .str a :: xs, .str b :: ys => if a == b then eqCells ks xs ys else some false
  | _, _, _ => none

def eqV (c : EqC) (x y : V) : Option Bool :=
  match c, x, y with
  | .bool, .bool a, .bool b => some (a == b)
  | .ptr, .nilp, .nilp => some true
  | .ptr, .nilp, .ptr _ _ => some false
  | .ptr, .ptr _ _, .nilp => some false
  | .slice, .nils, .nils => some true
  | .slice, .nils, .slice _ _ _ _ _ => some false
  | .slice, .slice _ _ _ _ _, .nils => some false
  | .iface, .nili, .nili => some true
  | .iface, .nili, .iface _ _ => some false
  | .iface, .iface _ _, .nili => some false
  | .map, .nilm, .nilm => some true
  | .map, .nilm, .map _ => some false
  | .map, .map _, .nilm => some false
  | .fn, .nilf, .nilf => some true
  | .fn, .nilf, .func _ _ => some false
  | .fn, .func _ _, .nilf => some false
  | .agg ks, .agg a, .agg b => eqCells ks a b
  | _, _, _ => none

def asI : V → Option Int
  | .int _ n => some n
  | _ => none

/-- The bounds of x[lo:hi]: lo, hi and where the capacity ends; 'most': how far hi may go. -/
def bndHi (len most : Nat) (hi : Option V) : Option Nat :=
  match hi with
  | none => some len
  | some v => match asI v with
    | some i => if 0 ≤ i ∧ i ≤ (most : Int) then some i.toNat else none
    | none => none
def bndLo (h : Nat) (lo : Option V) : Option Nat :=
  match lo with
  | none => some 0
  | some v => match asI v with
    | some i => if 0 ≤ i ∧ i ≤ (h : Int) then some i.toNat else none
    | none => none

def extractL (s : List UInt8) (l h : Nat) : List UInt8 := (s.drop l).take (h - l)

/-- x[lo:hi:mx] of a slice. -/
def sliceV (esz : Nat) (x : V) (lo hi mx : Option V) : Option V :=
  match x with
  | .nils =>
    match mx with
    | none => (bndHi 0 0 hi).bind fun h => (bndLo h lo).bind fun _ => some .nils
    | some _ => none
  | .slice id off len e cap =>
    if e = esz then
      match mx with
      | none =>
        (bndHi len (cap.getD len) hi).bind fun h => (bndLo h lo).bind fun l => some (.slice id (off + l * esz) (h - l) esz (cap.map (· - l)))
      | some m =>
        (bndHi len (cap.getD len) (some m)).bind fun m => if hi.isSome then (bndHi len m hi).bind fun h => (bndLo h lo).bind fun l => some (.slice id (off + l * esz) (h - l) esz (some (m - l))) else none
    else none
  | _ => none

def sliceS (x : V) (lo hi : Option V) : Option V :=
  match x with
  | .str s => (bndHi s.length s.length hi).bind fun h => (bndLo h lo).bind fun l => some (.str (extractL s l h))
  | _ => none

def idxS (esz : Nat) (x i : V) : Option V :=
  match x, i with
  | .slice id off len e _, .int _ n => if e = esz ∧ 0 ≤ n ∧ n < (len : Int) then some (.ptr id (off + n.toNat * esz)) else none
  | _, _ => none
def idxA (len esz : Nat) (x i : V) : Option V :=
  match x, i with
  | .ptr id off, .int _ n => if 0 ≤ n ∧ n < (len : Int) then some (.ptr id (off + n.toNat * esz)) else none
  | _, _ => none
def idxStr (x i : V) : Option V :=
  match x, i with
  | .str s, .int _ n => if 0 ≤ n then (s[n.toNat]?).map fun b => .int .u8 b.toNat else none
  | _, _ => none

/-- A part of a struct, or of an array, by value. -/
def partV (l : List V) (off sz : Nat) (agg : Bool) : Option V :=
  if agg then (cellsAt l off sz).map .agg else cellAt l off
def fieldV (off sz : Nat) (agg : Bool) (x : V) : Option V :=
  match x with
  | .agg l => partV l off sz agg
  | _ => none
def idxArr (len sz : Nat) (agg : Bool) (x i : V) : Option V :=
  match x, i with
  | .agg l, .int _ n => if 0 ≤ n ∧ n < (len : Int) then partV l (n.toNat * sz) sz agg else none
  | _, _ => none

def tassertV (t : Nat) (zero : V) (ok : Bool) (x : V) : Option V :=
  match x with
  | .nili => if ok then some (.tup [zero, .bool false]) else none
  | .iface t' v => if t' = t then some (if ok then .tup [v, .bool true] else v) else if ok then some (.tup [zero, .bool false]) else none
  | _ => none

def lenStr (x : V) : Option V :=
  match x with
  | .str s => some (.int .i64 s.length)
  | _ => none
def lenV (x : V) : Option V :=
  match x with
  | .nils => some (.int .i64 0)
  | .slice _ _ n _ _ => some (.int .i64 n)
  | _ => none
def capV (x : V) : Option V :=
  match x with
  | .nils => some (.int .i64 0)
  | .slice _ _ _ _ (some c) => some (.int .i64 c)
  | _ => none

def minV : V → List V → Option V
  | x, [] => some x
  | .int k a, .int _ b :: l => minV (.int k (if b < a then b else a)) l
  | _, _ => none
def maxV : V → List V → Option V
  | x, [] => some x
  | .int k a, .int _ b :: l => maxV (.int k (if b > a then b else a)) l
  | _, _ => none

/-- Parts that are laid into a row: each with its place and its size. -/
def fillV : List V → List (Nat × Nat × V) → Option (List V)
  | cs, [] => some cs
  | cs, (off, sz, v) :: rest =>
    if v.nt = true ∧ v.cells.length = sz then (putAt cs off v.cells).bind fun cs => fillV cs rest else none

/-- Operations that ask nothing of memory. -/
inductive PK where
  | mov (x : Opd)
  | pick (c a b : Opd)
  | build (zero : List V) (parts : List (Nat × Nat × Opd))
  | nilCheck (x : Opd)
  | bin (op : BinOp) (x y : Opd)
  | eq (c : EqC) (neg : Bool) (x y : Opd)
  | neg (x : Opd)
  | not (x : Opd)
  | xor (x : Opd)
  | conv (k : IntKind) (x : Opd)
  | isStr (x : Opd)
  | mkI (t : Nat) (x : Opd)
  | mkF (f : Nat) (caps : List Opd)
  | slice (esz : Nat) (x : Opd) (lo hi mx : Option Opd)
  | sliceS (x : Opd) (lo hi : Option Opd)
  | fieldA (off : Nat) (x : Opd)
  | field (off sz : Nat) (agg : Bool) (x : Opd)
  | idxS (esz : Nat) (x i : Opd)
  | idxA (len esz : Nat) (x i : Opd)
  | idxStr (x i : Opd)
  | idxArr (len sz : Nat) (agg : Bool) (x i : Opd)
  | tassert (t : Nat) (zero : V) (ok : Bool) (x : Opd)
  | extract (x : Opd) (i : Nat)
  | len (x : Opd)
  | lenStr (x : Opd)
  | lenA (n : Nat)
  | cap (x : Opd)
  | min (x : Opd) (xs : List Opd)
  | max (x : Opd) (xs : List Opd)
  | bad

def evs (t : List V) : List Opd → List V
  | [] => []
  | x :: l => x.ev t :: evs t l
def evO (t : List V) : Option Opd → Option V
  | none => none
  | some x => some (x.ev t)
def evP (t : List V) : List (Nat × Nat × Opd) → List (Nat × Nat × V)
  | [] => []
  | (o, s, x) :: l => (o, s, x.ev t) :: evP t l

def PK.ev (t : List V) : PK → Option V
  | .mov x => some (x.ev t)
  | .pick c a b => match c.ev t with | .bool true => some (a.ev t) | .bool false => some (b.ev t) | _ => none
  | .build z ps => (fillV z (evP t ps)).map .agg
  | .nilCheck x => match x.ev t with | .ptr i o => some (.ptr i o) | .func f c => some (.func f c) | _ => none
  | .bin op x y => binV op (x.ev t) (y.ev t)
  | .eq c n x y => (eqV c (x.ev t) (y.ev t)).map fun b => .bool (if n then !b else b)
  | .neg x => match x.ev t with | .int k n => some (.int k (wrapK k (0 - n))) | _ => none
  | .not x => match x.ev t with | .bool b => some (.bool !b) | _ => none
  | .xor x => match x.ev t with | .int k n => some (.int k (wrapK k (Nat.xor (modK k - 1) (bitsK k n)))) | _ => none
  | .conv k x => match x.ev t with | .int _ n => some (.int k (wrapK k n)) | _ => none
  | .isStr x => match x.ev t with | .str s => some (.str s) | _ => none
  | .mkI ty x => some (.iface ty (x.ev t))
  | .mkF f cs => some (.func f (evs t cs))
  | .slice e x lo hi mx => sliceV e (x.ev t) (evO t lo) (evO t hi) (evO t mx)
  | .sliceS x lo hi => Gw.sliceS (x.ev t) (evO t lo) (evO t hi)
  | .fieldA off x => match x.ev t with | .ptr id o => some (.ptr id (o + off)) | _ => none
  | .field off sz agg x => fieldV off sz agg (x.ev t)
  | .idxS e x i => Gw.idxS e (x.ev t) (i.ev t)
  | .idxA n e x i => Gw.idxA n e (x.ev t) (i.ev t)
  | .idxStr x i => Gw.idxStr (x.ev t) (i.ev t)
  | .idxArr n sz agg x i => Gw.idxArr n sz agg (x.ev t) (i.ev t)
  | .tassert ty z ok x => tassertV ty z ok (x.ev t)
  | .extract x i => match x.ev t with | .tup l => cond (isAnyL l) none (cellAt l i) | _ => none
  | .len x => lenV (x.ev t)
  | .lenStr x => Gw.lenStr (x.ev t)
  | .lenA n => some (.int .i64 n)
  | .cap x => capV (x.ev t)
  | .min x xs => minV (x.ev t) (evs t xs)
  | .max x xs => maxV (x.ev t) (evs t xs)
  | .bad => none

/-- Operations that read memory. -/
inductive RK where
  | ld (x : Opd)
  | ldN (n : Nat) (x : Opd)
  | b2s (x : Opd)
  | r2s (x : Opd)
  | lk (zero : V) (m k : Opd)

/-- One of these, its operand known. -/
inductive RV where
  | ld (id off : Nat)
  | ldN (id off n : Nat)
  | b2s (id off n : Nat)
  | r2s (id off n : Nat)
  | lk (zero : V) (id : Nat) (k : IntKind) (n : Int)
  | nos

def RK.res (t : List V) : RK → Option RV
  | .ld x => match x.ev t with | .ptr id off => some (.ld id off) | _ => none
  | .ldN n x => match x.ev t with | .ptr id off => some (.ldN id off n) | _ => none
  | .b2s x => match x.ev t with | .nils => some .nos | .slice id off n e _ => if e = 1 then some (.b2s id off n) else none | _ => none
  | .r2s x => match x.ev t with | .nils => some .nos | .slice id off n e _ => if e = 1 then some (.r2s id off n) else none | _ => none
  | .lk z m k => match m.ev t, k.ev t with | .map id, .int k n => some (.lk z id k n) | _, _ => none

def bytesOf : List V → Option (List UInt8)
  | [] => some []
  | .int .u8 n :: l => (bytesOf l).map (UInt8.ofNat n.toNat :: ·)
  | _ :: _ => none
def runesOf : List V → Option (List UInt8)
  | [] => some []
  | .int .i32 n :: l => (runesOf l).map ((Utf8.encode n).data.toList ++ ·)
  | _ :: _ => none

def rowOf (h : Heap) (id : Nat) : Option (List V) :=
  match h.get id with
  | some (.cells _ l) => some l
  | some (.obj x) => x.row
  | _ => none
def rowW (h : Heap) (id : Nat) : Option (List V) :=
  match h.get id with
  | some (.cells false l) => some l
  | _ => none

/-- n cells of a block; none are always there. -/
def rdN (h : Heap) (id off n : Nat) : Option (List V) :=
  if n = 0 then some [] else (rowOf h id).bind fun l => cellsAt l off n

/-- The entry of a number in a map; 'none' outside: a key that is no number of that kind. -/
def findE (k : IntKind) (n : Int) : List (V × V) → Option (Option V)
  | [] => some none
  | (.int k' m, v) :: es => if k = k' then (if n == m then some (some v) else findE k n es) else none
  | _ :: _ => none
def mapOf (h : Heap) (id : Nat) : Option (List (V × V)) :=
  match h.get id with
  | some (.mp es) => some es
  | _ => none

def RV.rd (h : Heap) : RV → Option V
  | .ld id off => (rowOf h id).bind fun l => cellAt l off
  | .ldN id off n => (rdN h id off n).map .agg
  | .b2s id off n => (rdN h id off n).bind fun l => (bytesOf l).map .str
  | .r2s id off n => (rdN h id off n).bind fun l => (runesOf l).map .str
  | .lk z id k n => (mapOf h id).bind fun es => (findE k n es).map fun o => o.getD z
  | .nos => some (.str [])

/-- Operations that make a block, and do nothing else. -/
inductive AK where
  | alloc (zero : List V)
  | box (x : Opd)
  | bslice (esz : Nat) (zeros : List V) (len : Nat) (parts : List (Nat × Nat × Opd))
  | s2b (x : Opd)
  | mkslice (esz bytes : Nat) (zero : List V) (len cap : Opd)
  | iter (x : Opd)
  | mkmap

def repL (z : List V) : Nat → List V
  | 0 => []
  | n + 1 => z ++ repL z n

def byteVs : List UInt8 → List V
  | [] => []
  | b :: l => .int .u8 b.toNat :: byteVs l

/-- The block, and the value that names it. -/
def AK.mk (t : List V) (id : Nat) : AK → Option (Blk × V)
  | .alloc z => some (.cells false z, .ptr id 0)
  | .box x => if (x.ev t).nt = true then some (.cells false (x.ev t).cells, .ptr id 0) else none
  | .bslice e zs n ps => (fillV zs (evP t ps)).map fun cs => (.cells false cs, .slice id 0 n e (some n))
  | .s2b x => match x.ev t with | .str s => some (.cells false (byteVs s), .slice id 0 s.length 1 none) | _ => none
  | .mkslice e bytes z l c =>
    match l.ev t, c.ev t with
    | .int _ l, .int _ c =>
      if 0 ≤ l ∧ l ≤ c ∧ c * bytes ≤ 281474976710656 ∧ c ≤ 281474976710656 then some (.cells false (repL z c.toNat), .slice id 0 l.toNat e (some c.toNat)) else none
    | _, _ => none
  | .iter x => match x.ev t with | .str s => some (.iter s 0, .ptr id 0) | _ => none
  | .mkmap => some (.mp [], .map id)

/-- Operations that turn memory. -/
inductive EK where
  | store (n : Nat) (a x : Opd)
  | call (f : Opd) (args : List Opd)
  | append (esz bytes : Nat) (s x : Opd)
  | appendZ (esz bytes : Nat) (zero : List V) (s x : Opd)
  | copy (esz : Nat) (d s : Opd)
  | clear (esz : Nat) (zero : List V) (x : Opd)
  | next (x : Opd)
  | froz (x : Opd)
  | insert (m k x : Opd)

/-- Cells are written into a block. -/
def wrN (h : Heap) (id off : Nat) (vs : List V) : Option Heap :=
  if allOne vs then (rowW h id).bind fun l => (putAt l off vs).map fun l => h.put id (some (.cells false l)) else none

def storeV (n : Nat) (a x : V) (h : Heap) : Option Heap :=
  match a with
  | .ptr id off => if x.cells.length = n then wrN h id off x.cells else none
  | _ => none

/-- What 'append' adds: the cells, and how many elements. -/
def addedV (h : Heap) (esz : Nat) (x : V) : Option (List V × Nat) :=
  match x with
  | .nils => some ([], 0)
  | .slice id off n e _ => if e = esz then (rdN h id off (n * esz)).map fun l => (l, n) else none
  | .str s => if esz = 1 then some (byteVs s, s.length) else none
  | _ => none

/-- s with n elements more, of cells 'vs'. A slice whose capacity is open gives its block away. -/
def appendV (h : Heap) (esz bytes : Nat) (s : V) (vs : List V) (n : Nat) : Option (V × Heap) :=
  if allOne vs then
    match s with
    | .nils =>
      if n = 0 then some (.nils, h)
      else if n * bytes ≤ 70368744177664 then some (.slice h.n 0 n esz none, (h.put h.n (some (.cells false vs))).up 1) else none
    | .slice id off len e cap =>
      if e = esz then
        if n = 0 then some (s, h)
        else if (len + n) * bytes ≤ 70368744177664 then
          match cap with
          | some c =>
            if len + n ≤ c then (wrN h id (off + len * esz) vs).map fun h => (.slice id off (len + n) esz cap, h)
            else (rdN h id off (len * esz)).map fun old => (.slice h.n 0 (len + n) esz none, (h.put h.n (some (.cells false (old ++ vs)))).up 1)
          | none =>
            (rowW h id).bind fun l => (cellsAt l off (len * esz)).map fun old => (.slice h.n 0 (len + n) esz none, ((h.put id (some .dead)).put h.n (some (.cells false (old ++ vs)))).up 1)
        else none
      else none
    | _ => none
  else none

def copyV (h : Heap) (esz : Nat) (d s : V) : Option (V × Heap) :=
  match d with
  | .nils => match s with
    | .nils => some (.int .i64 0, h)
    | .slice _ _ _ e _ => if e = esz then some (.int .i64 0, h) else none
    | .str _ => if esz = 1 then some (.int .i64 0, h) else none
    | _ => none
  | .slice id off len e _ =>
    if e = esz then
      match s with
      | .nils => some (.int .i64 0, h)
      | .slice id' off' n e' _ =>
        if e' = esz then
          if Nat.min n len = 0 then some (.int .i64 0, h)
          else (rdN h id' off' (Nat.min n len * esz)).bind fun vs => (wrN h id off vs).map fun h => (.int .i64 (Nat.min n len : Nat), h)
        else none
      | .str b =>
        if esz = 1 then
          if Nat.min b.length len = 0 then some (.int .i64 0, h)
          else (wrN h id off (byteVs (b.take (Nat.min b.length len)))).map fun h => (.int .i64 (Nat.min b.length len : Nat), h)
        else none
      | _ => none
    else none
  | _ => none

def clearV (h : Heap) (esz : Nat) (zero : List V) (x : V) : Option Heap :=
  match x with
  | .nils => some h
  | .slice id off n e _ => if e = esz then if n = 0 then some h else wrN h id off (repL zero n) else none
  | _ => none

/-- The rune at a place of a string, and its bytes. -/
def decodeL (s : List UInt8) (i : Nat) : Nat × Nat := Utf8.decode ⟨⟨s⟩⟩ i

def nextV (h : Heap) (x : V) : Option (V × Heap) :=
  match x with
  | .ptr id 0 => match h.get id with
    | some (.iter s pos) =>
      if pos < s.length then
        some (.tup [.bool true, .int .i64 pos, .int .i32 (decodeL s pos).1], h.put id (some (.iter s (pos + (decodeL s pos).2))))
      else some (.tup [.bool false], h)
    | _ => none
  | _ => none

/-- Fresh bytes are marked as a string's: nothing that is read turns. -/
def frozV (h : Heap) (x : V) : Option (V × Heap) :=
  match x with
  | .slice id _ n e _ => if 0 < n ∧ e = 1 then (rowW h id).map fun _ => (x, h) else none
  | _ => none

/-- An entry that is not there yet. -/
def insertV (h : Heap) (m k x : V) : Option Heap :=
  match m, k with
  | .map id, .int kd n => (mapOf h id).bind fun es => match findE kd n es with
    | some none => some (h.put id (some (.mp (es ++ [(.int kd n, x)]))))
    | _ => none
  | _, _ => none

abbrev Cl := Nat → List V → Heap → Option (V × Heap)

def callV (cl : Cl) (f : V) (args : List V) (h : Heap) : Option (V × Heap) :=
  match f with
  | .func f cap => cl f (args ++ cap) h
  | _ => none

def EK.run (cl : Cl) (t : List V) (h : Heap) : EK → Option (V × Heap)
  | .store n a x => (storeV n (a.ev t) (x.ev t) h).map fun h => (undefV, h)
  | .call f args => callV cl (f.ev t) (evs t args) h
  | .append e b s x => (addedV h e (x.ev t)).bind fun p => appendV h e b (s.ev t) p.1 p.2
  | .appendZ e b z s x => match x.ev t with
    | .int _ n => if 0 ≤ n ∧ n * b ≤ 70368744177664 ∧ n ≤ 70368744177664 then appendV h e b (s.ev t) (repL z n.toNat) n.toNat else none
    | _ => none
  | .copy e d s => copyV h e (d.ev t) (s.ev t)
  | .clear e z x => (clearV h e z (x.ev t)).map fun h => (undefV, h)
  | .next x => nextV h (x.ev t)
  | .froz x => frozV h (x.ev t)
  | .insert m k x => (insertV h (m.ev t) (k.ev t) (x.ev t)).map fun h => (undefV, h)

inductive K where
  | p (k : PK)
  | r (k : RK)
  | a (slot : Nat) (k : AK)
  | e (k : EK)

/-- An operation of a region: where its answer goes; its guard; whether its reading is looked at again ('wt'), and which readings are looked at behind it ('cs'). -/
structure DOp where
  i : Nat
  dst : Option Nat
  g : Option (Nat × Bool)
  k : K
  wt : Bool
  cs : List Nat

structure RS where
  t : List V
  h : Heap
  w : Nat → Option (RV × V)

def wset (w : Nat → Option (RV × V)) (i : Nat) (x : RV × V) : Nat → Option (RV × V) := fun j => if j = i then some x else w j

def okW (w : Nat → Option (RV × V)) (h : Heap) : List Nat → Bool
  | [] => true
  | j :: l => (match w j with
    | none => true
    | some (r, x) => match r.rd h with
      | some y => V.beq y x
      | none => false) && okW w h l

def wantD (g : Option (Nat × Bool)) (t : List V) : Bool :=
  match g with
  | none => true
  | some (j, b) => match nth t j with
    | .bool c => c == b
    | _ => false

def stepK (cl : Cl) (b : Nat) (o : DOp) (s : RS) : K → Option RS
  | .p k => (k.ev s.t).bind fun v => some ⟨putD s.t o.dst v, s.h, s.w⟩
  | .r k => (k.res s.t).bind fun r => (r.rd s.h).bind fun v => some ⟨putD s.t o.dst v, s.h, if o.wt then wset s.w o.i (r, v) else s.w⟩
  | .a sl k => match s.h.get (b + sl) with
    | none => if b + sl < s.h.n then (k.mk s.t (b + sl)).bind fun p => some ⟨putD s.t o.dst p.2, s.h.put (b + sl) (some p.1), s.w⟩ else none
    | some _ => none
  | .e k => (k.run cl s.t s.h).bind fun p => cond (okW s.w p.2 o.cs) (some ⟨putD s.t o.dst p.1, p.2, s.w⟩) none

/-- A guard is known. -/
def gok (g : Option (Nat × Bool)) (t : List V) : Bool :=
  match g with
  | none => true
  | some (j, _) => !(nth t j).isAny

def stepOp (cl : Cl) (b : Nat) (o : DOp) (s : RS) : Option RS :=
  cond (gok o.g s.t) (cond (wantD o.g s.t) (stepK cl b o s o.k) (some ⟨putD s.t o.dst undefV, s.h, s.w⟩)) none

def runOps (cl : Cl) (b : Nat) : List DOp → RS → Option RS
  | [], s => some s
  | o :: l, s => (stepOp cl b o s).bind fun s => runOps cl b l s

/-- Code. A region says how many blocks its operations may make. -/
inductive DC where
  | skip
  | reg (n : Nat) (ops : List DOp)
  | seq (a b : DC)
  | cond (c : Opd) (a b : DC)
  | block (id : Nat) (a : DC)
  | loop (a : DC)
  | exit (id : Nat)
  | ret

inductive Ex where
  | normal
  | exit (id : Nat)
  | ret

structure St where
  t : List V
  h : Heap

def loopN (body : St → Option (Ex × St)) : Nat → St → Option (Ex × St)
  | 0, _ => none
  | n + 1, s => (body s).bind fun p => match p.1 with
    | .normal => loopN body n p.2
    | .exit i => some (.exit i, p.2)
    | .ret => some (.ret, p.2)

def regV (cl : Cl) (n : Nat) (ops : List DOp) (s : St) : Option St :=
  (runOps cl s.h.n ops ⟨s.t, s.h.up n, fun _ => none⟩).map fun r => ⟨r.t, r.h⟩

/-- How a loop is: by the block that it stands in, its body, what its body does. -/
abbrev Lp := Nat → DC → (St → Option (Ex × St)) → St → Option (Ex × St)
def lpN (n : Nat) : Lp := fun _ _ b => loopN b (n + 400)

/-- Code is run; 'lp': how a loop is; 'k': the block that it stands in. -/
def evC (cl : Cl) (lp : Lp) (k : Nat) : DC → St → Option (Ex × St)
  | .skip, s => some (.normal, s)
  | .reg n ops, s => (regV cl n ops s).map fun s => (.normal, s)
  | .seq a b, s => (evC cl lp k a s).bind fun p => match p.1 with
    | .normal => evC cl lp k b p.2
    | .exit i => some (.exit i, p.2)
    | .ret => some (.ret, p.2)
  | .cond c a b, s => match c.ev s.t with
    | .bool true => evC cl lp k a s
    | .bool false => evC cl lp k b s
    | _ => none
  | .block id a, s => (evC cl lp id a s).map fun p => match p.1 with
    | .exit i => if i = id then (.normal, p.2) else (.exit i, p.2)
    | e => (e, p.2)
  | .loop a, s => lp k a (evC cl lp k a) s
  | .exit i, s => some (.exit i, s)
  | .ret, s => some (.ret, s)

/-- Where a result lies. -/
inductive Res where
  | tmp (t : Nat)
  | c1 (t : Nat)
  | cN (t n : Nat)

structure DF where
  nt : Nat
  body : DC
  res : List Res

def Res.get (t : List V) (h : Heap) : Res → Option V
  | .tmp i => some (nth t i)
  | .c1 i => match nth t i with | .ptr id off => (rowOf h id).bind fun l => cellAt l off | _ => none
  | .cN i n => match nth t i with | .ptr id off => (rdN h id off n).map .agg | _ => none

def resL (t : List V) (h : Heap) : List Res → Option (List V)
  | [] => some []
  | r :: l => (r.get t h).bind fun v => (resL t h l).map (v :: ·)

def resV (t : List V) (h : Heap) (rs : List Res) : Option V :=
  (resL t h rs).map fun l => match l with | [v] => v | l => .tup l

def pads : Nat → List V
  | 0 => []
  | n + 1 => undefV :: pads n

def enterV (d : DF) (args : List V) (h : Heap) : St := ⟨args ++ pads (d.nt - args.length), h⟩

def leaveV (d : DF) (p : Ex × St) : Option (V × Heap) :=
  match p.1 with
  | .exit _ => none
  | _ => (resV p.2.t p.2.h d.res).map fun v => (v, p.2.h)

def runF (cl : Cl) (lp : Lp) (d : DF) (args : List V) (h : Heap) : Option (V × Heap) :=
  (evC cl lp 0 d.body (enterV d args h)).bind (leaveV d)

/-- Functions that are not run, but answered. -/
abbrev Ext := Nat → Option (List V → Heap → Option (V × Heap))
def noExt : Ext := fun _ => none

/-- A function is called; n: how deep, and how many rounds. -/
def callN (X : Ext) (D : Nat → Option DF) : Nat → Nat → List V → Heap → Option (V × Heap)
  | 0, _, _, _ => none
  | n + 1, f, args, h => match X f with
    | some g => g args h
    | none => (D f).bind fun d => runF (callN X D n) (lpN n) d args h

end Gw
