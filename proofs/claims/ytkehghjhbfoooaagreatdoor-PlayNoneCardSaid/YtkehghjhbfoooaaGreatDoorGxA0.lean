/- The program's data, as plain Lean: what lies in its objects, its rows. -/
import GoSem.Core.Code
namespace Gw
open Go

abbrev Str := List UInt8

structure Xid where
  src : Int := 0
  dst : Int := 0
  slot : Int := 0
  slots : Int := 0
  anew : Bool := false
  nick : Str := []
structure Device where
  id : Int := 0
  nick : Str := []
structure Ask where
  kind : Int := 0
  n : Int := 0
  id : Int := 0
  body : Str := []
structure Tell where
  kind : Int := 0
  id : Int := 0
  body : Str := []
  devs : Option (List Device) := none
structure Addr2 where
  seat : Int := 0
  count : Int := 0
structure Plain where
  addr : Addr2 := {}
  cmd : Bool := false
  kind : Int := 0
  sort : Int := 0
  nr : Int := 0
  ns : Int := 0
  pf : Bool := false
  body : Str := []
structure Offer where
  baud : Int := 0
  silent : Int := 0
  win : Int := 0
  size : Int := 0
  wait : Int := 0
structure Deal where
  baud : Int := 0
  silent : Int := 0
  win : Int := 0
  size : Int := 0
  wait : Int := 0
structure Seen where
  id : Int := 0
  nick : Str := []
  slot : Int := 0

structure Reply where
  me : Int
  nick : Str
  round : Bool := false
  asker : Int := 0
  slots : Int := 0
  slot : Int := 0
structure RReply where
  id : Int
  nick : Str
  round : Bool := false
  asker : Int := 0
  slots : Int := 0
  slot : Int := 0
structure Log where
  me : Int
  devs : Option (List Device) := none
  slots : Option (List Int) := none
  clash : Option (List Int) := none
structure RLog where
  me : Int
  l : Option (List Seen) := none
  clash : Option (List Int) := none
structure Query where
  x : Xid
  n : Int := 0
  log : Log
structure RQuery where
  me : Int
  nick : Str
  slots : Int
  calls : Int := 0
  log : RLog
structure Box where
  l : Option (List Ask) := none
structure Out where
  win : Int
  l : Option (List Str) := none
  first : Int := 0
  sent : Int := 0
structure In where
  next : Int := 0
  odd : Bool := false
structure Turn where
  role : Int
  size : Int
  out : Out
  inn : In
  mine : Bool
structure Link where
  me : Int
  seat : Int
  o : Offer
  state : Int := 0
  peer : Int := 0
  addr : Addr2 := {}
  deal : Deal := {}
  t : Option Turn := none
  count : Int := 0
  next : Addr2 := {}
  tries : Int := 0
  patience : Int := 0
  pause : Int := 0
  silence : Int := 0
  ends : Bool := false
  resets : Bool := false
  changes : Bool := false
  owed : Option (List Plain) := none
structure Station where
  r : Reply
  l : Link
  b : Box
  q : Option Query := none
  log : Option (List Device) := none
  owed : Option (List Plain) := none
  quiet : Int := 0
structure Sending where
  b : Option (List Int)
  left : Int
  heard : Option (List Bool)
structure Air where
  n : Int
  sees : Option (List Bool)
  now : Option (List (Option Sending))
structure Heard where
  src : Int
  dst : Int
  bytes : Option (List Int)
  fine : Bool
structure Told where
  at_ : Int
  tell : Tell
structure Cell where
  ss : Option (List Station)
  a : Air
  now : Int := 0
structure Judge where
  now : Int := 0
  looked : Bool := false
structure Play where
  c : Cell
  j : Judge
  bad : Int := 0
structure Rx where
  most : Int
  b : Option (List Int) := none
  inn : Bool := false
  escaped : Bool := false

/-- What a block holds, read as one thing. -/
inductive Ob where
  | strs (l : List Str)
  | ints (k : IntKind) (l : List Int)
  | bools (l : List Bool)
  | rows (k : IntKind) (l : List (Option (List Int)))
  | xids (l : List Xid)
  | devs (l : List Device)
  | asks (l : List Ask)
  | tells (l : List Tell)
  | plains (l : List Plain)
  | offers (l : List Offer)
  | seens (l : List Seen)
  | heards (l : List Heard)
  | tolds (l : List Told)
  | sendings (l : List (Option Sending))
  | stations (l : List Station)
  | sending (x : Sending)
  | reply (x : Reply)
  | rreply (x : RReply)
  | log (x : Log)
  | rlog (x : RLog)
  | query (x : Query)
  | rquery (x : RQuery)
  | box (x : Box)
  | out (x : Out)
  | inn (x : In)
  | turn (x : Turn)
  | link (x : Link)
  | station (x : Station)
  | air (x : Air)
  | cell (x : Cell)
  | judge (x : Judge)
  | play (x : Play)
  | rx (x : Rx)

end Gw
