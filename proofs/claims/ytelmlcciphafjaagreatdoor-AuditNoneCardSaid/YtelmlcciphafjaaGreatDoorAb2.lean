/- The evaluator's operations: each answers a value and a heap, or nothing where it is not sure of every order and every capacity. -/
import Derived.Test.YtelmlcciphafjaaGreatDoorAb1
namespace Go.Proofs.Ab
open Go

variable (P : Program)

def szT (t : TypeId) : Option Nat := (P.info? t).map (·.size)
def byT (t : TypeId) : Option Nat := (P.info? t).map (·.bytes)
def aggT (t : TypeId) : Option Bool := match P.underlying t with
  | some (.struct _) => some true
  | some (.array _ _) => some true
  | some _ => some false
  | none => none
def zeroT (t : TypeId) : Option V := (P.info? t).bind fun i => match i.zero with
  | some v => ofV v
  | none => none

def loadT (h : H) (t : TypeId) (a : A) : Option V := match aggT P t with
  | some true => (szT P t).bind fun n => (h.cells a n).bind fun cs => some (.agg cs)
  | some false => h.cell a
  | none => none
def storeT {β : Type} (h : H) (t : TypeId) (a : A) (v : V) (k : H → Option β) : Option β := (szT P t).bind fun n =>
  bif Nat.beq v.cells.length n then h.put a v.cells k else none

def partT (t : TypeId) (cs : List V) (off : Nat) : Option V := match aggT P t with
  | some true => (szT P t).bind fun n => (takeV n (dropL off cs)).bind fun r => some (.agg r)
  | some false => (takeV 1 (dropL off cs)).bind fun
    | [v] => some v
    | _ => none
  | none => none

/-! ## Equality -/
def notBlank (s : String) : Bool := decide (s ≠ "_")

def eqV : Nat → TypeId → V → V → Option Bool
  | 0, _, _, _ => none
  | d + 1, t, x, y =>
    match P.underlying t with
    | some .bool => (match x, y with | .bool a, .bool b => some (a == b) | _, _ => none)
    | some (.int _) => (match x, y with | .int k a, .int k' b => if k = k' then some (decide (a = b)) else none | _, _ => none)
    | some .string => (match x, y with | .str a, .str b => some (bytesBeq a b) | _, _ => none)
    | some (.pointer e) => (match x, y with
      | .nilp, .nilp => some true
      | .nilp, .ptr _ => some false
      | .ptr _, .nilp => some false
      | .ptr a, .ptr b => if a.blk = b.blk ∧ a.ver = b.ver then (szT P e).bind fun n => bif Nat.beq n 0 then none else some (decide (a.off = b.off)) else none
      | _, _ => none)
    | some (.interface _) => (match x, y with
      | .niliface, .niliface => some true
      | .niliface, .iface _ _ => some false
      | .iface _ _, .niliface => some false
      | .iface tx vx, .iface ty vy => if tx = ty then (P.info? tx).bind fun i => bif i.comparable then eqV d tx vx vy else none else some false
      | _, _ => none)
    | some (.slice _) => (match x, y with
      | .nilsl, .nilsl => some true
      | .nilsl, .sl _ _ _ => some false
      | .sl _ _ _, .nilsl => some false
      | _, _ => none)
    | some (.map _ _) => (match x, y with
      | .nilmap, .nilmap => some true
      | .nilmap, .map _ => some false
      | .map _, .nilmap => some false
      | _, _ => none)
    | some (.func _ _ _) => (match x, y with
      | .nilfn, .nilfn => some true
      | .nilfn, .fn _ _ _ => some false
      | .fn _ _ _, .nilfn => some false
      | _, _ => none)
    | some (.struct fs) => (match x, y with
      | .agg xs, .agg ys => bif P.stoodInHeld t then none else eqFs (eqV d) fs.toList xs ys
      | _, _ => none)
    | some (.array n e) => (match x, y with
      | .agg xs, .agg ys => (szT P e).bind fun s => eqEs (eqV d) e s n 0 xs ys
      | _, _ => none)
    | _ => none
where
  eqFs (f : TypeId → V → V → Option Bool) : List Field → List V → List V → Option Bool
    | [], _, _ => some true
    | g :: gs, xs, ys => bif notBlank g.name then
        (partT P g.type xs g.offset).bind fun a => (partT P g.type ys g.offset).bind fun b => (f g.type a b).bind fun r =>
          bif r then eqFs f gs xs ys else some false
      else none
  eqEs (f : TypeId → V → V → Option Bool) (e : TypeId) (s : Nat) : Nat → Nat → List V → List V → Option Bool
    | 0, _, _, _ => some true
    | n + 1, i, xs, ys =>
        (partT P e xs (i * s)).bind fun a => (partT P e ys (i * s)).bind fun b => (f e a b).bind fun r =>
          bif r then eqEs f e s n (i + 1) xs ys else some false

/-- Enough levels for every type that is met. -/
def eqLevels : Nat := 12

/-! ## Arithmetic -/
def shV (op : BinOp) (k : IntKind) (a b : Int) : Option V :=
  if b < 0 then none else
  match op with
  | .shl => some (.int k (k.wrap (a * 2 ^ (min b.toNat k.bits))))
  | .shr => some (.int k (a.fdiv (2 ^ (min b.toNat k.bits))))
  | _ => none
def intV (op : BinOp) (k : IntKind) (a b : Int) : Option V :=
  match op with
  | .add => some (.int k (k.wrap (a + b)))
  | .sub => some (.int k (k.wrap (a - b)))
  | .mul => some (.int k (k.wrap (a * b)))
  | .quo => if b = 0 then none else some (.int k (k.wrap (a.tdiv b)))
  | .rem => if b = 0 then none else some (.int k (a.tmod b))
  | .and => some (.int k (k.wrap (BitVec.ofInt k.bits a &&& BitVec.ofInt k.bits b).toNat))
  | .or => some (.int k (k.wrap (BitVec.ofInt k.bits a ||| BitVec.ofInt k.bits b).toNat))
  | .xor => some (.int k (k.wrap (BitVec.ofInt k.bits a ^^^ BitVec.ofInt k.bits b).toNat))
  | .andNot => some (.int k (k.wrap (BitVec.ofInt k.bits a &&& ~~~ BitVec.ofInt k.bits b).toNat))
  | .eql => some (.bool (decide (a = b)))
  | .neq => some (.bool (!decide (a = b)))
  | .lss => some (.bool (decide (a < b)))
  | .leq => some (.bool (decide (a ≤ b)))
  | .gtr => some (.bool (decide (a > b)))
  | .geq => some (.bool (decide (a ≥ b)))
  | _ => none
def strV (op : BinOp) (a b : List UInt8) : Option V :=
  match op with
  | .add => bif Nat.ble (a.length + b.length) (2 ^ 40) then some (.str (a ++ b)) else none
  | .eql => some (.bool (bytesBeq a b))
  | .neq => some (.bool (!bytesBeq a b))
  | .lss => some (.bool (Op.bytesLess a b))
  | .leq => some (.bool (Op.bytesLess a b || bytesBeq a b))
  | .gtr => some (.bool (!(Op.bytesLess a b || bytesBeq a b)))
  | .geq => some (.bool (!Op.bytesLess a b))
  | _ => none
/-- May the model's guard of '==' stop here? -/
def guardV (t : TypeId) (cx cy : Bool) : V → V → Bool
  | .niliface, .niliface => cx || cy
  | .agg _, .agg _ => !P.eqGuardType P.depth t
  | .any _, _ => false
  | _, .any _ => false
  | _, _ => true
def binV (op : BinOp) (t : TypeId) (cx cy : Bool) (x y : V) : Option V :=
  match op with
  | .shl => (match x, y with | .int k a, .int _ b => shV .shl k a b | _, _ => none)
  | .shr => (match x, y with | .int k a, .int _ b => shV .shr k a b | _, _ => none)
  | op => match x, y with
    | .int k a, .int k' b => if k = k' then intV op k a b else none
    | .str a, .str b => strV op a b
    | x, y => match op with
      | .eql => bif guardV P t cx cy x y then (eqV P eqLevels t x y).bind fun b => some (.bool b) else none
      | .neq => bif guardV P t cx cy x y then (eqV P eqLevels t x y).bind fun b => some (.bool (!b)) else none
      | _ => none
def unV (op : UnOp) (x : V) : Option V :=
  match op with
  | .neg => (match x with | .int k n => some (.int k (k.wrap (0 - n))) | _ => none)
  | .xor => (match x with | .int k n => intV .xor k (if k.signed then -1 else k.max) n | _ => none)
  | .not => (match x with | .bool b => some (.bool !b) | _ => none)
  | .plus => none

/-! ## Maps -/
/-- A key that two values share just where they are one. -/
def plainV : V → Bool
  | .bool _ => true
  | .int _ _ => true
  | .str _ => true
  | _ => false
def plainVs : List V → Bool
  | [] => true
  | v :: vs => plainV v && plainVs vs
def plainK : V → Bool
  | .agg cs => plainVs cs
  | v => plainV v

def ckV : Nat → TypeId → V → Bool
  | 0, _, _ => false
  | d + 1, t, v =>
    match P.underlying t with
    | some (.interface _) => false
    | some (.struct fs) => (match v with | .agg cs => ckFs (ckV d) fs.toList cs | _ => false)
    | some (.array n e) => (match v, szT P e with | .agg cs, some s => ckEs (ckV d) e s n 0 cs | _, _ => false)
    | some _ => true
    | none => false
where
  ckFs (f : TypeId → V → Bool) : List Field → List V → Bool
    | [], _ => true
    | g :: gs, cs => notBlank g.name && (match partT P g.type cs g.offset with | some x => f g.type x && ckFs f gs cs | none => false)
  ckEs (f : TypeId → V → Bool) (e : TypeId) (s : Nat) : Nat → Nat → List V → Bool
    | 0, _, _ => true
    | n + 1, i, cs => match partT P e cs (i * s) with | some x => f e x && ckEs f e s n (i + 1) cs | none => false

def keyT (t : TypeId) : Option (TypeId × TypeId) := match P.underlying t with
  | some (.map k e) => some (k, e)
  | _ => none

/-- The place of a key, and its value. -/
def findV (kt : TypeId) (k : V) : List (V × V × Nat) → Nat → Option (Option (Nat × V × V × Nat))
  | [], _ => some none
  | e :: es, i => (eqV P eqLevels kt k e.1).bind fun b => bif b then some (some (i, e)) else findV kt k es (i + 1)
def setE (key val : V) : Nat → List (V × V × Nat) → List (V × V × Nat)
  | _, [] => []
  | 0, e :: es => (key, val, e.2.2) :: es
  | i + 1, e :: es => e :: setE key val i es
def delE : Nat → List (V × V × Nat) → List (V × V × Nat)
  | _, [] => []
  | 0, _ :: es => es
  | i + 1, e :: es => e :: delE i es
def bornE (b : Int) : List (V × V × Nat) → Nat → Option (Nat × V)
  | [], _ => none
  | e :: es, i => if (e.2.2 : Int) = b then some (i, e.1) else bornE b es (i + 1)

def H.mapAt (h : H) : B → Option (Nat × List (V × V × Nat) × Nat)
  | .own i => match h.own.get i with
    | some (.map es clock) => some (i, es, clock)
    | _ => none
  | _ => none

def lookupV (h : H) (t : TypeId) (m k : V) (ok : Bool) : Option V := (keyT P t).bind fun ke =>
  bif ckV P eqLevels ke.1 k then
    (match m with
    | .nilmap => some []
    | .map b => (h.mapAt b).bind fun x => some x.2.1
    | _ => none).bind fun es => (findV P ke.1 k es 0).bind fun r =>
      match r with
      | some (_, _, v, _) => some (if ok then .tup [v, .bool true] else v)
      | none => (zeroT P ke.2).bind fun z => some (if ok then .tup [z, .bool false] else z)
  else none
def updateV (h : H) (t : TypeId) (m k x : V) : Option H := (keyT P t).bind fun ke =>
  match m with
  | .map b => (h.mapAt b).bind fun y => bif ckV P eqLevels ke.1 k then
      (findV P ke.1 k y.2.1 0).bind fun r => match r with
      | some (i, old, _) => bif plainK k && V.beq old k then h.setK y.1 (.map (setE k x i y.2.1) y.2.2) some else none
      | none => h.setK y.1 (.map (y.2.1 ++ [(k, x, y.2.2)]) (y.2.2 + 1)) some
    else none
  | _ => none
def entryV (h : H) (t : TypeId) (m k : V) : Option (V × H) := (keyT P t).bind fun ke =>
  match m with
  | .map b => (h.mapAt b).bind fun y => bif ckV P eqLevels ke.1 k then
      (findV P ke.1 k y.2.1 0).bind fun r => match r with
      | some (i, old, v, born) => bif plainK k && V.beq old k then h.setK y.1 (.map (setE k v i y.2.1) y.2.2) fun h => some (.tup [v, .int .i64 born], h) else none
      | none => (zeroT P ke.2).bind fun z => h.setK y.1 (.map (y.2.1 ++ [(k, z, y.2.2)]) (y.2.2 + 1)) fun h => some (.tup [z, .int .i64 y.2.2], h)
    else none
  | _ => none
def entryStoreV (h : H) (m s x : V) : Option H :=
  match m, s with
  | .map b, .int _ born => (h.mapAt b).bind fun y => match bornE born y.2.1 0 with
    | some (i, key) => h.setK y.1 (.map (setE key x i y.2.1) y.2.2) some
    | none => none
  | _, _ => none
def deleteV (h : H) (t : TypeId) (m k : V) : Option H := (keyT P t).bind fun ke =>
  bif ckV P eqLevels ke.1 k then
    match m with
    | .nilmap => some h
    | .map b => (h.mapAt b).bind fun y => (findV P ke.1 k y.2.1 0).bind fun r => match r with
      | some (i, _) => h.setK y.1 (.map (delE i y.2.1) y.2.2) some
      | none => some h
    | _ => none
  else none

/-! ## Slices -/
def elemT (t : TypeId) : Option TypeId := match P.underlying t with
  | some (.slice e) => some e
  | _ => none
def repV (zs : List V) : Nat → List V
  | 0 => []
  | n + 1 => zs ++ repV zs n
def fits (need bytes : Nat) : Bool := Nat.ble (need * bytes) (2 ^ 40) && Nat.ble bytes (2 ^ 20) && Nat.blt 0 bytes

def V.len : V → Option Nat
  | .nilsl => some 0
  | .sl _ n _ => some n
  | .str s => some s.length
  | _ => none
def bytesC (s : List UInt8) : List V := s.map fun b => .int .u8 b.toNat
def firstC (h : H) (size n : Nat) : V → Option (List V)
  | .nilsl => bif Nat.beq n 0 then some [] else none
  | .sl a _ _ => h.cells a (n * size)
  | .str s => some (bytesC (s.take n))
  | _ => none

/-- A slice of its own of n elements. -/
def freshV (h : H) (size n : Nat) (cs : List V) : Option (V × H) := h.row cs fun a h => some (.sl a n (.tip size), h)

/-- What is appended: how many elements, and their cells. -/
def newV (h : H) (e size bytes : Nat) (isInt : Bool) (x : V) : Option (Nat × List V) :=
  bif isInt then (match x with
    | .int .i64 l => if 0 ≤ l ∧ l ≤ 2 ^ 40 then (zeroT P e).bind fun z => bif Nat.beq z.cells.length size && Nat.ble (l.toNat * bytes) (2 ^ 40) && allAtoms z.cells then some (l.toNat, repV z.cells l.toNat) else none else none
    | _ => none)
  else (x.len).bind fun n => (firstC h size n x).bind fun new => bif Nat.beq new.length (n * size) then some (n, new) else none
/-- The zero value has as many cells as the type. -/
def zeroOk (e size : Nat) : Bool := match P.info? e with
  | some i => (match i.zero with | some v => Nat.beq v.cells.size size | none => false)
  | none => false
def joinC (ver : Nat) : Nat → List V → List (V × Nat) → List (V × Nat)
  | 0, new, _ => new.map fun v => (v, ver)
  | k + 1, new, c :: cs => c :: joinC ver k new cs
  | _ + 1, new, [] => new.map fun v => (v, ver)
def joinK {β : Type} (ver : Nat) : Nat → List V → List (V × Nat) → (List (V × Nat) → β) → β
  | 0, new, _, kk => verK ver new kk
  | k + 1, new, c :: cs, kk => joinK ver k new cs fun l => kk (c :: l)
  | _ + 1, new, [], kk => verK ver new kk
def appendV (h : H) (t : TypeId) (isInt : Bool) (s x : V) : Option (V × H) := (elemT P t).bind fun e =>
  (szT P e).bind fun size => (byT P e).bind fun bytes => (newV P h e size bytes isInt x).bind fun nn =>
  match s with
  | .nilsl => bif Nat.beq nn.1 0 then some (.nilsl, h) else bif fits nn.1 bytes && zeroOk P e size then freshV h size nn.1 nn.2 else none
  | .sl a len (.kn c) =>
    bif Nat.ble (len + nn.1) c then h.put (a.add (len * size)) nn.2 fun h => some (.sl a (len + nn.1) (.kn c), h)
    else bif fits (len + nn.1) bytes && zeroOk P e size then (h.cells a (len * size)).bind fun old => freshV h size (len + nn.1) (old ++ nn.2) else none
  | .sl a len (.tip z) =>
    bif Nat.beq nn.1 0 then some (.sl a len (.tip z), h) else
    bif Nat.beq z size && fits (len + nn.1) bytes && Nat.blt 0 size && zeroOk P e size && allAtoms nn.2 then
      match a.blk with
      | .own i => match h.own.get i with
        | some (.cells ver cs) =>
          bif Nat.beq a.ver ver then
            bif Nat.ble (a.off + (len + nn.1) * size) cs.length then h.put (a.add (len * size)) nn.2 fun h => some (.sl a (len + nn.1) (.tip z), h)
            else bif Nat.ble (a.off + len * size) cs.length then (h.cells a (len * size)).bind fun _ =>
              fN (ver + 1) fun v1 => fN (a.off + len * size) fun q => joinK v1 q nn.2 cs fun cs' => h.setK i (.cells v1 cs') fun h => some (.sl { a with ver := v1 } (len + nn.1) (.tip z), h)
            else none
          else none
        | _ => none
      | _ => none
    else none
  | _ => none

def copyV (h : H) (t : TypeId) (d s : V) : Option (V × H) := (elemT P t).bind fun e => (szT P e).bind fun size => (s.len).bind fun n =>
  match d with
  | .nilsl => some (.int .i64 0, h)
  | .sl a len _ => (firstC h size (Nat.min n len) s).bind fun cs => h.put a cs fun h => some (.int .i64 (Nat.min n len : Nat), h)
  | _ => none

def intOfV : V → Option Int
  | .int _ n => some n
  | _ => none
/-- A bound of a slice expression: as it stands, if it lies between 0 and y. -/
def boundV (x : V) (y : Nat) : Option Nat := (intOfV x).bind fun i => if 0 ≤ i ∧ i ≤ y then some i.toNat else none
def boundsV (len top : Nat) (lo hi mx : Option V) : Option (Nat × Nat × Nat) :=
  (match mx with | some v => boundV v top | none => some top).bind fun m =>
  (match hi with | some v => boundV v m | none => (match mx with | none => some len | some _ => none)).bind fun hh =>
  (match lo with | some v => boundV v hh | none => some 0).bind fun l => some (l, hh, m)
def A.slid (a : A) (l m size : Nat) : A := bif Nat.beq m l then a else a.add (l * size)

def sliceV (t : TypeId) (x : V) (lo hi mx : Option V) : Option V :=
  match P.underlying t with
  | some (.array n e) => (match x with
    | .ptr a => (szT P e).bind fun size => (boundsV n n lo hi mx).bind fun (l, h, m) => some (.sl (a.slid l m size) (h - l) (.kn (m - l)))
    | _ => none)
  | some (.pointer arr) => (match x, P.underlying arr with
    | .ptr a, some (.array n e) => (szT P e).bind fun size => (boundsV n n lo hi mx).bind fun (l, h, m) => some (.sl (a.slid l m size) (h - l) (.kn (m - l)))
    | _, _ => none)
  | some .string => (match x, mx with
    | .str s, none => (boundsV s.length s.length lo hi none).bind fun (l, h, _) => some (.str ((s.take h).drop l))
    | _, _ => none)
  | some (.slice e) => (szT P e).bind fun size => (match x with
    | .nilsl => (boundsV 0 0 lo hi mx).bind fun _ => some .nilsl
    | .sl a len (.kn c) => (boundsV len c lo hi mx).bind fun (l, h, m) => some (.sl (a.slid l m size) (h - l) (.kn (m - l)))
    | .sl a len (.tip z) => bif Nat.beq z size then (match mx with
      | none => (boundsV len len lo hi none).bind fun (l, h, _) => some (.sl (a.add (l * size)) (h - l) (.tip z))
      | some _ => (boundsV len len lo hi mx).bind fun (l, h, m) => some (.sl (a.slid l m size) (h - l) (.kn (m - l)))) else none
    | _ => none)
  | _ => none

def fieldAtV (s : TypeId) (x : V) (f : Nat) : Option V :=
  match P.underlying s, x with
  | some (.struct fs), .ptr a => (match fs.toList[f]? with
    | some g => (szT P g.type).bind fun n => bif Nat.beq n 0 then none else some (.ptr (a.add g.offset))
    | none => none)
  | _, _ => none
def fieldV (t : TypeId) (x : V) (f : Nat) : Option V :=
  match P.underlying t, x with
  | some (.struct fs), .agg cs => (match fs.toList[f]? with
    | some g => partT P g.type cs g.offset
    | none => none)
  | _, _ => none
def inRange (i : Int) (n : Nat) : Option Nat := if 0 ≤ i ∧ i < n then some i.toNat else none
def indexAtV (t : TypeId) (x ix : V) : Option V := (intOfV ix).bind fun i =>
  match P.underlying t with
  | some (.array n e) => (match x with
    | .ptr a => (szT P e).bind fun size => (inRange i n).bind fun j => some (.ptr (a.add (j * size)))
    | _ => none)
  | some (.slice e) => (match x with
    | .sl a len _ => (szT P e).bind fun size => (inRange i len).bind fun j => some (.ptr (a.add (j * size)))
    | _ => none)
  | _ => none
def indexV (t : TypeId) (x ix : V) : Option V := (intOfV ix).bind fun i =>
  match P.underlying t with
  | some (.array n e) => (match x with
    | .agg cs => (szT P e).bind fun size => (inRange i n).bind fun j => partT P e cs (j * size)
    | _ => none)
  | some .string => (match x with
    | .str s => (inRange i s.length).bind fun j => (s[j]?).bind fun b => some (.int .u8 b.toNat)
    | _ => none)
  | _ => none

/-! ## Building -/
def putAll (off : Nat) (v : List V) (cs : List V) : Option (List V) := match off with
  | 0 => puts v cs
  | o + 1 => (match cs with | c :: r => (putAll o v r).bind fun r => some (c :: r) | [] => none)
where
  puts : List V → List V → Option (List V)
    | [], cs => some cs
    | x :: xs, _ :: cs => (puts xs cs).bind fun r => some (x :: r)
    | _ :: _, [] => none
def fillV (place : Nat → Option (Nat × Nat)) (cells : List V) : List (Nat × V) → Option (List V)
  | [] => some cells
  | (i, v) :: rest => (place i).bind fun os => bif Nat.beq v.cells.length os.2 then (putAll os.1 v.cells cells).bind fun cs => fillV place cs rest else none
def buildV (t : TypeId) (parts : List (Nat × V)) : Option V := (zeroT P t).bind fun z =>
  match P.underlying t with
  | some (.struct fs) => bif !fs.toList.all (fun f => (szT P f.type).isSome) then none else (fillV (fun i => (fs.toList[i]?).bind fun f => (szT P f.type).bind fun n => some (f.offset, n)) z.cells parts).bind fun cs => some (.agg cs)
  | some (.array _ e) => (szT P e).bind fun n => (fillV (fun i => some (i * n, n)) z.cells parts).bind fun cs => some (.agg cs)
  | _ => none
def buildSliceV (h : H) (t : TypeId) (len : Nat) (parts : List (Nat × V)) : Option (V × H) := (elemT P t).bind fun e => (szT P e).bind fun n =>
  bif Nat.ble (len * n) (2 ^ 24) then
    (bif Nat.beq (len * n) 0 then some [] else (zeroT P e).bind fun z => bif Nat.beq z.cells.length n then some z.cells else none).bind fun z =>
    (fillV (fun i => some (i * n, n)) (bif Nat.beq (len * n) 0 then [] else repV z len) parts).bind fun cs => h.row cs fun a h => some (.sl a len (.kn len), h)
  else none
def makeSliceV (h : H) (t : TypeId) (l c : V) : Option (V × H) := (elemT P t).bind fun e => (szT P e).bind fun n => (byT P e).bind fun bytes =>
  (intOfV l).bind fun l => (intOfV c).bind fun c =>
  if 0 ≤ l ∧ l ≤ c ∧ (bytes : Int) * c ≤ 2 ^ 40 ∧ c ≤ 2 ^ 40 then
    (bif Nat.beq (c.toNat * n) 0 then some [] else (zeroT P e).bind fun z => bif Nat.beq z.cells.length n then some z.cells else none).bind fun z =>
    h.row (bif Nat.beq (c.toNat * n) 0 then [] else repV z c.toNat) fun a h => some (.sl a l.toNat (.kn c.toNat), h)
  else none

def bytesOfC : List V → Option (List UInt8)
  | [] => some []
  | .int .u8 n :: r => (bytesOfC r).bind fun l => some (UInt8.ofNat n.toNat :: l)
  | _ => none
def convertV (h : H) (src dst : TypeId) (x : V) : Option (V × H) :=
  match P.underlying src, P.underlying dst with
  | some sd, some dd => (match dd, x with
    | .int k, .int _ n => some (.int k (k.wrap n), h)
    | .string, .str s => (match sd with | .string => some (.str s, h) | _ => none)
    | .string, .nilsl => (match sd with | .slice e => (match P.underlying e with | some (.int .u8) => some (.str [], h) | _ => none) | _ => none)
    | .string, .sl a len _ => (match sd with | .slice e => (match P.underlying e with | some (.int .u8) => (h.cells a len).bind fun cs => (bytesOfC cs).bind fun s => some (.str s, h) | _ => none) | _ => none)
    | .slice e, .str s => (match sd, P.underlying e with
      | .string, some (.int .u8) => h.row (bytesC s) fun a h => some (.sl a s.length (.tip 1), h)
      | _, _ => none)
    | _, _ => none)
  | _, _ => none
def assertV (x : V) (asserted : TypeId) (ok : Bool) : Option V :=
  let holds (v : V) : Option V := some (if ok then .tup [v, .bool true] else v)
  let fails : Option V := if ok then (zeroT P asserted).bind fun z => some (.tup [z, .bool false]) else none
  match P.underlying asserted with
  | some (.interface want) => (match x with
    | .niliface => fails
    | .iface t v => (P.info? t).bind fun i => (match Instr.missingMethod want i.methods with
      | none => holds (.iface t v)
      | some _ => fails)
    | _ => none)
  | some _ => (match x with
    | .niliface => fails
    | .iface t v => if t = asserted then holds v else fails
    | _ => none)
  | none => none
def extractV (x : V) (i : Nat) : Option V := match x with
  | .tup vs => vs[i]?
  | _ => none
def lenV (h : H) (t : TypeId) (x : V) : Option V :=
  match P.underlying t with
  | some .string => (match x with | .str s => some (.int .i64 s.length) | _ => none)
  | some (.array n _) => some (.int .i64 n)
  | some (.pointer arr) => (match P.underlying arr with | some (.array n _) => some (.int .i64 n) | _ => none)
  | some (.slice _) => (match x with | .nilsl => some (.int .i64 0) | .sl _ n _ => some (.int .i64 n) | _ => none)
  | some (.map _ _) => (match x with
    | .nilmap => some (.int .i64 0)
    | .map b => (h.mapAt b).bind fun y => some (.int .i64 y.2.1.length)
    | _ => none)
  | _ => none
def capV (t : TypeId) (x : V) : Option V :=
  match P.underlying t with
  | some (.slice _) => (match x with | .nilsl => some (.int .i64 0) | .sl _ _ (.kn c) => some (.int .i64 c) | _ => none)
  | _ => none
def max2V : V → V → Option V
  | .int k x, .int k' y => if k = k' then some (.int k (if y > x then y else x)) else none
  | _, _ => none
def min2V : V → V → Option V
  | .int k x, .int k' y => if k = k' then some (.int k (if y < x then y else x)) else none
  | _, _ => none
def fold2V (f : V → V → Option V) : V → List V → Option V
  | x, [] => some x
  | x, y :: r => (f x y).bind fun z => fold2V f z r
def clearV (h : H) (t : TypeId) (x : V) : Option H := match x with
  | .nilmap => some h
  | .map b => (h.mapAt b).bind fun y => h.setK y.1 (.map [] y.2.2) some
  | .nilsl => some h
  | .sl a n _ => bif Nat.beq n 0 then some h else (elemT P t).bind fun e => (szT P e).bind fun size => (zeroT P e).bind fun z =>
      bif Nat.beq z.cells.length size then h.put a (repV z.cells n) some else none
  | _ => none

/-! ## Ranges -/
def rangeV (h : H) (t : TypeId) (x : V) : Option (V × H) :=
  match P.underlying t, x with
  | some .string, .str s => h.newK (.siter s 0) fun i h => some (.ptr ⟨.own i, 0, 0⟩, h)
  | some (.map _ _), .nilmap => h.newK (.miter none 0 [] 0) fun i h => some (.ptr ⟨.own i, 0, 0⟩, h)
  | some (.map _ _), .map b => (h.mapAt b).bind fun y => h.newK (.miter (some b) y.2.2 [] y.2.2) fun i h => some (.ptr ⟨.own i, 0, 0⟩, h)
  | _, _ => none
def nextStrV (h : H) (x : V) : Option (V × H) :=
  match x with
  | .ptr ⟨.own i, 0, 0⟩ => (match h.own.get i with
    | some (.siter s pos) =>
      if pos < s.length then
        h.setK i (.siter s (pos + (Utf8.decode ⟨s.toArray⟩ pos).2)) fun h => some (.tup [.bool true, .int .i64 pos, .int .i32 (Utf8.decode ⟨s.toArray⟩ pos).1], h)
      else some (.tup [.bool false], h)
    | _ => none)
  | _ => none
def entryAt (stamp : Nat) : List (V × V × Nat) → Option (V × V × Nat)
  | [] => none
  | e :: es => bif Nat.beq e.2.2 stamp then some e else entryAt stamp es
def entryOfV (h : H) (x : V) : Option V :=
  match x with
  | .ptr ⟨.own i, 0, 0⟩ => (match h.own.get i with
    | some (.miter (some b) _ (s :: _) stepped) => (h.mapAt b).bind fun y => bif Nat.beq y.2.2 stepped then (entryAt s y.2.1).bind fun e => some (.tup [e.1, e.2.1]) else none
    | _ => none)
  | _ => none

/-! ## One operation that calls nothing -/
def evalPs (fr : Fr) : List (Nat × Operand) → Option (List (Nat × V))
  | [] => some []
  | (i, x) :: r => (fr.eval x).bind fun v => (evalPs fr r).bind fun l => some ((i, v) :: l)
def evalO (fr : Fr) : Option Operand → Option (Option V)
  | none => some none
  | some x => (fr.eval x).bind fun v => some (some v)
def isC : Operand → Bool
  | .const _ => true
  | _ => false
def intT (t : Option TypeId) : Bool := match t with
  | some t => (match P.underlying t with | some (.int _) => true | _ => false)
  | none => false

/-! ## What is not known -/
def intK : V → Option IntKind
  | .int k _ => some k
  | .any (.int k) => some k
  | _ => none
def isStr : V → Bool
  | .str _ => true
  | .any .str => true
  | _ => false
def isAny : V → Bool
  | .any _ => true
  | _ => false
def isCmp : BinOp → Bool
  | .eql => true | .neq => true | .lss => true | .leq => true | .gtr => true | .geq => true
  | _ => false
def isRing : BinOp → Bool
  | .add => true | .sub => true | .mul => true | .and => true | .or => true | .xor => true | .andNot => true
  | _ => false
def isShift : BinOp → Bool
  | .shl => true | .shr => true
  | _ => false
def isDiv : BinOp → Bool
  | .quo => true | .rem => true
  | _ => false
def anyBin (op : BinOp) (x y : V) : Option V := bif isAny x || isAny y then
    (bif isRing op then (match intK x, intK y with
      | some k, some k' => if k = k' then some (.any (.int k)) else none
      | _, _ => none)
    else bif isShift op then (match intK x, y with
      | some k, .int _ b => if b < 0 then none else some (.any (.int k))
      | _, _ => none)
    else bif isDiv op then (match intK x, y with
      | some k, .int k' b => if k = k' then (if b = 0 then none else some (.any (.int k))) else none
      | _, _ => none)
    else none) else none
/-- A comparison that may go either way. -/
def anyCmp (op : BinOp) (x y : V) : Bool := (isAny x || isAny y) && isCmp op && (match intK x, intK y with
  | some k, some k' => decide (k = k')
  | _, _ => isStr x && isStr y)
def anyUn (op : UnOp) (x : V) : Option V := match x with
  | .any (.int k) => (match op with | .neg => some (.any (.int k)) | .xor => some (.any (.int k)) | _ => none)
  | _ => none
def anyConv (src dst : TypeId) (x : V) : Option V := match x with
  | .any (.int _) => (match P.underlying src, P.underlying dst with | some _, some (.int k) => some (.any (.int k)) | _, _ => none)
  | _ => none
def anyLen (t : TypeId) (x : V) : Option V := match x with
  | .any .str => (match P.underlying t with | some .string => some (.any (.int .i64)) | _ => none)
  | _ => none

def opV (fr : Fr) (h : H) (o : Op) : Option (V × H) :=
  let pure (v : V) : Option (V × H) := some (v, h)
  let done (h : H) : Option (V × H) := some (.u, h)
  match o with
  | .move x => (fr.eval x).bind pure
  | .assign x => (fr.eval x).bind pure
  | .pick c a b => (fr.eval c).bind fun c => (match c with
    | .bool true => (fr.eval a).bind pure
    | .bool false => (fr.eval b).bind pure
    | _ => none)
  | .alloc t => (zeroT P t).bind fun z => h.row z.cells fun a h => some (.ptr a, h)
  | .box _ x => (fr.eval x).bind fun v => h.row v.cells fun a h => some (.ptr a, h)
  | .build t ps => (evalPs fr ps.toList).bind fun l => (buildV P t l).bind pure
  | .buildSlice t n ps => (evalPs fr ps.toList).bind fun l => buildSliceV P h t n l
  | .load t a => (fr.eval a).bind fun a => (match a with | .ptr a => (loadT P h t a).bind pure | _ => none)
  | .store t a x => (fr.eval a).bind fun a => (fr.eval x).bind fun v => (match a with | .ptr a => storeT P h t a v done | _ => none)
  | .nilCheck x => (fr.eval x).bind fun v => (match v with
    | .ptr a => pure (.ptr a)
    | .fn (.func f) xs ys => pure (.fn (.func f) xs ys)
    | _ => none)
  | .binOp op t x y _ => (fr.eval x).bind fun a => (fr.eval y).bind fun b => (match anyBin op a b with | some v => pure v | none => (binV P op t (isC x) (isC y) a b).bind pure)
  | .unOp op _ x => (fr.eval x).bind fun v => (match anyUn op v with | some v => pure v | none => (unV op v).bind pure)
  | .convert s d x => (fr.eval x).bind fun v => (match anyConv P s d v with | some v => pure v | none => convertV P h s d v)
  | .sliceToArrayPointer t x => (fr.eval x).bind fun v => (match P.underlying t, v with
    | some (.array n _), .sl a len (.kn c) => bif Nat.ble n len && Nat.blt 0 c then pure (.ptr a) else none
    | some (.array n _), .sl a len (.tip _) => bif Nat.ble n len && Nat.blt 0 n then pure (.ptr a) else none
    | _, _ => none)
  | .makeInterface t x => (fr.eval x).bind fun v => (match P.underlying t with
    | some (.interface _) => none
    | some _ => pure (.iface t v)
    | none => none)
  | .makeFunc f xs ys => (fr.evals xs.toList).bind fun xs => (fr.evals ys.toList).bind fun ys => (match f with | .func g => pure (.fn (.func g) xs ys) | _ => none)
  | .makeMap t r => (match r with
    | none => h.newK (.map [] 0) fun i h => some (.map (.own i), h)
    | some x => (keyT P t).bind fun _ => (fr.eval x).bind fun v => (intOfV v).bind fun _ => h.newK (.map [] 0) fun i h => some (.map (.own i), h))
  | .makeSlice t l c => (fr.eval l).bind fun l => (fr.eval c).bind fun c => makeSliceV P h t l c
  | .slice t x lo hi mx => (fr.eval x).bind fun v => (evalO fr lo).bind fun lo => (evalO fr hi).bind fun hi => (evalO fr mx).bind fun mx => (sliceV P t v lo hi mx).bind pure
  | .fieldAddr s x f => (fr.eval x).bind fun v => (fieldAtV P s v f).bind pure
  | .field t x f => (fr.eval x).bind fun v => (fieldV P t v f).bind pure
  | .indexAddr t x i => (fr.eval x).bind fun v => (fr.eval i).bind fun i => (indexAtV P t v i).bind pure
  | .index t x i => (fr.eval x).bind fun v => (fr.eval i).bind fun i => (indexV P t v i).bind pure
  | .lookup t m k ok => (fr.eval m).bind fun m => (fr.eval k).bind fun k => (lookupV P h t m k ok).bind pure
  | .mapUpdate t m k x => (fr.eval m).bind fun m => (fr.eval k).bind fun k => (fr.eval x).bind fun x => (updateV P h t m k x).bind done
  | .insert t m k x => (fr.eval m).bind fun m => (fr.eval k).bind fun k => (fr.eval x).bind fun x => (updateV P h t m k x).bind done
  | .mapEntry t m k => (fr.eval m).bind fun m => (fr.eval k).bind fun k => entryV P h t m k
  | .entryStore _ m s x => (fr.eval m).bind fun m => (fr.eval s).bind fun s => (fr.eval x).bind fun x => (entryStoreV h m s x).bind done
  | .range t x => (fr.eval x).bind fun v => rangeV P h t v
  | .next x true => (fr.eval x).bind fun v => nextStrV h v
  | .entry x => (fr.eval x).bind fun v => (entryOfV h v).bind pure
  | .typeAssert x _ t ok => (fr.eval x).bind fun v => (assertV P v t ok).bind pure
  | .extract x i => (fr.eval x).bind fun v => (extractV v i).bind pure
  | .call { callee := .builtin b, args, argTypes } => (fr.evals args.toList).bind fun vs => (match b, vs, argTypes.toList with
    | .len, [x], t :: _ => (match anyLen P t x with | some v => pure v | none => (lenV P h t x).bind pure)
    | .cap, [x], t :: _ => (capV P t x).bind pure
    | .append, [s, x], [t, u] => (match P.underlying u with | some _ => appendV P h t (intT P (some u)) s x | none => none)
    | .copy, [d, s], t :: _ => copyV P h t d s
    | .delete, [m, k], t :: _ => (deleteV P h t m k).bind done
    | .clear, [x], t :: _ => (match P.underlying t with | some _ => (clearV P h t x).bind done | none => none)
    | .max, x :: r, _ => (fold2V max2V x r).bind pure
    | .min, x :: r, _ => (fold2V min2V x r).bind pure
    | _, _, _ => none)
  | _ => none

end Go.Proofs.Ab
