/- The deterministic evaluator: its data: a trie, values over named blocks, the heap, and the operations that read and write it. -/
import GoSem.Step
namespace Go.Proofs.Ab
open Go

/-! ## A trie, with a store that builds its path at once -/
inductive T (α : Type) where
  | e
  | n (l : T α) (v : Option α) (r : T α)

def T.get {α : Type} : T α → Nat → Option α
  | .e, _ => none
  | .n l v r, k => match k with
    | 0 => v
    | k + 1 => bif Nat.beq (k % 2) 0 then l.get (k / 2) else r.get (k / 2)

def T.setK {α β : Type} : Nat → T α → Nat → α → (T α → β) → β
  | 0, t, _, _, c => c t
  | f + 1, t, k, x, c => match t with
    | .e => match k with
      | 0 => c (.n .e (some x) .e)
      | k + 1 => bif Nat.beq (k % 2) 0 then T.setK f .e (k / 2) x (fun l => c (.n l none .e)) else T.setK f .e (k / 2) x (fun r => c (.n .e none r))
    | .n l v r => match k with
      | 0 => c (.n l (some x) r)
      | k + 1 => bif Nat.beq (k % 2) 0 then T.setK f l (k / 2) x (fun l => c (.n l v r)) else T.setK f r (k / 2) x (fun r => c (.n l v r))

def T.set {α : Type} (t : T α) (k : Nat) (x : α) : T α := T.setK (k + 1) t k x id

/-! ## Names of blocks, addresses, values -/
inductive B where
  | own (i : Nat)
  | base (i : Nat)
  | glob (g : Nat)
  deriving DecidableEq

structure A where
  blk : B
  ver : Nat
  off : Nat
  deriving DecidableEq

/-- The capacity of a slice: known; or up to the end of a block that append made, whose elements have this many cells. -/
inductive Cap where
  | kn (c : Nat)
  | tip (s : Nat)
  deriving DecidableEq

/-- A value of which nothing is known but its kind: an integer, a string; any atom but a bool. -/
inductive AnyK where
  | val
  | g (i : Nat)
  | str
  | int (k : IntKind)
  deriving DecidableEq

inductive V where
  | any (t : AnyK)
  | bool (b : Bool)
  | int (k : IntKind) (n : Int)
  | str (s : List UInt8)
  | nilp
  | ptr (a : A)
  | nilsl
  | sl (a : A) (len : Nat) (cap : Cap)
  | nilmap
  | map (b : B)
  | nilfn
  | fn (f : Fn) (first captured : List V)
  | niliface
  | iface (t : TypeId) (v : V)
  | agg (cs : List V)
  | tup (vs : List V)

def V.u : V := .tup []
def V.cells : V → List V
  | .agg cs => cs
  | v => [v]
/-- May it stand in a cell? -/
def V.atom : V → Bool
  | .agg _ => false
  | .tup _ => false
  | _ => true

def bytesBeq : List UInt8 → List UInt8 → Bool
  | [], [] => true
  | a :: x, b :: y => bif Nat.beq a.toNat b.toNat then bytesBeq x y else false
  | _, _ => false

mutual
def V.beq : V → V → Bool
  | .any a, .any b => decide (a = b)
  | .bool a, .bool b => a == b
  | .int j a, .int k b => decide (j = k) && decide (a = b)
  | .str a, .str b => decide (a = b)
  | .nilp, .nilp => true
  | .ptr a, .ptr b => decide (a = b)
  | .nilsl, .nilsl => true
  | .sl a l c, .sl b m d => decide (a = b) && decide (l = m) && decide (c = d)
  | .nilmap, .nilmap => true
  | .map a, .map b => decide (a = b)
  | .nilfn, .nilfn => true
  | .fn f xs ys, .fn g us vs => decide (f = g) && V.beqs xs us && V.beqs ys vs
  | .niliface, .niliface => true
  | .iface t v, .iface u w => decide (t = u) && V.beq v w
  | .agg xs, .agg ys => V.beqs xs ys
  | .tup xs, .tup ys => V.beqs xs ys
  | _, _ => false
def V.beqs : List V → List V → Bool
  | [], [] => true
  | x :: xs, y :: ys => V.beq x y && V.beqs xs ys
  | _, _ => false
end

/-! ## Numbers brought to a literal -/
def fN {β : Type} (n : Nat) (k : Nat → β) : β := match n with
  | 0 => k 0
  | m + 1 => k (m + 1)
def fI {β : Type} (n : Int) (k : Int → β) : β := match n with
  | .ofNat m => fN m fun m => k (.ofNat m)
  | .negSucc m => fN m fun m => k (.negSucc m)
def fA {β : Type} (a : A) (k : A → β) : β := match a with
  | ⟨.own i, v, o⟩ => fN o fun o => k ⟨.own i, v, o⟩
  | ⟨.base i, v, o⟩ => fN o fun o => k ⟨.base i, v, o⟩
  | ⟨.glob i, v, o⟩ => fN o fun o => k ⟨.glob i, v, o⟩
def fV {β : Type} (v : V) (k : V → β) : β := match v with
  | .int q n => fI n fun n => k (.int q n)
  | .bool b => (match b with | true => k (.bool true) | false => k (.bool false))
  | .ptr a => fA a fun a => k (.ptr a)
  | .sl a l c => fA a fun a => fN l fun l => (match c with | .kn c => fN c fun c => k (.sl a l (.kn c)) | .tip s => k (.sl a l (.tip s)))
  | v => k v

/-! ## The heap -/
/-- A deferred call, or the mark of a loop over a function. -/
inductive D where
  | call (f : Fn) (captured args : List V)
  | coll (b : B)

structure LoopA where
  st : LoopState
  pend : Option Code
  fn : FuncId
  n : Nat
  tmps : T V
  params : Array Tmp
  assign : Code
  body : Code
  defs : B

inductive O where
  | cells (ver : Nat) (cs : List (V × Nat))
  | map (es : List (V × V × Nat)) (clock : Nat)
  | miter (m : Option B) (since : Nat) (seen : List Nat) (stepped : Nat)
  | siter (s : List UInt8) (pos : Nat)
  | loop (l : LoopA)
  | defs (ds : Option (List D))

structure H where
  own : T O
  next : Nat
  base : Nat → Option (List V)
  glob : Nat → Option (List V)

/-- A new block. -/
def H.newK {β : Type} (h : H) (o : O) (k : Nat → H → β) : β :=
  h.own.setK (h.next + 1) h.next o fun t => fN (h.next + 1) fun n => k h.next { own := t, next := n, base := h.base, glob := h.glob }
def H.setK {β : Type} (h : H) (i : Nat) (o : O) (k : H → β) : β :=
  h.own.setK (i + 1) i o fun t => k { h with own := t }

def takeV : Nat → List V → Option (List V)
  | 0, _ => some []
  | n + 1, x :: xs => (takeV n xs).bind fun r => some (x :: r)
  | _ + 1, [] => none
def takeC (ver : Nat) : Nat → List (V × Nat) → Option (List V)
  | 0, _ => some []
  | n + 1, x :: xs => bif Nat.ble x.2 ver then (takeC ver n xs).bind fun r => some (x.1 :: r) else none
  | _ + 1, [] => none
def dropL {α : Type} : Nat → List α → List α
  | 0, l => l
  | _ + 1, [] => []
  | n + 1, _ :: l => dropL n l

/-- The n cells from an address on. -/
def H.cells (h : H) (a : A) (n : Nat) : Option (List V) :=
  match a.blk with
  | .base i => bif Nat.beq a.ver 0 then (h.base i).bind fun cs => takeV n (dropL a.off cs) else none
  | .glob i => bif Nat.beq a.ver 0 then (h.glob i).bind fun cs => takeV n (dropL a.off cs) else none
  | .own i => match h.own.get i with
    | some (.cells _ cs) => takeC a.ver n (dropL a.off cs)
    | _ => none
def H.cell (h : H) (a : A) : Option V := (h.cells a 1).bind fun
  | [v] => some v
  | _ => none

/-- cs with the cells from off on turned to vs, of this version. -/
def updC (ver : Nat) : Nat → List V → List (V × Nat) → Option (List (V × Nat))
  | _, [], cs => some cs
  | 0, v :: vs, _ :: cs => (updC ver 0 vs cs).bind fun r => some ((v, ver) :: r)
  | o + 1, v :: vs, c :: cs => (updC ver o (v :: vs) cs).bind fun r => some (c :: r)
  | _, _ :: _, [] => none

def allAtoms : List V → Bool
  | [] => true
  | v :: vs => v.atom && allAtoms vs

/-- A store of cells. -/
def H.put {β : Type} (h : H) (a : A) (vs : List V) (k : H → Option β) : Option β :=
  match vs with
  | [] => k h
  | _ => bif allAtoms vs then
    (match a.blk with
    | .base _ => none
    | .glob _ => none
    | .own i => match h.own.get i with
      | some (.cells ver cs) => bif Nat.beq a.ver ver then (match updC ver a.off vs cs with | some cs' => h.setK i (.cells ver cs') k | none => none) else none
      | _ => none) else none

def A.add (a : A) (n : Nat) : A := { a with off := a.off + n }

/-- Cells of one version, each in its form. -/
def verK {β : Type} (ver : Nat) : List V → (List (V × Nat) → β) → β
  | [], k => k []
  | v :: vs, k => fV v fun v => verK ver vs fun l => k ((v, ver) :: l)
/-- A new row of cells. -/
def H.row {β : Type} (h : H) (vs : List V) (k : A → H → Option β) : Option β :=
  bif allAtoms vs then verK 0 vs fun cs => h.newK (.cells 0 cs) fun i h => k ⟨.own i, 0, 0⟩ h else none

/-! ## Constants of the text -/
def atomV : Value → Option V
  | .bool b => some (.bool b)
  | .int k n => some (.int k n)
  | .string s => some (.str s.data.toList)
  | .pointer none => some .nilp
  | .slice none 0 0 => some .nilsl
  | .map none => some .nilmap
  | .nilFunc => some .nilfn
  | .nilIface => some .niliface
  | .func (.func f) ⟨[]⟩ ⟨[]⟩ => some (.fn (.func f) [] [])
  | _ => none
def atomsV : List Value → Option (List V)
  | [] => some []
  | v :: vs => (atomV v).bind fun x => (atomsV vs).bind fun r => some (x :: r)
def ofV : Value → Option V
  | .agg cs => (atomsV cs.toList).bind fun l => some (.agg l)
  | .tuple ⟨[]⟩ => some .u
  | .iface t v => (match v with
    | .agg cs => (atomsV cs.toList).bind fun l => some (.iface t (.agg l))
    | v => (atomV v).bind fun x => some (.iface t x))
  | v => atomV v

/-! ## Frames -/
/-- How the frame was called: as any; or deferred, out of a frame that returns, or that panics (and has it been recovered?). -/
inductive CM where
  | plain
  | ret
  | pan (v : V) (recovered : Bool)

structure Fr where
  n : Nat
  tmps : T V
  ds : List D
  cm : CM

def Fr.get (fr : Fr) (t : Nat) : V := match fr.tmps.get t with
  | some v => v
  | none => .u
def Fr.eval (fr : Fr) : Operand → Option V
  | .tmp t => some (fr.get t)
  | .const v => ofV v
  | .global g => some (.ptr ⟨.glob g, 0, 0⟩)
  | .func f => some (.fn (.func f) [] [])
def Fr.evals (fr : Fr) : List Operand → Option (List V)
  | [] => some []
  | x :: xs => (fr.eval x).bind fun v => (fr.evals xs).bind fun r => some (v :: r)
def Fr.putK {β : Type} (fr : Fr) (d : Option Tmp) (v : V) (k : Fr → β) : β := match d with
  | none => k fr
  | some d => bif Nat.blt d fr.n then fV v fun v => fr.tmps.setK (d + 1) d v fun t => k { fr with tmps := t } else k fr

end Go.Proofs.Ab
