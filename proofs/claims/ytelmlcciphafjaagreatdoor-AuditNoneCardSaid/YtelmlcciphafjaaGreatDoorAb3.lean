/- The evaluator: code, calls, deferred calls, loops over functions; regions whose order is open. -/
import Derived.Test.YtelmlcciphafjaaGreatDoorAb2
namespace Go.Proofs.Ab
open Go

inductive Ex where
  | normal
  | exit (id : Nat)
  | goto (l : Nat)
  | ret
  | pan (v : V)

inductive CR where
  | ret (v : V)
  | pan (v : V)

inductive Tk where
  | code (fn : FuncId) (rd : Option B) (c : Code) (fr : Fr)
  | scope (fn : FuncId) (rd : Option B) (all cur : Code) (fr : Fr)
  | again (fn : FuncId) (rd : Option B) (b : Code) (fr : Fr)
  | call (f : FuncId) (args : List V) (cm : CM)
  | unw (f : FuncId) (fr : Fr) (ds : List D) (u : CM)

inductive Rs where
  | ex (e : Ex) (fr : Fr)
  | cr (c : CR) (cm : CM)

abbrev Hook := List V → H → (CR → H → Prop) → Prop

structure E where
  P : Program
  hk : FuncId → Option Hook
  ext : FuncId → Option (List V → H → Option (V × H))

abbrev Rec := Tk → H → (Rs → H → Prop) → Prop

/-! ## Regions -/
/-- 0 pure, 1 reads the heap, 2 makes a block, 3 acts, 4 not in a region whose order is open. -/
def kd (P : Program) : Op → Nat
  | .move _ => 0 | .assign _ => 0 | .pick _ _ _ => 0 | .build _ _ => 0 | .unOp _ _ _ => 0 | .makeInterface _ _ => 0 | .makeFunc _ _ _ => 0 | .extract _ _ => 0
  | .field _ _ _ => 0 | .fieldAddr _ _ _ => 0 | .indexAddr _ _ _ => 0 | .index _ _ _ => 0 | .slice _ _ _ _ _ => 0 | .sliceToArrayPointer _ _ => 0 | .nilCheck _ => 0
  | .binOp _ _ _ _ _ => 0 | .typeAssert _ _ _ _ => 0
  | .load _ _ => 1 | .lookup _ _ _ _ => 1 | .entry _ => 1
  | .convert _ d _ => (match P.underlying d with | some (.slice _) => 2 | _ => 1)
  | .alloc _ => 2 | .box _ _ => 2 | .buildSlice _ _ _ => 2 | .makeSlice _ _ _ => 2
  | .store _ _ _ => 3 | .mapUpdate _ _ _ _ => 3 | .insert _ _ _ _ => 3 | .mapEntry _ _ _ => 3 | .entryStore _ _ _ _ => 3 | .makeMap _ _ => 3
  | .call { callee := .builtin b, .. } => (match b with
    | .cap => 0 | .max => 0 | .min => 0 | .len => 1 | .append => 3 | .copy => 3 | .delete => 3 | .clear => 3 | _ => 4)
  | .call { callee := .value _, .. } => 3
  | _ => 4

def wantedV (ops : Array Oper) (fr : Fr) (o : Oper) : Bool := match o.guard with
  | none => true
  | some (j, want) => match (ops[j]?).bind (·.dst) with
    | some t => bif Nat.blt t fr.n then (match fr.get t with | .bool b => b == want | _ => false) else false
    | none => false

def tmpsOf (o : Oper) (ops : Array Oper) : List Nat :=
  (o.op.operands.toList.filterMap fun | .tmp t => some t | _ => none) ++ (match o.guard with | some (j, _) => ((ops[j]?).bind (·.dst)).toList | none => [])

/-- What must be before each operation: one bit for each place. -/
def maskE (t : T Nat) : List Edge → Nat → Nat
  | [], m => m
  | e :: es, m => maskE t es (bif Region.binds .any e then Nat.lor m (Nat.lor (Nat.shiftLeft 1 e.on) ((t.get e.on).getD 0)) else m)
def masksK {β : Type} : List Oper → Nat → T Nat → (T Nat → β) → β
  | [], _, t, k => k t
  | o :: os, i, t, k => fN (maskE t o.after.toList 0) fun m => T.setK (i + 1) t i m fun t => masksK os (i + 1) t k
def mask (t : T Nat) (i : Nat) : Nat := (t.get i).getD 0

def isLoose : Op → Bool
  | .alloc _ => true
  | .buildSlice _ _ _ => true
  | _ => false
/-- The one block whose laying is in no order with the effects before it in the text: its place (none: behind the last). -/
def looseE (P : Program) (ops : Array Oper) (t : T Nat) : Nat :=
  let l := ops.toList.zipIdx
  match l.find? fun (o, i) => isLoose o.op && l.any fun (q, j) => Nat.ble 2 (kd P q.op) && Nat.blt j i && !(mask t i).testBit j with
  | some (_, i) => i
  | none => ops.size
/-- The effects of a region (what acts, or lays a block), with their places. -/
def effsE (P : Program) (L : Nat) (ops : Array Oper) : List (Oper × Nat) := ops.toList.zipIdx.filter fun (o, i) => Nat.ble 2 (kd P o.op) && !(Nat.beq i L)
def chainE (t : T Nat) : List (Oper × Nat) → Bool
  | [] => true
  | e :: es => es.all (fun e' => (mask t e'.2).testBit e.2) && chainE t es
/-- Are the effects of a region in a fixed order, is each slot written once and read behind that? -/
def steadyE (P : Program) (L : Nat) (ops : Array Oper) (t : T Nat) : Bool :=
  let l := ops.toList.zipIdx
  l.all (fun (o, i) =>
    Nat.ble (kd P o.op) 3 &&
    o.after.toList.all (fun e => Nat.blt e.on i || !Region.binds .any e) &&
    (tmpsOf o ops).all (fun x => l.all fun (q, j) => q.dst != some x || (mask t i).testBit j) &&
    (match o.dst with | none => true | some d => l.all fun (q, j) => Nat.beq i j || q.dst != some d)) &&
  chainE t (effsE P L ops)
/-- How many effects are before an operation; before how many it must be. -/
def loE (m : Nat) : List (Oper × Nat) → Nat → Nat → Nat
  | [], _, acc => acc
  | e :: es, r, acc => loE m es (r + 1) (bif m.testBit e.2 then r + 1 else acc)
def hiE (t : T Nat) (i : Nat) : List (Oper × Nat) → Nat → Nat
  | [], r => r
  | e :: es, r => bif (mask t e.2).testBit i then r else hiE t i es (r + 1)
def puresE (P : Program) (L : Nat) (t : T Nat) (es : List (Oper × Nat)) (ops : Array Oper) : List (Oper × Nat × Nat) :=
  ops.toList.zipIdx.filterMap fun (o, i) => bif Nat.ble (kd P o.op) 1 || Nat.beq i L then some (o, loE (mask t i) es 0 0, hiE t i es 0) else none

/-- What is known when k effects have been: each operation that acts not, once; and the loose block. -/
def fillK (P : Program) (ops : Array Oper) (k : Nat) (kk : Fr → H → Option Nat → Prop) : List (Oper × Nat × Nat) → Fr → H → Option Nat → Prop
  | [], fr, h, pn => kk fr h pn
  | (o, lo, _) :: r, fr, h, pn => bif Nat.beq lo k then
      (bif wantedV ops fr o then (match opV P fr h o.op with
        | some (v, h') => fr.putK o.dst v fun fr => bif Nat.ble (kd P o.op) 1 then fillK P ops k kk r fr h pn else
            bif isLoose o.op then fillK P ops k kk r fr h' (some h.next) else False
        | none => False)
      else fr.putK o.dst .u fun fr => fillK P ops k kk r fr h pn)
    else fillK P ops k kk r fr h pn
def cellsBeq : List (V × Nat) → List (V × Nat) → Bool
  | [], [] => true
  | a :: x, b :: y => V.beq a.1 b.1 && Nat.beq a.2 b.2 && cellsBeq x y
  | _, _ => false
/-- Would the loose block be laid as it lies there? -/
def looseOk (P : Program) (fr : Fr) (h : H) (o : Oper) (pn : Option Nat) : Bool := match pn, o.dst with
  | some nm, some d => isLoose o.op && (match opV P fr { own := .e, next := nm, base := h.base, glob := h.glob } o.op with
    | some (v, h2) => V.beq v (fr.get d) && (match h2.own.get nm, h.own.get nm with
      | some (.cells 0 a), some (.cells 0 b) => cellsBeq a b
      | _, _ => false)
    | none => false)
  | _, _ => false
/-- Would each of them that may be here answer what its slot holds? -/
def checkE (P : Program) (ops : Array Oper) (k : Nat) (h : H) (pn : Option Nat) (fr : Fr) : List (Oper × Nat × Nat) → Bool
  | [] => true
  | (o, lo, hi) :: r => (bif Nat.ble lo k && Nat.ble k hi then
      (bif wantedV ops fr o then (bif Nat.ble (kd P o.op) 1 then (match opV P fr h o.op with
        | some (v, _) => (match o.dst with | some d => V.beq v (fr.get d) | none => true)
        | none => false) else looseOk P fr h o pn)
      else (match o.dst with | some d => V.beq .u (fr.get d) | none => true)) else true) && checkE P ops k h pn fr r

section
variable (E : E) (rec : Rec)

def resultsV (h : H) (fr : Fr) : List ResultVar → Option (List V)
  | [] => some []
  | .tmp t :: r => (resultsV h fr r).bind fun l => some (fr.get t :: l)
  | .cell a t :: r => (match fr.get a with | .ptr x => loadT E.P h t x | _ => none).bind fun v => (resultsV h fr r).bind fun l => some (v :: l)
def resultV : List V → V
  | [v] => v
  | l => .tup l

/-- The frame of a function. -/
def argsT : Nat → List V → T V → T V
  | _, [], t => t
  | i, v :: vs, t => argsT (i + 1) vs (t.set i v)
def enterFr (n : Nat) (args : List V) (cm : CM) : Fr := { n := max args.length n, tmps := argsT 0 args .e, ds := [], cm := cm }

def notNG (s : String) : Bool := decide (s ≠ "runtime.NumGoroutine")

def setPs : List Tmp → List V → Nat → T V → T V
  | t :: ts, v :: vs, n, m => setPs ts vs n (bif Nat.blt t n then m.set t v else m)
  | _, _, _, m => m

def loopAt (h : H) (i : Nat) : Option LoopA := match h.own.get i with
  | some (.loop l) => some l
  | _ => none

/-- A round of a loop over a function: yield is called. -/
def roundK (i : Nat) (args : List V) (h : H) (k : CR → H → Prop) : Prop :=
  match loopAt h i with
  | none => False
  | some l => bif Nat.beq args.length l.params.size then
      rec (.code l.fn (some (.own i)) l.assign { n := l.n, tmps := setPs l.params.toList args l.n l.tmps, ds := [], cm := .plain }) h fun r h => match r with
      | .ex .normal fr => (match loopAt h i with
        | some l' => (match l'.st with
          | .ready => h.setK i (.loop { l' with st := .busy }) fun h =>
            rec (.code l.fn (some (.own i)) l.body fr) h fun r h =>
              let fin (p : Option Code) (b : Bool) : Prop := (match loopAt h i with
                | some l'' => h.setK i (.loop { l'' with st := (match p with | none => .ready | some _ => .done), pend := p }) fun h => k (.ret (.bool b)) h
                | none => False)
              (match r with
              | .ex .normal _ => fin none true
              | .ex .ret _ => fin (some .ret) false
              | .ex (.exit id) _ => fin (some (.exit id)) false
              | .ex (.goto l) _ => fin (some (.goto l)) false
              | .ex (.pan v) fr => (match fr.ds, E.P.funcs[l.fn]? with | [], some _ => k (.pan v) h | _, _ => False)
              | _ => False)
          | _ => False)
        | none => False)
      | _ => False
    else False

/-- A call of a function value. -/
def callV (f : V) (args : List V) (h : H) (k : CR → H → Prop) : Prop :=
  match f with
  | .fn (.func g) first captured => (match E.ext g with
    | some x => (match x (first ++ args ++ captured) h with | some (v, h) => k (.ret v) h | none => False)
    | none => rec (.call g (first ++ args ++ captured) .plain) h fun r h => match r with | .cr c _ => k c h | _ => False)
  | .fn (.yield i) [] [] => roundK E rec i args h k
  | _ => False

def andL {α : Type} (p : α → Prop) : List α → Prop
  | [] => True
  | [e] => p e
  | e :: es => p e ∧ andL p es
/-- The next entry of a map: any. -/
def nextK (h : H) (v : V) (k : V → H → Prop) : Prop :=
  match v with
  | .ptr ⟨.own i, 0, 0⟩ => (match h.own.get i with
    | some (.miter none _ _ _) => k (.tup [.bool false]) h
    | some (.miter (some b) since seen stepped) => (match h.mapAt b with
      | some (_, es, clock) =>
        bif (seen.isEmpty || es.isEmpty || !(es.all fun e => Nat.ble stepped e.2.2)) && (es.all fun e => Nat.blt e.2.2 since) then
        (match es.filter (fun e => !seen.contains e.2.2) with
         | [] => k (.tup [.bool false]) h
         | left => andL (fun e => h.setK i (.miter (some b) since (e.2.2 :: seen) clock) fun h => k (.tup [.bool true, e.1, e.2.1]) h) left)
        else False
      | none => False)
    | _ => False)
  | _ => False

/-- An operation that yields a value. -/
def actK (fr : Fr) (h : H) (o : Oper) (k : V → H → Prop) (kp : V → H → Prop) : Prop :=
  match o.op with
  | .call { callee := .value f, args, .. } => (match fr.eval f, fr.evals args.toList with
    | some f, some vs => callV E rec f vs h fun c h => match c with
      | .ret v => k v h
      | .pan v => kp v h
    | _, _ => False)
  | .next x false => (match fr.eval x with
    | some v => nextK h v k
    | none => False)
  | .binOp op t x y u => (match fr.eval x, fr.eval y with
    | some a, some b => bif anyCmp op a b then k (.bool true) h ∧ k (.bool false) h else (match opV E.P fr h (.binOp op t x y u) with
      | some (v, h) => k v h
      | none => False)
    | _, _ => False)
  | op => match opV E.P fr h op with
    | some (v, h) => k v h
    | none => False

/-- One operation: the next frame and heap; or the value of a panic. -/
def opK (rd : Option B) (fr : Fr) (h : H) (o : Oper) (k : Fr → H → Prop) (kp : V → H → Prop) : Prop :=
  match o.op with
  | .call { callee := .builtin .recover, .. } => (match rd with
    | none => (match fr.cm with
      | .pan v false => { fr with cm := .pan v true : Fr }.putK o.dst v fun fr => k fr h
      | _ => fr.putK o.dst .niliface fun fr => k fr h)
    | some _ => False)
  | .defer { callee := .value f, args, .. } => (match rd, fr.eval f, fr.evals args.toList with
    | none, some (.fn (.func g) first captured), some vs => { fr with ds := .call (.func g) captured (first ++ vs) :: fr.ds : Fr }.putK o.dst .u fun fr => k fr h
    | _, _, _ => False)
  | .panic x => (match fr.eval x with
    | some (.iface t v) => kp (.iface t v) h
    | _ => False)
  | _ => actK E rec fr h o (fun v h => fr.putK o.dst v fun fr => k fr h) kp

/-- The operations in the order of the text. -/
def opsK (rd : Option B) (all : Array Oper) : List Oper → Fr → H → (Rs → H → Prop) → Prop
  | [], fr, h, k => k (.ex .normal fr) h
  | o :: os, fr, h, k => bif wantedV all fr o then opK E rec rd fr h o (fun fr h => opsK rd all os fr h k) (fun v h => k (.ex (.pan v) fr) h)
    else fr.putK o.dst .u fun fr => opsK rd all os fr h k
/-- Any order: k effects have been. -/
def regE (ops : Array Oper) (pures : List (Oper × Nat × Nat)) (kk : Fr → H → Prop) : List (Oper × Nat) → Nat → Fr → H → Option Nat → Prop
  | [], k, fr, h, pn => fillK E.P ops k (fun fr h pn => bif checkE E.P ops k h pn fr pures then kk fr h else False) pures fr h pn
  | e :: es, k, fr, h, pn => fillK E.P ops k (fun fr h pn => bif checkE E.P ops k h pn fr pures then
      (bif wantedV ops fr e.1 then actK E rec fr h e.1 (fun v h => fr.putK e.1.dst v fun fr => regE ops pures kk es (k + 1) fr h pn) (fun _ _ => False)
      else fr.putK e.1.dst .u fun fr => regE ops pures kk es (k + 1) fr h pn) else False) pures fr h pn

/-- The order of a region whose order is open: what acts not, with its places; what acts. -/
def planE (P : Program) (ops : Array Oper) : Option (List (Oper × Nat × Nat) × List (Oper × Nat)) :=
  masksK ops.toList 0 .e fun t => fN (looseE P ops t) fun L => bif steadyE P L ops t then some (puresE P L t (effsE P L ops) ops, effsE P L ops) else none

def estep : Tk → H → (Rs → H → Prop) → Prop
  | .code fn rd c fr, h, k => (match c with
    | .skip => k (.ex .normal fr) h
    | .label _ => k (.ex .normal fr) h
    | .exit id => k (.ex (.exit id) fr) h
    | .goto l => k (.ex (.goto l) fr) h
    | .ret => k (.ex .ret fr) h
    | .region _ ops false => opsK E rec rd ops ops.toList fr h k
    | .region _ ops true => (match planE E.P ops with
      | some p => regE E rec ops p.1 (fun fr h => k (.ex .normal fr) h) p.2 0 fr h none
      | none => False)
    | .seq a b => rec (.code fn rd a fr) h fun r h => match r with
      | .ex .normal fr => rec (.code fn rd b fr) h k
      | r => k r h
    | .cond c a b => (match fr.eval c with
      | some (.bool true) => rec (.code fn rd a fr) h k
      | some (.bool false) => rec (.code fn rd b fr) h k
      | _ => False)
    | .block id b => rec (.code fn rd b fr) h fun r h => match r with
      | .ex (.exit j) fr => bif Nat.beq j id then k (.ex .normal fr) h else k (.ex (.exit j) fr) h
      | r => k r h
    | .loop b => rec (.code fn rd b fr) h fun r h => match r with
      | .ex .normal fr => rec (.again fn rd b fr) h k
      | r => k r h
    | .scope b => rec (.scope fn rd b b fr) h k
    | .rangeFunc f params assign body => (match fr.eval f with
      | some (.fn (.func g) first captured) =>
        let go (defs : B) (fr : Fr) (h : H) : Prop := h.newK (.loop { st := .ready, pend := none, fn := fn, n := fr.n, tmps := fr.tmps, params := params, assign := assign, body := body, defs := defs }) fun l h =>
          rec (.call g (first ++ [.fn (.yield l) [] []] ++ captured) .plain) h fun r h => match r with
          | .cr (.ret _) _ => (match loopAt h l with
            | some q => (match q.st with
              | .busy => False
              | _ => h.setK l (.loop { q with st := .exhausted }) fun h => (match q.pend with
                | none => k (.ex .normal fr) h
                | some c => rec (.code fn rd c fr) h k))
            | none => False)
          | .cr (.pan v) _ => k (.ex (.pan v) fr) h
          | _ => False
        (match E.ext g with
        | some _ => False
        | none => (match rd with
          | none => h.newK (.defs (some [])) fun d h => go (.own d) { fr with ds := .coll (.own d) :: fr.ds } h
          | some (.own i) => (match loopAt h i with | some l => go l.defs fr h | none => False)
          | _ => False))
      | _ => False)
    | .refuse _ => False)
  | .again fn rd b fr, h, k => rec (.code fn rd b fr) h fun r h => match r with
    | .ex .normal fr => rec (.again fn rd b fr) h k
    | r => k r h
  | .scope fn rd all cur fr, h, k => rec (.code fn rd cur fr) h fun r h => match r with
    | .ex (.goto l) fr => (match findLabel all l with
      | some rest => rec (.scope fn rd all rest fr) h k
      | none => k (.ex (.goto l) fr) h)
    | r => k r h
  | .call f args cm, h, k => (match E.hk f with
    | some hook => (match cm with | .plain => hook args h fun c h => k (.cr c .plain) h | _ => False)
    | none => (match E.P.funcs[f]? with
      | some fn => (match fn.body with
        | some c => bif notNG fn.name then rec (.code f none c (enterFr fn.ntmps args cm)) h fun r h => (match r with
            | .ex .normal fr => rec (.unw f fr fr.ds .ret) h k
            | .ex .ret fr => rec (.unw f fr fr.ds .ret) h k
            | .ex (.pan v) fr => rec (.unw f fr fr.ds (.pan v false)) h k
            | _ => False) else False
        | none => False)
      | none => False))
  | .unw f fr ds u, h, k => (match ds with
    | [] => (match u with
      | .ret => (match E.P.funcs[f]? with
        | some fn => (match resultsV E h fr fn.results.toList with
          | some vs => k (.cr (.ret (resultV vs)) fr.cm) h
          | none => False)
        | none => False)
      | .pan v false => k (.cr (.pan v) fr.cm) h
      | _ => False)
    | .coll (.own i) :: ds => (match h.own.get i with
      | some (.defs (some l)) => h.setK i (.defs none) fun h => rec (.unw f fr (l ++ ds) u) h k
      | _ => False)
    | .call (.func g) captured args :: ds => (match E.ext g with
      | some _ => False
      | none => rec (.call g (args ++ captured) u) h fun r h => match r with
        | .cr (.ret _) (.pan v true) => (match v with | _ => rec (.unw f fr ds .ret) h k)
        | .cr (.ret _) .plain => False
        | .cr (.ret _) u => rec (.unw f fr ds u) h k
        | .cr (.pan v) .ret => rec (.unw f fr ds (.pan v false)) h k
        | _ => False)
    | _ => False)
end

/-- n levels of calls, rounds and parts of code. -/
def run (E : E) (n : Nat) : Rec := Nat.rec (fun _ _ _ => False) (fun _ rec => estep E rec) n

theorem run_zero (E : E) (t : Tk) (h : H) (k : Rs → H → Prop) : run E 0 t h k = False := rfl
theorem run_succ (E : E) (n : Nat) (t : Tk) (h : H) (k : Rs → H → Prop) : run E (n + 1) t h k = estep E (run E n) t h k := rfl

end Go.Proofs.Ab
