/- The evaluator's rules, one at a time, as rules of triples over unknown values and heaps. -/
import Derived.Test.YtelmlcciphafjaaGreatDoorAc3
import Derived.Laws.BitsLemmas
namespace Go.Proofs.Ab
open Go Go.RowKit

abbrev Ext := FuncId → Option (List V → H → Option (V × H))
abbrev EE (P : Program) (X : Ext) : E := { P := P, hk := fun _ => none, ext := X }

theorem wrapI64 {n : Int} (h : -9223372036854775808 ≤ n ∧ n < 9223372036854775808) : IntKind.i64.wrap n = n := by
  rw [IntKind.wrap_i64]; omega

/-! ## Literal frames -/
def splitK {α β : Type} : List α → (List α → List α → β) → β
  | [], c => c [] []
  | [x], c => c [x] []
  | x :: y :: r, c => splitK r fun a b => c (x :: a) (y :: b)
def mkK {α β : Type} : Nat → List α → (T α → β) → β
  | 0, _, c => c .e
  | _ + 1, [], c => c .e
  | f + 1, v :: r, c => splitK r fun a b => mkK f a fun l => mkK f b fun rr => c (.n l (some v) rr)
def mkT (l : List V) : T V := mkK l.length l id
def padV : Nat → List V → List V
  | 0, l => l
  | n + 1, [] => .u :: padV n []
  | n + 1, v :: l => v :: padV n l

theorem splitK_id {α β : Type} : ∀ (l : List α) (c : List α → List α → β), splitK l c = c (splitK l fun a b => (a, b)).1 (splitK l fun a b => (a, b)).2
  | [], c => rfl
  | [x], c => rfl
  | x :: y :: r, c => by
    simp only [splitK]
    rw [splitK_id r, splitK_id r fun a b => (x :: a, y :: b)]
theorem splitK_get {α : Type} : ∀ (l : List α), (∀ i, (splitK l fun a b => (a, b)).1[i]? = l[2 * i]?) ∧ (∀ i, (splitK l fun a b => (a, b)).2[i]? = l[2 * i + 1]?) ∧ (splitK l fun a b => (a, b)).1.length ≤ l.length ∧ (splitK l fun a b => (a, b)).2.length ≤ l.length
  | [] => ⟨fun i => by simp [splitK], fun i => by simp [splitK], by simp [splitK], by simp [splitK]⟩
  | [x] => ⟨fun i => by cases i <;> simp [splitK], fun i => by simp [splitK], by simp [splitK], by simp [splitK]⟩
  | x :: y :: r => by
    obtain ⟨h1, h2, h3, h4⟩ := splitK_get r
    simp only [splitK]
    rw [splitK_id r fun a b => (x :: a, y :: b)]
    refine ⟨fun i => ?_, fun i => ?_, by simp only [List.length_cons]; omega, by simp only [List.length_cons]; omega⟩
    · cases i with
      | zero => rfl
      | succ i => rw [List.getElem?_cons_succ, h1, show 2 * (i + 1) = 2 * i + 1 + 1 by omega, List.getElem?_cons_succ, List.getElem?_cons_succ]
    · cases i with
      | zero => rfl
      | succ i => rw [List.getElem?_cons_succ, h2, show 2 * (i + 1) + 1 = 2 * i + 1 + 1 + 1 by omega, List.getElem?_cons_succ, List.getElem?_cons_succ]
theorem mkK_id {α β : Type} : ∀ (f : Nat) (l : List α) (c : T α → β), mkK f l c = c (mkK f l id)
  | 0, l, c => rfl
  | f + 1, [], c => rfl
  | f + 1, v :: r, c => by
    simp only [mkK]
    rw [splitK_id, splitK_id r (fun a b => mkK f a fun l => mkK f b fun rr => id (T.n l (some v) rr))]
    rw [mkK_id f, mkK_id f _ fun l => mkK f _ fun rr => id (T.n l (some v) rr)]
    rw [mkK_id f _ fun rr => c (T.n _ (some v) rr), mkK_id f _ fun rr => id (T.n _ (some v) rr)]
    rfl
theorem mkK_get {α : Type} : ∀ (f : Nat) (l : List α), l.length ≤ f → ∀ i, (mkK f l id).get i = l[i]?
  | 0, l, h, i => by
    cases l with
    | nil => simp [mkK, T.get]
    | cons _ _ => simp at h
  | f + 1, [], h, i => by simp [mkK, T.get]
  | f + 1, v :: r, h, i => by
    obtain ⟨h1, h2, h3, h4⟩ := splitK_get r
    simp only [List.length_cons] at h
    simp only [mkK]
    rw [splitK_id, mkK_id f, mkK_id f _ fun rr => id (T.n _ (some v) rr)]
    cases i with
    | zero => rfl
    | succ k =>
      simp only [id_eq, T.get_ns, List.getElem?_cons_succ]
      cases hb : Nat.beq (k % 2) 0 with
      | true =>
        have hk : k % 2 = 0 := Nat.eq_of_beq_eq_true hb
        simp only [cond_true]
        rw [mkK_get f _ (by omega), h1]
        congr 1; omega
      | false =>
        have hk : k % 2 ≠ 0 := by intro e; rw [e] at hb; exact absurd hb (by decide)
        simp only [cond_false]
        rw [mkK_get f _ (by omega), h2]
        congr 1; omega
theorem padV_get : ∀ (n : Nat) (l : List V) (i : Nat), (padV n l)[i]? = if i < l.length then l[i]? else if i < n then some .u else none
  | 0, l, i => by
    simp only [padV]
    by_cases c : i < l.length
    · rw [if_pos c]
    · rw [if_neg c, if_neg (by omega), List.getElem?_eq_none (by omega)]
  | n + 1, [], 0 => by simp [padV]
  | n + 1, [], i + 1 => by
    simp only [padV, List.getElem?_cons_succ]
    rw [padV_get n [] i]
    simp
  | n + 1, v :: l, 0 => by simp [padV]
  | n + 1, v :: l, i + 1 => by
    simp only [padV, List.getElem?_cons_succ, List.length_cons]
    rw [padV_get n l i]
    simp

theorem litFr_w (n : Nat) (args : List V) (cm : CM) : FrW (enterFr n args cm) { n := max args.length n, tmps := mkT (padV n args), ds := [], cm := cm } where
  n := rfl
  get := fun i hi => by
    simp only [enterFr] at hi ⊢
    rw [argsT_get, mkT, mkK_get _ _ (Nat.le_refl _), padV_get]
    by_cases c : i < args.length
    · rw [if_pos (by omega), if_pos c]; exact VW.refl _
    · rw [if_neg (by omega), T.get_e, if_neg c, if_pos (by omega)]; exact VW.refl _
  out := fun i hi => by
    simp only [enterFr] at hi ⊢
    rw [mkT, mkK_get _ _ (Nat.le_refl _), padV_get, if_neg (by omega), if_neg (by omega)]
  ds := rfl
  cm := rfl

/-! ## Values brought to their form -/
def evQ (fr : Fr) (x : Operand) (Q : V → Prop) : Prop := match x with
  | .tmp t => (match fr.tmps.get t with | some v => Q v | none => Q .u)
  | .const c => (match ofV c with | some v => Q v | none => False)
  | .global g => Q (.ptr ⟨.glob g, 0, 0⟩)
  | .func f => Q (.fn (.func f) [] [])
def evsQ (fr : Fr) : List Operand → (List V → Prop) → Prop
  | [], Q => Q []
  | x :: xs, Q => evQ fr x fun v => evsQ fr xs fun l => Q (v :: l)
theorem evQ_eval {fr : Fr} {x : Operand} {Q : V → Prop} (h : evQ fr x Q) : ∃ a, fr.eval x = some a ∧ Q a := by
  unfold evQ at h
  cases x with
  | tmp t =>
    simp only [Fr.eval, Fr.get] at h ⊢
    split at h
    · rename_i v hg; rw [hg]; exact ⟨_, rfl, h⟩
    · rename_i hg; rw [hg]; exact ⟨_, rfl, h⟩
  | const c =>
    simp only [Fr.eval] at h ⊢
    split at h
    · rename_i v hg; exact ⟨v, hg, h⟩
    · exact h.elim
  | global g => exact ⟨_, rfl, h⟩
  | func f => exact ⟨_, rfl, h⟩
theorem ev_of {fr : Fr} {x : Operand} {a : V} (h : ∀ Q : V → Prop, Q a → evQ fr x Q) : fr.eval x = some a := by
  obtain ⟨a', h1, h2⟩ := evQ_eval (h (fun x => x = a) rfl)
  rw [h1, h2]
theorem evsQ_evals {fr : Fr} : ∀ {xs : List Operand} {Q : List V → Prop}, evsQ fr xs Q → ∃ l, fr.evals xs = some l ∧ Q l
  | [], Q, h => ⟨[], rfl, h⟩
  | x :: xs, Q, h => by
    obtain ⟨a, h1, h2⟩ := evQ_eval h
    obtain ⟨l, h3, h4⟩ := evsQ_evals h2
    exact ⟨a :: l, by simp only [Fr.evals, h1, h3, Option.bind_some], h4⟩
theorem evs_of {fr : Fr} {xs : List Operand} {l : List V} (h : ∀ Q : List V → Prop, Q l → evsQ fr xs Q) : fr.evals xs = some l := by
  obtain ⟨l', h1, h2⟩ := evsQ_evals (h (fun x => x = l) rfl)
  rw [h1, h2]
def joinQ : List V → ((List V → Prop) → Prop) → (List V → Prop) → Prop
  | [], r, Q => r Q
  | x :: xs, r, Q => joinQ xs r fun l => Q (x :: l)
theorem joinQ_iff {ys : List V} {r : (List V → Prop) → Prop} (hr : ∀ Q, r Q ↔ Q ys) : ∀ (xs : List V) (Q : List V → Prop), joinQ xs r Q ↔ Q (xs ++ ys)
  | [], Q => hr Q
  | x :: xs, Q => joinQ_iff hr xs fun l => Q (x :: l)
theorem join_of {xs vs ys zs : List V} (h : ∀ Q : List V → Prop, Q zs → joinQ xs (joinQ vs (fun Q => Q ys)) Q) : xs ++ vs ++ ys = zs := by
  have := (joinQ_iff (ys := vs ++ ys) (fun Q => joinQ_iff (ys := ys) (fun Q => Iff.rfl) vs Q) xs _).1 (h (fun x => x = zs) rfl)
  rw [List.append_assoc]; exact this
/-- A value with its form in front. -/
def vQ (v : V) (Q : V → Prop) : Prop := match v with
  | .any t => Q (.any t)
  | .bool b => Q (.bool b)
  | .int k n => Q (.int k n)
  | .str s => Q (.str s)
  | .nilp => Q .nilp
  | .ptr a => Q (.ptr a)
  | .nilsl => Q .nilsl
  | .sl a l c => Q (.sl a l c)
  | .nilmap => Q .nilmap
  | .map b => Q (.map b)
  | .nilfn => Q .nilfn
  | .fn f xs ys => Q (.fn f xs ys)
  | .niliface => Q .niliface
  | .iface t v => Q (.iface t v)
  | .agg cs => Q (.agg cs)
  | .tup cs => Q (.tup cs)
theorem vQ_iff {v : V} {Q : V → Prop} : vQ v Q ↔ Q v := by cases v <;> exact Iff.rfl
theorem v_of {v a : V} (h : ∀ Q : V → Prop, Q a → vQ v Q) : v = a := (vQ_iff (Q := fun x => x = a)).1 (h (fun x => x = a) rfl)
def rowQ : List V → (List (V × Nat) → Prop) → Prop
  | [], Q => Q []
  | v :: r, Q => rowQ r fun l => Q ((v, 0) :: l)
theorem rowQ_iff : ∀ {l : List V} {Q : List (V × Nat) → Prop}, rowQ l Q ↔ Q (l.map fun v => (v, 0))
  | [], Q => Iff.rfl
  | v :: r, Q => by simp only [rowQ, List.map_cons]; exact rowQ_iff
theorem row_of {l : List V} {cs : List (V × Nat)} (h : ∀ Q : List (V × Nat) → Prop, Q cs → rowQ l Q) : (l.map fun v => (v, 0)) = cs := (rowQ_iff (Q := fun x => x = cs)).1 (h (fun x => x = cs) rfl)

section
variable {P : Program} {X : Ext} {fn : FuncId} {rd : Option B} {fr : Fr} {h : H} {k : Rs → H → Prop}

/-! ## Code -/
def seqK (P : Program) (fn : FuncId) (rd : Option B) (b : Code) (k : Rs → H → Prop) : Rs → H → Prop := fun r h => match r with
  | .ex .normal fr => Tr P (.code fn rd b fr) h k
  | r => k r h
theorem seqK_n {b : Code} (e : Tr P (.code fn rd b fr) h k) : seqK P fn rd b k (.ex .normal fr) h := e
theorem seqK_exit {b : Code} {i : Nat} (e : k (.ex (.exit i) fr) h) : seqK P fn rd b k (.ex (.exit i) fr) h := e
theorem seqK_goto {b : Code} {i : Nat} (e : k (.ex (.goto i) fr) h) : seqK P fn rd b k (.ex (.goto i) fr) h := e
theorem seqK_ret {b : Code} (e : k (.ex .ret fr) h) : seqK P fn rd b k (.ex .ret fr) h := e
theorem seqK_pan {b : Code} {v : V} (e : k (.ex (.pan v) fr) h) : seqK P fn rd b k (.ex (.pan v) fr) h := e
theorem tr_seq (eo : EOk (EE P X)) {a b : Code} (e : Tr P (.code fn rd a fr) h (seqK P fn rd b k)) : Tr P (.code fn rd (.seq a b) fr) h k := Tr.fold (E := EE P X) eo e

def blockK (id : Nat) (k : Rs → H → Prop) : Rs → H → Prop := fun r h => match r with
  | .ex (.exit j) fr => bif Nat.beq j id then k (.ex .normal fr) h else k (.ex (.exit j) fr) h
  | r => k r h
theorem blockK_n {i : Nat} (e : k (.ex .normal fr) h) : blockK i k (.ex .normal fr) h := e
theorem blockK_exit {i j : Nat} (hb : Nat.beq j i = true) (e : k (.ex .normal fr) h) : blockK i k (.ex (.exit j) fr) h := by simp only [blockK, hb, cond_true]; exact e
theorem blockK_exit' {i j : Nat} (hb : Nat.beq j i = false) (e : k (.ex (.exit j) fr) h) : blockK i k (.ex (.exit j) fr) h := by simp only [blockK, hb, cond_false]; exact e
theorem blockK_goto {i j : Nat} (e : k (.ex (.goto j) fr) h) : blockK i k (.ex (.goto j) fr) h := e
theorem blockK_ret {i : Nat} (e : k (.ex .ret fr) h) : blockK i k (.ex .ret fr) h := e
theorem blockK_pan {i : Nat} {v : V} (e : k (.ex (.pan v) fr) h) : blockK i k (.ex (.pan v) fr) h := e
theorem tr_block (eo : EOk (EE P X)) {i : Nat} {b : Code} (e : Tr P (.code fn rd b fr) h (blockK i k)) : Tr P (.code fn rd (.block i b) fr) h k := Tr.fold (E := EE P X) eo e

def loopK (P : Program) (fn : FuncId) (rd : Option B) (b : Code) (k : Rs → H → Prop) : Rs → H → Prop := fun r h => match r with
  | .ex .normal fr => Tr P (.again fn rd b fr) h k
  | r => k r h
theorem tr_loop (eo : EOk (EE P X)) {b : Code} (e : Tr P (.code fn rd b fr) h (loopK P fn rd b k)) : Tr P (.code fn rd (.loop b) fr) h k := Tr.fold (E := EE P X) eo e
theorem tr_again (eo : EOk (EE P X)) {b : Code} (e : Tr P (.code fn rd b fr) h (loopK P fn rd b k)) : Tr P (.again fn rd b fr) h k := Tr.fold (E := EE P X) eo e
theorem loopK_n (eo : EOk (EE P X)) {b : Code} (e : Tr P (.code fn rd b fr) h (loopK P fn rd b k)) : loopK P fn rd b k (.ex .normal fr) h := tr_again eo e
theorem loopK_exit {b : Code} {i : Nat} (e : k (.ex (.exit i) fr) h) : loopK P fn rd b k (.ex (.exit i) fr) h := e
theorem loopK_goto {b : Code} {i : Nat} (e : k (.ex (.goto i) fr) h) : loopK P fn rd b k (.ex (.goto i) fr) h := e
theorem loopK_ret {b : Code} (e : k (.ex .ret fr) h) : loopK P fn rd b k (.ex .ret fr) h := e
theorem loopK_pan {b : Code} {v : V} (e : k (.ex (.pan v) fr) h) : loopK P fn rd b k (.ex (.pan v) fr) h := e

theorem tr_skip (eo : EOk (EE P X)) (e : k (.ex .normal fr) h) : Tr P (.code fn rd .skip fr) h k := Tr.fold (E := EE P X) eo e
theorem tr_label (eo : EOk (EE P X)) {l : Nat} (e : k (.ex .normal fr) h) : Tr P (.code fn rd (.label l) fr) h k := Tr.fold (E := EE P X) eo e
theorem tr_exit (eo : EOk (EE P X)) {i : Nat} (e : k (.ex (.exit i) fr) h) : Tr P (.code fn rd (.exit i) fr) h k := Tr.fold (E := EE P X) eo e
theorem tr_goto (eo : EOk (EE P X)) {i : Nat} (e : k (.ex (.goto i) fr) h) : Tr P (.code fn rd (.goto i) fr) h k := Tr.fold (E := EE P X) eo e
theorem tr_ret (eo : EOk (EE P X)) (e : k (.ex .ret fr) h) : Tr P (.code fn rd .ret fr) h k := Tr.fold (E := EE P X) eo e

theorem tr_cond (eo : EOk (EE P X)) {c : Operand} {a b : Code} {p : Bool} (he : ∀ Q : V → Prop, Q (.bool p) → evQ fr c Q) (ht : p = true → Tr P (.code fn rd a fr) h k) (hf : p = false → Tr P (.code fn rd b fr) h k) : Tr P (.code fn rd (.cond c a b) fr) h k := by
  refine Tr.fold (E := EE P X) eo ?_
  simp only [estep, ev_of he]
  cases p with
  | true => exact ht rfl
  | false => exact hf rfl
theorem tr_condT (eo : EOk (EE P X)) {c : Operand} {a b : Code} (he : ∀ Q : V → Prop, Q (.bool true) → evQ fr c Q) (ht : Tr P (.code fn rd a fr) h k) : Tr P (.code fn rd (.cond c a b) fr) h k := tr_cond eo he (fun _ => ht) (fun e => by cases e)
theorem tr_condF (eo : EOk (EE P X)) {c : Operand} {a b : Code} (he : ∀ Q : V → Prop, Q (.bool false) → evQ fr c Q) (hf : Tr P (.code fn rd b fr) h k) : Tr P (.code fn rd (.cond c a b) fr) h k := tr_cond eo he (fun e => by cases e) (fun _ => hf)

/-! ## Regions in the order of the text -/
def Ops (P : Program) (X : Ext) (rd : Option B) (all : Array Oper) (os : List Oper) (fr : Fr) (h : H) (k : Rs → H → Prop) : Prop := opsK (EE P X) (Tr P) rd all os fr h k
theorem tr_region (eo : EOk (EE P X)) {i : Nat} {l : List Oper} (e : Ops P X rd ⟨l⟩ l fr h k) : Tr P (.code fn rd (.region i ⟨l⟩ false) fr) h k := Tr.fold (E := EE P X) eo e
theorem ops_nil {all : Array Oper} (e : k (.ex .normal fr) h) : Ops P X rd all [] fr h k := e

variable {all : Array Oper} {o : Oper} {os : List Oper} {n : Nat} {t t' : T V} {ds : List D} {cm : CM} {d : Nat} {v : V} {h' : H}

theorem putK_lit {β : Type} (hd : o.dst = some d) (hl : Nat.blt d n = true) (hp : ∀ Q : T V → Prop, Q t' → T.setK (d + 1) t d v Q) (kk : Fr → β) : (⟨n, t, ds, cm⟩ : Fr).putK o.dst v kk = kk ⟨n, t', ds, cm⟩ := by
  have : T.setK (d + 1) t d v (fun x => x = t') := hp (fun x => x = t') rfl
  rw [T.setK_set] at this
  rw [hd]
  simp only [Fr.putK, hl, cond_true, fV_eq, T.setK_set, this]

/-- May its answer be read off at once? -/
def plainOp : Op → Bool
  | .call { callee := .builtin .recover, .. } => false
  | .call { callee := .value _, .. } => false
  | .defer _ => false
  | .panic _ => false
  | .next _ false => false
  | .binOp _ _ _ _ _ => false
  | _ => true

theorem opK_plain {kk : Fr → H → Prop} {kp : V → H → Prop} (hs : plainOp o.op = true) (he : opV P fr h o.op = some (v, h')) (e : fr.putK o.dst v fun fr => kk fr h') : opK (EE P X) (Tr P) rd fr h o kk kp := by
  unfold opK
  split
  · rename_i ho; rw [ho] at hs; simp [plainOp] at hs
  · rename_i ho; rw [ho] at hs; simp [plainOp] at hs
  · rename_i ho; rw [ho] at hs; simp [plainOp] at hs
  · unfold actK
    split
    · rename_i ho; rw [ho] at hs; simp [plainOp] at hs
    · rename_i ho; rw [ho] at hs; simp [plainOp] at hs
    · rename_i ho; rw [ho] at hs; simp [plainOp] at hs
    · simp only [he]; exact e

theorem ops_v0 (hs : plainOp o.op = true) (hw : wantedV all ⟨n, t, ds, cm⟩ o = true) (he : opV P ⟨n, t, ds, cm⟩ h o.op = some (v, h')) (hd : o.dst = some d) (hl : Nat.blt d n = true)
    (hp : ∀ Q : T V → Prop, Q t' → T.setK (d + 1) t d v Q) (e : Ops P X rd all os ⟨n, t', ds, cm⟩ h' k) : Ops P X rd all (o :: os) ⟨n, t, ds, cm⟩ h k := by
  unfold Ops opsK
  rw [hw]
  simp only [cond_true]
  refine opK_plain hs he ?_
  rw [putK_lit hd hl hp]; exact e
theorem ops_v {v0 : V} (hs : plainOp o.op = true) (hw : wantedV all ⟨n, t, ds, cm⟩ o = true) (he : opV P ⟨n, t, ds, cm⟩ h o.op = some (v0, h')) (hv : ∀ Q : V → Prop, Q v → vQ v0 Q) (hd : o.dst = some d) (hl : Nat.blt d n = true)
    (hp : ∀ Q : T V → Prop, Q t' → T.setK (d + 1) t d v Q) (e : Ops P X rd all os ⟨n, t', ds, cm⟩ h' k) : Ops P X rd all (o :: os) ⟨n, t, ds, cm⟩ h k := by
  have := v_of hv; subst this
  exact ops_v0 hs hw he hd hl hp e
/-- A value is handed on. -/
theorem ops_mv {x : Operand} (ho : o.op = .move x) (hw : wantedV all ⟨n, t, ds, cm⟩ o = true) (hx : ∀ Q : V → Prop, Q v → evQ ⟨n, t, ds, cm⟩ x Q) (hd : o.dst = some d) (hl : Nat.blt d n = true)
    (hp : ∀ Q : T V → Prop, Q t' → T.setK (d + 1) t d v Q) (e : Ops P X rd all os ⟨n, t', ds, cm⟩ h k) : Ops P X rd all (o :: os) ⟨n, t, ds, cm⟩ h k :=
  ops_v0 (by rw [ho]; rfl) hw (by rw [ho]; simp only [opV, ev_of hx, Option.bind_some]) hd hl hp e
theorem ops_as {x : Operand} (ho : o.op = .assign x) (hw : wantedV all ⟨n, t, ds, cm⟩ o = true) (hx : ∀ Q : V → Prop, Q v → evQ ⟨n, t, ds, cm⟩ x Q) (hd : o.dst = some d) (hl : Nat.blt d n = true)
    (hp : ∀ Q : T V → Prop, Q t' → T.setK (d + 1) t d v Q) (e : Ops P X rd all os ⟨n, t', ds, cm⟩ h k) : Ops P X rd all (o :: os) ⟨n, t, ds, cm⟩ h k :=
  ops_v0 (by rw [ho]; rfl) hw (by rw [ho]; simp only [opV, ev_of hx, Option.bind_some]) hd hl hp e
theorem ops_pickT {c x y : Operand} (ho : o.op = .pick c x y) (hw : wantedV all ⟨n, t, ds, cm⟩ o = true) (hc : ∀ Q : V → Prop, Q (.bool true) → evQ ⟨n, t, ds, cm⟩ c Q) (hx : ∀ Q : V → Prop, Q v → evQ ⟨n, t, ds, cm⟩ x Q) (hd : o.dst = some d) (hl : Nat.blt d n = true)
    (hp : ∀ Q : T V → Prop, Q t' → T.setK (d + 1) t d v Q) (e : Ops P X rd all os ⟨n, t', ds, cm⟩ h k) : Ops P X rd all (o :: os) ⟨n, t, ds, cm⟩ h k :=
  ops_v0 (by rw [ho]; rfl) hw (by rw [ho]; simp only [opV, ev_of hc, ev_of hx, Option.bind_some]) hd hl hp e
theorem ops_pickF {c x y : Operand} (ho : o.op = .pick c x y) (hw : wantedV all ⟨n, t, ds, cm⟩ o = true) (hc : ∀ Q : V → Prop, Q (.bool false) → evQ ⟨n, t, ds, cm⟩ c Q) (hx : ∀ Q : V → Prop, Q v → evQ ⟨n, t, ds, cm⟩ y Q) (hd : o.dst = some d) (hl : Nat.blt d n = true)
    (hp : ∀ Q : T V → Prop, Q t' → T.setK (d + 1) t d v Q) (e : Ops P X rd all os ⟨n, t', ds, cm⟩ h k) : Ops P X rd all (o :: os) ⟨n, t, ds, cm⟩ h k :=
  ops_v0 (by rw [ho]; rfl) hw (by rw [ho]; simp only [opV, ev_of hc, ev_of hx, Option.bind_some]) hd hl hp e
theorem ops_0 (hs : plainOp o.op = true) (hw : wantedV all fr o = true) (he : opV P fr h o.op = some (v, h')) (hd : o.dst = none) (e : Ops P X rd all os fr h' k) : Ops P X rd all (o :: os) fr h k := by
  unfold Ops opsK
  rw [hw]
  simp only [cond_true]
  refine opK_plain hs he ?_
  rw [hd]; exact e
/-- Not wanted. -/
theorem ops_un (hw : wantedV all ⟨n, t, ds, cm⟩ o = false) (hd : o.dst = some d) (hl : Nat.blt d n = true)
    (hp : ∀ Q : T V → Prop, Q t' → T.setK (d + 1) t d .u Q) (e : Ops P X rd all os ⟨n, t', ds, cm⟩ h k) : Ops P X rd all (o :: os) ⟨n, t, ds, cm⟩ h k := by
  unfold Ops opsK
  rw [hw]
  simp only [cond_false]
  rw [putK_lit hd hl hp]; exact e
theorem ops_un0 (hw : wantedV all fr o = false) (hd : o.dst = none) (e : Ops P X rd all os fr h k) : Ops P X rd all (o :: os) fr h k := by
  unfold Ops opsK
  rw [hw]
  simp only [cond_false]
  rw [hd]; exact e

/-- An operation of two values. -/
theorem ops_bin {op : BinOp} {ty : TypeId} {x y : Operand} {u : TypeId} {a b : V} (ho : o.op = .binOp op ty x y u) (hw : wantedV all ⟨n, t, ds, cm⟩ o = true) (hx : ∀ Q : V → Prop, Q a → evQ ⟨n, t, ds, cm⟩ x Q) (hy : ∀ Q : V → Prop, Q b → evQ ⟨n, t, ds, cm⟩ y Q)
    (hc : anyCmp op a b = false) (hn : anyBin op a b = none) (he : binV P op ty (isC x) (isC y) a b = some v) (hd : o.dst = some d) (hl : Nat.blt d n = true)
    (hp : ∀ Q : T V → Prop, Q t' → T.setK (d + 1) t d v Q) (e : Ops P X rd all os ⟨n, t', ds, cm⟩ h k) : Ops P X rd all (o :: os) ⟨n, t, ds, cm⟩ h k := by
  have hv : opV P ⟨n, t, ds, cm⟩ h (.binOp op ty x y u) = some (v, h) := by
    simp only [opV, ev_of hx, ev_of hy, Option.bind_some, hn, he]
  unfold Ops opsK
  rw [hw]
  simp only [cond_true]
  unfold opK
  split
  · rename_i h1; rw [ho] at h1; cases h1
  · rename_i h1; rw [ho] at h1; cases h1
  · rename_i h1; rw [ho] at h1; cases h1
  · unfold actK
    rw [ho]
    simp only [ev_of hx, ev_of hy, hc, cond_false, hv]
    rw [putK_lit hd hl hp]; exact e
theorem ops_add {x y : Operand} {ty u : TypeId} {a b : Int} (ho : o.op = .binOp .add ty x y u) (hw : wantedV all ⟨n, t, ds, cm⟩ o = true) (hx : ∀ Q : V → Prop, Q (.int .i64 a) → evQ ⟨n, t, ds, cm⟩ x Q) (hy : ∀ Q : V → Prop, Q (.int .i64 b) → evQ ⟨n, t, ds, cm⟩ y Q)
    (hr : -9223372036854775808 ≤ a + b ∧ a + b < 9223372036854775808) (hd : o.dst = some d) (hl : Nat.blt d n = true)
    (hp : ∀ Q : T V → Prop, Q t' → T.setK (d + 1) t d (.int .i64 (a + b)) Q) (e : Ops P X rd all os ⟨n, t', ds, cm⟩ h k) : Ops P X rd all (o :: os) ⟨n, t, ds, cm⟩ h k :=
  ops_bin (v := .int .i64 (a + b)) ho hw hx hy rfl rfl (by
    simp only [binV, if_pos, intV]
    rw [wrapI64 hr]) hd hl hp e

/-- A comparison: both ways. -/
theorem ops_cmp {op : BinOp} {ty : TypeId} {x y : Operand} {u : TypeId} {a b : V} {p : Bool} {t'' : T V} (ho : o.op = .binOp op ty x y u) (hw : wantedV all ⟨n, t, ds, cm⟩ o = true) (hx : ∀ Q : V → Prop, Q a → evQ ⟨n, t, ds, cm⟩ x Q) (hy : ∀ Q : V → Prop, Q b → evQ ⟨n, t, ds, cm⟩ y Q)
    (hc : anyCmp op a b = false) (hn : anyBin op a b = none) (he : binV P op ty (isC x) (isC y) a b = some (.bool p)) (hd : o.dst = some d) (hl : Nat.blt d n = true)
    (hp : ∀ Q : T V → Prop, Q t' → T.setK (d + 1) t d (.bool true) Q) (hp' : ∀ Q : T V → Prop, Q t'' → T.setK (d + 1) t d (.bool false) Q)
    (e : p = true → Ops P X rd all os ⟨n, t', ds, cm⟩ h k) (e' : p = false → Ops P X rd all os ⟨n, t'', ds, cm⟩ h k) : Ops P X rd all (o :: os) ⟨n, t, ds, cm⟩ h k := by
  cases p with
  | true => exact ops_bin ho hw hx hy hc hn he hd hl hp (e rfl)
  | false => exact ops_bin ho hw hx hy hc hn he hd hl hp' (e' rfl)

/-! ### Memory -/
theorem H.new_next (h : H) (o : O) : (h.new o).next = h.next + 1 := rfl
theorem H.set_next (h : H) (i : Nat) (o : O) : (h.set i o).next = h.next := rfl
theorem H.new_base (h : H) (o : O) : (h.new o).base = h.base := rfl
theorem H.set_base (h : H) (i : Nat) (o : O) : (h.set i o).base = h.base := rfl
theorem H.new_glob (h : H) (o : O) : (h.new o).glob = h.glob := rfl
theorem H.set_glob (h : H) (i : Nat) (o : O) : (h.set i o).glob = h.glob := rfl

def cellC (av : Nat) : List (V × Nat) → Option V
  | x :: _ => bif Nat.ble x.2 av then some x.1 else none
  | [] => none
theorem takeC_one (av : Nat) (l : List (V × Nat)) (x : V) (e : cellC av l = some x) : takeC av 1 l = some [x] := by
  cases l with
  | nil => cases e
  | cons y r =>
    simp only [cellC] at e
    simp only [takeC]
    cases hb : Nat.ble y.2 av with
    | false => rw [hb] at e; cases e
    | true => rw [hb] at e; simp only [cond_true, Option.some.injEq] at e; subst e; rfl
theorem cell_own {i ver av off : Nat} {cs : List (V × Nat)} (hg : h.own.get i = some (.cells ver cs)) (hc : cellC av (dropL off cs) = some v) : h.cell ⟨.own i, av, off⟩ = some v := by
  simp only [H.cell, H.cells, hg]
  rw [takeC_one _ _ _ hc]; rfl
theorem cells_own {i ver av off n : Nat} {cs : List (V × Nat)} {vs : List V} (hg : h.own.get i = some (.cells ver cs)) (hc : takeC av n (dropL off cs) = some vs) : h.cells ⟨.own i, av, off⟩ n = some vs := by
  simp only [H.cells, hg]; exact hc

/-- A cell is read. -/
theorem ops_load {ty : TypeId} {x : Operand} {p : A} (ho : o.op = .load ty x) (hw : wantedV all ⟨n, t, ds, cm⟩ o = true) (hx : ∀ Q : V → Prop, Q (.ptr p) → evQ ⟨n, t, ds, cm⟩ x Q) (ha : aggT P ty = some false) (hc : h.cell p = some v)
    (hd : o.dst = some d) (hl : Nat.blt d n = true) (hp : ∀ Q : T V → Prop, Q t' → T.setK (d + 1) t d v Q) (e : Ops P X rd all os ⟨n, t', ds, cm⟩ h k) : Ops P X rd all (o :: os) ⟨n, t, ds, cm⟩ h k :=
  ops_v0 (v := v) (by rw [ho]; rfl) hw (by rw [ho]; simp only [opV, ev_of hx, Option.bind_some, loadT, ha, hc]) hd hl hp e
/-- The cells of a struct or an array are read. -/
theorem ops_loads {ty : TypeId} {x : Operand} {p : A} {m : Nat} {vs : List V} (ho : o.op = .load ty x) (hw : wantedV all ⟨n, t, ds, cm⟩ o = true) (hx : ∀ Q : V → Prop, Q (.ptr p) → evQ ⟨n, t, ds, cm⟩ x Q) (ha : aggT P ty = some true) (hs : szT P ty = some m) (hc : h.cells p m = some vs)
    (hd : o.dst = some d) (hl : Nat.blt d n = true) (hp : ∀ Q : T V → Prop, Q t' → T.setK (d + 1) t d (.agg vs) Q) (e : Ops P X rd all os ⟨n, t', ds, cm⟩ h k) : Ops P X rd all (o :: os) ⟨n, t, ds, cm⟩ h k :=
  ops_v0 (v := .agg vs) (by rw [ho]; rfl) hw (by rw [ho]; simp only [opV, ev_of hx, Option.bind_some, loadT, ha, hs, hc]) hd hl hp e

theorem row_new {β : Type} {vs : List V} {kk : A → H → Option β} (ha : allAtoms vs = true) : h.row vs kk = kk ⟨.own h.next, 0, 0⟩ (h.new (.cells 0 (vs.map fun v => (v, 0)))) := by
  simp only [H.row, ha, cond_true, verK_eq, H.newK_eq]
/-- A new variable. -/
theorem ops_box {ty : TypeId} {x : Operand} {cs : List (V × Nat)} (ho : o.op = .box ty x) (hw : wantedV all ⟨n, t, ds, cm⟩ o = true) (hx : ∀ Q : V → Prop, Q v → evQ ⟨n, t, ds, cm⟩ x Q) (ha : allAtoms v.cells = true) (hr : ∀ Q : List (V × Nat) → Prop, Q cs → rowQ v.cells Q)
    (hd : o.dst = some d) (hl : Nat.blt d n = true) (hp : ∀ Q : T V → Prop, Q t' → T.setK (d + 1) t d (.ptr ⟨.own h.next, 0, 0⟩) Q) (e : Ops P X rd all os ⟨n, t', ds, cm⟩ (h.new (.cells 0 cs)) k) : Ops P X rd all (o :: os) ⟨n, t, ds, cm⟩ h k := by
  have := row_of hr; subst this
  exact ops_v0 (v := .ptr ⟨.own h.next, 0, 0⟩) (by rw [ho]; rfl) hw (by rw [ho]; simp only [opV, ev_of hx, Option.bind_some, row_new ha]) hd hl hp e
theorem ops_alloc {ty : TypeId} {z : V} {cs : List (V × Nat)} (ho : o.op = .alloc ty) (hw : wantedV all ⟨n, t, ds, cm⟩ o = true) (hz : zeroT P ty = some z) (ha : allAtoms z.cells = true) (hr : ∀ Q : List (V × Nat) → Prop, Q cs → rowQ z.cells Q)
    (hd : o.dst = some d) (hl : Nat.blt d n = true) (hp : ∀ Q : T V → Prop, Q t' → T.setK (d + 1) t d (.ptr ⟨.own h.next, 0, 0⟩) Q) (e : Ops P X rd all os ⟨n, t', ds, cm⟩ (h.new (.cells 0 cs)) k) : Ops P X rd all (o :: os) ⟨n, t, ds, cm⟩ h k := by
  have := row_of hr; subst this
  exact ops_v0 (v := .ptr ⟨.own h.next, 0, 0⟩) (by rw [ho]; rfl) hw (by rw [ho]; simp only [opV, hz, Option.bind_some, row_new ha]) hd hl hp e

/-- An element's address. -/
theorem ops_at {ty : TypeId} {x y : Operand} {a : A} {len : Nat} {cap : Cap} {q : IntKind} {m : Int} {el sz : Nat} (ho : o.op = .indexAddr ty x y) (hw : wantedV all ⟨n, t, ds, cm⟩ o = true) (hx : ∀ Q : V → Prop, Q (.sl a len cap) → evQ ⟨n, t, ds, cm⟩ x Q) (hy : ∀ Q : V → Prop, Q (.int q m) → evQ ⟨n, t, ds, cm⟩ y Q)
    (he : elemT P ty = some el) (hs : szT P el = some sz) (hr : 0 ≤ m ∧ m < len)
    (hd : o.dst = some d) (hl : Nat.blt d n = true) (hp : ∀ Q : T V → Prop, Q t' → T.setK (d + 1) t d (.ptr (a.add (m.toNat * sz))) Q) (e : Ops P X rd all os ⟨n, t', ds, cm⟩ h k) : Ops P X rd all (o :: os) ⟨n, t, ds, cm⟩ h k :=
  ops_v0 (v := .ptr (a.add (m.toNat * sz))) (by rw [ho]; rfl) hw (by
    rw [ho]
    have hu : P.underlying ty = some (.slice el) := elemT_run he
    simp only [opV, ev_of hx, ev_of hy, Option.bind_some, indexAtV, intOfV, hu, hs, inRange, if_pos hr]) hd hl hp e

/-- A call. -/
def retK (P : Program) (X : Ext) (rd : Option B) (all : Array Oper) (os : List Oper) (fr : Fr) (d : Option Tmp) (k : Rs → H → Prop) : Rs → H → Prop := fun r h => match r with
  | .cr (.ret v) _ => fr.putK d v fun fr => Ops P X rd all os fr h k
  | .cr (.pan v) _ => k (.ex (.pan v) fr) h
  | _ => False
theorem retK_pan {d : Option Tmp} {cm : CM} (e : k (.ex (.pan v) fr) h) : retK P X rd all os fr d k (.cr (.pan v) cm) h := e
theorem retK_ret {cm' : CM} (hl : Nat.blt d n = true) (hp : ∀ Q : T V → Prop, Q t' → T.setK (d + 1) t d v Q) (e : Ops P X rd all os ⟨n, t', ds, cm⟩ h k) : retK P X rd all os ⟨n, t, ds, cm⟩ (some d) k (.cr (.ret v) cm') h := by
  simp only [retK]
  rw [putK_lit (o := { (default : Oper) with dst := some d }) rfl hl hp]; exact e
theorem retK_ret0 {cm' : CM} (e : Ops P X rd all os fr h k) : retK P X rd all os fr none k (.cr (.ret v) cm') h := e

theorem ops_call {f : Operand} {args : Array Operand} {ats : Array TypeId} {g : FuncId} {xs ys vs zs : List V} {dd : Option Tmp} (ho : o.op = .call { callee := .value f, args := args, argTypes := ats }) (hw : wantedV all fr o = true)
    (hf : ∀ Q : V → Prop, Q (.fn (.func g) xs ys) → evQ fr f Q) (hX : X g = none) (ha : ∀ Q : List V → Prop, Q vs → evsQ fr args.toList Q) (hd : o.dst = dd) (hj : ∀ Q : List V → Prop, Q zs → joinQ xs (joinQ vs (fun Q => Q ys)) Q) (e : Tr P (.call g zs .plain) h (retK P X rd all os fr dd k)) : Ops P X rd all (o :: os) fr h k := by
  have := join_of hj; subst this
  unfold Ops opsK
  rw [hw]
  simp only [cond_true]
  unfold opK
  rw [ho]
  simp only
  unfold actK
  rw [ho]
  simp only [ev_of hf, evs_of ha, callV, hX]
  refine e.mono ?_
  intro r h e
  cases r with
  | ex x fr => exact e
  | cr c cm =>
    cases c with
    | ret v => subst hd; exact e
    | pan v => exact e

/-! ## Calls -/
def callK (P : Program) (f : FuncId) (k : Rs → H → Prop) : Rs → H → Prop := fun r h => match r with
  | .ex .normal fr => Tr P (.unw f fr fr.ds .ret) h k
  | .ex .ret fr => Tr P (.unw f fr fr.ds .ret) h k
  | .ex (.pan v) fr => Tr P (.unw f fr fr.ds (.pan v false)) h k
  | _ => False
theorem tr_call (eo : EOk (EE P X)) {f : FuncId} {fnn : Func} {c : Code} {args : List V} {n : Nat} {t : T V} (hf : P.funcs[f]? = some fnn) (hc : fnn.body = some c) (hn : notNG fnn.name = true) (hm : max args.length fnn.ntmps = n)
    (hp : ∀ Q : T V → Prop, Q t → mkK (padV fnn.ntmps args).length (padV fnn.ntmps args) Q) (e : Tr P (.code f none c ⟨n, t, [], .plain⟩) h (callK P f k)) : Tr P (.call f args .plain) h k := by
  refine Tr.fold (E := EE P X) eo ?_
  simp only [estep, hf, hc, hn, cond_true]
  refine Tr.frame (litFr_w fnn.ntmps args .plain) ?_
  have : mkK (padV fnn.ntmps args).length (padV fnn.ntmps args) (fun x => x = t) := hp _ rfl
  rw [mkK_id] at this
  rw [hm, mkT, this]
  exact e.mono fun r h e => e
theorem tr_unw_ret (eo : EOk (EE P X)) {f : FuncId} {fnn : Func} {vs : List V} (hf : P.funcs[f]? = some fnn) (hr : resultsV (EE P X) h fr fnn.results.toList = some vs) (e : k (.cr (.ret (resultV vs)) fr.cm) h) : Tr P (.unw f fr [] .ret) h k := by
  refine Tr.fold (E := EE P X) eo ?_
  simp only [estep, hf, hr]
  exact e
def resQ (fr : Fr) : List ResultVar → (List V → Prop) → Prop
  | [], Q => Q []
  | .tmp t :: r, Q => evQ fr (.tmp t) fun v => resQ fr r fun l => Q (v :: l)
  | .cell _ _ :: _, _ => False
theorem resQ_of {h : H} {fr : Fr} : ∀ {r : List ResultVar} {Q : List V → Prop}, resQ fr r Q → ∃ vs, resultsV (EE P X) h fr r = some vs ∧ Q vs
  | [], Q, e => ⟨[], rfl, e⟩
  | .tmp t :: r, Q, e => by
    obtain ⟨a, h1, h2⟩ := evQ_eval e
    obtain ⟨l, h3, h4⟩ := resQ_of (h := h) h2
    simp only [Fr.eval, Option.some.injEq] at h1
    subst h1
    exact ⟨_, by simp only [resultsV, h3, Option.bind_some], h4⟩
  | .cell _ _ :: _, _, e => e.elim
def resultQ (l : List V) (Q : V → Prop) : Prop := match l with
  | [v] => Q v
  | [] => Q (.tup [])
  | a :: b :: r => Q (.tup (a :: b :: r))
theorem resultQ_iff {l : List V} {Q : V → Prop} : resultQ l Q ↔ Q (resultV l) := by
  cases l with
  | nil => exact Iff.rfl
  | cons a l => cases l with
    | nil => exact Iff.rfl
    | cons b l => exact Iff.rfl
theorem callK_end (eo : EOk (EE P X)) {f : FuncId} {fnn : Func} {vs : List V} (hf : P.funcs[f]? = some fnn) (hr : ∀ Q : List V → Prop, Q vs → resQ ⟨n, t, [], cm⟩ fnn.results.toList Q) (hv : ∀ Q : V → Prop, Q v → resultQ vs Q) (e : k (.cr (.ret v) cm) h) : callK P f k (.ex .ret ⟨n, t, [], cm⟩) h := by
  obtain ⟨vs', h1, h2⟩ := resQ_of (P := P) (X := X) (h := h) (hr (fun x => x = vs) rfl)
  subst h2
  have := (resultQ_iff (Q := fun x => x = v)).1 (hv _ rfl)
  subst this
  exact tr_unw_ret eo hf h1 e
theorem callK_endn (eo : EOk (EE P X)) {f : FuncId} {fnn : Func} {vs : List V} (hf : P.funcs[f]? = some fnn) (hr : ∀ Q : List V → Prop, Q vs → resQ ⟨n, t, [], cm⟩ fnn.results.toList Q) (hv : ∀ Q : V → Prop, Q v → resultQ vs Q) (e : k (.cr (.ret v) cm) h) : callK P f k (.ex .normal ⟨n, t, [], cm⟩) h := by
  obtain ⟨vs', h1, h2⟩ := resQ_of (P := P) (X := X) (h := h) (hr (fun x => x = vs) rfl)
  subst h2
  have := (resultQ_iff (Q := fun x => x = v)).1 (hv _ rfl)
  subst this
  exact tr_unw_ret eo hf h1 e
theorem callK_ret (eo : EOk (EE P X)) {f : FuncId} {fnn : Func} {vs : List V} (hf : P.funcs[f]? = some fnn) (hr : resultsV (EE P X) h ⟨n, t, [], cm⟩ fnn.results.toList = some vs) (hv : resultV vs = v) (e : k (.cr (.ret v) cm) h) : callK P f k (.ex .ret ⟨n, t, [], cm⟩) h := by
  subst hv; exact tr_unw_ret eo hf hr e
theorem callK_n (eo : EOk (EE P X)) {f : FuncId} {fnn : Func} {vs : List V} (hf : P.funcs[f]? = some fnn) (hr : resultsV (EE P X) h ⟨n, t, [], cm⟩ fnn.results.toList = some vs) (hv : resultV vs = v) (e : k (.cr (.ret v) cm) h) : callK P f k (.ex .normal ⟨n, t, [], cm⟩) h := by
  subst hv; exact tr_unw_ret eo hf hr e
theorem tr_unw_pan (eo : EOk (EE P X)) {f : FuncId} (e : k (.cr (.pan v) fr.cm) h) : Tr P (.unw f fr [] (.pan v false)) h k := by
  refine Tr.fold (E := EE P X) eo ?_
  simp only [estep]
  exact e
theorem callK_pan (eo : EOk (EE P X)) {f : FuncId} (e : k (.cr (.pan v) cm) h) : callK P f k (.ex (.pan v) ⟨n, t, [], cm⟩) h := tr_unw_pan eo e

/-! ## Loops -/
theorem tr_again_at {F : (Nat → V) → T V} {b : Code} (key : ∀ g : Nat → V, Tr P (.code fn rd b ⟨n, F g, ds, cm⟩) h k) (ht : F (fun j => (t.get j).getD .u) = t) : Tr P (.code fn rd b ⟨n, t, ds, cm⟩) h k := ht ▸ key _
theorem tr_norm {b : Code} {l : List V} (hp : ∀ Q : T V → Prop, Q t → mkK l.length l Q) (e : Tr P (.code fn rd b ⟨n, t, ds, cm⟩) h k) : Tr P (.code fn rd b ⟨n, mkT l, ds, cm⟩) h k := by
  have : mkK l.length l (fun x => x = t) := hp _ rfl
  rw [mkK_id] at this
  rw [mkT, this]; exact e
end

attribute [irreducible] seqK blockK loopK retK callK Ops

end Go.Proofs.Ab
