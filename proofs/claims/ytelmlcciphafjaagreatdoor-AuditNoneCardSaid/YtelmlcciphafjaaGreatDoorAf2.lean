/- The faster evaluator: operations and regions as closures. -/
import Derived.Test.YtelmlcciphafjaaGreatDoorAf1
import Derived.Test.YtelmlcciphafjaaGreatDoorAf0
namespace Go.Proofs.Ab
open Go Go.RowKit

theorem put_some {β : Type} (h : H) (a : A) (vs : List V) (k : H → Option β) : h.put a vs k = (h.put a vs some).bind k := by
  unfold H.put
  cases vs with
  | nil => rfl
  | cons v r =>
    simp only
    cases allAtoms (v :: r) with
    | false => rfl
    | true =>
      simp only [cond_true]
      cases a.blk with
      | base i => rfl
      | glob i => rfl
      | own i =>
        simp only
        split
        · rename_i ver cs ho
          cases Nat.beq a.ver ver with
          | false => rfl
          | true =>
            simp only [cond_true]
            split
            · simp only [H.setK_eq, Option.bind_some]
            · rfl
        · rfl

/-! ## What acts not -/
structure PuC where
  f : Fr → H → (V → Prop) → Prop
noncomputable def puV (P : Program) (op : Op) : PuC := ⟨fun fr h k => match opV P fr h op with | some (v, _) => k v | none => False⟩
noncomputable def puF (P : Program) (op : Op) : PuC := match op with
  | .move x => ⟨fun fr h k => (opdF x).f fr k⟩
  | .assign x => ⟨fun fr h k => (opdF x).f fr k⟩
  | .pick c x y => ⟨fun fr h k => (opdF c).f fr fun c => match c with
    | .bool true => (opdF x).f fr k
    | .bool false => (opdF y).f fr k
    | _ => False⟩
  | .binOp op t x y u => (match op with
    | .shl => ⟨fun fr h k => (opdF x).f fr fun a => (opdF y).f fr fun b => match a, b with
      | .int j m, .int q n => (binF .shl j).f m n k
      | _, _ => False⟩
    | .shr => ⟨fun fr h k => (opdF x).f fr fun a => (opdF y).f fr fun b => match a, b with
      | .int j m, .int q n => (binF .shr j).f m n k
      | _, _ => False⟩
    | op => ⟨fun fr h k => (opdF x).f fr fun a => (opdF y).f fr fun b => match a, b with
      | .int j m, .int q n => if j = q then (binF op j).f m n k else False
      | _, _ => (puV P (.binOp op t x y u)).f fr h k⟩)
  | .load t x => (match aggT P t with
    | some false => ⟨fun fr h k => (opdF x).f fr fun a => match a with | .ptr p => (match h.cell p with | some v => k v | none => False) | _ => False⟩
    | some true => (match szT P t with
      | some n => ⟨fun fr h k => (opdF x).f fr fun a => match a with | .ptr p => (match h.cells p n with | some vs => k (.agg vs) | none => False) | _ => False⟩
      | none => ⟨fun _ _ _ => False⟩)
    | none => ⟨fun _ _ _ => False⟩)
  | .indexAddr t x y => (match P.underlying t with
    | some (.slice e) => (match szT P e with
      | some n => ⟨fun fr h k => (opdF x).f fr fun a => (opdF y).f fr fun i => match a, i with
        | .sl a len _, .int _ i => (match inRange i len with | some j => k (.ptr (a.add (j * n))) | none => False)
        | _, _ => False⟩
      | none => ⟨fun _ _ _ => False⟩)
    | some (.array m e) => (match szT P e with
      | some n => ⟨fun fr h k => (opdF x).f fr fun a => (opdF y).f fr fun i => match a, i with
        | .ptr a, .int _ i => (match inRange i m with | some j => k (.ptr (a.add (j * n))) | none => False)
        | _, _ => False⟩
      | none => ⟨fun _ _ _ => False⟩)
    | _ => ⟨fun _ _ _ => False⟩)
  | .fieldAddr s x f => (match P.underlying s with
    | some (.struct fs) => (match fs.toList[f]? with
      | some g => (match szT P g.type with
        | some n => (bif Nat.beq n 0 then ⟨fun _ _ _ => False⟩ else ⟨fun fr h k => (opdF x).f fr fun a => match a with | .ptr a => k (.ptr (a.add g.offset)) | _ => False⟩)
        | none => ⟨fun _ _ _ => False⟩)
      | none => ⟨fun _ _ _ => False⟩)
    | _ => ⟨fun _ _ _ => False⟩)
  | .extract x i => ⟨fun fr h k => (opdF x).f fr fun a => match a with | .tup vs => (match vs[i]? with | some v => k v | none => False) | _ => False⟩
  | .convert s d x => (match P.underlying s, P.underlying d with
    | some sd, some (.int q) => ⟨fun fr h k => (opdF x).f fr fun a => match a with | .int _ n => k (.int q (q.wrap n)) | _ => (puV P (.convert s d x)).f fr h k⟩
    | _, _ => puV P (.convert s d x))
  | op => puV P op

theorem puF_ok {P : Program} {op : Op} {fr : Fr} {h : H} {k : V → Prop} (e : (puF P op).f fr h k) : ∃ v h', opV P fr h op = some (v, h') ∧ k v := by
  have dflt : ∀ {op : Op}, (puV P op).f fr h k → ∃ v h', opV P fr h op = some (v, h') ∧ k v := by
    intro op e
    simp only [puV] at e
    split at e
    · rename_i v h' hv; exact ⟨v, h', hv, e⟩
    · exact e.elim
  cases op with
  | move x =>
    obtain ⟨v, h1, e⟩ := opdF_ok e
    exact ⟨v, h, by simp only [opV, h1, Option.bind_some], e⟩
  | assign x =>
    obtain ⟨v, h1, e⟩ := opdF_ok e
    exact ⟨v, h, by simp only [opV, h1, Option.bind_some], e⟩
  | pick c x y =>
    obtain ⟨c, h1, e⟩ := opdF_ok e
    split at e
    · obtain ⟨v, h2, e⟩ := opdF_ok e
      exact ⟨v, h, by simp only [opV, h1, h2, Option.bind_some], e⟩
    · obtain ⟨v, h2, e⟩ := opdF_ok e
      exact ⟨v, h, by simp only [opV, h1, h2, Option.bind_some], e⟩
    · exact e.elim
  | binOp op t x y u =>
    have sh : ∀ {a b : V}, fr.eval x = some a → fr.eval y = some b → ∀ {v : V}, anyBin op a b = none → binV P op t (isC x) (isC y) a b = some v → k v → ∃ v h', opV P fr h (.binOp op t x y u) = some (v, h') ∧ k v := by
      intro a b h1 h2 v h3 h4 h5
      exact ⟨v, h, by simp only [opV, h1, h2, Option.bind_some, h3, h4], h5⟩
    cases op <;> (
      simp only [puF] at e
      obtain ⟨a, h1, e⟩ := opdF_ok e
      obtain ⟨b, h2, e⟩ := opdF_ok e
      split at e
      · first
        | (split at e
           · rename_i hj
             subst hj
             obtain ⟨v, h3, e⟩ := binF_ok (P := P) t (isC x) (isC y) e
             exact sh h1 h2 rfl h3 e
           · exact e.elim)
        | (rename_i j m q n
           simp only [binF] at e
           split at e
           · rename_i v hv; exact sh h1 h2 rfl (by simp only [binV]; exact hv) e
           · exact e.elim)
      · first
        | exact e.elim
        | exact dflt e)
  | load t x =>
    simp only [puF] at e
    split at e
    · rename_i ha
      obtain ⟨a, h1, e⟩ := opdF_ok e
      split at e
      · split at e
        · rename_i v hv; exact ⟨v, h, by simp only [opV, h1, Option.bind_some, loadT, ha, hv], e⟩
        · exact e.elim
      · exact e.elim
    · rename_i ha
      split at e
      · rename_i n hn
        obtain ⟨a, h1, e⟩ := opdF_ok e
        split at e
        · split at e
          · rename_i v hv; exact ⟨_, h, by simp only [opV, h1, Option.bind_some, loadT, ha, hn, hv], e⟩
          · exact e.elim
        · exact e.elim
      · exact e.elim
    · exact e.elim
  | indexAddr t x y =>
    simp only [puF] at e
    split at e
    · rename_i el hu
      split at e
      · rename_i n hn
        obtain ⟨a, h1, e⟩ := opdF_ok e
        obtain ⟨b, h2, e⟩ := opdF_ok e
        split at e
        · split at e
          · rename_i j hj; exact ⟨_, h, by simp only [opV, h1, h2, Option.bind_some, indexAtV, intOfV, hu, hn, hj], e⟩
          · exact e.elim
        · exact e.elim
      · exact e.elim
    · rename_i m el hu
      split at e
      · rename_i n hn
        obtain ⟨a, h1, e⟩ := opdF_ok e
        obtain ⟨b, h2, e⟩ := opdF_ok e
        split at e
        · split at e
          · rename_i j hj; exact ⟨_, h, by simp only [opV, h1, h2, Option.bind_some, indexAtV, intOfV, hu, hn, hj], e⟩
          · exact e.elim
        · exact e.elim
      · exact e.elim
    · exact e.elim
  | fieldAddr s x f =>
    simp only [puF] at e
    split at e
    · rename_i fs hu
      split at e
      · rename_i g hg
        split at e
        · rename_i n hn
          cases hb : Nat.beq n 0 with
          | true => rw [hb] at e; exact e.elim
          | false =>
            rw [hb] at e
            obtain ⟨a, h1, e⟩ := opdF_ok e
            split at e
            · exact ⟨_, h, by simp only [opV, h1, Option.bind_some, fieldAtV, hu, hg, hn, hb, cond_false], e⟩
            · exact e.elim
        · exact e.elim
      · exact e.elim
    · exact e.elim
  | extract x i =>
    simp only [puF] at e
    obtain ⟨a, h1, e⟩ := opdF_ok e
    split at e
    · split at e
      · rename_i v hv; exact ⟨v, h, by simp only [opV, h1, Option.bind_some, extractV, hv], e⟩
      · exact e.elim
    · exact e.elim
  | convert s d x =>
    simp only [puF] at e
    split at e
    · rename_i sd q hs hd
      obtain ⟨a, h1, e⟩ := opdF_ok e
      split at e
      · refine ⟨_, h, ?_, e⟩
        simp only [opV, h1, Option.bind_some, anyConv, convertV, hs, hd]
      · exact dflt e
    · exact dflt e
  | _ => exact dflt e

/-! ## One operation in a region whose order is the text's -/
structure OpC where
  f : Rec → Option B → Fr → H → (Fr → H → Prop) → (V → H → Prop) → Prop
noncomputable def opF (E : E) (o : Oper) : OpC := match o.op with
  | .store t x y => (match szT E.P t with
    | some n => ⟨fun rec rd fr h k kp => (opdF x).f fr fun a => (opdF y).f fr fun v => match a with
      | .ptr p => bif Nat.beq v.cells.length n then (match h.put p v.cells some with | some h => (dstF o.dst).f fr .u fun fr => k fr h | none => False) else False
      | _ => False⟩
    | none => ⟨fun _ _ _ _ _ _ => False⟩)
  | .call { callee := .value f, args, .. } => ⟨fun rec rd fr h k kp => (opdF f).f fr fun fv => (opdsF args.toList).f fr fun vs => callV E rec fv vs h fun c h => match c with
    | .ret v => (dstF o.dst).f fr v fun fr => k fr h
    | .pan v => kp v h⟩
  | .move x => ⟨fun rec rd fr h k kp => (puF E.P (.move x)).f fr h fun v => (dstF o.dst).f fr v fun fr => k fr h⟩
  | .assign x => ⟨fun rec rd fr h k kp => (puF E.P (.assign x)).f fr h fun v => (dstF o.dst).f fr v fun fr => k fr h⟩
  | .pick c x y => ⟨fun rec rd fr h k kp => (puF E.P (.pick c x y)).f fr h fun v => (dstF o.dst).f fr v fun fr => k fr h⟩
  | .load t x => ⟨fun rec rd fr h k kp => (puF E.P (.load t x)).f fr h fun v => (dstF o.dst).f fr v fun fr => k fr h⟩
  | .indexAddr t x y => ⟨fun rec rd fr h k kp => (puF E.P (.indexAddr t x y)).f fr h fun v => (dstF o.dst).f fr v fun fr => k fr h⟩
  | .fieldAddr t x f => ⟨fun rec rd fr h k kp => (puF E.P (.fieldAddr t x f)).f fr h fun v => (dstF o.dst).f fr v fun fr => k fr h⟩
  | .extract x i => ⟨fun rec rd fr h k kp => (puF E.P (.extract x i)).f fr h fun v => (dstF o.dst).f fr v fun fr => k fr h⟩
  | .binOp op t x y u => (match op with
    | .shl => ⟨fun rec rd fr h k kp => (puF E.P (.binOp .shl t x y u)).f fr h fun v => (dstF o.dst).f fr v fun fr => k fr h⟩
    | .shr => ⟨fun rec rd fr h k kp => (puF E.P (.binOp .shr t x y u)).f fr h fun v => (dstF o.dst).f fr v fun fr => k fr h⟩
    | op => ⟨fun rec rd fr h k kp => (opdF x).f fr fun a => (opdF y).f fr fun b => match a, b with
      | .int j m, .int q n => if j = q then (binF op j).f m n fun v => (dstF o.dst).f fr v fun fr => k fr h else False
      | _, _ => opK E rec rd fr h o k kp⟩)
  | _ => ⟨fun rec rd fr h k kp => opK E rec rd fr h o k kp⟩

theorem puF_opK {E : E} {rec : Rec} {rd : Option B} {fr : Fr} {h : H} {o : Oper} {k : Fr → H → Prop} {kp : V → H → Prop} (hs : Nat.ble (kd E.P o.op) 1 = true)
    (hn : ∀ op t x y u, o.op ≠ .binOp op t x y u) (hd : ∀ c, o.op ≠ .call c) (e : (puF E.P o.op).f fr h fun v => (dstF o.dst).f fr v fun fr => k fr h) : opK E rec rd fr h o k kp := by
  obtain ⟨v, h', hv, e⟩ := puF_ok e
  have := pure_heap hs hv
  subst this
  rw [dstF_eq] at e
  unfold opK
  split
  · rename_i ho; exact absurd ho (hd _)
  · rename_i ho; rw [ho] at hs; simp [kd] at hs
  · rename_i ho; rw [ho] at hs; simp [kd] at hs
  · unfold actK
    split
    · rename_i ho; exact absurd ho (hd _)
    · rename_i ho; rw [ho] at hs; simp [kd] at hs
    · rename_i ho; exact absurd ho (hn _ _ _ _ _)
    · simp only [hv]; exact e

theorem opF_ok {E : E} {rec : Rec} {rd : Option B} {fr : Fr} {h : H} {o : Oper} {k : Fr → H → Prop} {kp : V → H → Prop} (e : (opF E o).f rec rd fr h k kp) : opK E rec rd fr h o k kp := by
  unfold opF at e
  split at e
  · rename_i t x y ho
    split at e
    · rename_i n hn
      obtain ⟨a, h1, e⟩ := opdF_ok e
      obtain ⟨v, h2, e⟩ := opdF_ok e
      split at e
      · rename_i p
        cases hb : Nat.beq v.cells.length n with
        | false => rw [hb] at e; exact e.elim
        | true =>
          rw [hb] at e
          simp only [cond_true] at e
          split at e
          · rename_i h2' hp
            rw [dstF_eq] at e
            unfold opK
            rw [ho]
            simp only
            unfold actK
            rw [ho]
            simp only [opV, h1, h2, Option.bind_some, storeT, hn, hb, cond_true]
            rw [put_some, hp]
            exact e
          · exact e.elim
      · exact e.elim
    · exact e.elim
  · rename_i f args ats ho
    obtain ⟨fv, h1, e⟩ := opdF_ok e
    obtain ⟨vs, h2, e⟩ := opdsF_ok e
    unfold opK
    rw [ho]
    simp only
    unfold actK
    rw [ho]
    simp only [h1, h2]
    simp only [dstF_eq] at e
    exact e
  · rename_i ho; exact puF_opK (by rw [ho]; rfl) (by rw [ho]; intros; intro c; cases c) (by rw [ho]; intros; intro c; cases c) (by rw [ho]; exact e)
  · rename_i ho; exact puF_opK (by rw [ho]; rfl) (by rw [ho]; intros; intro c; cases c) (by rw [ho]; intros; intro c; cases c) (by rw [ho]; exact e)
  · rename_i ho; exact puF_opK (by rw [ho]; rfl) (by rw [ho]; intros; intro c; cases c) (by rw [ho]; intros; intro c; cases c) (by rw [ho]; exact e)
  · rename_i ho; exact puF_opK (by rw [ho]; rfl) (by rw [ho]; intros; intro c; cases c) (by rw [ho]; intros; intro c; cases c) (by rw [ho]; exact e)
  · rename_i ho; exact puF_opK (by rw [ho]; rfl) (by rw [ho]; intros; intro c; cases c) (by rw [ho]; intros; intro c; cases c) (by rw [ho]; exact e)
  · rename_i ho; exact puF_opK (by rw [ho]; rfl) (by rw [ho]; intros; intro c; cases c) (by rw [ho]; intros; intro c; cases c) (by rw [ho]; exact e)
  · rename_i ho; exact puF_opK (by rw [ho]; rfl) (by rw [ho]; intros; intro c; cases c) (by rw [ho]; intros; intro c; cases c) (by rw [ho]; exact e)
  · rename_i op t x y u ho
    have two : ∀ {a b v : V}, fr.eval x = some a → fr.eval y = some b → anyCmp op a b = false → anyBin op a b = none → binV E.P op t (isC x) (isC y) a b = some v → fr.putK o.dst v (fun fr => k fr h) → opK E rec rd fr h o k kp := by
      intro a b v h1 h2 h3 h4 h5 e
      unfold opK
      rw [ho]
      simp only
      unfold actK
      rw [ho]
      have hv : opV E.P fr h (.binOp op t x y u) = some (v, h) := by simp only [opV, h1, h2, Option.bind_some, h4, h5]
      simp only [h1, h2, h3, cond_false, hv]
      exact e
    cases op <;> first
      | (simp only at e
         obtain ⟨a, h1, e⟩ := opdF_ok e
         obtain ⟨b, h2, e⟩ := opdF_ok e
         split at e
         · split at e
           · rename_i hj
             subst hj
             obtain ⟨v, h3, e⟩ := binF_ok (P := E.P) t (isC x) (isC y) e
             rw [dstF_eq] at e
             exact two h1 h2 rfl rfl h3 e
           · exact e.elim
         · exact e)
      | (simp only [puF] at e
         obtain ⟨a, h1, e⟩ := opdF_ok e
         obtain ⟨b, h2, e⟩ := opdF_ok e
         split at e
         · simp only [binF] at e
           split at e
           · rename_i v hv
             rw [dstF_eq] at e
             exact two h1 h2 rfl rfl (by simp only [binV]; exact hv) e
           · exact e.elim
         · exact e.elim)
  · exact e

/-! ## Regions -/
structure RegC where
  f : Rec → Option B → Fr → H → (Rs → H → Prop) → Prop
noncomputable def opsF (E : E) (all : Array Oper) : List Oper → RegC
  | [] => ⟨fun rec rd fr h k => k (.ex .normal fr) h⟩
  | o :: os => (match o.guard with
    | none => ⟨fun rec rd fr h k => (opF E o).f rec rd fr h (fun fr h => (opsF E all os).f rec rd fr h k) fun v h => k (.ex (.pan v) fr) h⟩
    | some _ => ⟨fun rec rd fr h k => bif wantedV all fr o then (opF E o).f rec rd fr h (fun fr h => (opsF E all os).f rec rd fr h k) (fun v h => k (.ex (.pan v) fr) h) else
        (dstF o.dst).f fr .u fun fr => (opsF E all os).f rec rd fr h k⟩)

theorem opsF_ok {E : E} {rec Y : Rec} (l : Le rec Y) {rd : Option B} {all : Array Oper} {k : Rs → H → Prop} : ∀ {os : List Oper} {fr : Fr} {h : H}, (opsF E all os).f rec rd fr h k → opsK E Y rd all os fr h k
  | [], fr, h, e => e
  | o :: os, fr, h, e => by
    unfold opsF at e
    unfold opsK
    cases hg : o.guard with
    | none =>
      rw [hg] at e
      have hw : wantedV all fr o = true := by simp [wantedV, hg]
      rw [hw]
      simp only [cond_true]
      exact opK_mono l (fun fr h e => opsF_ok l e) (fun v h e => e) (opF_ok e)
    | some g =>
      rw [hg] at e
      simp only at e
      cases hw : wantedV all fr o with
      | true =>
        rw [hw] at e
        simp only [cond_true] at e ⊢
        exact opK_mono l (fun fr h e => opsF_ok l e) (fun v h e => e) (opF_ok e)
      | false =>
        rw [hw] at e
        simp only [cond_false, dstF_eq] at e ⊢
        rw [putK_iff] at e ⊢
        exact opsF_ok l e

/-! ### A region whose order is open -/
structure PuE where
  lo : Nat
  hi : Nat
  f : Fr → H → (V → Prop) → Prop
  d : Option Tmp
noncomputable def puEs (P : Program) : List (Oper × Nat × Nat) → Option (List PuE)
  | [] => some []
  | (o, lo, hi) :: r => bif Nat.ble (kd P o.op) 1 && o.guard.isNone then (puEs P r).bind fun l => fN lo fun lo => fN hi fun hi => some (⟨lo, hi, (puF P o.op).f, o.dst⟩ :: l) else none
def guardless : List (Oper × Nat) → Bool
  | [] => true
  | e :: es => e.1.guard.isNone && guardless es
noncomputable def openF (P : Program) (ops : Array Oper) : Option (List PuE × List (Oper × Nat) × List (Oper × Nat × Nat)) := (planE P ops).bind fun p => bif guardless p.2 then (puEs P p.1).bind fun l => some (l, p.2, p.1) else none
noncomputable def fillF (n : Nat) (h : H) (kk : Fr → Prop) (l : List PuE) : Fr → Prop :=
  List.rec (motive := fun _ => Fr → Prop) (fun fr => kk fr) (fun p _ ih fr => bif Nat.beq p.lo n then p.f fr h fun v => (dstF p.d).f fr v ih else ih fr) l
theorem fillF_nil (n : Nat) (h : H) (kk : Fr → Prop) (fr : Fr) : fillF n h kk [] fr = kk fr := rfl
theorem fillF_cons (n : Nat) (h : H) (kk : Fr → Prop) (p : PuE) (r : List PuE) (fr : Fr) : fillF n h kk (p :: r) fr = bif Nat.beq p.lo n then p.f fr h fun v => (dstF p.d).f fr v fun fr => fillF n h kk r fr else fillF n h kk r fr := rfl
noncomputable def checkF (n : Nat) (h : H) (fr : Fr) (kk : Prop) (l : List PuE) : Prop :=
  List.rec (motive := fun _ => Prop) kk (fun p _ ih => bif Nat.ble p.lo n && Nat.ble n p.hi then p.f fr h fun v => bif (match p.d with | some d => V.beq v (fr.get d) | none => true) then ih else False
    else ih) l
theorem checkF_cons (n : Nat) (h : H) (fr : Fr) (kk : Prop) (p : PuE) (r : List PuE) : checkF n h fr kk (p :: r) = bif Nat.ble p.lo n && Nat.ble n p.hi then p.f fr h fun v => bif (match p.d with | some d => V.beq v (fr.get d) | none => true) then checkF n h fr kk r else False
    else checkF n h fr kk r := rfl
noncomputable def regF (E : E) (rec : Rec) (ps : List PuE) (kk : Fr → H → Prop) (l : List (Oper × Nat)) : Nat → Fr → H → Prop :=
  List.rec (motive := fun _ => Nat → Fr → H → Prop) (fun n fr h => fillF n h (fun fr => checkF n h fr (kk fr h) ps) ps fr)
    (fun e _ ih n fr h => fillF n h (fun fr => checkF n h fr (actK E rec fr h e.1 (fun v h => (dstF e.1.dst).f fr v fun fr => fN (n + 1) fun n => ih n fr h) fun _ _ => False) ps) ps fr) l
theorem regF_nil (E : E) (rec : Rec) (ps : List PuE) (kk : Fr → H → Prop) (n : Nat) (fr : Fr) (h : H) : regF E rec ps kk [] n fr h = fillF n h (fun fr => checkF n h fr (kk fr h) ps) ps fr := rfl
theorem regF_cons (E : E) (rec : Rec) (ps : List PuE) (kk : Fr → H → Prop) (e : Oper × Nat) (es : List (Oper × Nat)) (n : Nat) (fr : Fr) (h : H) : regF E rec ps kk (e :: es) n fr h = fillF n h (fun fr => checkF n h fr (actK E rec fr h e.1 (fun v h => (dstF e.1.dst).f fr v fun fr => fN (n + 1) fun n => regF E rec ps kk es n fr h) fun _ _ => False) ps) ps fr := rfl

theorem puEs_some {P : Program} {o : Oper} {lo hi : Nat} {r : List (Oper × Nat × Nat)} {l : List PuE} (e : puEs P ((o, lo, hi) :: r) = some l) :
    Nat.ble (kd P o.op) 1 = true ∧ o.guard = none ∧ ∃ l', puEs P r = some l' ∧ l = ⟨lo, hi, (puF P o.op).f, o.dst⟩ :: l' := by
  unfold puEs at e
  cases hb : (Nat.ble (kd P o.op) 1 && o.guard.isNone) with
  | false => rw [hb] at e; cases e
  | true =>
    rw [hb] at e
    simp only [cond_true, fN_eq] at e
    rw [Option.bind_eq_some_iff] at e
    obtain ⟨l', h1, h2⟩ := e
    simp only [Bool.and_eq_true] at hb
    exact ⟨hb.1, by simpa using hb.2, l', h1, (Option.some.inj h2).symm⟩
theorem wanted_none {all : Array Oper} {fr : Fr} {o : Oper} (h : o.guard = none) : wantedV all fr o = true := by simp [wantedV, h]
theorem fillF_ok {P : Program} {ops : Array Oper} {n : Nat} {h : H} {pn : Option Nat} {kk : Fr → Prop} {kk' : Fr → H → Option Nat → Prop} (hk : ∀ fr, kk fr → kk' fr h pn) : ∀ {ps : List (Oper × Nat × Nat)} {l : List PuE} {fr : Fr}, puEs P ps = some l → fillF n h kk l fr → fillK P ops n kk' ps fr h pn
  | [], l, fr, hl, e => by
    simp only [puEs, Option.some.injEq] at hl
    subst hl
    exact hk _ e
  | (o, lo, hi) :: r, l, fr, hl, e => by
    obtain ⟨h1, h2, l', h3, rfl⟩ := puEs_some hl
    unfold fillK
    rw [fillF_cons] at e
    simp only at e
    cases hb : Nat.beq lo n with
    | false => rw [hb] at e; simp only [cond_false] at e ⊢; exact fillF_ok hk h3 e
    | true =>
      rw [hb] at e
      simp only [cond_true, wanted_none h2] at e ⊢
      obtain ⟨v, h', hv, e⟩ := puF_ok e
      simp only [hv, h1, cond_true]
      rw [dstF_eq] at e
      rw [putK_iff] at e ⊢
      exact fillF_ok hk h3 e
theorem checkF_ok {P : Program} {ops : Array Oper} {n : Nat} {h : H} {pn : Option Nat} {fr : Fr} {kk : Prop} : ∀ {ps : List (Oper × Nat × Nat)} {l : List PuE}, puEs P ps = some l → checkF n h fr kk l → checkE P ops n h pn fr ps = true ∧ kk
  | [], l, hl, e => by
    simp only [puEs, Option.some.injEq] at hl
    subst hl
    exact ⟨rfl, e⟩
  | (o, lo, hi) :: r, l, hl, e => by
    obtain ⟨h1, h2, l', h3, rfl⟩ := puEs_some hl
    unfold checkE
    rw [checkF_cons] at e
    simp only at e
    cases hb : (Nat.ble lo n && Nat.ble n hi) with
    | false =>
      rw [hb] at e
      simp only [cond_false, Bool.true_and] at e ⊢
      exact checkF_ok h3 e
    | true =>
      rw [hb] at e
      simp only [cond_true, wanted_none h2, h1] at e ⊢
      obtain ⟨v, h', hv, e⟩ := puF_ok e
      simp only [hv]
      split at e
      · rename_i d hd
        cases hc : V.beq v (fr.get d) with
        | false => rw [hc] at e; exact e.elim
        | true =>
          rw [hc] at e
          have := checkF_ok (ops := ops) (pn := pn) h3 e
          exact ⟨by simp [hd, hc, this.1], this.2⟩
      · rename_i hd
        simp only [cond_true] at e
        have := checkF_ok (ops := ops) (pn := pn) h3 e
        exact ⟨by simp [hd, this.1], this.2⟩
theorem regF_ok {E : E} {rec Y : Rec} (l : Le rec Y) {ops : Array Oper} {ps : List (Oper × Nat × Nat)} {q : List PuE} (hq : puEs E.P ps = some q) {kk : Fr → H → Prop} : ∀ {es : List (Oper × Nat)} {n : Nat} {fr : Fr} {h : H}, guardless es = true → regF E rec q kk es n fr h → regE E Y ops ps kk es n fr h none
  | [], n, fr, h, _, e => by
    unfold regE
    rw [regF_nil] at e
    refine fillF_ok ?_ hq e
    intro fr e
    obtain ⟨h1, h2⟩ := checkF_ok (ops := ops) (pn := none) hq e
    rw [h1]; exact h2
  | x :: es, n, fr, h, hg, e => by
    simp only [guardless, Bool.and_eq_true] at hg
    unfold regE
    rw [regF_cons] at e
    refine fillF_ok ?_ hq e
    intro fr e
    obtain ⟨h1, h2⟩ := checkF_ok (ops := ops) (pn := none) hq e
    rw [h1]
    simp only [cond_true, wanted_none (Option.isNone_iff_eq_none.1 hg.1)]
    refine actK_mono l ?_ (fun _ _ e => e) h2
    intro v h e
    simp only [dstF_eq, fN_eq] at e
    rw [putK_iff] at e ⊢
    exact regF_ok l hq hg.2 e

/-! ## Code -/
structure CodeC where
  f : Rec → FuncId → Option B → Fr → H → (Rs → H → Prop) → Prop
noncomputable def codeF (E : E) : Code → CodeC
  | .skip => ⟨fun rec fn rd fr h k => k (.ex .normal fr) h⟩
  | .label _ => ⟨fun rec fn rd fr h k => k (.ex .normal fr) h⟩
  | .exit id => ⟨fun rec fn rd fr h k => k (.ex (.exit id) fr) h⟩
  | .goto l => ⟨fun rec fn rd fr h k => k (.ex (.goto l) fr) h⟩
  | .ret => ⟨fun rec fn rd fr h k => k (.ex .ret fr) h⟩
  | .region i ops false => ⟨fun rec fn rd fr h k => (opsF E ops ops.toList).f rec rd fr h k⟩
  | .region i ops true => (match openF E.P ops with
    | some p => ⟨fun rec fn rd fr h k => regF E rec p.1 (fun fr h => k (.ex .normal fr) h) p.2.1 0 fr h⟩
    | none => ⟨fun rec fn rd fr h k => estep E rec (.code fn rd (.region i ops true) fr) h k⟩)
  | .seq a b => ⟨fun rec fn rd fr h k => (codeF E a).f rec fn rd fr h fun r h => match r with
    | .ex .normal fr => (codeF E b).f rec fn rd fr h k
    | r => k r h⟩
  | .cond c a b => ⟨fun rec fn rd fr h k => (opdF c).f fr fun v => match v with
    | .bool true => (codeF E a).f rec fn rd fr h k
    | .bool false => (codeF E b).f rec fn rd fr h k
    | _ => False⟩
  | .block id b => ⟨fun rec fn rd fr h k => (codeF E b).f rec fn rd fr h fun r h => match r with
    | .ex (.exit j) fr => bif Nat.beq j id then k (.ex .normal fr) h else k (.ex (.exit j) fr) h
    | r => k r h⟩
  | .loop b => ⟨fun rec fn rd fr h k => (codeF E b).f rec fn rd fr h fun r h => match r with
    | .ex .normal fr => rec (.again fn rd b fr) h k
    | r => k r h⟩
  | c => ⟨fun rec fn rd fr h k => estep E rec (.code fn rd c fr) h k⟩

theorem codeF_ok {E : E} (eo : EOk E) (hm : HkMono E) {rec : Rec} (l : Le rec (Tr E.P)) : ∀ {c : Code} {fn : FuncId} {rd : Option B} {fr : Fr} {h : H} {k : Rs → H → Prop}, (codeF E c).f rec fn rd fr h k → Tr E.P (.code fn rd c fr) h k
  | .skip, fn, rd, fr, h, k, e => Tr.fold eo e
  | .label _, fn, rd, fr, h, k, e => Tr.fold eo e
  | .exit _, fn, rd, fr, h, k, e => Tr.fold eo e
  | .goto _, fn, rd, fr, h, k, e => Tr.fold eo e
  | .ret, fn, rd, fr, h, k, e => Tr.fold eo e
  | .region i ops false, fn, rd, fr, h, k, e => Tr.fold eo (opsF_ok l e)
  | .region i ops true, fn, rd, fr, h, k, e => by
    unfold codeF at e
    cases hp : openF E.P ops with
    | none => rw [hp] at e; exact Tr.fold eo (estep_mono hm l _ _ _ _ e fun _ _ e => e)
    | some p =>
      rw [hp] at e
      simp only at e
      refine Tr.fold eo ?_
      unfold openF at hp
      rw [Option.bind_eq_some_iff] at hp
      obtain ⟨q, h1, h2⟩ := hp
      cases hg : guardless q.2 with
      | false => rw [hg] at h2; cases h2
      | true =>
        rw [hg] at h2
        simp only [cond_true] at h2
        rw [Option.bind_eq_some_iff] at h2
        obtain ⟨l', h3, h4⟩ := h2
        have := Option.some.inj h4
        subst this
        simp only [estep, h1]
        exact regF_ok l h3 hg e
  | .seq a b, fn, rd, fr, h, k, e => by
    refine Tr.fold eo ?_
    refine (codeF_ok eo hm l (c := a) e).mono ?_
    intro r h e
    cases r with
    | cr c cm => exact e
    | ex x fr => cases x <;> first | exact codeF_ok eo hm l (c := b) e | exact e
  | .cond c a b, fn, rd, fr, h, k, e => by
    refine Tr.fold eo ?_
    unfold codeF at e
    obtain ⟨v, h1, e⟩ := opdF_ok e
    simp only [estep, h1]
    split at e
    · exact codeF_ok eo hm l (c := a) e
    · exact codeF_ok eo hm l (c := b) e
    · exact e.elim
  | .block id b, fn, rd, fr, h, k, e => by
    refine Tr.fold eo ?_
    exact (codeF_ok eo hm l (c := b) e).mono fun r h e => e
  | .loop b, fn, rd, fr, h, k, e => by
    refine Tr.fold eo ?_
    refine (codeF_ok eo hm l (c := b) e).mono ?_
    intro r h e
    cases r with
    | cr c cm => exact e
    | ex x fr => cases x <;> first | exact l _ _ _ _ e (fun _ _ e => e) | exact e
  | .scope b, fn, rd, fr, h, k, e => Tr.fold eo (estep_mono hm l _ _ _ _ e fun _ _ e => e)
  | .rangeFunc f ps a b, fn, rd, fr, h, k, e => Tr.fold eo (estep_mono hm l _ _ _ _ e fun _ _ e => e)
  | .refuse _, fn, rd, fr, h, k, e => Tr.fold eo e

/-! ## Calls -/
structure FunC where
  f : Rec → List V → CM → H → (Rs → H → Prop) → Prop
noncomputable def argsP : Nat → List V → T V → (T V → Prop) → Prop
  | _, [], t, k => k t
  | i, v :: vs, t, k => T.setP (pathOf i) t v fun t => fN (i + 1) fun i => argsP i vs t k
theorem argsP_eq : ∀ (vs : List V) (i : Nat) (t : T V) (k : T V → Prop), argsP i vs t k = k (argsT i vs t)
  | [], i, t, k => rfl
  | v :: vs, i, t, k => by simp only [argsP, argsT, setP_of, T.setK_set, fN_eq]; exact argsP_eq vs _ _ _
noncomputable def funF (E : E) (f : FuncId) : FunC := match E.hk f with
  | some _ => ⟨fun rec args cm h k => estep E rec (.call f args cm) h k⟩
  | none => (match E.P.funcs[f]? with
    | some fn => (match fn.body with
      | some c => (bif notNG fn.name then ⟨fun rec args cm h k => fN (max args.length fn.ntmps) fun n => argsP 0 args .e fun t => (codeF E c).f rec f none ⟨n, t, [], cm⟩ h fun r h => (match r with
          | .ex .normal fr => rec (.unw f fr fr.ds .ret) h k
          | .ex .ret fr => rec (.unw f fr fr.ds .ret) h k
          | .ex (.pan v) fr => rec (.unw f fr fr.ds (.pan v false)) h k
          | _ => False)⟩ else ⟨fun _ _ _ _ _ => False⟩)
      | none => ⟨fun _ _ _ _ _ => False⟩)
    | none => ⟨fun _ _ _ _ _ => False⟩)
theorem funF_ok {E : E} (eo : EOk E) (hm : HkMono E) {rec : Rec} (l : Le rec (Tr E.P)) {f : FuncId} {args : List V} {cm : CM} {h : H} {k : Rs → H → Prop} (e : (funF E f).f rec args cm h k) : Tr E.P (.call f args cm) h k := by
  unfold funF at e
  split at e
  · exact Tr.fold eo (estep_mono hm l _ _ _ _ e fun _ _ e => e)
  · rename_i hh
    split at e
    · rename_i fn hf
      split at e
      · rename_i c hc
        cases hn : notNG fn.name with
        | false => rw [hn] at e; exact e.elim
        | true =>
          rw [hn] at e
          simp only [cond_true, fN_eq, argsP_eq] at e
          refine Tr.fold eo ?_
          simp only [estep, hh, hf, hc, hn, cond_true]
          refine (codeF_ok eo hm l e).mono ?_
          intro r h e
          cases r with
          | cr c cm => exact e
          | ex x fr => cases x <;> first | exact l _ _ _ _ e (fun _ _ e => e) | exact e
      · exact e.elim
    · exact e.elim

/-- The faster evaluator. -/
noncomputable def stepF (E : E) (rec : Rec) : Rec := fun t h k => match t with
  | .code fn rd c fr => (codeF E c).f rec fn rd fr h k
  | .again fn rd b fr => (codeF E (.loop b)).f rec fn rd fr h k
  | .call f args cm => (funF E f).f rec args cm h k
  | t => estep E rec t h k
noncomputable def runF (E : E) (n : Nat) : Rec := Nat.rec (fun _ _ _ => False) (fun _ rec => stepF E rec) n

theorem runF_ok {E : E} (eo : EOk E) (hm : HkMono E) : ∀ n, Le (runF E n) (Tr E.P)
  | 0 => fun _ _ _ _ e _ => e.elim
  | n + 1 => fun t h k k' e hk => by
    have l := runF_ok eo hm n
    refine Tr.mono ?_ hk
    cases t with
    | code fn rd c fr => exact codeF_ok eo hm l e
    | again fn rd b fr =>
      refine Tr.fold eo ?_
      refine (codeF_ok eo hm l (c := b) (by exact e)).mono ?_
      intro r h e
      cases r with
      | cr c cm => exact e
      | ex x fr => cases x <;> first | exact l _ _ _ _ e (fun _ _ e => e) | exact e
    | call f args cm => exact funF_ok eo hm l e
    | scope fn rd all cur fr => exact Tr.fold eo (estep_mono hm l _ _ _ _ e fun _ _ e => e)
    | unw f fr ds u => exact Tr.fold eo (estep_mono hm l _ _ _ _ e fun _ _ e => e)

end Go.Proofs.Ab
