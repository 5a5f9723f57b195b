/- A faster evaluator: each part of the code is made into a closure once (a closed term, which the kernel keeps); what it says, the triples say. -/
import Derived.Test.YtelmlcciphafjaaGreatDoorAc3
namespace Go.Proofs.Ab
open Go Go.RowKit

/-! ## Paths in a trie -/
def pathGo : Nat → Nat → List Bool
  | 0, _ => []
  | _ + 1, 0 => []
  | f + 1, k + 1 => Nat.beq (k % 2) 0 :: pathGo f (k / 2)
def pathOf (k : Nat) : List Bool := pathGo (k + 1) k
noncomputable def T.getP {α : Type} (p : List Bool) : T α → Option α :=
  List.rec (motive := fun _ => T α → Option α) (fun t => T.casesOn t none fun _ v _ => v) (fun b _ ih t => T.casesOn t none fun l _ r => Bool.casesOn b (ih r) (ih l)) p
noncomputable def T.setP {α β : Type} (p : List Bool) : T α → α → (T α → β) → β :=
  List.rec (motive := fun _ => T α → α → (T α → β) → β) (fun t x c => T.casesOn t (c (.n .e (some x) .e)) fun l _ r => c (.n l (some x) r))
    (fun b _ ih t x c => Bool.casesOn b
      (T.casesOn t (ih .e x fun r => c (.n .e none r)) fun l v r => ih r x fun r => c (.n l v r))
      (T.casesOn t (ih .e x fun l => c (.n l none .e)) fun l v r => ih l x fun l => c (.n l v r))) p
theorem getP_e {α : Type} (p : List Bool) : T.getP p (T.e : T α) = none := by cases p <;> rfl
theorem getP_0 {α : Type} (l r : T α) (v : Option α) : T.getP [] (T.n l v r) = v := rfl
theorem getP_t {α : Type} (p : List Bool) (l r : T α) (v : Option α) : T.getP (true :: p) (T.n l v r) = T.getP p l := rfl
theorem getP_f {α : Type} (p : List Bool) (l r : T α) (v : Option α) : T.getP (false :: p) (T.n l v r) = T.getP p r := rfl
theorem setP_0e {α β : Type} (x : α) (c : T α → β) : T.setP [] .e x c = c (.n .e (some x) .e) := rfl
theorem setP_0n {α β : Type} (l r : T α) (v : Option α) (x : α) (c : T α → β) : T.setP [] (.n l v r) x c = c (.n l (some x) r) := rfl
theorem setP_te {α β : Type} (p : List Bool) (x : α) (c : T α → β) : T.setP (true :: p) .e x c = T.setP p .e x fun l => c (.n l none .e) := rfl
theorem setP_tn {α β : Type} (p : List Bool) (l r : T α) (v : Option α) (x : α) (c : T α → β) : T.setP (true :: p) (.n l v r) x c = T.setP p l x fun l => c (.n l v r) := rfl
theorem setP_fe {α β : Type} (p : List Bool) (x : α) (c : T α → β) : T.setP (false :: p) .e x c = T.setP p .e x fun r => c (.n .e none r) := rfl
theorem setP_fn {α β : Type} (p : List Bool) (l r : T α) (v : Option α) (x : α) (c : T α → β) : T.setP (false :: p) (.n l v r) x c = T.setP p r x fun r => c (.n l v r) := rfl

theorem getP_eq {α : Type} : ∀ (f : Nat) (t : T α) (k : Nat), k < f → T.getP (pathGo f k) t = t.get k
  | 0, t, k, h => by omega
  | f + 1, .e, k, h => by rw [getP_e]; rfl
  | f + 1, .n l v r, 0, h => by simp [pathGo, getP_0, T.get]
  | f + 1, .n l v r, k + 1, h => by
    simp only [pathGo, T.get_ns]
    cases hb : Nat.beq (k % 2) 0 with
    | true => simp only [getP_t, cond_true]; exact getP_eq f l (k / 2) (by omega)
    | false => simp only [getP_f, cond_false]; exact getP_eq f r (k / 2) (by omega)
theorem setP_eq {α β : Type} : ∀ (f : Nat) (t : T α) (k : Nat) (x : α) (c : T α → β), k < f → T.setP (pathGo f k) t x c = T.setK f t k x c
  | 0, t, k, x, c, h => by omega
  | f + 1, .e, 0, x, c, h => by simp [pathGo, setP_0e, T.setK]
  | f + 1, .n l v r, 0, x, c, h => by simp [pathGo, setP_0n, T.setK]
  | f + 1, .e, k + 1, x, c, h => by
    simp only [pathGo, T.setK]
    cases hb : Nat.beq (k % 2) 0 with
    | true => simp only [setP_te, cond_true]; exact setP_eq f .e (k / 2) x _ (by omega)
    | false => simp only [setP_fe, cond_false]; exact setP_eq f .e (k / 2) x _ (by omega)
  | f + 1, .n l v r, k + 1, x, c, h => by
    simp only [pathGo, T.setK]
    cases hb : Nat.beq (k % 2) 0 with
    | true => simp only [setP_tn, cond_true]; exact setP_eq f l (k / 2) x _ (by omega)
    | false => simp only [setP_fn, cond_false]; exact setP_eq f r (k / 2) x _ (by omega)
theorem getP_of {α : Type} (t : T α) (k : Nat) : T.getP (pathOf k) t = t.get k := getP_eq _ t k (Nat.lt_succ_self k)
theorem setP_of {α β : Type} (t : T α) (k : Nat) (x : α) (c : T α → β) : T.setP (pathOf k) t x c = T.setK (k + 1) t k x c := setP_eq _ t k x c (Nat.lt_succ_self k)

/-! ## Operands -/
structure OpdC where
  f : Fr → (V → Prop) → Prop
noncomputable def opdF (x : Operand) : OpdC := match x with
  | .tmp t => ⟨fun fr k => match T.getP (pathOf t) fr.tmps with | some v => k v | none => k .u⟩
  | .const c => (match ofV c with
    | some v => ⟨fun _ k => k v⟩
    | none => ⟨fun _ _ => False⟩)
  | .global g => ⟨fun _ k => k (.ptr ⟨.glob g, 0, 0⟩)⟩
  | .func f => ⟨fun _ k => k (.fn (.func f) [] [])⟩
theorem opdF_ok {x : Operand} {fr : Fr} {k : V → Prop} (e : (opdF x).f fr k) : ∃ v, fr.eval x = some v ∧ k v := by
  cases x with
  | tmp t =>
    simp only [opdF, getP_of] at e
    simp only [Fr.eval, Fr.get]
    split at e
    · rename_i v h; rw [h]; exact ⟨_, rfl, e⟩
    · rename_i h; rw [h]; exact ⟨_, rfl, e⟩
  | const c =>
    simp only [opdF] at e
    simp only [Fr.eval]
    cases h : ofV c with
    | none => rw [h] at e; exact e.elim
    | some v => rw [h] at e; exact ⟨v, rfl, e⟩
  | global g => exact ⟨_, rfl, e⟩
  | func f => exact ⟨_, rfl, e⟩
structure OpdsC where
  f : Fr → (List V → Prop) → Prop
noncomputable def opdsF : List Operand → OpdsC
  | [] => ⟨fun _ k => k []⟩
  | x :: xs => ⟨fun fr k => (opdF x).f fr fun v => (opdsF xs).f fr fun l => k (v :: l)⟩
theorem opdsF_ok : ∀ {xs : List Operand} {fr : Fr} {k : List V → Prop}, (opdsF xs).f fr k → ∃ l, fr.evals xs = some l ∧ k l
  | [], fr, k, e => ⟨[], rfl, e⟩
  | x :: xs, fr, k, e => by
    obtain ⟨v, h1, e⟩ := opdF_ok e
    obtain ⟨l, h2, e⟩ := opdsF_ok e
    exact ⟨v :: l, by simp only [Fr.evals, h1, h2, Option.bind_some], e⟩

structure DstC where
  f : Fr → V → (Fr → Prop) → Prop
noncomputable def dstF (d : Option Tmp) : DstC := match d with
  | none => ⟨fun fr _ k => k fr⟩
  | some d => ⟨fun fr v k => bif Nat.blt d fr.n then fV v fun v => T.setP (pathOf d) fr.tmps v fun t => k ⟨fr.n, t, fr.ds, fr.cm⟩ else k fr⟩
theorem dstF_eq (d : Option Tmp) (fr : Fr) (v : V) (k : Fr → Prop) : (dstF d).f fr v k = fr.putK d v k := by
  cases d with
  | none => rfl
  | some d =>
    simp only [dstF, Fr.putK]
    cases Nat.blt d fr.n with
    | false => rfl
    | true => simp only [cond_true, fV_eq, setP_of]

/-! ## Numbers -/
structure BinC where
  f : Int → Int → (V → Prop) → Prop
/-- Two whole numbers of one kind. -/
def binF (op : BinOp) (k : IntKind) : BinC := match op with
  | .add => ⟨fun a b c => c (.int k (k.wrap (a + b)))⟩
  | .sub => ⟨fun a b c => c (.int k (k.wrap (a - b)))⟩
  | .mul => ⟨fun a b c => c (.int k (k.wrap (a * b)))⟩
  | .eql => ⟨fun a b c => c (.bool (decide (a = b)))⟩
  | .neq => ⟨fun a b c => c (.bool (!decide (a = b)))⟩
  | .lss => ⟨fun a b c => c (.bool (decide (a < b)))⟩
  | .leq => ⟨fun a b c => c (.bool (decide (a ≤ b)))⟩
  | .gtr => ⟨fun a b c => c (.bool (decide (a > b)))⟩
  | .geq => ⟨fun a b c => c (.bool (decide (a ≥ b)))⟩
  | .shl => ⟨fun a b c => match shV .shl k a b with | some v => c v | none => False⟩
  | .shr => ⟨fun a b c => match shV .shr k a b with | some v => c v | none => False⟩
  | op => ⟨fun a b c => match intV op k a b with | some v => c v | none => False⟩
theorem anyCmp_int (op : BinOp) (j k : IntKind) (a b : Int) : anyCmp op (.int j a) (.int k b) = false := rfl
theorem anyBin_int (op : BinOp) (j k : IntKind) (a b : Int) : anyBin op (.int j a) (.int k b) = none := rfl
theorem binF_ok {P : Program} {op : BinOp} {k : IntKind} {a b : Int} {c : V → Prop} (t : TypeId) (x y : Bool) (e : (binF op k).f a b c) : ∃ v, binV P op t x y (.int k a) (.int k b) = some v ∧ c v := by
  cases op <;> simp only [binF] at e <;> simp only [binV, if_pos] <;> first
    | exact ⟨_, rfl, e⟩
    | (split at e
       · rename_i v h; exact ⟨v, h, e⟩
       · exact e.elim)

end Go.Proofs.Ab
