/- The evaluator's soundness, first part: the trie's laws; the relation between the evaluator's heap and the model's world. -/
import Derived.Test.YtelmlcciphafjaaGreatDoorAb3
import Derived.Laws.Sem
import Derived.AtR
namespace Go.Proofs.Ab
open Go

/-! ## The trie -/
theorem T.setK_id {α β : Type} : ∀ (f : Nat) (t : T α) (k : Nat) (x : α) (c : T α → β), T.setK f t k x c = c (T.setK f t k x id)
  | 0, t, k, x, c => rfl
  | f + 1, .e, 0, x, c => rfl
  | f + 1, .e, k + 1, x, c => by
    simp only [T.setK]
    cases Nat.beq (k % 2) 0 <;> simp only [cond_true, cond_false]
    · rw [T.setK_id f .e (k / 2) x (fun r => c (.n .e none r)), T.setK_id f .e (k / 2) x (fun r => id (T.n .e none r))]; rfl
    · rw [T.setK_id f .e (k / 2) x (fun l => c (.n l none .e)), T.setK_id f .e (k / 2) x (fun l => id (T.n l none .e))]; rfl
  | f + 1, .n l v r, 0, x, c => rfl
  | f + 1, .n l v r, k + 1, x, c => by
    simp only [T.setK]
    cases Nat.beq (k % 2) 0 <;> simp only [cond_true, cond_false]
    · rw [T.setK_id f r (k / 2) x (fun r => c (.n l v r)), T.setK_id f r (k / 2) x (fun r => id (T.n l v r))]; rfl
    · rw [T.setK_id f l (k / 2) x (fun l => c (.n l v r)), T.setK_id f l (k / 2) x (fun l => id (T.n l v r))]; rfl

theorem T.get_e {α : Type} (k : Nat) : (T.e : T α).get k = none := rfl
theorem T.get_n0 {α : Type} (l r : T α) (v : Option α) : (T.n l v r).get 0 = v := rfl
theorem T.get_ns {α : Type} (l r : T α) (v : Option α) (k : Nat) : (T.n l v r).get (k + 1) = bif Nat.beq (k % 2) 0 then l.get (k / 2) else r.get (k / 2) := rfl

theorem T.get_setK {α : Type} : ∀ (f : Nat) (t : T α) (k : Nat) (x : α) (j : Nat), k < f → (T.setK f t k x id).get j = if j = k then some x else t.get j
  | f + 1, t, 0, x, j, _ => by
    cases t <;> cases j <;> simp [T.setK, T.get]
  | f + 1, t, k + 1, x, j, h => by
    have hk : k / 2 < f := by omega
    have ih := fun t j => T.get_setK f t (k / 2) x j hk
    cases hb : Nat.beq (k % 2) 0
    · have hb' : k % 2 ≠ 0 := by intro e; rw [e] at hb; exact absurd hb (by decide)
      cases t with
      | e =>
        simp only [T.setK, hb, cond_false]
        rw [T.setK_id]
        simp only [id_eq]
        cases j with
        | zero => simp [T.get]
        | succ j =>
          simp only [T.get_ns]
          cases hj : Nat.beq (j % 2) 0
          · have hj' : j % 2 ≠ 0 := by intro e; rw [e] at hj; exact absurd hj (by decide)
            simp only [cond_false]; rw [ih]; simp only [T.get_e]
            by_cases e : j / 2 = k / 2
            · have : j = k := by omega
              simp [this]
            · have : j ≠ k := by intro e'; exact e (by rw [e'])
              simp [e, this]
          · have hj' : j % 2 = 0 := Nat.eq_of_beq_eq_true hj
            have : j ≠ k := by intro e'; rw [e'] at hj'; exact hb' hj'
            simp [T.get_e, this]
      | n l v r =>
        simp only [T.setK, hb, cond_false]
        rw [T.setK_id]
        simp only [id_eq]
        cases j with
        | zero => simp [T.get]
        | succ j =>
          simp only [T.get_ns]
          cases hj : Nat.beq (j % 2) 0
          · have hj' : j % 2 ≠ 0 := by intro e; rw [e] at hj; exact absurd hj (by decide)
            simp only [cond_false]; rw [ih]
            by_cases e : j / 2 = k / 2
            · have : j = k := by omega
              simp [this]
            · have : j ≠ k := by intro e'; exact e (by rw [e'])
              simp [e, this]
          · have hj' : j % 2 = 0 := Nat.eq_of_beq_eq_true hj
            have : j ≠ k := by intro e'; rw [e'] at hj'; exact hb' hj'
            simp [this]
    · have hb' : k % 2 = 0 := Nat.eq_of_beq_eq_true hb
      cases t with
      | e =>
        simp only [T.setK, hb, cond_true]
        rw [T.setK_id]
        simp only [id_eq]
        cases j with
        | zero => simp [T.get]
        | succ j =>
          simp only [T.get_ns]
          cases hj : Nat.beq (j % 2) 0
          · have hj' : j % 2 ≠ 0 := by intro e; rw [e] at hj; exact absurd hj (by decide)
            have : j ≠ k := by intro e'; rw [e'] at hj'; exact hj' hb'
            simp [T.get_e, this]
          · have hj' : j % 2 = 0 := Nat.eq_of_beq_eq_true hj
            simp only [cond_true]; rw [ih]; simp only [T.get_e]
            by_cases e : j / 2 = k / 2
            · have : j = k := by omega
              simp [this]
            · have : j ≠ k := by intro e'; exact e (by rw [e'])
              simp [e, this]
      | n l v r =>
        simp only [T.setK, hb, cond_true]
        rw [T.setK_id]
        simp only [id_eq]
        cases j with
        | zero => simp [T.get]
        | succ j =>
          simp only [T.get_ns]
          cases hj : Nat.beq (j % 2) 0
          · have hj' : j % 2 ≠ 0 := by intro e; rw [e] at hj; exact absurd hj (by decide)
            have : j ≠ k := by intro e'; rw [e'] at hj'; exact hj' hb'
            simp [this]
          · have hj' : j % 2 = 0 := Nat.eq_of_beq_eq_true hj
            simp only [cond_true]; rw [ih]
            by_cases e : j / 2 = k / 2
            · have : j = k := by omega
              simp [this]
            · have : j ≠ k := by intro e'; exact e (by rw [e'])
              simp [e, this]

theorem T.get_set {α : Type} (t : T α) (k : Nat) (x : α) (j : Nat) : (t.set k x).get j = if j = k then some x else t.get j := T.get_setK (k + 1) t k x j (Nat.lt_succ_self k)
theorem T.setK_set {α β : Type} (t : T α) (k : Nat) (x : α) (c : T α → β) : T.setK (k + 1) t k x c = c (t.set k x) := T.setK_id _ _ _ _ _

theorem fN_eq {β : Type} (n : Nat) (k : Nat → β) : fN n k = k n := by cases n <;> rfl
theorem fI_eq {β : Type} (n : Int) (k : Int → β) : fI n k = k n := by cases n <;> simp only [fI, fN_eq]
theorem fA_eq {β : Type} (a : A) (k : A → β) : fA a k = k a := by
  obtain ⟨b, v, o⟩ := a
  cases b <;> simp only [fA, fN_eq]
theorem fV_eq {β : Type} (v : V) (k : V → β) : fV v k = k v := by
  cases v with
  | int q n => simp only [fV, fI_eq]
  | bool b => cases b <;> rfl
  | ptr a => simp only [fV, fA_eq]
  | sl a l c => cases c <;> simp only [fV, fA_eq, fN_eq]
  | _ => rfl

def H.set (h : H) (i : Nat) (o : O) : H := { h with own := h.own.set i o }
def H.new (h : H) (o : O) : H := { own := h.own.set h.next o, next := h.next + 1, base := h.base, glob := h.glob }
theorem H.setK_eq {β : Type} (h : H) (i : Nat) (o : O) (k : H → β) : h.setK i o k = k (h.set i o) := by simp only [H.setK, T.setK_set, H.set]
theorem H.newK_eq {β : Type} (h : H) (o : O) (k : Nat → H → β) : h.newK o k = k h.next (h.new o) := by simp only [H.newK, T.setK_set, fN_eq, H.new]
theorem verK_eq {β : Type} (ver : Nat) : ∀ (vs : List V) (k : List (V × Nat) → β), verK ver vs k = k (vs.map fun v => (v, ver))
  | [], k => rfl
  | v :: vs, k => by simp only [verK, fV_eq, verK_eq ver vs, List.map_cons]
theorem joinK_eq {β : Type} (ver : Nat) : ∀ (n : Nat) (new : List V) (cs : List (V × Nat)) (k : List (V × Nat) → β), joinK ver n new cs k = k (joinC ver n new cs)
  | 0, new, cs, k => by cases cs <;> simp only [joinK, joinC, verK_eq]
  | n + 1, new, c :: cs, k => by simp only [joinK, joinC, joinK_eq ver n]
  | n + 1, new, [], k => by simp only [joinK, joinC, verK_eq]
theorem H.row_eq {β : Type} {h : H} {vs : List V} {k : A → H → Option β} {x : β} (e : h.row vs k = some x) : allAtoms vs = true ∧ k ⟨.own h.next, 0, 0⟩ (h.new (.cells 0 (vs.map fun v => (v, 0)))) = some x := by
  unfold H.row at e
  cases ha : allAtoms vs with
  | false => simp [ha] at e
  | true => simp only [ha, cond_true, verK_eq, H.newK_eq] at e; exact ⟨rfl, e⟩

/-! ## The relation -/
/-- Which block a name stands for, at each version: the block, the place at which the name's cells begin, and how many cells the block has. -/
structure S where
  m : Nat → Nat → Option (Nat × Nat × Nat)
  bs : Nat → Nat × Nat
  n0 : Nat
  h0 : Nat → Option Obj
  good : Nat → Value → Prop

def AR (σ : S) (a : A) (a' : Addr) : Prop := match a.blk with
  | .base i => a.ver = 0 ∧ a' = ⟨(σ.bs i).1, (σ.bs i).2 + a.off, none⟩
  | .glob g => a.ver = 0 ∧ a' = ⟨g, a.off, none⟩
  | .own i => ∃ b sh ext, σ.m i a.ver = some (b, sh, ext) ∧ sh ≤ a.off ∧ a' = ⟨b, a.off - sh, none⟩

def BR (σ : S) (b : B) (r : Nat) : Prop := match b with
  | .own i => σ.m i 0 = some (r, 0, 0)
  | _ => False

def TR (σ : S) (a : A) (a' : Addr) (len s c : Nat) : Prop := match a.blk with
  | .base _ => False
  | .glob _ => False
  | .own i => ∃ b sh ext, σ.m i a.ver = some (b, sh, ext) ∧ sh ≤ a.off ∧ a.off - sh + c * s = ext ∧ len ≤ c ∧ (c ≠ 0 → a' = ⟨b, a.off - sh, none⟩)

def AnyOk (σ : S) : AnyK → Value → Prop
  | .val, v => (v.cells = #[v] ∧ v.oneCell' = true) ∧ ∀ b, v ≠ .bool b
  | .g i, v => ((v.cells = #[v] ∧ v.oneCell' = true) ∧ ∀ b, v ≠ .bool b) ∧ σ.good i v
  | .str, v => ∃ s, v = .string s
  | .int k, v => ∃ n, v = .int k n
theorem AnyOk.cells {σ : S} {t : AnyK} {v : Value} (h : AnyOk σ t v) : v.cells = #[v] := by
  cases t with
  | val => exact h.1.1
  | g i => exact h.1.1.1
  | str => obtain ⟨s, rfl⟩ := h; rfl
  | int k => obtain ⟨s, rfl⟩ := h; rfl
theorem AnyOk.one {σ : S} {t : AnyK} {v : Value} (h : AnyOk σ t v) : v.oneCell' = true := by
  cases t with
  | val => exact h.1.2
  | g i => exact h.1.1.2
  | str => obtain ⟨s, rfl⟩ := h; rfl
  | int k => obtain ⟨s, rfl⟩ := h; rfl
theorem AnyOk.bool {σ : S} {t : AnyK} {v : Value} (h : AnyOk σ t v) (b : Bool) : v ≠ .bool b := by
  cases t with
  | val => exact h.2 b
  | g i => exact h.1.2 b
  | str => obtain ⟨s, rfl⟩ := h; intro c; cases c
  | int k => obtain ⟨s, rfl⟩ := h; intro c; cases c

mutual
inductive VR (σ : S) : V → Value → Prop
  | any (t : AnyK) (v : Value) : AnyOk σ t v → VR σ (.any t) v
  | bool (b : Bool) : VR σ (.bool b) (.bool b)
  | int (k : IntKind) (n : Int) : VR σ (.int k n) (.int k n)
  | str (s : List UInt8) (b : ByteArray) : b.data.toList = s → VR σ (.str s) (.string b)
  | nilp : VR σ .nilp (.pointer none)
  | ptr (a : A) (a' : Addr) : AR σ a a' → VR σ (.ptr a) (.pointer (some a'))
  | nilsl : VR σ .nilsl (.slice none 0 0)
  | slk (a : A) (a' : Addr) (len c : Nat) : (c = 0 ∨ AR σ a a') → len ≤ c → VR σ (.sl a len (.kn c)) (.slice (some a') len c)
  | slt (a : A) (a' : Addr) (len s c : Nat) : TR σ a a' len s c → VR σ (.sl a len (.tip s)) (.slice (some a') len c)
  | nilmap : VR σ .nilmap (.map none)
  | map (b : B) (r : Nat) : BR σ b r → VR σ (.map b) (.map (some r))
  | nilfn : VR σ .nilfn .nilFunc
  | fn (f : FuncId) (xs ys : List V) (xs' ys' : Array Value) : VRs σ xs xs'.toList → VRs σ ys ys'.toList → VR σ (.fn (.func f) xs ys) (.func (.func f) xs' ys')
  | yld (i r : Nat) : BR σ (.own i) r → VR σ (.fn (.yield i) [] []) (.func (.yield r) #[] #[])
  | niliface : VR σ .niliface .nilIface
  | iface (t : TypeId) (v : V) (v' : Value) : VR σ v v' → VR σ (.iface t v) (.iface t v')
  | agg (cs : List V) (cs' : Array Value) : VRs σ cs cs'.toList → VR σ (.agg cs) (.agg cs')
  | tup (vs : List V) (vs' : Array Value) : VRs σ vs vs'.toList → VR σ (.tup vs) (.tuple vs')
inductive VRs (σ : S) : List V → List Value → Prop
  | nil : VRs σ [] []
  | cons (v : V) (v' : Value) (vs : List V) (vs' : List Value) : VR σ v v' → VRs σ vs vs' → VRs σ (v :: vs) (v' :: vs')
end

inductive DR (σ : S) : D → Deferred → Prop
  | call (f : FuncId) (cap args : List V) (cap' args' : Array Value) : VRs σ cap cap'.toList → VRs σ args args'.toList → DR σ (.call (.func f) cap args) { target := .fn (.func f) cap', args := args' }
  | coll (b : B) (r : Nat) : BR σ b r → DR σ (.coll b) { target := .collected r, args := #[] }
inductive DRs (σ : S) : List D → List Deferred → Prop
  | nil : DRs σ [] []
  | cons (d : D) (d' : Deferred) (ds : List D) (ds' : List Deferred) : DR σ d d' → DRs σ ds ds' → DRs σ (d :: ds) (d' :: ds')

inductive ER (σ : S) : List (V × V × Nat) → List MapEntry → Prop
  | nil : ER σ [] []
  | cons (k v : V) (n : Nat) (k' v' : Value) (es : List (V × V × Nat)) (es' : List MapEntry) : VR σ k k' → VR σ v v' → ER σ es es' → ER σ ((k, v, n) :: es) ({ key := k', val := v', born := n } :: es')

def TmR (σ : S) (n : Nat) (t : T V) (a : Array Value) : Prop := a.size = n ∧ (∀ i, i < n → VR σ ((t.get i).getD .u) (a.getD i undef)) ∧ ∀ i, n ≤ i → t.get i = none

def OBR (σ : S) : Option B → Option Nat → Prop
  | none, none => True
  | some b, some r => BR σ b r
  | _, _ => False

def ODR (σ : S) : Option (List D) → Option (List Deferred) → Prop
  | none, none => True
  | some l, some l' => DRs σ l l'
  | _, _ => False

structure LR (σ : S) (l : LoopA) (l' : Loop) : Prop where
  st : l'.state = l.st
  pend : l'.pending = l.pend
  fn : l'.fn = l.fn
  params : l'.params = l.params
  assign : l'.assign = l.assign
  body : l'.body = l.body
  tmps : TmR σ l.n l.tmps l'.tmps
  defs : BR σ l.defs l'.defers

/-- What block b holds, at version v of the name, for the object. -/
def OR (σ : S) : O → (v b sh ext : Nat) → Option Obj → Prop
  | .cells ver cs, v, _, sh, ext, o => v ≤ ver ∧ ∃ c t fz, o = some (.cells c t fz) ∧ c.size = ext ∧ (∀ k, k < c.size → ¬ (fz.1 ≤ k ∧ k < fz.2)) ∧ cs.length ≤ sh + (if v = ver then ext else cs.length) ∧ (∀ (k : Nat) x lo, cs[k]? = some (x, lo) → lo ≤ ver) ∧
      ∀ (k : Nat) x lo, cs[k]? = some (x, lo) → lo ≤ v → sh ≤ k → ∃ x', c[k - sh]? = some x' ∧ VR σ x x' ∧ x.atom = true
  | .map es clock, v, _, sh, ext, o => v = 0 ∧ sh = 0 ∧ ext = 0 ∧ ∃ es', o = some (.map es' clock) ∧ ER σ es es'.toList
  | .miter m since seen stepped, v, _, sh, ext, o => v = 0 ∧ sh = 0 ∧ ext = 0 ∧ ∃ m' seen', o = some (.mapIter m' since seen' stepped) ∧ OBR σ m m' ∧ seen'.toList = seen.reverse
  | .siter s pos, v, _, sh, ext, o => v = 0 ∧ sh = 0 ∧ ext = 0 ∧ ∃ s', o = some (.stringIter s' pos) ∧ s'.data.toList = s
  | .loop l, v, _, sh, ext, o => v = 0 ∧ sh = 0 ∧ ext = 0 ∧ ∃ l', o = some (.loop l') ∧ LR σ l l'
  | .defs ds, v, _, sh, ext, o => v = 0 ∧ sh = 0 ∧ ext = 0 ∧ ∃ ds', o = some (.deferred ds') ∧ ODR σ ds ds'

structure Rel (σ : S) (h : H) (w : World) : Prop where
  low : σ.n0 ≤ w.heap.size
  obj : ∀ i o v b sh ext, h.own.get i = some o → σ.m i v = some (b, sh, ext) → OR σ o v b sh ext w.heap[b]?
  dom : ∀ i v x, σ.m i v = some x → ∃ o, h.own.get i = some o
  lt : ∀ i o, h.own.get i = some o → i < h.next
  inj : ∀ i v j u b sh ext sh' ext', σ.m i v = some (b, sh, ext) → σ.m j u = some (b, sh', ext') → i = j ∧ sh = sh' ∧ ext = ext'
  high : ∀ i v b sh ext, σ.m i v = some (b, sh, ext) → σ.n0 ≤ b ∧ b < w.heap.size
  base : ∀ i cs, h.base i = some cs → (σ.bs i).1 < σ.n0 ∧ ∃ c t fz, w.heap[(σ.bs i).1]? = some (.cells c t fz) ∧ ∀ (k : Nat) x, cs[k]? = some x → ∃ x', c[(σ.bs i).2 + k]? = some x' ∧ VR σ x x' ∧ x.atom = true
  glob : ∀ g cs, h.glob g = some cs → g < σ.n0 ∧ ∃ c t fz, w.heap[g]? = some (.cells c t fz) ∧ ∀ (k : Nat) x, cs[k]? = some x → ∃ x', c[k]? = some x' ∧ VR σ x x' ∧ x.atom = true
  old : ∀ b, b < σ.n0 → w.heap[b]? = σ.h0 b

/-- One step of both: what was named stays named, what had no name is untouched. -/
structure Sim (σ : S) (h : H) (w : World) (σ' : S) (h' : H) (w' : World) : Prop where
  rel : Rel σ' h' w'
  mono : ∀ i v x, σ.m i v = some x → σ'.m i v = some x
  bs : σ'.bs = σ.bs
  n0 : σ'.n0 = σ.n0
  unreal : ∀ i, i < h.next → (∀ v, σ.m i v = none) → (∀ v, σ'.m i v = none) ∧ h'.own.get i = h.own.get i
  keep : ∀ b, b < w.heap.size → (∀ i v x, σ.m i v = some x → x.1 ≠ b) → w'.heap[b]? = w.heap[b]? ∧ ∀ i v x, σ'.m i v = some x → x.1 ≠ b
  next : h.next ≤ h'.next
  base : h'.base = h.base
  glob : h'.glob = h.glob
  size : w.heap.size ≤ w'.heap.size
  h0 : σ'.h0 = σ.h0
  good : σ'.good = σ.good
  io : w'.os = w.os ∧ w'.tape = w.tape ∧ w'.output = w.output

theorem Sim.refl {σ : S} {h : H} {w : World} (r : Rel σ h w) : Sim σ h w σ h w :=
  ⟨r, fun _ _ _ e => e, rfl, rfl, fun _ _ e => ⟨e, rfl⟩, fun _ _ e => ⟨rfl, e⟩, Nat.le_refl _, rfl, rfl, Nat.le_refl _, rfl, rfl, rfl, rfl, rfl⟩

theorem Sim.trans {σ σ1 σ2 : S} {h h1 h2 : H} {w w1 w2 : World} (a : Sim σ h w σ1 h1 w1) (b : Sim σ1 h1 w1 σ2 h2 w2) : Sim σ h w σ2 h2 w2 where
  rel := b.rel
  mono := fun i v x e => b.mono i v x (a.mono i v x e)
  bs := b.bs.trans a.bs
  n0 := b.n0.trans a.n0
  unreal := fun i hi e => by
    obtain ⟨e1, g1⟩ := a.unreal i hi e
    obtain ⟨e2, g2⟩ := b.unreal i (Nat.lt_of_lt_of_le hi a.next) e1
    exact ⟨e2, g2.trans g1⟩
  keep := fun c hc e => by
    obtain ⟨e1, g1⟩ := a.keep c hc e
    obtain ⟨e2, g2⟩ := b.keep c (Nat.lt_of_lt_of_le hc a.size) g1
    exact ⟨e2.trans e1, g2⟩
  next := Nat.le_trans a.next b.next
  base := b.base.trans a.base
  glob := b.glob.trans a.glob
  size := Nat.le_trans a.size b.size
  h0 := b.h0.trans a.h0
  good := b.good.trans a.good
  io := ⟨b.io.1.trans a.io.1, b.io.2.1.trans a.io.2.1, b.io.2.2.trans a.io.2.2⟩

/-! ## Names only grow -/
structure Up (σ σ' : S) : Prop where
  mono : ∀ i v x, σ.m i v = some x → σ'.m i v = some x
  bs : σ'.bs = σ.bs
  good : σ'.good = σ.good
theorem Sim.up {σ σ' : S} {h h' : H} {w w' : World} (s : Sim σ h w σ' h' w') : Up σ σ' := ⟨s.mono, s.bs, s.good⟩
theorem Up.refl (σ : S) : Up σ σ := ⟨fun _ _ _ e => e, rfl, rfl⟩
theorem Up.trans {a b c : S} (x : Up a b) (y : Up b c) : Up a c := ⟨fun i v z e => y.mono i v z (x.mono i v z e), y.bs.trans x.bs, y.good.trans x.good⟩

theorem AR.up {σ σ' : S} (u : Up σ σ') {a : A} {a' : Addr} (h : AR σ a a') : AR σ' a a' := by
  unfold AR at *
  cases hb : a.blk with
  | base i => simp only [hb] at h ⊢; rw [u.bs]; exact h
  | glob i => simp only [hb] at h ⊢; exact h
  | own i => simp only [hb] at h ⊢; obtain ⟨b, sh, ext, e, r⟩ := h; exact ⟨b, sh, ext, u.mono _ _ _ e, r⟩
theorem BR.up {σ σ' : S} (u : Up σ σ') {b : B} {r : Nat} (h : BR σ b r) : BR σ' b r := by
  unfold BR at *
  cases b with
  | own i => exact u.mono _ _ _ h
  | _ => exact h
theorem TR.up {σ σ' : S} (u : Up σ σ') {a : A} {a' : Addr} {l s c : Nat} (h : TR σ a a' l s c) : TR σ' a a' l s c := by
  unfold TR at *
  cases hb : a.blk with
  | base i => simp only [hb] at h
  | glob i => simp only [hb] at h
  | own i => simp only [hb] at h ⊢; obtain ⟨b, sh, ext, e, r⟩ := h; exact ⟨b, sh, ext, u.mono _ _ _ e, r⟩

mutual
theorem VR.up {σ σ' : S} (u : Up σ σ') : ∀ {v : V} {v' : Value}, VR σ v v' → VR σ' v v'
  | _, _, .any t v h => .any t v (by cases t <;> first | exact h | exact ⟨h.1, by rw [u.good]; exact h.2⟩)
  | _, _, .bool b => .bool b
  | _, _, .int k n => .int k n
  | _, _, .str s b e => .str s b e
  | _, _, .nilp => .nilp
  | _, _, .ptr a a' h => .ptr a a' (h.up u)
  | _, _, .nilsl => .nilsl
  | _, _, .slk a a' l c h e => .slk a a' l c (h.imp id (AR.up u)) e
  | _, _, .slt a a' l s c h => .slt a a' l s c (h.up u)
  | _, _, .nilmap => .nilmap
  | _, _, .map b r h => .map b r (h.up u)
  | _, _, .nilfn => .nilfn
  | _, _, .fn f xs ys xs' ys' hx hy => .fn f xs ys xs' ys' (VRs.up u hx) (VRs.up u hy)
  | _, _, .yld i r h => .yld i r (h.up u)
  | _, _, .niliface => .niliface
  | _, _, .iface t v v' h => .iface t v v' (VR.up u h)
  | _, _, .agg cs cs' h => .agg cs cs' (VRs.up u h)
  | _, _, .tup vs vs' h => .tup vs vs' (VRs.up u h)
theorem VRs.up {σ σ' : S} (u : Up σ σ') : ∀ {vs : List V} {vs' : List Value}, VRs σ vs vs' → VRs σ' vs vs'
  | _, _, .nil => .nil
  | _, _, .cons v v' vs vs' h hs => .cons v v' vs vs' (VR.up u h) (VRs.up u hs)
end
theorem DR.up {σ σ' : S} (u : Up σ σ') {d : D} {d' : Deferred} (h : DR σ d d') : DR σ' d d' := by
  cases h with
  | call f cap args cap' args' h1 h2 => exact .call f cap args cap' args' (h1.up u) (h2.up u)
  | coll b r h => exact .coll b r (h.up u)
theorem DRs.up {σ σ' : S} (u : Up σ σ') {d : List D} {d' : List Deferred} (h : DRs σ d d') : DRs σ' d d' := by
  induction h with
  | nil => exact .nil
  | cons d d' ds ds' h _ ih => exact .cons d d' ds ds' (h.up u) ih
theorem ER.up {σ σ' : S} (u : Up σ σ') {d : List (V × V × Nat)} {d' : List MapEntry} (h : ER σ d d') : ER σ' d d' := by
  induction h with
  | nil => exact .nil
  | cons k v n k' v' es es' h1 h2 _ ih => exact .cons k v n k' v' es es' (h1.up u) (h2.up u) ih
theorem TmR.up {σ σ' : S} (u : Up σ σ') {n : Nat} {t : T V} {a : Array Value} (h : TmR σ n t a) : TmR σ' n t a := ⟨h.1, fun i hi => (h.2.1 i hi).up u, h.2.2⟩
theorem OBR.up {σ σ' : S} (u : Up σ σ') {a : Option B} {b : Option Nat} (h : OBR σ a b) : OBR σ' a b := by
  cases a <;> cases b <;> first | exact h | exact BR.up u h
theorem ODR.up {σ σ' : S} (u : Up σ σ') {a : Option (List D)} {b : Option (List Deferred)} (h : ODR σ a b) : ODR σ' a b := by
  cases a <;> cases b <;> first | exact h | exact DRs.up u h
theorem LR.up {σ σ' : S} (u : Up σ σ') {l : LoopA} {l' : Loop} (h : LR σ l l') : LR σ' l l' := { h with tmps := h.tmps.up u, defs := h.defs.up u }
theorem OR.up {σ σ' : S} (u : Up σ σ') {o : O} {v b sh ext : Nat} {x : Option Obj} (h : OR σ o v b sh ext x) : OR σ' o v b sh ext x := by
  cases o with
  | cells ver cs =>
    obtain ⟨h1, c, t, fz, e, h2, h3, h4, h6, h5⟩ := h
    exact ⟨h1, c, t, fz, e, h2, h3, h4, h6, fun k x lo e1 e2 e3 => let ⟨x', g1, g2, g3⟩ := h5 k x lo e1 e2 e3; ⟨x', g1, g2.up u, g3⟩⟩
  | map es clock => obtain ⟨h1, h2, h3, es', e, h4⟩ := h; exact ⟨h1, h2, h3, es', e, h4.up u⟩
  | miter m since seen stepped => obtain ⟨h1, h2, h3, m', s', e, h4, h5⟩ := h; exact ⟨h1, h2, h3, m', s', e, h4.up u, h5⟩
  | siter s pos => exact h
  | loop l => obtain ⟨h1, h2, h3, l', e, h4⟩ := h; exact ⟨h1, h2, h3, l', e, h4.up u⟩
  | defs ds => obtain ⟨h1, h2, h3, l', e, h4⟩ := h; exact ⟨h1, h2, h3, l', e, h4.up u⟩

end Go.Proofs.Ab
