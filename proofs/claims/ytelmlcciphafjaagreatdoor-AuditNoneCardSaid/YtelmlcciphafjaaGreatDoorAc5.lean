/- Rules of triples, second part: comparisons, elements of one cell, loops with an invariant. -/
import Derived.Test.YtelmlcciphafjaaGreatDoorAc4
namespace Go.Proofs.Ab
open Go Go.RowKit
section
variable {P : Program} {X : Ext} {fn : FuncId} {rd : Option B} {fr : Fr} {h : H} {k : Rs → H → Prop}
variable {all : Array Oper} {o : Oper} {os : List Oper} {n : Nat} {t t' : T V} {ds : List D} {cm : CM} {d : Nat} {v : V} {h' : H}

/-- A comparison whose answer is a proposition's. -/
theorem ops_cmpP {op : BinOp} {ty : TypeId} {x y : Operand} {u : TypeId} {a b : V} {p : Prop} {inst : Decidable p} {t'' : T V} (ho : o.op = .binOp op ty x y u) (hw : wantedV all ⟨n, t, ds, cm⟩ o = true) (hx : ∀ Q : V → Prop, Q a → evQ ⟨n, t, ds, cm⟩ x Q) (hy : ∀ Q : V → Prop, Q b → evQ ⟨n, t, ds, cm⟩ y Q)
    (hc : anyCmp op a b = false) (hn : anyBin op a b = none) (he : binV P op ty (isC x) (isC y) a b = some (.bool (decide p))) (hd : o.dst = some d) (hl : Nat.blt d n = true)
    (hp : ∀ Q : T V → Prop, Q t' → T.setK (d + 1) t d (.bool true) Q) (hp' : ∀ Q : T V → Prop, Q t'' → T.setK (d + 1) t d (.bool false) Q)
    (e : p → Ops P X rd all os ⟨n, t', ds, cm⟩ h k) (e' : ¬ p → Ops P X rd all os ⟨n, t'', ds, cm⟩ h k) : Ops P X rd all (o :: os) ⟨n, t, ds, cm⟩ h k :=
  ops_cmp ho hw hx hy hc hn he hd hl hp hp' (fun q => e (of_decide_eq_true q)) (fun q => e' (of_decide_eq_false q))
theorem ops_cmpN {op : BinOp} {ty : TypeId} {x y : Operand} {u : TypeId} {a b : V} {p : Prop} {inst : Decidable p} {t'' : T V} (ho : o.op = .binOp op ty x y u) (hw : wantedV all ⟨n, t, ds, cm⟩ o = true) (hx : ∀ Q : V → Prop, Q a → evQ ⟨n, t, ds, cm⟩ x Q) (hy : ∀ Q : V → Prop, Q b → evQ ⟨n, t, ds, cm⟩ y Q)
    (hc : anyCmp op a b = false) (hn : anyBin op a b = none) (he : binV P op ty (isC x) (isC y) a b = some (.bool (!decide p))) (hd : o.dst = some d) (hl : Nat.blt d n = true)
    (hp : ∀ Q : T V → Prop, Q t' → T.setK (d + 1) t d (.bool true) Q) (hp' : ∀ Q : T V → Prop, Q t'' → T.setK (d + 1) t d (.bool false) Q)
    (e : ¬ p → Ops P X rd all os ⟨n, t', ds, cm⟩ h k) (e' : p → Ops P X rd all os ⟨n, t'', ds, cm⟩ h k) : Ops P X rd all (o :: os) ⟨n, t, ds, cm⟩ h k :=
  ops_cmp ho hw hx hy hc hn he hd hl hp hp' (fun q => e (by simpa using q)) (fun q => e' (by simpa using q))

theorem ops_at1 {ty : TypeId} {x y : Operand} {a : A} {len : Nat} {cap : Cap} {q : IntKind} {m : Int} {el : Nat} (ho : o.op = .indexAddr ty x y) (hw : wantedV all ⟨n, t, ds, cm⟩ o = true) (hx : ∀ Q : V → Prop, Q (.sl a len cap) → evQ ⟨n, t, ds, cm⟩ x Q) (hy : ∀ Q : V → Prop, Q (.int q m) → evQ ⟨n, t, ds, cm⟩ y Q)
    (he : elemT P ty = some el) (hs : szT P el = some 1) (hr : 0 ≤ m ∧ m < len)
    (hd : o.dst = some d) (hl : Nat.blt d n = true) (hp : ∀ Q : T V → Prop, Q t' → T.setK (d + 1) t d (.ptr (a.add m.toNat)) Q) (e : Ops P X rd all os ⟨n, t', ds, cm⟩ h k) : Ops P X rd all (o :: os) ⟨n, t, ds, cm⟩ h k :=
  ops_at ho hw hx hy he hs hr hd hl (by rw [Nat.mul_one]; exact hp) e

/-- A loop with an invariant. -/
theorem tr_loop_inv (eo : EOk (EE P X)) {b : Code} {ι : Type} (F : ι → (Nat → V) → T V) (Inv : ι → H → Prop) (μ : ι → Nat) (i0 : ι) (h0 : Inv i0 h) (ht : F i0 (fun j => (t.get j).getD .u) = t)
    (step : ∀ i h g, Inv i h → (∀ j h' t', Inv j h' → μ j < μ i → F j (fun x => (t'.get x).getD .u) = t' → loopK P fn rd b k (.ex .normal ⟨n, t', ds, cm⟩) h') → Tr P (.code fn rd b ⟨n, F i g, ds, cm⟩) h (loopK P fn rd b k)) :
    Tr P (.code fn rd (.loop b) ⟨n, t, ds, cm⟩) h k := by
  have key : ∀ (m : Nat) i h g, μ i ≤ m → Inv i h → Tr P (.code fn rd b ⟨n, F i g, ds, cm⟩) h (loopK P fn rd b k) := by
    intro m
    induction m with
    | zero => intro i h g hm hi; exact step i h g hi fun j h' t' hj hlt ht' => absurd hlt (by omega)
    | succ m ih =>
      intro i h g hm hi
      refine step i h g hi fun j h' t' hj hlt ht' => loopK_n eo ?_
      rw [← ht']
      exact ih j h' _ (by omega) hj
  refine tr_loop eo ?_
  rw [← ht]
  exact key _ i0 h _ (Nat.le_refl _) h0

/-! ### Memory, found step by step -/
/-- The cell reads as some value, of which the rest holds. -/
def Ld (h : H) (p : A) (Φ : V → Prop) : Prop := ∃ v, h.cell p = some v ∧ Φ v
def Lds (h : H) (p : A) (m : Nat) (Φ : List V → Prop) : Prop := ∃ vs, h.cells p m = some vs ∧ Φ vs
def Nm (i j : Nat) : Prop := i ≠ j
theorem get_new_ne {o : O} {i : Nat} (hi : i ≠ h.next) : (h.new o).own.get i = h.own.get i := by rw [H.new_get, if_neg hi]
theorem get_new_self {o : O} : (h.new o).own.get h.next = some o := by rw [H.new_get, if_pos rfl]
theorem get_set_ne {o : O} {i j : Nat} (hi : i ≠ j) : (h.set j o).own.get i = h.own.get i := by rw [H.set_get, if_neg hi]
theorem get_set_self {o : O} {i : Nat} : (h.set i o).own.get i = some o := by rw [H.set_get, if_pos rfl]
theorem ld_fact {p : A} {Φ : V → Prop} (hc : h.cell p = some v) (e : Φ v) : Ld h p Φ := ⟨v, hc, e⟩
theorem ld_get {i ver av off : Nat} {cs : List (V × Nat)} {Φ : V → Prop} (hg : h.own.get i = some (.cells ver cs)) (hc : cellC av (dropL off cs) = some v) (e : Φ v) : Ld h ⟨.own i, av, off⟩ Φ := ⟨v, cell_own hg hc, e⟩
theorem ld_new_self {ver av off : Nat} {cs : List (V × Nat)} {Φ : V → Prop} (hc : cellC av (dropL off cs) = some v) (e : Φ v) : Ld (h.new (.cells ver cs)) ⟨.own h.next, av, off⟩ Φ := ld_get get_new_self hc e
theorem ld_new_ne {o : O} {i av off : Nat} {Φ : V → Prop} (hi : i ≠ h.next) (e : Ld h ⟨.own i, av, off⟩ Φ) : Ld (h.new o) ⟨.own i, av, off⟩ Φ := by
  obtain ⟨v, h1, h2⟩ := e
  exact ⟨v, by rw [← h1]; simp only [H.cell, H.cells, get_new_ne hi], h2⟩
theorem ld_set_self {i ver av off : Nat} {cs : List (V × Nat)} {Φ : V → Prop} (hc : cellC av (dropL off cs) = some v) (e : Φ v) : Ld (h.set i (.cells ver cs)) ⟨.own i, av, off⟩ Φ := ld_get get_set_self hc e
theorem ld_set_ne {o : O} {i j av off : Nat} {Φ : V → Prop} (hi : i ≠ j) (e : Ld h ⟨.own i, av, off⟩ Φ) : Ld (h.set j o) ⟨.own i, av, off⟩ Φ := by
  obtain ⟨v, h1, h2⟩ := e
  exact ⟨v, by rw [← h1]; simp only [H.cell, H.cells, get_set_ne hi], h2⟩
theorem lds_fact {p : A} {m : Nat} {vs : List V} {Φ : List V → Prop} (hc : h.cells p m = some vs) (e : Φ vs) : Lds h p m Φ := ⟨vs, hc, e⟩
theorem lds_get {i ver av off m : Nat} {cs : List (V × Nat)} {vs : List V} {Φ : List V → Prop} (hg : h.own.get i = some (.cells ver cs)) (hc : takeC av m (dropL off cs) = some vs) (e : Φ vs) : Lds h ⟨.own i, av, off⟩ m Φ := ⟨vs, cells_own hg hc, e⟩
theorem lds_new_self {ver av off m : Nat} {cs : List (V × Nat)} {vs : List V} {Φ : List V → Prop} (hc : takeC av m (dropL off cs) = some vs) (e : Φ vs) : Lds (h.new (.cells ver cs)) ⟨.own h.next, av, off⟩ m Φ := lds_get get_new_self hc e
theorem lds_new_ne {o : O} {i av off m : Nat} {Φ : List V → Prop} (hi : i ≠ h.next) (e : Lds h ⟨.own i, av, off⟩ m Φ) : Lds (h.new o) ⟨.own i, av, off⟩ m Φ := by
  obtain ⟨v, h1, h2⟩ := e
  exact ⟨v, by rw [← h1]; simp only [H.cells, get_new_ne hi], h2⟩
theorem lds_set_self {i ver av off m : Nat} {cs : List (V × Nat)} {vs : List V} {Φ : List V → Prop} (hc : takeC av m (dropL off cs) = some vs) (e : Φ vs) : Lds (h.set i (.cells ver cs)) ⟨.own i, av, off⟩ m Φ := lds_get get_set_self hc e
theorem lds_set_ne {o : O} {i j av off m : Nat} {Φ : List V → Prop} (hi : i ≠ j) (e : Lds h ⟨.own i, av, off⟩ m Φ) : Lds (h.set j o) ⟨.own i, av, off⟩ m Φ := by
  obtain ⟨v, h1, h2⟩ := e
  exact ⟨v, by rw [← h1]; simp only [H.cells, get_set_ne hi], h2⟩
/-- The slot's new tree. -/
theorem set_fin {Φ : T V → Prop} (hp : ∀ Q : T V → Prop, Q t' → T.setK (d + 1) t d v Q) (e : Φ t') : T.setK (d + 1) t d v Φ := hp Φ e

theorem ops_ld {ty : TypeId} {x : Operand} {p : A} (ho : o.op = .load ty x) (hw : wantedV all ⟨n, t, ds, cm⟩ o = true) (hx : ∀ Q : V → Prop, Q (.ptr p) → evQ ⟨n, t, ds, cm⟩ x Q) (ha : aggT P ty = some false)
    (hd : o.dst = some d) (hl : Nat.blt d n = true) (e : Ld h p fun v => T.setK (d + 1) t d v fun t' => Ops P X rd all os ⟨n, t', ds, cm⟩ h k) : Ops P X rd all (o :: os) ⟨n, t, ds, cm⟩ h k := by
  obtain ⟨v, hc, e⟩ := e
  rw [T.setK_set] at e
  exact ops_load ho hw hx ha hc hd hl (fun Q q => by rw [T.setK_set]; exact q) e
theorem ops_lds {ty : TypeId} {x : Operand} {p : A} {m : Nat} (ho : o.op = .load ty x) (hw : wantedV all ⟨n, t, ds, cm⟩ o = true) (hx : ∀ Q : V → Prop, Q (.ptr p) → evQ ⟨n, t, ds, cm⟩ x Q) (ha : aggT P ty = some true) (hs : szT P ty = some m)
    (hd : o.dst = some d) (hl : Nat.blt d n = true) (e : Lds h p m fun vs => T.setK (d + 1) t d (.agg vs) fun t' => Ops P X rd all os ⟨n, t', ds, cm⟩ h k) : Ops P X rd all (o :: os) ⟨n, t, ds, cm⟩ h k := by
  obtain ⟨v, hc, e⟩ := e
  rw [T.setK_set] at e
  exact ops_loads ho hw hx ha hs hc hd hl (fun Q q => by rw [T.setK_set]; exact q) e

/-- A store of cells, of which the rest holds. -/
def St (h : H) (p : A) (vs : List V) (Φ : H → Prop) : Prop := ∃ h', (∀ (β : Type) (kk : H → Option β), h.put p vs kk = kk h') ∧ Φ h'
theorem st_get {i ver off : Nat} {cs cs' : List (V × Nat)} {w : V} {vs : List V} {Φ : H → Prop} (hg : h.own.get i = some (.cells ver cs)) (ha : allAtoms (w :: vs) = true) (hu : updC ver off (w :: vs) cs = some cs') (e : Φ (h.set i (.cells ver cs'))) : St h ⟨.own i, ver, off⟩ (w :: vs) Φ :=
  ⟨_, fun β kk => by simp only [H.put, ha, cond_true, hg, Nat.beq_refl, hu, H.setK_eq], e⟩
theorem st_new_self {ver off : Nat} {cs cs' : List (V × Nat)} {w : V} {vs : List V} {Φ : H → Prop} (ha : allAtoms (w :: vs) = true) (hu : updC ver off (w :: vs) cs = some cs') (e : Φ ((h.new (.cells ver cs)).set h.next (.cells ver cs'))) : St (h.new (.cells ver cs)) ⟨.own h.next, ver, off⟩ (w :: vs) Φ :=
  st_get get_new_self ha hu e
theorem st_set_self {i ver off : Nat} {cs cs' : List (V × Nat)} {w : V} {vs : List V} {Φ : H → Prop} (ha : allAtoms (w :: vs) = true) (hu : updC ver off (w :: vs) cs = some cs') (e : Φ ((h.set i (.cells ver cs)).set i (.cells ver cs'))) : St (h.set i (.cells ver cs)) ⟨.own i, ver, off⟩ (w :: vs) Φ :=
  st_get get_set_self ha hu e
def cellsQ (v : V) (Q : List V → Prop) : Prop := match v with
  | .agg cs => Q cs
  | v => Q [v]
theorem cellsQ_iff {v : V} {Q : List V → Prop} : cellsQ v Q ↔ Q v.cells := by cases v <;> exact Iff.rfl
theorem ops_st {ty : TypeId} {x y : Operand} {p : A} {w : V} {ws : List V} {m : Nat} (ho : o.op = .store ty x y) (hw : wantedV all fr o = true) (hx : ∀ Q : V → Prop, Q (.ptr p) → evQ fr x Q) (hy : ∀ Q : V → Prop, Q w → evQ fr y Q) (hs : szT P ty = some m) (hcs : ∀ Q : List V → Prop, Q ws → cellsQ w Q) (hm : Nat.beq ws.length m = true)
    (hd : o.dst = none) (e : St h p ws fun h' => Ops P X rd all os fr h' k) : Ops P X rd all (o :: os) fr h k := by
  obtain ⟨h', hc, e⟩ := e
  have hcs := cellsQ_iff.1 (hcs (fun x => x = ws) rfl)
  refine ops_0 (v := .u) (h' := h') (by rw [ho]; rfl) hw ?_ hd e
  rw [ho]
  simp only [opV, ev_of hx, ev_of hy, Option.bind_some, storeT, hs, hcs, hm, cond_true, hc]

theorem cell_new (o : O) {a : A} (ha : ∀ i, a.blk ≠ .own i) : (h.new o).cell a = h.cell a := by
  obtain ⟨b, v, f⟩ := a
  cases b with
  | own i => exact absurd rfl (ha i)
  | base i => rfl
  | glob i => rfl
end
attribute [irreducible] Ld Lds St
end Go.Proofs.Ab
