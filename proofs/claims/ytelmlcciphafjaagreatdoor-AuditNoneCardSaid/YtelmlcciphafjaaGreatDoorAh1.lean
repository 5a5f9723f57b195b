/- What was handed in, as the evaluator sees it: each cell by its own reading; the memory below the call. -/
import Derived.Test.YtelmlcciphafjaaGreatDoorAc8
import Derived.ChangeArms
import Derived.SliceStrings
import Derived.ChangeSlices
namespace Go.Proofs.Ab
open Go Go.RowKit Go.ChangeShapes

def nameOf (N b o : Nat) : Nat := o * N + b
def bsOf (N : Nat) (i : Nat) : Nat × Nat := (i % N, i / N)
theorem bsOf_name {N b o : Nat} (h : b < N) : bsOf N (nameOf N b o) = (b, o) := by
  unfold bsOf nameOf
  have h1 : (o * N + b) % N = b := by rw [Nat.add_comm, Nat.add_mul_mod_self_right]; exact Nat.mod_eq_of_lt h
  have h2 : (o * N + b) / N = o := by
    rw [Nat.add_comm, Nat.add_mul_div_right _ _ (by omega), Nat.div_eq_of_lt h, Nat.zero_add]
  rw [h1, h2]

/-- A cell's value as it is read. -/
def readV (N : Nat) : Value → V
  | .bool b => .bool b
  | .int k n => .int k n
  | .string s => .str s.data.toList
  | .slice none 0 0 => .nilsl
  | .slice (some a) len cap => if len ≤ cap ∧ (cap = 0 ∨ (a.spot = none ∧ a.block < N)) then .sl ⟨.base (nameOf N a.block a.off), 0, 0⟩ len (.kn cap) else .any .val
  | _ => .any .val
theorem readV_atom (N : Nat) (v : Value) : (readV N v).atom = true := by
  unfold readV
  split <;> first | rfl | (split <;> rfl)
theorem readV_ok {σ : S} {N : Nat} (hb : σ.bs = bsOf N) {v : Value} (h : v.oneCell' = true) : VR σ (readV N v) v := by
  have dflt : ∀ v : Value, v.oneCell' = true → (∀ b, v ≠ .bool b) → VR σ (.any .val) v := by
    intro v h1 h2
    refine .any _ _ ⟨⟨?_, h1⟩, h2⟩
    cases v <;> first | rfl | (simp [Value.oneCell'] at h1)
  unfold readV
  split
  · exact .bool _
  · exact .int _ _
  · exact .str _ _ rfl
  · exact .nilsl
  · rename_i a len cap
    split
    · rename_i hc
      refine .slk _ _ _ _ ?_ hc.1
      rcases hc.2 with h0 | ⟨hs, hlt⟩
      · exact .inl h0
      · right
        refine ⟨rfl, ?_⟩
        obtain ⟨b, o, sp⟩ := a
        simp only at hs hlt
        subst hs
        show _ = (⟨(σ.bs _).1, (σ.bs _).2 + 0, none⟩ : Addr)
        rw [hb, bsOf_name hlt]
        rfl
    · exact dflt _ rfl (by intro b h; cases h)
  · rename_i h1 _ _ _ _
    exact dflt _ h (fun b hbb => h1 b hbb)

/-- The memory below the call. -/
def baseOf (W : World) (i : Nat) : Option (List V) := match W.heap[i % W.heap.size]? with
  | some (.cells c _ _) => some (((c.toList.drop (i / W.heap.size)).takeWhile fun v => v.oneCell').map (readV W.heap.size))
  | _ => none
theorem takeWhile_get {α : Type} (p : α → Bool) : ∀ (l : List α) (k : Nat) x, (l.takeWhile p)[k]? = some x → l[k]? = some x ∧ p x = true
  | [], k, x, h => by simp at h
  | a :: l, k, x, h => by
    rw [List.takeWhile_cons] at h
    cases hp : p a with
    | false => rw [hp] at h; simp at h
    | true =>
      rw [hp] at h
      simp only [if_true] at h
      cases k with
      | zero => simp only [List.getElem?_cons_zero, Option.some.injEq] at h ⊢; subst h; exact ⟨rfl, hp⟩
      | succ k => simp only [List.getElem?_cons_succ] at h ⊢; exact takeWhile_get p l k x h
theorem takeWhile_to {α : Type} (p : α → Bool) : ∀ (l : List α) (k : Nat), (∀ j, j ≤ k → ∃ y, l[j]? = some y ∧ p y = true) → (l.takeWhile p)[k]? = l[k]?
  | [], k, h => by simp
  | a :: l, k, h => by
    obtain ⟨y, h1, h2⟩ := h 0 (by omega)
    simp only [List.getElem?_cons_zero, Option.some.injEq] at h1
    subst h1
    rw [List.takeWhile_cons, h2]
    simp only [if_true]
    cases k with
    | zero => rfl
    | succ k =>
      simp only [List.getElem?_cons_succ]
      exact takeWhile_to p l k fun j hj => by
        obtain ⟨y, h1, h2⟩ := h (j + 1) (by omega)
        exact ⟨y, by simpa using h1, h2⟩

theorem start_rel {W : World} {glob : Nat → Option (List V)} {good : Nat → Value → Prop}
    (hg : ∀ g cs, glob g = some cs → g < W.heap.size ∧ ∃ c t fz, W.heap[g]? = some (.cells c t fz) ∧ ∀ (k : Nat) x, cs[k]? = some x → ∃ x', c[k]? = some x' ∧ VR (S.start W (bsOf W.heap.size) good) x x' ∧ x.atom = true) :
    Rel (S.start W (bsOf W.heap.size) good) ⟨.e, 0, baseOf W, glob⟩ W := by
  refine Rel.start (base := baseOf W) (glob := glob) ?_ hg
  intro i cs h
  unfold baseOf at h
  split at h
  · rename_i c t fz hc
    simp only [Option.some.injEq] at h
    subst h
    have hlt : i % W.heap.size < W.heap.size := by
      rcases Nat.lt_or_ge (i % W.heap.size) W.heap.size with h' | h'
      · exact h'
      · rw [Array.getElem?_eq_none h'] at hc; cases hc
    refine ⟨hlt, c, t, fz, hc, fun k x hx => ?_⟩
    rw [List.getElem?_map, Option.map_eq_some_iff] at hx
    obtain ⟨v, h1, rfl⟩ := hx
    obtain ⟨h2, h3⟩ := takeWhile_get _ _ _ _ h1
    rw [List.getElem?_drop] at h2
    exact ⟨v, by rw [← Array.getElem?_toList]; exact h2, readV_ok rfl h3, readV_atom _ _⟩
  · cases h

theorem takeV_one (l : List V) (i : Nat) (x : V) (h : l[i]? = some x) : takeV 1 (dropL i l) = some [x] := by
  rw [dropL_eq]
  have : (l.drop i)[0]? = some x := by rw [List.getElem?_drop]; simpa using h
  cases hd : l.drop i with
  | nil => rw [hd] at this; cases this
  | cons y r => rw [hd] at this; simp only [List.getElem?_cons_zero, Option.some.injEq] at this; subst this; rfl

theorem spot_of {W : World} {a : Addr} {v : Value} (h : W.cell? (a.add 0) = some v) : a.spot = none := by
  unfold World.cell? Addr.add at h
  simp only [if_true] at h
  split at h
  · cases hs : a.spot with
    | none => rfl
    | some s => rw [hs] at h; simp at h
  · cases h
/-- A handed cell, read. -/
theorem base_cell {W : World} {a : Addr} {i : Nat} {v : Value} {glob : Nat → Option (List V)} {own : T O} {next : Nat} (hb : a.block < W.heap.size) (hv : W.cell? (a.add i) = some v) (hall : ∀ j, j ≤ i → ∃ y, W.cell? (a.add j) = some y ∧ y.oneCell' = true) :
    (⟨own, next, baseOf W, glob⟩ : H).cell ⟨.base (nameOf W.heap.size a.block a.off), 0, i⟩ = some (readV W.heap.size v) := by
  have hn := bsOf_name (o := a.off) hb
  simp only [bsOf, Prod.mk.injEq] at hn
  have hsp : a.spot = none := by obtain ⟨y, h1, _⟩ := hall 0 (by omega); exact spot_of h1
  have cell : ∀ j y, W.cell? (a.add j) = some y → ∃ c t fz, W.heap[a.block]? = some (.cells c t fz) ∧ c.toList[a.off + j]? = some y := by
    intro j y h
    have ha : a.add j = ⟨a.block, a.off + j, none⟩ := by
      obtain ⟨blk, o, sp⟩ := a
      simp only at hsp
      subst hsp
      unfold Addr.add
      split
      · rename_i h0; subst h0; rfl
      · rfl
    rw [ha] at h
    unfold World.cell? at h
    simp only [Option.isSome_none, Bool.false_eq_true, if_false] at h
    split at h
    · rename_i c t fz hc
      exact ⟨c, t, fz, hc, by rw [Array.getElem?_toList]; exact h⟩
    · cases h
  obtain ⟨c, t, fz, hc, hg⟩ := cell i v hv
  have hbase : baseOf W (nameOf W.heap.size a.block a.off) = some (((c.toList.drop a.off).takeWhile fun v => v.oneCell').map (readV W.heap.size)) := by
    unfold baseOf
    rw [hn.1, hn.2, hc]
  simp only [H.cell, H.cells, Nat.beq_refl, cond_true, hbase, Option.bind_some]
  rw [takeV_one _ i (readV W.heap.size v)]
  · rfl
  · rw [List.getElem?_map, takeWhile_to]
    · rw [List.getElem?_drop, hg]; rfl
    · intro j hj
      obtain ⟨y, h1, h2⟩ := hall j hj
      obtain ⟨c', t', fz', hc', hg'⟩ := cell j y h1
      rw [hc] at hc'
      cases hc'
      exact ⟨y, by rw [List.getElem?_drop]; exact hg', h2⟩

/-- A handed row of strings. -/
theorem strs_read {W : World} {P : Program} {H : Type} {enc : TypeId × Value → H} {t e : TypeId} {fuel : Nat} {c : Value} {x : DataW H × List MemPlace} {glob : Nat → Option (List V)} (ht : P.underlying t = some (.slice e)) (he : P.underlying e = some .string) (hc : P.cellsOf e = 1)
    (h : DataW.trod enc P W 0 (fun _ => true) true fuel t [c] = some x) :
    c.oneCell' = true ∧ ∃ n, (readV W.heap.size c = .nilsl ∧ n = 0) ∨ ∃ a k, readV W.heap.size c = .sl a n (.kn k) ∧ (∀ i, a.blk ≠ .own i) ∧ ∀ i, i < n → ∃ s, (⟨.e, 0, baseOf W, glob⟩ : Go.Proofs.Ab.H).cell (a.add i) = some (.str s) := by
  rcases open_strings ht he hc h with ⟨h1, _⟩ | ⟨a, len, cap, ss, h1, _, h3, _, h5, h6, h7, _⟩
  · simp only [List.cons.injEq, and_true] at h1
    subst h1
    exact ⟨rfl, 0, .inl ⟨rfl, rfl⟩⟩
  · simp only [List.cons.injEq, and_true] at h1
    subst h1
    refine ⟨rfl, len, .inr ?_⟩
    simp only [if_true] at h5
    have hblk : cap ≠ 0 → a.spot = none ∧ a.block < W.heap.size := by
      intro h0
      have hc0 := h7 0 (by omega)
      refine ⟨spot_of hc0, ?_⟩
      unfold World.cell? Addr.add at hc0
      simp only [if_true] at hc0
      split at hc0
      · rename_i hq
        rcases Nat.lt_or_ge a.block W.heap.size with h' | h'
        · exact h'
        · rw [Array.getElem?_eq_none h'] at hq; cases hq
      · cases hc0
    have hr : readV W.heap.size (.slice (some a) len cap) = .sl ⟨.base (nameOf W.heap.size a.block a.off), 0, 0⟩ len (.kn cap) := by
      simp only [readV]
      rw [if_pos]
      refine ⟨h3, ?_⟩
      by_cases h0 : cap = 0
      · exact .inl h0
      · exact .inr (hblk h0)
    refine ⟨_, cap, hr, (by intro i h; cases h), fun i hi => ?_⟩
    have hcap : cap ≠ 0 := by omega
    refine ⟨(ss.getD i ByteArray.empty).data.toList, ?_⟩
    have := base_cell (glob := glob) (own := .e) (next := 0) (hblk hcap).2 (h7 i (by omega)) (fun j hj => ⟨_, h7 j (by omega), rfl⟩)
    simpa [A.add, readV] using this

/-- A handed row of whole numbers: its length. -/
theorem ints_read {W : World} {P : Program} {H : Type} {enc : TypeId × Value → H} {t e : TypeId} {q : IntKind} {fuel : Nat} {c : Value} {x : DataW H × List MemPlace} (ht : P.underlying t = some (.slice e)) (he : P.underlying e = some (.int q)) (hc : P.cellsOf e = 1)
    (h : DataW.trod enc P W 0 (fun _ => true) true fuel t [c] = some x) :
    c.oneCell' = true ∧ ∃ n, SlV (readV W.heap.size c) n := by
  rcases open_ints ht he hc h with ⟨h1, _⟩ | ⟨a, len, cap, ss, h1, _, h3, _, h5, h6, h7, _⟩
  · simp only [List.cons.injEq, and_true] at h1
    subst h1
    exact ⟨rfl, 0, .inl ⟨rfl, rfl⟩⟩
  · simp only [List.cons.injEq, and_true] at h1
    subst h1
    simp only [if_true] at h5
    refine ⟨rfl, len, .inr ?_⟩
    refine ⟨⟨.base (nameOf W.heap.size a.block a.off), 0, 0⟩, .kn cap, ?_⟩
    · simp only [readV]
      rw [if_pos]
      refine ⟨h3, ?_⟩
      by_cases h0 : cap = 0
      · exact .inl h0
      · right
        have hc0 := h7 0 (by omega)
        refine ⟨spot_of hc0, ?_⟩
        unfold World.cell? Addr.add at hc0
        simp only [if_true] at hc0
        split at hc0
        · rename_i hq
          rcases Nat.lt_or_ge a.block W.heap.size with h' | h'
          · exact h'
          · rw [Array.getElem?_eq_none h'] at hq; cases hq
        · cases hc0

/-- Fields, one by one. -/
theorem struct_field {W : World} {P : Program} {H : Type} {enc : TypeId × Value → H} {t : TypeId} {fs : Array Field} {fuel : Nat} {cs : List Value} {x : DataW H × List MemPlace} (ht : P.underlying t = some (.struct fs))
    (h : DataW.trod enc P W 0 (fun _ => true) true fuel t cs = some x) : cs.length = P.cellsOf t ∧ ∃ n, ∀ (i : Nat) (f : Field), fs[i]? = some f → ∃ y, DataW.trod enc P W 0 (fun _ => true) true n f.type ((cs.drop f.offset).take (P.cellsOf f.type)) = some y := by
  obtain ⟨xs, n, _, _, h1, h2, h3⟩ := DataW.trod_struct ht h
  refine ⟨h1, n, fun i f hf => ?_⟩
  have hi : i < fs.size := by
    rcases Nat.lt_or_ge i fs.size with h' | h'
    · exact h'
    · rw [Array.getElem?_eq_none h'] at hf; cases hf
  have := h3 i f hf
  rw [List.getElem?_eq_getElem (by omega)] at this
  exact ⟨_, this⟩

theorem struct_at {W : World} {P : Program} {H : Type} {enc : TypeId × Value → H} {t : TypeId} {fs : Array Field} {fuel : Nat} {cs : List Value} {x : DataW H × List MemPlace} (ht : P.underlying t = some (.struct fs))
    (h : DataW.trod enc P W 0 (fun _ => true) true fuel t cs = some x) : cs.length = P.cellsOf t ∧ ∃ n, ∀ (i u o s : Nat), (fs[i]?).map (fun f => (f.type, f.offset)) = some (u, o) → P.cellsOf u = s → ∃ y, DataW.trod enc P W 0 (fun _ => true) true n u ((cs.drop o).take s) = some y := by
  obtain ⟨h1, n, h2⟩ := struct_field ht h
  refine ⟨h1, n, fun i u o s hf hs => ?_⟩
  rw [Option.map_eq_some_iff] at hf
  obtain ⟨f, h3, h4⟩ := hf
  simp only [Prod.mk.injEq] at h4
  obtain ⟨rfl, rfl⟩ := h4
  subst hs
  exact h2 i f h3

/-- A triple of a call, as a contract. -/
theorem calls_of_tr {P : Program} {f : FuncId} {args : List V} {h : H} {post : Rs → H → Prop} (e : Tr P (.call f args .plain) h post) (hpost : ∀ r h', post r h' → r = .cr (.ret (.bool true)) .plain)
    {σ : S} {W : World} (r : Rel σ h W) {args' : Array Value} (hv : VRs σ args args'.toList) :
    Calls P f args' W fun e W' => e = .returned (.bool true) ∧ Below σ.n0 W W' := by
  intro cs
  obtain ⟨c, cm', h', σ', w', u', fr', hp, sim, _, st, hk, hl, hf⟩ := e.ok σ W args' (.plain cs) .run r hv trivial
  have := hpost _ _ hp
  injection this with h1 h2
  subst h1
  obtain ⟨g1, g2, fn, v', g3, g4, g5⟩ := hl
  cases g5
  refine ⟨.returned (.bool true), w', fr', ⟨rfl, sim.io.1, sim.io.2.1, sim.io.2.2, sim.size, fun k hk => ?_⟩, st, hf, g1, g2, hk, fn, g3, g4⟩
  rw [sim.rel.old k (by rw [sim.n0]; exact hk), r.old k hk, sim.h0]

end Go.Proofs.Ab
