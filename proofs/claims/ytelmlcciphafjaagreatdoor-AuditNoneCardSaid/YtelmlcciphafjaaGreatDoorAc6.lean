/- Triples: a closed call over what it reads of the handed memory; heaps and frames told with less. -/
import Derived.Test.YtelmlcciphafjaaGreatDoorAc5
import Derived.Test.YtelmlcciphafjaaGreatDoorAf2
namespace Go.Proofs.Ab
open Go Go.RowKit

/-- The same memory, of which less is told. -/
theorem Rel.less {σ : S} {h : H} {w : World} (r : Rel σ h w) {b0 g0 : Nat → Option (List V)} (hb : ∀ i cs, b0 i = some cs → h.base i = some cs) (hg : ∀ i cs, g0 i = some cs → h.glob i = some cs) : Rel σ { h with base := b0, glob := g0 } w where
  low := r.low
  obj := r.obj
  dom := r.dom
  lt := r.lt
  inj := r.inj
  high := r.high
  base := fun i cs hc => r.base i cs (hb i cs hc)
  glob := fun i cs hc => r.glob i cs (hg i cs hc)
  old := r.old

/-- A closed call, over what it reads of the handed memory, runs so behind any heap. -/
theorem Tr.closed2 {P : Program} {f : FuncId} {args : List V} {h : H} {k : Rs → H → Prop} {b0 g0 : Nat → Option (List V)} (ha : V.noOwn.go args = true)
    (hb : ∀ i cs, b0 i = some cs → h.base i = some cs ∧ ∀ x ∈ cs, x.noOwn = true) (hg : ∀ i cs, g0 i = some cs → h.glob i = some cs ∧ ∀ x ∈ cs, x.noOwn = true)
    (e : Tr P (.call f args .plain) { own := .e, next := 0, base := b0, glob := g0 } fun r h' => ∃ v, r = .cr (.ret v) .plain ∧ v.flat = true ∧ k (.cr (.ret v) .plain) h) : Tr P (.call f args .plain) h k := by
  have e2 : Tr P (.call f args .plain) { h with base := b0, glob := g0 } fun r h' => ∃ v, r = .cr (.ret v) .plain ∧ v.flat = true ∧ k (.cr (.ret v) .plain) h :=
    Tr.closed (h := { h with base := b0, glob := g0 }) ha (fun i cs hc => (hb i cs hc).2) (fun i cs hc => (hg i cs hc).2) (e.mono fun r h' ⟨v, h1, h2, h3⟩ => ⟨v, h1, h2, v, rfl, h2, h3⟩)
  refine ⟨?_, e.body⟩
  intro σ w args' K0 u r hv hu
  have r' := r.less (fun i cs hc => (hb i cs hc).1) (fun i cs hc => (hg i cs hc).1)
  have e3 : Tr P (.call f args .plain) { h with base := b0, glob := g0 } fun r h' => (∃ v, r = .cr (.ret v) .plain ∧ v.flat = true ∧ k (.cr (.ret v) .plain) h) ∧ h' = { h with base := b0, glob := g0 } := by
    refine Tr.closed (h := { h with base := b0, glob := g0 }) ha (fun i cs hc => (hb i cs hc).2) (fun i cs hc => (hg i cs hc).2) (e.mono fun r h' ⟨v, h1, h2, h3⟩ => ⟨v, h1, h2, ⟨v, rfl, h2, h3⟩, rfl⟩)
  obtain ⟨c, cm', h', σ', w', u', fr', ⟨⟨v, hr, hf, hkk⟩, hh⟩, sim, hu', st, h1, hl, h2⟩ := e3.ok σ w args' K0 u r' hv hu
  injection hr with hr1 hr2
  subst hr1; subst hr2
  subst hh
  have hbase : ∀ i cs, h.base i = some cs → (σ.bs i).1 < σ.n0 ∧ ∃ c t fz, w'.heap[(σ.bs i).1]? = some (.cells c t fz) ∧ ∀ (k : Nat) x, cs[k]? = some x → ∃ x', c[(σ.bs i).2 + k]? = some x' ∧ VR σ' x x' ∧ x.atom = true := by
    intro i cs hc
    obtain ⟨g1, c, t, fz, g2, g3⟩ := r.base i cs hc
    refine ⟨g1, c, t, fz, ?_, fun k x hx => let ⟨x', q1, q2, q3⟩ := g3 k x hx; ⟨x', q1, q2.up sim.up, q3⟩⟩
    rw [sim.rel.old _ (by rw [sim.n0]; exact g1), sim.h0, ← r.old _ g1]; exact g2
  have hglob : ∀ i cs, h.glob i = some cs → i < σ.n0 ∧ ∃ c t fz, w'.heap[i]? = some (.cells c t fz) ∧ ∀ (k : Nat) x, cs[k]? = some x → ∃ x', c[k]? = some x' ∧ VR σ' x x' ∧ x.atom = true := by
    intro i cs hc
    obtain ⟨g1, c, t, fz, g2, g3⟩ := r.glob i cs hc
    refine ⟨g1, c, t, fz, ?_, fun k x hx => let ⟨x', q1, q2, q3⟩ := g3 k x hx; ⟨x', q1, q2.up sim.up, q3⟩⟩
    rw [sim.rel.old _ (by rw [sim.n0]; exact g1), sim.h0, ← r.old _ g1]; exact g2
  refine ⟨.ret v, .plain, h, σ', w', u', fr', hkk, ?_, hu', st, h1, hl, h2⟩
  exact {
    rel := {
      low := sim.rel.low
      obj := sim.rel.obj
      dom := sim.rel.dom
      lt := sim.rel.lt
      inj := sim.rel.inj
      high := sim.rel.high
      base := fun i cs hc => by rw [sim.bs, sim.n0]; exact hbase i cs hc
      glob := fun i cs hc => by rw [sim.n0]; exact hglob i cs hc
      old := sim.rel.old }
    mono := sim.mono
    bs := sim.bs
    n0 := sim.n0
    unreal := sim.unreal
    keep := sim.keep
    next := sim.next
    base := rfl
    glob := rfl
    size := sim.size
    h0 := sim.h0
    good := sim.good
    io := sim.io }

/-- Of two rows of cells the second one tells less. -/
inductive CW : List (V × Nat) → List (V × Nat) → Prop
  | nil : CW [] []
  | cons {v v' : V} {n : Nat} {l l' : List (V × Nat)} : VW v v' → v'.atom = true → CW l l' → CW ((v, n) :: l) ((v', n) :: l')
theorem CW.len {l l' : List (V × Nat)} (h : CW l l') : l'.length = l.length := by induction h with
  | nil => rfl
  | cons _ _ _ ih => simp [ih]
theorem CW.get {l l' : List (V × Nat)} (h : CW l l') : ∀ (k : Nat) x lo, l'[k]? = some (x, lo) → ∃ y, l[k]? = some (y, lo) ∧ VW y x ∧ x.atom = true := by
  induction h with
  | nil => intro k x lo e; simp at e
  | @cons v v' n l l' h1 h2 _ ih =>
    intro k x lo e
    cases k with
    | zero => simp only [List.getElem?_cons_zero, Option.some.injEq, Prod.mk.injEq] at e; obtain ⟨rfl, rfl⟩ := e; exact ⟨v, rfl, h1, h2⟩
    | succ k => simp only [List.getElem?_cons_succ] at e ⊢; exact ih k x lo e
theorem CW.refl_of {l : List (V × Nat)} (h : ∀ x ∈ l, x.1.atom = true) : CW l l := by
  induction l with
  | nil => exact .nil
  | cons x l ih => obtain ⟨v, n⟩ := x; exact .cons (VW.refl _) (h _ (List.mem_cons_self ..)) (ih fun y hy => h y (List.mem_cons_of_mem _ hy))

def OW (o o' : O) : Prop := o = o' ∨ ∃ ver cs cs', o = .cells ver cs ∧ o' = .cells ver cs' ∧ CW cs cs'
/-- Of two heaps the second one tells less. -/
structure HW (h h' : H) : Prop where
  next : h'.next = h.next
  base : h'.base = h.base
  glob : h'.glob = h.glob
  get : ∀ i, (h.own.get i = none ∧ h'.own.get i = none) ∨ ∃ o o', h.own.get i = some o ∧ h'.own.get i = some o' ∧ OW o o'
theorem HW.refl (h : H) : HW h h := ⟨rfl, rfl, rfl, fun i => by cases hg : h.own.get i with
  | none => exact .inl ⟨rfl, rfl⟩
  | some o => exact .inr ⟨o, o, rfl, rfl, .inl rfl⟩⟩
theorem HW.new {h h' : H} (w : HW h h') {o o' : O} (ho : OW o o') : HW (h.new o) (h'.new o') where
  next := by rw [H.new_next, H.new_next, w.next]
  base := by rw [H.new_base, H.new_base, w.base]
  glob := by rw [H.new_glob, H.new_glob, w.glob]
  get := fun i => by
    rw [H.new_get, H.new_get, w.next]
    by_cases c : i = h.next
    · rw [if_pos c, if_pos c]; exact .inr ⟨o, o', rfl, rfl, ho⟩
    · rw [if_neg c, if_neg c]; exact w.get i
theorem HW.rel {h h' : H} (x : HW h h') {σ : S} {w : World} (r : Rel σ h w) : Rel σ h' w where
  low := r.low
  obj := fun i o v b sh ext ho hm => by
    rcases x.get i with ⟨_, g⟩ | ⟨o1, o2, g1, g2, hw⟩
    · rw [g] at ho; cases ho
    · rw [g2] at ho; cases ho
      have := r.obj i o1 v b sh ext g1 hm
      rcases hw with rfl | ⟨ver, cs, cs', rfl, rfl, hc⟩
      · exact this
      · obtain ⟨h1, c, t, fz, e, h2, h3, h4, h6, h5⟩ := this
        refine ⟨h1, c, t, fz, e, h2, h3, by rw [hc.len]; exact h4, fun k x lo e => let ⟨y, q1, _, _⟩ := hc.get k x lo e; h6 k y lo q1, fun k x lo e1 e2 e3 => ?_⟩
        obtain ⟨y, q1, q2, q3⟩ := hc.get k x lo e1
        obtain ⟨x', p1, p2, p3⟩ := h5 k y lo q1 e2 e3
        exact ⟨x', p1, q2 _ _ p2, q3⟩
  dom := fun i v y hm => by
    obtain ⟨o, ho⟩ := r.dom i v y hm
    rcases x.get i with ⟨g, _⟩ | ⟨o1, o2, g1, g2, hw⟩
    · rw [g] at ho; cases ho
    · exact ⟨o2, g2⟩
  lt := fun i o ho => by
    rw [x.next]
    rcases x.get i with ⟨_, g⟩ | ⟨o1, o2, g1, g2, hw⟩
    · rw [g] at ho; cases ho
    · exact r.lt i o1 g1
  inj := r.inj
  high := r.high
  base := by rw [x.base]; exact r.base
  glob := by rw [x.glob]; exact r.glob
  old := r.old

/-- The blocks without a name, as they were. -/
noncomputable def backT (p : Nat → Prop) (old : T O) : Nat → T O → T O
  | 0, t => t
  | n + 1, t => open Classical in if p n then (match old.get n with | some o => (backT p old n t).set n o | none => backT p old n t) else backT p old n t
theorem backT_get (p : Nat → Prop) (old : T O) : ∀ (n : Nat) (t : T O) (i : Nat), (backT p old n t).get i = open Classical in if i < n ∧ p i ∧ (old.get i).isSome then old.get i else t.get i
  | 0, t, i => by simp [backT]
  | n + 1, t, i => by
    have ih := backT_get p old n t i
    unfold backT
    by_cases hp : p n
    · rw [if_pos hp]
      cases ho : old.get n with
      | none =>
        simp only
        rw [ih]
        by_cases hi : i = n
        · subst hi; rw [if_neg (by omega), if_neg (by simp [ho])]
        · by_cases c : i < n ∧ p i ∧ (old.get i).isSome
          · rw [if_pos c, if_pos ⟨by omega, c.2⟩]
          · rw [if_neg c, if_neg (fun q => c ⟨by omega, q.2⟩)]
      | some o =>
        simp only [T.get_set]
        by_cases hi : i = n
        · subst hi; rw [if_pos rfl, if_pos ⟨by omega, hp, by simp [ho]⟩, ho]
        · rw [if_neg hi, ih]
          by_cases c : i < n ∧ p i ∧ (old.get i).isSome
          · rw [if_pos c, if_pos ⟨by omega, c.2⟩]
          · rw [if_neg c, if_neg (fun q => c ⟨by omega, q.2⟩)]
    · rw [if_neg hp, ih]
      by_cases c : i < n ∧ p i ∧ (old.get i).isSome
      · rw [if_pos c, if_pos ⟨by omega, c.2⟩]
      · rw [if_neg c, if_neg (fun q => c ⟨by
          rcases Nat.lt_or_ge i n with h | h
          · exact h
          · have : i = n := by omega
            subst this; exact absurd q.2.1 hp, q.2⟩)]

/-- What is known of a heap that tells less is known of the heap, where the end is not told of the heap. -/
theorem Tr.weaken {P : Program} {fn : FuncId} {rd : Option B} {c : Code} {fr fr' : Fr} {h h' : H} {K : Rs → Prop} (wf : FrW fr fr') (wh : HW h h') (e : Tr P (.code fn rd c fr') h' fun r _ => K r) : Tr P (.code fn rd c fr) h fun r _ => K r := by
  refine ⟨?_, fun _ _ _ x => by cases x⟩
  intro σ W b a ks K0 u h1 h2 h3 h4 h5 h6
  obtain ⟨e', fr1, h2', σ', w', a', u', g1, sim, g3⟩ := e.ok σ W b a ks K0 u (wh.rel h1) (wf.rel h2) h3 h4 h5 (by rw [wf.cm]; exact h6)
  let p : Nat → Prop := fun i => ∀ v, σ.m i v = none
  let q : H := { h2' with own := backT p h.own h.next h2'.own }
  have hq : ∀ i, q.own.get i = open Classical in if i < h.next ∧ p i ∧ (h.own.get i).isSome then h.own.get i else h2'.own.get i := fun i => backT_get p h.own h.next h2'.own i
  have hn : ∀ i v x, σ'.m i v = some x → q.own.get i = h2'.own.get i := by
    intro i v x hm
    rw [hq]
    by_cases c : i < h.next ∧ p i ∧ (h.own.get i).isSome
    · have := (sim.unreal i (by rw [wh.next]; exact c.1) c.2.1).1 v
      rw [this] at hm; cases hm
    · rw [if_neg c]
  refine ⟨e', fr1, q, σ', w', a', u', g1, ?_, g3⟩
  exact {
    rel := {
      low := sim.rel.low
      obj := fun i o v b sh ext ho hm => sim.rel.obj i o v b sh ext (by rw [← hn i v _ hm]; exact ho) hm
      dom := fun i v x hm => by obtain ⟨o, ho⟩ := sim.rel.dom i v x hm; exact ⟨o, by rw [hn i v x hm]; exact ho⟩
      lt := fun i o ho => by
        rw [hq] at ho
        by_cases c : i < h.next ∧ p i ∧ (h.own.get i).isSome
        · have := sim.next
          rw [wh.next] at this
          show i < h2'.next
          omega
        · rw [if_neg c] at ho; exact sim.rel.lt i o ho
      inj := sim.rel.inj
      high := sim.rel.high
      base := sim.rel.base
      glob := sim.rel.glob
      old := sim.rel.old }
    mono := sim.mono
    bs := sim.bs
    n0 := sim.n0
    unreal := fun i hi hp => by
      obtain ⟨q1, q2⟩ := sim.unreal i (by rw [wh.next]; exact hi) hp
      refine ⟨q1, ?_⟩
      rw [hq]
      by_cases c : i < h.next ∧ p i ∧ (h.own.get i).isSome
      · rw [if_pos c]
      · rw [if_neg c, q2]
        rcases wh.get i with ⟨g4, g5⟩ | ⟨o, o', g4, _, _⟩
        · rw [g4, g5]
        · exact absurd ⟨hi, hp, by simp [g4]⟩ c
    keep := sim.keep
    next := by have := sim.next; rw [wh.next] at this; exact this
    base := by rw [← wh.base]; exact sim.base
    glob := by rw [← wh.glob]; exact sim.glob
    size := sim.size
    h0 := sim.h0
    good := sim.good
    io := sim.io }

end Go.Proofs.Ab
