/- Triples of calls: what was laid on the way and is not needed is forgotten; a closed call runs behind any heap. -/
import Derived.Test.YtelmlcciphafjaaGreatDoorAc1
namespace Go.Proofs.Ab
open Go Go.RowKit

section
variable {σ σ' : S}
theorem AR.down (u : Up σ σ') {a : A} {y0 y : Addr} (h0 : AR σ a y0) (h : AR σ' a y) : AR σ a y := by
  unfold AR at *
  cases hb : a.blk with
  | base i => simp only [hb] at h0 h ⊢; rw [u.bs] at h; exact h
  | glob i => simp only [hb] at h0 h ⊢; exact h
  | own i =>
    simp only [hb] at h0 h ⊢
    obtain ⟨b, sh, ext, e, r⟩ := h0
    obtain ⟨b', sh', ext', e', r'⟩ := h
    have := u.mono _ _ _ e
    rw [this] at e'; cases e'
    exact ⟨b, sh, ext, e, r'⟩
theorem BR.down (u : Up σ σ') {b : B} {y0 y : Nat} (h0 : BR σ b y0) (h : BR σ' b y) : BR σ b y := by
  unfold BR at *
  cases b with
  | own i =>
    simp only at h0 h ⊢
    have := u.mono _ _ _ h0
    rw [this] at h; cases h; exact h0
  | _ => exact h
theorem TR.down (u : Up σ σ') {a : A} {y0 y : Addr} {l s c0 c : Nat} (h0 : TR σ a y0 l s c0) (h : TR σ' a y l s c) : TR σ a y l s c := by
  unfold TR at *
  cases hb : a.blk with
  | base i => simp only [hb] at h
  | glob i => simp only [hb] at h
  | own i =>
    simp only [hb] at h0 h ⊢
    obtain ⟨b, sh, ext, e, r⟩ := h0
    obtain ⟨b', sh', ext', e', r'⟩ := h
    have := u.mono _ _ _ e
    rw [this] at e'; cases e'
    exact ⟨b, sh, ext, e, r'⟩
mutual
theorem VR.down (u : Up σ σ') : ∀ {v : V} {y0 y : Value}, VR σ v y0 → VR σ' v y → VR σ v y
  | _, _, _, .any t _ _, .any _ y h => .any t y (by cases t <;> first | exact h | exact ⟨h.1, by rw [← u.good]; exact h.2⟩)
  | _, _, _, .bool b, .bool _ => .bool b
  | _, _, _, .int k n, .int _ _ => .int k n
  | _, _, _, .str s _ _, .str _ b e => .str s b e
  | _, _, _, .nilp, .nilp => .nilp
  | _, _, _, .ptr a _ h0, .ptr _ a' h => .ptr a a' (h0.down u h)
  | _, _, _, .nilsl, .nilsl => .nilsl
  | _, _, _, .slk a _ l c h0 _, .slk _ a' _ _ h e => .slk a a' l c (by
      rcases h with h | h
      · exact .inl h
      · rcases h0 with h0 | h0
        · exact .inl h0
        · exact .inr (h0.down u h)) e
  | _, _, _, .slt a _ l s _ h0, .slt _ a' _ _ c h => .slt a a' l s c (h0.down u h)
  | _, _, _, .nilmap, .nilmap => .nilmap
  | _, _, _, .map b _ h0, .map _ r h => .map b r (h0.down u h)
  | _, _, _, .nilfn, .nilfn => .nilfn
  | _, _, _, .fn f xs ys _ _ hx0 hy0, .fn _ _ _ xs' ys' hx hy => .fn f xs ys xs' ys' (VRs.down u hx0 hx) (VRs.down u hy0 hy)
  | _, _, _, .yld i _ h0, .yld _ r h => .yld i r (h0.down u h)
  | _, _, _, .niliface, .niliface => .niliface
  | _, _, _, .iface t v _ h0, .iface _ _ v' h => .iface t v v' (VR.down u h0 h)
  | _, _, _, .agg cs _ h0, .agg _ cs' h => .agg cs cs' (VRs.down u h0 h)
  | _, _, _, .tup vs _ h0, .tup _ vs' h => .tup vs vs' (VRs.down u h0 h)
theorem VRs.down (u : Up σ σ') : ∀ {v : List V} {y0 y : List Value}, VRs σ v y0 → VRs σ' v y → VRs σ v y
  | _, _, _, .nil, .nil => .nil
  | _, _, _, .cons v _ vs _ h0 hs0, .cons _ v' _ vs' h hs => .cons v v' vs vs' (VR.down u h0 h) (VRs.down u hs0 hs)
end
theorem DR.down (u : Up σ σ') {d : D} {y0 y : Deferred} (h0 : DR σ d y0) (h : DR σ' d y) : DR σ d y := by
  cases h0 with
  | call f cap args cap0 args0 g1 g2 => cases h with | call _ _ _ cap' args' h1 h2 => exact .call f cap args cap' args' (g1.down u h1) (g2.down u h2)
  | coll b r g => cases h with | coll _ r' h => exact .coll b r' (g.down u h)
theorem DRs.down (u : Up σ σ') : ∀ {d : List D} {y0 y : List Deferred}, DRs σ d y0 → DRs σ' d y → DRs σ d y
  | _, _, _, .nil, .nil => .nil
  | _, _, _, .cons d _ ds _ h0 hs0, .cons _ d' _ ds' h hs => .cons d d' ds ds' (h0.down u h) (DRs.down u hs0 hs)
theorem ER.down (u : Up σ σ') : ∀ {d : List (V × V × Nat)} {y0 y : List MapEntry}, ER σ d y0 → ER σ' d y → ER σ d y
  | _, _, _, .nil, .nil => .nil
  | _, _, _, .cons k v n _ _ es _ g1 g2 gs, .cons _ _ _ k' v' _ es' h1 h2 hs => .cons k v n k' v' es es' (g1.down u h1) (g2.down u h2) (ER.down u gs hs)
theorem TmR.down (u : Up σ σ') {n : Nat} {t : T V} {y0 y : Array Value} (h0 : TmR σ n t y0) (h : TmR σ' n t y) : TmR σ n t y := ⟨h.1, fun i hi => (h0.2.1 i hi).down u (h.2.1 i hi), h.2.2⟩
theorem OBR.down (u : Up σ σ') {a : Option B} {y0 y : Option Nat} (h0 : OBR σ a y0) (h : OBR σ' a y) : OBR σ a y := by
  cases a <;> cases y0 <;> cases y <;> first | exact h | exact h0.elim | exact BR.down u h0 h
theorem ODR.down (u : Up σ σ') {a : Option (List D)} {y0 y : Option (List Deferred)} (h0 : ODR σ a y0) (h : ODR σ' a y) : ODR σ a y := by
  cases a <;> cases y0 <;> cases y <;> first | exact h | exact h0.elim | exact DRs.down u h0 h
theorem LR.down (u : Up σ σ') {l : LoopA} {y0 y : Loop} (h0 : LR σ l y0) (h : LR σ' l y) : LR σ l y := { h with tmps := h0.tmps.down u h.tmps, defs := h0.defs.down u h.defs }
theorem OR.down (u : Up σ σ') {o : O} {v b sh ext : Nat} {y0 y : Option Obj} (h0 : OR σ o v b sh ext y0) (h : OR σ' o v b sh ext y) : OR σ o v b sh ext y := by
  cases o with
  | cells ver cs =>
    obtain ⟨h1, c, t, fz, e, h2, h3, h4, h6, h5⟩ := h
    obtain ⟨_, c0, _, _, _, _, _, _, _, g5⟩ := h0
    refine ⟨h1, c, t, fz, e, h2, h3, h4, h6, fun k x lo e1 e2 e3 => ?_⟩
    obtain ⟨x', q1, q2, q3⟩ := h5 k x lo e1 e2 e3
    obtain ⟨x0, p1, p2, p3⟩ := g5 k x lo e1 e2 e3
    exact ⟨x', q1, p2.down u q2, q3⟩
  | map es clock =>
    obtain ⟨h1, h2, h3, es', e, h4⟩ := h
    obtain ⟨_, _, _, es0, _, g4⟩ := h0
    exact ⟨h1, h2, h3, es', e, g4.down u h4⟩
  | miter m since seen stepped =>
    obtain ⟨h1, h2, h3, m', s', e, h4, h5⟩ := h
    obtain ⟨_, _, _, m0, s0, _, g4, _⟩ := h0
    exact ⟨h1, h2, h3, m', s', e, g4.down u h4, h5⟩
  | siter s pos => exact h
  | loop l =>
    obtain ⟨h1, h2, h3, l', e, h4⟩ := h
    obtain ⟨_, _, _, l0, _, g4⟩ := h0
    exact ⟨h1, h2, h3, l', e, g4.down u h4⟩
  | defs ds =>
    obtain ⟨h1, h2, h3, l', e, h4⟩ := h
    obtain ⟨_, _, _, l0, _, g4⟩ := h0
    exact ⟨h1, h2, h3, l', e, g4.down u h4⟩
end

/-- No address stands in it. -/
def V.flat : V → Bool
  | .any t => (match t with | .str => true | .int _ => true | _ => false)
  | .bool _ => true
  | .int _ _ => true
  | .str _ => true
  | .nilp => true
  | .nilsl => true
  | .nilmap => true
  | .nilfn => true
  | .niliface => true
  | .iface _ v => v.flat
  | .agg cs => go cs
  | .tup cs => go cs
  | _ => false
where go : List V → Bool
  | [] => true
  | v :: vs => v.flat && go vs

mutual
theorem VR.flat {σ σ' : S} : ∀ {v : V} {y : Value}, VR σ v y → v.flat = true → VR σ' v y
  | _, _, .any t y h, f => .any t y (by cases t <;> first | exact h | (simp [V.flat] at f))
  | _, _, .bool b, _ => .bool b
  | _, _, .int k n, _ => .int k n
  | _, _, .str s b e, _ => .str s b e
  | _, _, .nilp, _ => .nilp
  | _, _, .ptr a _ h0, f => by simp [V.flat] at f
  | _, _, .nilsl, _ => .nilsl
  | _, _, .slk a _ l c h0 _, f => by simp [V.flat] at f
  | _, _, .slt a _ l s _ h0, f => by simp [V.flat] at f
  | _, _, .nilmap, _ => .nilmap
  | _, _, .map b _ h0, f => by simp [V.flat] at f
  | _, _, .nilfn, _ => .nilfn
  | _, _, .fn _ xs ys _ _ hx0 hy0, f => by simp [V.flat] at f
  | _, _, .yld i _ h0, f => by simp [V.flat] at f
  | _, _, .niliface, _ => .niliface
  | _, _, .iface t v v' h, f => .iface t v v' (VR.flat h (by simpa [V.flat] using f))
  | _, _, .agg cs cs' h, f => .agg cs cs' (VRs.flat h (by simpa [V.flat] using f))
  | _, _, .tup vs vs' h, f => .tup vs vs' (VRs.flat h (by simpa [V.flat] using f))
theorem VRs.flat {σ σ' : S} : ∀ {v : List V} {y : List Value}, VRs σ v y → V.flat.go v = true → VRs σ' v y
  | _, _, .nil, _ => .nil
  | _, _, .cons v v' vs vs' h hs, f => by
    simp only [V.flat.go, Bool.and_eq_true] at f
    exact .cons v v' vs vs' (VR.flat h f.1) (VRs.flat hs f.2)
end

/-- The named blocks of old are as they were: so the heap is. -/
theorem Rel.back {σ σ' : S} {h h' : H} {w w' : World} (r : Rel σ h w) (s : Sim σ h w σ' h' w') (hk : ∀ i, i < h.next → h'.own.get i = h.own.get i) : Sim σ h w σ h w' where
  rel := {
    low := Nat.le_trans r.low s.size
    obj := fun i o v b sh ext ho hm => by
      have h1 := hk i (r.lt i o ho)
      have := s.rel.obj i o v b sh ext (by rw [h1]; exact ho) (s.mono _ _ _ hm)
      exact (r.obj i o v b sh ext ho hm).down s.up this
    dom := r.dom
    lt := r.lt
    inj := r.inj
    high := fun i v b sh ext hm => ⟨(r.high i v b sh ext hm).1, Nat.lt_of_lt_of_le (r.high i v b sh ext hm).2 s.size⟩
    base := fun i cs hc => by
      obtain ⟨g1, c, t, fz, g2, g3⟩ := s.rel.base i cs (by rw [s.base]; exact hc)
      obtain ⟨f1, c0, t0, fz0, f2, f3⟩ := r.base i cs hc
      rw [s.bs] at g2 g3
      refine ⟨f1, c, t, fz, g2, fun k x hx => ?_⟩
      obtain ⟨x', q1, q2, q3⟩ := g3 k x hx
      obtain ⟨x0, p1, p2, p3⟩ := f3 k x hx
      exact ⟨x', q1, p2.down s.up q2, q3⟩
    glob := fun i cs hc => by
      obtain ⟨g1, c, t, fz, g2, g3⟩ := s.rel.glob i cs (by rw [s.glob]; exact hc)
      obtain ⟨f1, c0, t0, fz0, f2, f3⟩ := r.glob i cs hc
      refine ⟨f1, c, t, fz, g2, fun k x hx => ?_⟩
      obtain ⟨x', q1, q2, q3⟩ := g3 k x hx
      obtain ⟨x0, p1, p2, p3⟩ := f3 k x hx
      exact ⟨x', q1, p2.down s.up q2, q3⟩
    old := fun b hb => by rw [← s.h0]; exact s.rel.old b (by rw [s.n0]; exact hb) }
  mono := fun _ _ _ e => e
  bs := rfl
  n0 := rfl
  unreal := fun i _ e => ⟨e, rfl⟩
  keep := fun b hb e => ⟨(s.keep b hb e).1, e⟩
  next := Nat.le_refl _
  base := rfl
  glob := rfl
  size := s.size
  h0 := rfl
  good := rfl
  io := s.io

/-- What a call laid on its way is forgotten, where nothing of old has turned and the answer bears no address. -/
theorem Tr.clean {P : Program} {f : FuncId} {args : List V} {h : H} {k : Rs → H → Prop}
    (e : Tr P (.call f args .plain) h fun r h' => ∃ v, r = .cr (.ret v) .plain ∧ v.flat = true ∧ (∀ i, i < h.next → h'.own.get i = h.own.get i) ∧ k (.cr (.ret v) .plain) h) : Tr P (.call f args .plain) h k := by
  refine ⟨?_, e.body⟩
  intro σ w args' K0 u r hv hu
  obtain ⟨c, cm', h', σ', w', u', fr', ⟨v, hr, hf, hk, hkk⟩, sim, hu', st, h1, hl, h2⟩ := e.ok σ w args' K0 u r hv hu
  injection hr with hr1 hr2
  subst hr1; subst hr2
  refine ⟨.ret v, .plain, h, σ, w', u', fr', hkk, r.back sim hk, ?_, st, h1, ?_, h2⟩
  · cases K0 <;> first | exact hu' | exact hu'.elim
  · obtain ⟨g1, g2, fn, v', g3, g4, g5⟩ := hl
    exact ⟨g1, g2, fn, v', g3, g4, g5.flat hf⟩

/-- It bears no address of a block of our own. -/
def V.noOwn : V → Bool
  | .any _ => true
  | .bool _ => true
  | .int _ _ => true
  | .str _ => true
  | .nilp => true
  | .nilsl => true
  | .nilmap => true
  | .nilfn => true
  | .niliface => true
  | .ptr ⟨.base _, _, _⟩ => true
  | .ptr ⟨.glob _, _, _⟩ => true
  | .sl ⟨.base _, _, _⟩ _ (.kn _) => true
  | .sl ⟨.glob _, _, _⟩ _ (.kn _) => true
  | .iface _ v => v.noOwn
  | .agg cs => go cs
  | .tup cs => go cs
  | _ => false
where go : List V → Bool
  | [] => true
  | v :: vs => v.noOwn && go vs

theorem AR.noOwn {σ σ' : S} (hb : σ'.bs = σ.bs) {a : A} {y : Addr} (h : AR σ a y) (ha : ∀ i, a.blk ≠ .own i) : AR σ' a y := by
  unfold AR at *
  cases hx : a.blk with
  | base i => simp only [hx] at h ⊢; rw [hb]; exact h
  | glob i => simp only [hx] at h ⊢; exact h
  | own i => exact absurd hx (ha i)
mutual
theorem VR.noOwn {σ σ' : S} (hb : σ'.bs = σ.bs) (hg : σ'.good = σ.good) : ∀ {v : V} {y : Value}, VR σ v y → v.noOwn = true → VR σ' v y
  | _, _, .any t y h, f => .any t y (by cases t <;> first | exact h | exact ⟨h.1, by rw [hg]; exact h.2⟩)
  | _, _, .bool b, _ => .bool b
  | _, _, .int k n, _ => .int k n
  | _, _, .str s b e, _ => .str s b e
  | _, _, .nilp, _ => .nilp
  | _, _, .ptr ⟨.own i, v, o⟩ _ h0, f => by simp [V.noOwn] at f
  | _, _, .ptr ⟨.base i, v, o⟩ _ h0, f => .ptr _ _ (h0.noOwn hb (by intro i h; cases h))
  | _, _, .ptr ⟨.glob i, v, o⟩ _ h0, f => .ptr _ _ (h0.noOwn hb (by intro i h; cases h))
  | _, _, .nilsl, _ => .nilsl
  | _, _, .slk ⟨.own i, v, o⟩ _ l c h0 _, f => by simp [V.noOwn] at f
  | _, _, .slk ⟨.base i, v, o⟩ _ l c h0 e, f => .slk _ _ _ _ (h0.imp id fun h => h.noOwn hb (by intro i h; cases h)) e
  | _, _, .slk ⟨.glob i, v, o⟩ _ l c h0 e, f => .slk _ _ _ _ (h0.imp id fun h => h.noOwn hb (by intro i h; cases h)) e
  | _, _, .slt a _ l s _ h0, f => by simp [V.noOwn] at f
  | _, _, .nilmap, _ => .nilmap
  | _, _, .map b _ h0, f => by simp [V.noOwn] at f
  | _, _, .nilfn, _ => .nilfn
  | _, _, .fn _ xs ys _ _ hx0 hy0, f => by simp [V.noOwn] at f
  | _, _, .yld i _ h0, f => by simp [V.noOwn] at f
  | _, _, .niliface, _ => .niliface
  | _, _, .iface t v v' h, f => .iface t v v' (VR.noOwn hb hg h (by simpa [V.noOwn] using f))
  | _, _, .agg cs cs' h, f => .agg cs cs' (VRs.noOwn hb hg h (by simpa [V.noOwn] using f))
  | _, _, .tup vs vs' h, f => .tup vs vs' (VRs.noOwn hb hg h (by simpa [V.noOwn] using f))
theorem VRs.noOwn {σ σ' : S} (hb : σ'.bs = σ.bs) (hg : σ'.good = σ.good) : ∀ {v : List V} {y : List Value}, VRs σ v y → V.noOwn.go v = true → VRs σ' v y
  | _, _, .nil, _ => .nil
  | _, _, .cons v v' vs vs' h hs, f => by
    simp only [V.noOwn.go, Bool.and_eq_true] at f
    exact .cons v v' vs vs' (VR.noOwn hb hg h f.1) (VRs.noOwn hb hg hs f.2)
end

def H.bare (h : H) : H := { own := .e, next := 0, base := h.base, glob := h.glob }

/-- A call that is handed no address of ours, over a bare heap, runs so behind any heap. -/
theorem Tr.closed {P : Program} {f : FuncId} {args : List V} {h : H} {k : Rs → H → Prop} (ha : V.noOwn.go args = true)
    (hb : ∀ i cs, h.base i = some cs → ∀ x ∈ cs, x.noOwn = true) (hg : ∀ i cs, h.glob i = some cs → ∀ x ∈ cs, x.noOwn = true)
    (e : Tr P (.call f args .plain) h.bare fun r h' => ∃ v, r = .cr (.ret v) .plain ∧ v.flat = true ∧ k (.cr (.ret v) .plain) h) : Tr P (.call f args .plain) h k := by
  refine ⟨?_, e.body⟩
  intro σ w args' K0 u r hv hu
  let σ0 : S := { m := fun _ _ => none, bs := σ.bs, n0 := w.heap.size, h0 := fun b => w.heap[b]?, good := σ.good }
  have r0 : Rel σ0 h.bare w := {
    low := Nat.le_refl _
    obj := fun i o v b sh ext h => by simp [H.bare, T.get_e] at h
    dom := fun i v x h => by simp [σ0] at h
    lt := fun i o h => by simp [H.bare, T.get_e] at h
    inj := fun i v j u b sh ext sh' ext' h => by simp [σ0] at h
    high := fun i v b sh ext h => by simp [σ0] at h
    base := fun i cs hc => by
      obtain ⟨g1, c, t, fz, g2, g3⟩ := r.base i cs hc
      refine ⟨Nat.lt_of_lt_of_le g1 r.low, c, t, fz, g2, fun k x hx => ?_⟩
      obtain ⟨x', q1, q2, q3⟩ := g3 k x hx
      exact ⟨x', q1, q2.noOwn (σ := σ) (σ' := σ0) rfl rfl (hb i cs hc x (List.mem_of_getElem? hx)), q3⟩
    glob := fun i cs hc => by
      obtain ⟨g1, c, t, fz, g2, g3⟩ := r.glob i cs hc
      refine ⟨Nat.lt_of_lt_of_le g1 r.low, c, t, fz, g2, fun k x hx => ?_⟩
      obtain ⟨x', q1, q2, q3⟩ := g3 k x hx
      exact ⟨x', q1, q2.noOwn (σ := σ) (σ' := σ0) rfl rfl (hg i cs hc x (List.mem_of_getElem? hx)), q3⟩
    old := fun b _ => rfl }
  have hu0 : UR σ0 .plain K0 u := by cases K0 <;> first | exact hu | exact hu.elim
  obtain ⟨c, cm', h', σ', w', u', fr', ⟨v, hr, hf, hkk⟩, sim, hu', st, h1, hl, h2⟩ := e.ok σ0 w args' K0 u r0 (hv.noOwn (σ := σ) (σ' := σ0) rfl rfl ha) hu0
  injection hr with hr1 hr2
  subst hr1; subst hr2
  have hold : ∀ b, b < w.heap.size → w'.heap[b]? = w.heap[b]? := fun b hb => by
    rw [sim.rel.old b (by rw [sim.n0]; exact hb), sim.h0]
  refine ⟨.ret v, .plain, h, σ, w', u', fr', hkk, ?_, by cases K0 <;> first | exact hu' | exact hu'.elim, st, h1, ?_, h2⟩
  · exact {
      rel := {
        low := Nat.le_trans r.low sim.size
        obj := fun i o v b sh ext ho hm => by rw [hold b (r.high _ _ _ _ _ hm).2]; exact r.obj i o v b sh ext ho hm
        dom := r.dom
        lt := r.lt
        inj := r.inj
        high := fun i v b sh ext hm => ⟨(r.high i v b sh ext hm).1, Nat.lt_of_lt_of_le (r.high i v b sh ext hm).2 sim.size⟩
        base := fun i cs hc => by
          obtain ⟨g1, c, t, fz, g2, g3⟩ := r.base i cs hc
          exact ⟨g1, c, t, fz, by rw [hold _ (Nat.lt_of_lt_of_le g1 r.low)]; exact g2, g3⟩
        glob := fun i cs hc => by
          obtain ⟨g1, c, t, fz, g2, g3⟩ := r.glob i cs hc
          exact ⟨g1, c, t, fz, by rw [hold _ (Nat.lt_of_lt_of_le g1 r.low)]; exact g2, g3⟩
        old := fun b hb => by rw [hold b (Nat.lt_of_lt_of_le hb r.low)]; exact r.old b hb }
      mono := fun _ _ _ e => e
      bs := rfl
      n0 := rfl
      unreal := fun i _ e => ⟨e, rfl⟩
      keep := fun b hb e => ⟨hold b hb, e⟩
      next := Nat.le_refl _
      base := rfl
      glob := rfl
      size := sim.size
      h0 := rfl
      good := rfl
      io := sim.io }
  · obtain ⟨g1, g2, fn, v', g3, g4, g5⟩ := hl
    exact ⟨g1, g2, fn, v', g3, g4, g5.flat hf⟩

end Go.Proofs.Ab
