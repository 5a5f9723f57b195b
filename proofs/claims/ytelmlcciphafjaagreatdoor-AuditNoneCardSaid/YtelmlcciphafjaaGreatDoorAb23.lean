/- The evaluator's soundness, twentieth part: what a region whose order is open rests on. -/
import Derived.Test.YtelmlcciphafjaaGreatDoorAb22
import Derived.Orders
namespace Go.Proofs.Ab
open Go

/-! ## Only the operands count -/
theorem evals_congr {fr g : Fr} : ∀ {xs : List Operand}, (∀ x ∈ xs, fr.eval x = g.eval x) → fr.evals xs = g.evals xs
  | [], _ => rfl
  | x :: xs, h => by
    simp only [Fr.evals]
    rw [h x (by simp), evals_congr (fun y hy => h y (by simp [hy]))]
theorem evalPs_congr {fr g : Fr} : ∀ {xs : List (Nat × Operand)}, (∀ x ∈ xs.map (·.2), fr.eval x = g.eval x) → evalPs fr xs = evalPs g xs
  | [], _ => rfl
  | (i, x) :: xs, h => by
    simp only [evalPs]
    rw [h x (by simp), evalPs_congr (fun y hy => h y (by simp only [List.map_cons, List.mem_cons]; exact .inr hy))]
theorem evalO_congr {fr g : Fr} {x : Option Operand} (h : ∀ y, x = some y → fr.eval y = g.eval y) : evalO fr x = evalO g x := by
  cases x with
  | none => rfl
  | some x => simp only [evalO]; rw [h x rfl]

theorem opV_congr {P : Program} {fr g : Fr} {h : H} (op : Op) (hx : ∀ x ∈ op.operands.toList, fr.eval x = g.eval x) : opV P fr h op = opV P g h op := by
  cases op <;> simp only [Op.operands] at hx
  case build t ps => simp only [opV]; rw [evalPs_congr (by simpa using hx)]
  case buildSlice t n ps => simp only [opV]; rw [evalPs_congr (by simpa using hx)]
  case makeFunc f xs ys => simp only [opV]; rw [evals_congr (fr := fr) (g := g) (xs := xs.toList) (fun x h => hx x (by simp at h ⊢; exact .inl h)), evals_congr (fr := fr) (g := g) (xs := ys.toList) (fun x h => hx x (by simp at h ⊢; exact .inr h))]
  case makeMap t r =>
    cases r with
    | none => rfl
    | some x => simp only [opV]; rw [hx x (by simp)]
  case slice t x lo hi mx =>
    simp only [opV]
    rw [hx x (by simp), evalO_congr (x := lo) (fun y e => hx y (by subst e; simp)), evalO_congr (x := hi) (fun y e => hx y (by subst e; simp)), evalO_congr (x := mx) (fun y e => hx y (by subst e; simp))]
  case call c =>
    obtain ⟨callee, args, ats⟩ := c
    cases callee with
    | builtin b =>
      simp only [opV]
      rw [evals_congr (fr := fr) (g := g) (xs := args.toList) (fun x h => hx x (by simp [Call.operands]; simpa using h))]
    | _ => rfl
  case next x s =>
    cases s with
    | true => simp only [opV]; rw [hx x (by simp)]
    | false => rfl
  all_goals first
    | rfl
    | (simp at hx; simp only [opV, hx])

theorem actK_congr {E : E} {rec : Rec} {fr g : Fr} {h : H} {o : Oper} {k kp : V → H → Prop} (hx : ∀ x ∈ o.op.operands.toList, fr.eval x = g.eval x) : actK E rec fr h o k kp = actK E rec g h o k kp := by
  have hop := opV_congr (P := E.P) (h := h) o.op hx
  unfold actK
  generalize o.op = op at hx hop ⊢
  split
  · rename_i f args ats
    simp only [Op.operands, Call.operands] at hx
    rw [hx f (by simp), evals_congr (fr := fr) (g := g) (xs := args.toList) (fun x h => hx x (by simp; exact .inr (by simpa using h)))]
  · rename_i x
    simp only [Op.operands] at hx
    rw [hx x (by simp)]
  · rename_i op t x y u
    simp only [Op.operands] at hx
    rw [hx x (by simp), hx y (by simp), hop]
  · rw [hop]

/-- What acts not leaves the heap. -/
theorem pure_heap {P : Program} {fr : Fr} {h h' : H} {v : V} {op : Op} (hk : Nat.ble (kd P op) 1 = true) (e : opV P fr h op = some (v, h')) : h' = h := by
  have key : ∀ {α : Type} {x : Option α} {f : α → V} , x.bind (fun y => some (f y, h)) = some (v, h') → h' = h := by
    intro α x f e
    rw [Option.bind_eq_some_iff] at e; obtain ⟨y, _, e⟩ := e
    cases e; rfl
  cases op
  case convert sd d x =>
    simp only [opV] at e
    rw [Option.bind_eq_some_iff] at e; obtain ⟨y, _, e⟩ := e
    simp only [kd] at hk
    split at e
    · cases e; rfl
    · unfold convertV at e
      split at e
      · rename_i s1 d1 hs1 hd1
        rw [hd1] at hk
        split at e
        · cases e; rfl
        · split at e
          · cases e; rfl
          · cases e
        · (repeat' split at e) <;> first | (cases e; rfl) | cases e
        · split at e
          · split at e
            · rw [Option.bind_eq_some_iff] at e; obtain ⟨_, _, e⟩ := e
              rw [Option.bind_eq_some_iff] at e; obtain ⟨_, _, e⟩ := e
              cases e; rfl
            · cases e
          · cases e
        · cases hk
        · cases e
      · cases e
  case call c =>
    obtain ⟨callee, args, ats⟩ := c
    cases callee with
    | builtin b =>
      simp only [opV] at e
      rw [Option.bind_eq_some_iff] at e; obtain ⟨vs, _, e⟩ := e
      cases b <;> simp only [kd] at hk <;> try (cases hk; done)
      all_goals
        split at e <;> first
          | (split at e <;> first | (cases e; rfl; done) | exact key e)
          | (rename_i hb _; cases hb; done)
          | (rename_i hb _ _; cases hb; done)
          | exact key e
          | (cases e; done)
          | trace_state
    | _ => simp [opV] at e
  case pick c x y =>
    simp only [opV] at e
    rw [Option.bind_eq_some_iff] at e; obtain ⟨q, _, e⟩ := e
    split at e <;> first | exact key e | cases e
  all_goals first
    | (simp only [kd] at hk; cases hk; done)
    | (simp only [opV] at e; cases e; done)
    | (simp only [opV] at e; (repeat' first | (rw [Option.bind_eq_some_iff] at e; obtain ⟨_, _, e⟩ := e) | split at e) <;> first | (cases e; rfl; done) | (cases e; done) | (simp only [cond_eq_ite] at e; split at e <;> first | (cases e; rfl; done) | (cases e; done)))

/-! ## The loose block -/
theorem buildSliceV_row {P : Program} {σ : S} {h h' : H} {t len : Nat} {parts : List (Nat × V)} {parts' : Array (Nat × Value)} {v : V} (e : buildSliceV P h t len parts = some (v, h')) (hps : PsR σ parts parts'.toList) :
    ∃ cs c' el, allAtoms cs = true ∧ VRs σ cs (c' : Array Value).toList ∧ h' = h.new (.cells 0 (cs.map fun v => (v, 0))) ∧ v = .sl ⟨.own h.next, 0, 0⟩ len (.kn len) ∧
      ∀ w, (Instr.buildSlice t len parts').run P w = .ok (.slice (some ⟨w.heap.size, 0, none⟩) len len) (World.push w (.cells c' el)) := by
  unfold buildSliceV at e
  cases he : elemT P t with
  | none => simp [he] at e
  | some el =>
    simp only [he, Option.bind_some] at e
    cases hs : szT P el with
    | none => simp [hs] at e
    | some n =>
      simp only [hs, Option.bind_some] at e
      cases hle : Nat.ble (len * n) (2 ^ 24) with
      | false => simp [hle] at e
      | true =>
        have hle' : ¬ (2 ^ 24 < len * n) := by have := Nat.le_of_ble_eq_true hle; omega
        simp only [hle, cond_true] at e
        rw [Option.bind_eq_some_iff] at e; obtain ⟨z, hz, e⟩ := e
        rw [Option.bind_eq_some_iff] at e; obtain ⟨cs, hf, e⟩ := e
        obtain ⟨ha, e⟩ := H.row_eq e
        injection e with e; injection e with hv hh; subst hv; subst hh
        obtain ⟨z', hrep, hr0, hr1⟩ := rep_run (P := P) (σ := σ) hz
        obtain ⟨c', g1, g2⟩ := fillV_ok (place' := fun i => some (i * n, n)) (fun _ _ h => h) hps hf hrep
        refine ⟨cs, c', el, ha, g2, rfl, rfl, fun w => ?_⟩
        simp only [Instr.buildSlice, Sem.run_bind, run_underlying (elemT_run he), Result.andThen_ok, szT_run hs]
        rw [if_neg (by exact hle')]
        by_cases hz0 : len * n = 0
        · obtain rfl := hr0 hz0
          rw [if_pos hz0]
          simp only [Sem.run_bind, Sem.run_pure, Result.andThen_ok]
          rw [g1]
          simp [newRow_run]
        · obtain ⟨y, rfl, hy⟩ := hr1 hz0
          rw [if_neg hz0]
          simp only [Sem.run_bind, Sem.run_pure, Result.andThen_ok, hy]
          rw [g1]
          simp [newRow_run]

theorem loose_run {P : Program} {σ : S} {h h' : H} {fr : Fr} {a : Act} (hf : FrR σ fr a) {o : Oper} (hl : isLoose o.op = true) {v : V} (e : opV P fr h o.op = some (v, h')) :
    ∃ (cs : List V) (c' : Array Value) (el : TypeId) (mk : Nat → Value), allAtoms cs = true ∧ VRs σ cs (c' : Array Value).toList ∧ h' = h.new (.cells 0 (cs.map fun v => (v, 0))) ∧
      (∀ (σ' : S) b, σ'.m h.next 0 = some (b, 0, c'.size) → VR σ' v (mk b)) ∧ ∀ w, (execOp a.eval o).run P w = .ok (.value (mk w.heap.size)) (World.push w (.cells c' el)) := by
  have har : ∀ (σ' : S) (b n : Nat), σ'.m h.next 0 = some (b, 0, n) → AR σ' ⟨.own h.next, 0, 0⟩ ⟨b, 0, none⟩ := fun σ' b n hm => ⟨b, 0, n, hm, Nat.le_refl _, rfl⟩
  cases ho : o.op <;> rw [ho] at hl e <;> simp only [isLoose] at hl <;> try (cases hl; done)
  case alloc t =>
    simp only [opV] at e
    rw [Option.bind_eq_some_iff] at e; obtain ⟨z, hz, e⟩ := e
    obtain ⟨z', hzr, hzrun⟩ := zeroT_run hz σ
    obtain ⟨ha, e⟩ := H.row_eq e
    simp only [Option.some.injEq, Prod.mk.injEq] at e
    obtain ⟨rfl, rfl⟩ := e
    refine ⟨z.cells, z'.cells, t, fun b => .pointer (some ⟨b, 0, none⟩), ha, hzr.cells, rfl, fun σ' b hm => .ptr _ _ (har _ _ _ hm), fun w => ?_⟩
    simp only [execOp, ho, Instr.alloc, Sem.run_bind, hzrun, Result.andThen_ok, Sem.run_pure, newVar, newRow_run]
  case buildSlice t n ps =>
    simp only [opV] at e
    rw [Option.bind_eq_some_iff] at e; obtain ⟨l, hl', e⟩ := e
    have hps := hf.evalPs hl'
    obtain ⟨cs, c', el, g1, g2, g3, g4, g5⟩ := buildSliceV_row (parts' := ps.map fun (i, x) => (i, a.eval x)) e (by rw [Array.toList_map]; exact hps)
    subst g4
    refine ⟨cs, c', el, fun b => .slice (some ⟨b, 0, none⟩) n n, g1, g2, g3, fun σ' b hm => .slk _ _ _ _ (.inr (har _ _ _ hm)) (Nat.le_refl _), fun w => ?_⟩
    simp only [execOp, ho, Sem.run_bind, g5, Result.andThen_ok, Sem.run_pure]

/-- As Sim; but blocks named from nb on may become real. -/
structure SimB (nb : Nat) (σ : S) (h : H) (w : World) (σ' : S) (h' : H) (w' : World) : Prop where
  rel : Rel σ' h' w'
  mono : ∀ i v x, σ.m i v = some x → σ'.m i v = some x
  bs : σ'.bs = σ.bs
  n0 : σ'.n0 = σ.n0
  unreal : ∀ i, i < nb → (∀ v, σ.m i v = none) → (∀ v, σ'.m i v = none) ∧ h'.own.get i = h.own.get i
  keep : ∀ b, b < w.heap.size → (∀ i v x, σ.m i v = some x → x.1 ≠ b) → w'.heap[b]? = w.heap[b]? ∧ ∀ i v x, σ'.m i v = some x → x.1 ≠ b
  next : h.next ≤ h'.next
  base : h'.base = h.base
  glob : h'.glob = h.glob
  size : w.heap.size ≤ w'.heap.size
  h0 : σ'.h0 = σ.h0
  good : σ'.good = σ.good
  io : w'.os = w.os ∧ w'.tape = w.tape ∧ w'.output = w.output

theorem SimB.up {nb : Nat} {σ σ' : S} {h h' : H} {w w' : World} (s : SimB nb σ h w σ' h' w') : Up σ σ' := ⟨s.mono, s.bs, s.good⟩
theorem Sim.weak {nb : Nat} {σ σ' : S} {h h' : H} {w w' : World} (s : Sim σ h w σ' h' w') (hn : nb ≤ h.next) : SimB nb σ h w σ' h' w' :=
  ⟨s.rel, s.mono, s.bs, s.n0, fun i hi => s.unreal i (Nat.lt_of_lt_of_le hi hn), s.keep, s.next, s.base, s.glob, s.size, s.h0, s.good, s.io⟩
theorem SimB.full {nb : Nat} {σ σ' : S} {h h' : H} {w w' : World} (s : SimB nb σ h w σ' h' w') (hn : h.next ≤ nb) : Sim σ h w σ' h' w' :=
  ⟨s.rel, s.mono, s.bs, s.n0, fun i hi => s.unreal i (Nat.lt_of_lt_of_le hi hn), s.keep, s.next, s.base, s.glob, s.size, s.h0, s.good, s.io⟩
theorem SimB.trans {nb : Nat} {σ σ1 σ2 : S} {h h1 h2 : H} {w w1 w2 : World} (a : SimB nb σ h w σ1 h1 w1) (b : SimB nb σ1 h1 w1 σ2 h2 w2) : SimB nb σ h w σ2 h2 w2 where
  rel := b.rel
  mono := fun i v x e => b.mono i v x (a.mono i v x e)
  bs := b.bs.trans a.bs
  n0 := b.n0.trans a.n0
  unreal := fun i hi e => by
    obtain ⟨e1, g1⟩ := a.unreal i hi e
    obtain ⟨e2, g2⟩ := b.unreal i hi e1
    exact ⟨e2, g2.trans g1⟩
  keep := fun c hc e => by
    obtain ⟨e1, g1⟩ := a.keep c hc e
    obtain ⟨e2, g2⟩ := b.keep c (Nat.lt_of_lt_of_le hc a.size) g1
    exact ⟨e2.trans e1, g2⟩
  next := Nat.le_trans a.next b.next
  base := b.base.trans a.base
  glob := b.glob.trans a.glob
  size := Nat.le_trans a.size b.size
  h0 := b.h0.trans a.h0
  good := b.good.trans a.good
  io := ⟨b.io.1.trans a.io.1, b.io.2.1.trans a.io.2.1, b.io.2.2.trans a.io.2.2⟩

/-- A name without a block. -/
theorem Rel.ghost {nb : Nat} {σ : S} {h : H} {w : World} (r : Rel σ h w) (hn : nb ≤ h.next) (o : O) : SimB nb σ h w σ (h.new o) w := by
  refine ⟨⟨r.low, ?_, ?_, ?_, r.inj, r.high, r.base, r.glob, r.old⟩, fun _ _ _ e => e, rfl, rfl, ?_, fun b hb hk => ⟨rfl, hk⟩, Nat.le_succ _, rfl, rfl, Nat.le_refl _, rfl, rfl, rfl, rfl, rfl⟩
  · intro i q v b sh ext hq hm
    rw [H.new_get] at hq
    by_cases hi : i = h.next
    · subst hi; rw [r.fresh] at hm; cases hm
    · rw [if_neg hi] at hq; exact r.obj i q v b sh ext hq hm
  · intro i v x hm
    rw [H.new_get]
    by_cases hi : i = h.next
    · exact ⟨o, by simp [hi]⟩
    · rw [if_neg hi]; exact r.dom i v x hm
  · intro i q hq
    rw [H.new_get] at hq
    by_cases hi : i = h.next
    · subst hi; exact Nat.lt_succ_self _
    · rw [if_neg hi] at hq; exact Nat.lt_succ_of_lt (r.lt i q hq)
  · intro i hi hu
    refine ⟨hu, ?_⟩
    rw [H.new_get, if_neg (by omega)]

/-- The block of a name that has none yet. -/
theorem Rel.realise {nb : Nat} {σ : S} {h : H} {w : World} (r : Rel σ h w) {nm : Nat} {cs : List V} {c' : Array Value} {el : TypeId} (ho : h.own.get nm = some (.cells 0 (cs.map fun v => (v, 0)))) (hu : ∀ v, σ.m nm v = none) (hnb : nb ≤ nm)
    (ha : allAtoms cs = true) (hc : VRs σ cs c'.toList) : SimB nb σ h w (σ.bind nm 0 (w.heap.size, 0, c'.size)) h (World.push w (.cells c' el)) := by
  have u : Up σ (σ.bind nm 0 (w.heap.size, 0, c'.size)) := S.bind_up (hu 0)
  have hs := World.push_size w (.cells c' el)
  have hn := r.low
  have hl := hc.length
  have old : ∀ i v x, (σ.bind nm 0 (w.heap.size, 0, c'.size)).m i v = some x → (i = nm ∧ v = 0 ∧ x = (w.heap.size, 0, c'.size)) ∨ (i ≠ nm ∧ σ.m i v = some x) := by
    intro i v x e
    simp only [S.bind] at e
    by_cases c : i = nm ∧ v = 0
    · rw [if_pos c] at e; cases e; exact .inl ⟨c.1, c.2, rfl⟩
    · rw [if_neg c] at e
      refine .inr ⟨fun hi => ?_, e⟩
      subst hi; rw [hu] at e; cases e
  have hor : OR (σ.bind nm 0 (w.heap.size, 0, c'.size)) (.cells 0 (cs.map fun v => (v, 0))) 0 w.heap.size 0 c'.size (some (.cells c' el)) := by
    refine ⟨Nat.le_refl _, c', el, (0, 0), rfl, rfl, by intro k _; simp, ?_, ?_, ?_⟩
    · simp only [List.length_map]
      rw [if_pos trivial]
      simp at hl ⊢
      omega
    · intro k x lo hk
      rw [List.getElem?_map] at hk
      cases hx : cs[k]? with
      | none => simp [hx] at hk
      | some y => simp [hx] at hk; omega
    · intro k x lo hk hlo _
      rw [List.getElem?_map] at hk
      cases hx : cs[k]? with
      | none => simp [hx] at hk
      | some y =>
        simp [hx] at hk
        obtain ⟨rfl, rfl⟩ := hk
        obtain ⟨y', g1, g2⟩ := hc.get _ _ hx
        refine ⟨y', ?_, g2.up u, allAtoms_get ha _ _ hx⟩
        simpa using g1
  refine ⟨⟨(by show σ.n0 ≤ _; omega), ?_, ?_, r.lt, ?_, ?_, ?_, ?_, fun b hb => by rw [World.push_get_lt (Nat.lt_of_lt_of_le hb hn)]; exact r.old b hb⟩, u.mono, rfl, rfl, ?_, ?_, Nat.le_refl _, rfl, rfl, by omega, rfl, rfl, rfl, rfl, rfl⟩
  · intro i q v b sh e1 hq hm
    rcases old i v _ hm with ⟨rfl, rfl, hx⟩ | ⟨hi, hm'⟩
    · rw [ho] at hq; cases hq; cases hx
      rw [World.push_get_eq]; exact hor
    · have hb := (r.high _ _ _ _ _ hm').2
      rw [World.push_get_lt hb]
      exact (r.obj i q v b sh e1 hq hm').up u
  · intro i v x e
    rcases old i v _ e with ⟨rfl, rfl, hx⟩ | ⟨hi, hm'⟩
    · exact ⟨_, ho⟩
    · exact r.dom i v x hm'
  · intro i v j q b sh e1 sh' e2 h1 h2
    rcases old i v _ h1 with ⟨rfl, rfl, hx⟩ | ⟨hi, h1'⟩ <;> rcases old j q _ h2 with ⟨rfl, rfl, hy⟩ | ⟨hj, h2'⟩
    · cases hx; cases hy; exact ⟨rfl, rfl, rfl⟩
    · cases hx; exact absurd (r.high _ _ _ _ _ h2').2 (Nat.lt_irrefl _)
    · cases hy; exact absurd (r.high _ _ _ _ _ h1').2 (Nat.lt_irrefl _)
    · exact r.inj _ _ _ _ _ _ _ _ _ h1' h2'
  · intro i v b sh e1 e
    rw [hs]
    rcases old i v _ e with ⟨rfl, rfl, hx⟩ | ⟨hi, hm'⟩
    · cases hx; exact ⟨hn, by omega⟩
    · obtain ⟨g1, g2⟩ := r.high _ _ _ _ _ hm'; exact ⟨g1, by omega⟩
  · intro i cs e
    obtain ⟨g0, c, t, fz, g1, g2⟩ := r.base i cs e
    refine ⟨g0, c, t, fz, ?_, fun k x ex => ?_⟩
    · show (World.push w _).heap[(σ.bs i).1]? = _; rw [World.push_get_lt (Nat.lt_of_lt_of_le g0 hn)]; exact g1
    · obtain ⟨x', k1, k2, k3⟩ := g2 k x ex; exact ⟨x', k1, k2.up u, k3⟩
  · intro i cs e
    obtain ⟨g0, c, t, fz, g1, g2⟩ := r.glob i cs e
    refine ⟨g0, c, t, fz, ?_, fun k x ex => ?_⟩
    · rw [World.push_get_lt (Nat.lt_of_lt_of_le g0 hn)]; exact g1
    · obtain ⟨x', k1, k2, k3⟩ := g2 k x ex; exact ⟨x', k1, k2.up u, k3⟩
  · intro i hi hm
    refine ⟨fun v => ?_, rfl⟩
    simp only [S.bind]
    rw [if_neg (by intro c; omega)]; exact hm v
  · intro b hb hm
    refine ⟨World.push_get_lt hb, fun i v x e => ?_⟩
    rcases old i v _ e with ⟨rfl, rfl, hx⟩ | ⟨hi, hm'⟩
    · subst hx; simp; omega
    · exact hm i v x hm'

end Go.Proofs.Ab
