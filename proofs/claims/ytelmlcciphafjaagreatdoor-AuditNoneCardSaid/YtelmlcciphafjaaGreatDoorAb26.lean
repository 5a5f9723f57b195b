/- The evaluator's soundness, twenty-third part: code. -/
import Derived.Test.YtelmlcciphafjaaGreatDoorAb25
namespace Go.Proofs.Ab
open Go

section
variable {E : E} {rec : Rec}

theorem stepR_scope {P : Program} {b : Frame} {a : Act} {k : List Item} {cs : List Frame} {w : World} {c : Code} : step P (lone (b.atR a (.code (.scope c) :: k)) cs w) = .next (lone (b.atR a (.code c :: .inScope c :: k)) cs w) :=
  step_lone_go (by simp [stepG, stepG.exec, Frame.atR])
theorem stepR_inScope {P : Program} {b : Frame} {a : Act} {k : List Item} {cs : List Frame} {w : World} {c : Code} : step P (lone (b.atR a (.inScope c :: k)) cs w) = .next (lone (b.atR a k) cs w) :=
  step_lone_go (by simp [stepG, stepG.exec, Frame.atR])

theorem seq_ok (rc : RecOk E rec) {fn : FuncId} {rd : Option B} {x y : Code} {fr : Fr} {h : H} {k : Rs → H → Prop} (e : rec (.code fn rd x fr) h fun r h => match r with
      | .ex .normal fr => rec (.code fn rd y fr) h k
      | r => k r h) : TkOk E.P (.code fn rd (.seq x y) fr) h k := by
  intro σ w b a ks K0 u r hf hfn hk hrd hu
  obtain ⟨ex, fr1, h1, σ1, w1, a1, u1, e, sim1, hf1, hu1, arr1⟩ := rc.ok _ _ _ e σ w b a (.code y :: ks) K0 u r hf hfn hk hrd hu
  have st := Steps.one (stepR_seq (P := E.P) (b := b) (a := a) (k := ks) (cs := K0.cs u) (w := w) (x := x) (y := y))
  by_cases hx : ex = .normal
  · subst hx
    obtain ⟨ex2, fr2, h2, σ2, w2, a2, u2, e, sim2, hf2, hu2, arr2⟩ := rc.ok _ _ _ e σ1 w1 b a1 ks K0 u1 sim1.rel hf1 hfn hk (hrd.up sim1.up) hu1
    exact ⟨ex2, fr2, h2, σ2, w2, a2, u2, e, sim1.trans sim2, hf2, hu2, arr2.of_steps (st.trans arr1)⟩
  · refine ⟨ex, fr1, h1, σ1, w1, a1, u1, ?_, sim1, hf1, hu1, (arr1.pass (fun _ => rfl) (fun _ => rfl) hx).of_steps st⟩
    cases ex <;> first | exact absurd rfl hx | exact e

theorem block_ok (rc : RecOk E rec) {fn : FuncId} {rd : Option B} {id : Nat} {x : Code} {fr : Fr} {h : H} {k : Rs → H → Prop} (e : rec (.code fn rd x fr) h fun r h => match r with
      | .ex (.exit j) fr => bif Nat.beq j id then k (.ex .normal fr) h else k (.ex (.exit j) fr) h
      | r => k r h) : TkOk E.P (.code fn rd (.block id x) fr) h k := by
  intro σ w b a ks K0 u r hf hfn hk hrd hu
  obtain ⟨ex, fr1, h1, σ1, w1, a1, u1, e, sim1, hf1, hu1, arr1⟩ := rc.ok _ _ _ e σ w b a (.inBlock id :: ks) K0 u r hf hfn hk hrd hu
  have st := Steps.one (stepR_block (P := E.P) (b := b) (a := a) (k := ks) (cs := K0.cs u) (w := w) (id := id) (c := x))
  cases ex with
  | normal => exact ⟨.normal, fr1, h1, σ1, w1, a1, u1, e, sim1, hf1, hu1, (st.trans arr1).trans (Steps.one stepR_inBlock)⟩
  | exit j =>
    simp only at e
    obtain ⟨k2, s2, hx⟩ := arr1
    cases hj : Nat.beq j id with
    | true =>
      rw [hj] at e
      have hji : j = id := Nat.eq_of_beq_eq_true hj
      have hx' : exitTo j k2 = some ks := by rw [hx]; simp [exitTo, hji]
      exact ⟨.normal, fr1, h1, σ1, w1, a1, u1, e, sim1, hf1, hu1, (st.trans s2).trans (Steps.one (stepR_exit hx'))⟩
    | false =>
      rw [hj] at e
      have hji : ¬ id = j := by intro c; subst c; rw [Nat.beq_refl] at hj; cases hj
      refine ⟨.exit j, fr1, h1, σ1, w1, a1, u1, e, sim1, hf1, hu1, k2, st.trans s2, ?_⟩
      rw [hx]; simp [exitTo, hji]
  | goto l => exact ⟨.goto l, fr1, h1, σ1, w1, a1, u1, e, sim1, hf1, hu1, let ⟨k2, s2, hx⟩ := arr1; ⟨k2, st.trans s2, hx⟩⟩
  | ret => exact ⟨.ret, fr1, h1, σ1, w1, a1, u1, e, sim1, hf1, hu1, let ⟨k2, s2⟩ := arr1; ⟨k2, st.trans s2⟩⟩
  | pan v => exact ⟨.pan v, fr1, h1, σ1, w1, a1, u1, e, sim1, hf1, hu1, let ⟨k2, v', hv, s2⟩ := arr1; ⟨k2, v', hv, st.trans s2⟩⟩

theorem again_ok (rc : RecOk E rec) {fn : FuncId} {rd : Option B} {x : Code} {fr : Fr} {h : H} {k : Rs → H → Prop} (e : rec (.code fn rd x fr) h fun r h => match r with
      | .ex .normal fr => rec (.again fn rd x fr) h k
      | r => k r h) (σ : S) (w : World) (b : Frame) (a : Act) (ks : List Item) (K0 : K) (u : FrameMode) (r : Rel σ h w) (hf : FrR σ fr a) (hfn : b.fn = fn) (hk : b.kind = K0.kind) (hrd : RdR σ rd b.roundOf) (hu : UR σ fr.cm K0 u)
    (m : Machine) (st : Steps E.P m (lone (b.atR a (.code x :: .inLoop x :: ks)) (K0.cs u) w)) :
      ∃ e fr' h' σ' w' a' u', k (.ex e fr') h' ∧ Sim σ h w σ' h' w' ∧ FrR σ' fr' a' ∧ UR σ' fr'.cm K0 u' ∧ Arr E.P σ' m b ks (K0.cs u') a' w' e := by
  obtain ⟨ex, fr1, h1, σ1, w1, a1, u1, e, sim1, hf1, hu1, arr1⟩ := rc.ok _ _ _ e σ w b a (.inLoop x :: ks) K0 u r hf hfn hk hrd hu
  by_cases hx : ex = .normal
  · subst hx
    obtain ⟨ex2, fr2, h2, σ2, w2, a2, u2, e, sim2, hf2, hu2, arr2⟩ := rc.ok _ _ _ e σ1 w1 b a1 ks K0 u1 sim1.rel hf1 hfn hk (hrd.up sim1.up) hu1
    exact ⟨ex2, fr2, h2, σ2, w2, a2, u2, e, sim1.trans sim2, hf2, hu2, arr2.of_steps (st.trans arr1)⟩
  · refine ⟨ex, fr1, h1, σ1, w1, a1, u1, ?_, sim1, hf1, hu1, (arr1.pass (fun _ => rfl) (fun _ => rfl) hx).of_steps st⟩
    cases ex <;> first | exact absurd rfl hx | exact e

theorem scope_ok (rc : RecOk E rec) {fn : FuncId} {rd : Option B} {all cur : Code} {fr : Fr} {h : H} {k : Rs → H → Prop} (e : rec (.code fn rd cur fr) h fun r h => match r with
    | .ex (.goto l) fr => (match findLabel all l with
      | some rest => rec (.scope fn rd all rest fr) h k
      | none => k (.ex (.goto l) fr) h)
    | r => k r h) : TkOk E.P (.scope fn rd all cur fr) h k := by
  intro σ w b a ks K0 u r hf hfn hk hrd hu
  obtain ⟨ex, fr1, h1, σ1, w1, a1, u1, e, sim1, hf1, hu1, arr1⟩ := rc.ok _ _ _ e σ w b a (.inScope all :: ks) K0 u r hf hfn hk hrd hu
  cases ex with
  | normal => exact ⟨.normal, fr1, h1, σ1, w1, a1, u1, e, sim1, hf1, hu1, Steps.trans arr1 (Steps.one stepR_inScope)⟩
  | goto l =>
    simp only at e
    obtain ⟨k2, s2, hx⟩ := arr1
    cases hl : findLabel all l with
    | some rest =>
      rw [hl] at e
      have hx' : gotoIn l k2 = some (.code rest :: .inScope all :: ks) := by rw [hx]; simp [gotoIn, hl]
      obtain ⟨ex2, fr2, h2, σ2, w2, a2, u2, e, sim2, hf2, hu2, arr2⟩ := rc.ok _ _ _ e σ1 w1 b a1 ks K0 u1 sim1.rel hf1 hfn hk (hrd.up sim1.up) hu1
      exact ⟨ex2, fr2, h2, σ2, w2, a2, u2, e, sim1.trans sim2, hf2, hu2, arr2.of_steps (s2.trans (Steps.one (stepR_goto hx')))⟩
    | none =>
      rw [hl] at e
      exact ⟨.goto l, fr1, h1, σ1, w1, a1, u1, e, sim1, hf1, hu1, k2, s2, by rw [hx]; simp [gotoIn, hl]⟩
  | exit j => exact ⟨.exit j, fr1, h1, σ1, w1, a1, u1, e, sim1, hf1, hu1, let ⟨k2, s2, hx⟩ := arr1; ⟨k2, s2, hx⟩⟩
  | ret => exact ⟨.ret, fr1, h1, σ1, w1, a1, u1, e, sim1, hf1, hu1, arr1⟩
  | pan v => exact ⟨.pan v, fr1, h1, σ1, w1, a1, u1, e, sim1, hf1, hu1, arr1⟩

/-! ## A loop over a function -/
theorem Rel.allocDefs {σ : S} {h : H} {w : World} (r : Rel σ h w) : Sim σ h w (σ.bind h.next 0 (w.heap.size, 0, 0)) (h.new (.defs (some []))) (World.push w (.deferred (some []))) :=
  r.alloc ⟨rfl, rfl, rfl, some [], rfl, .nil⟩
theorem Rel.allocLoop {σ : S} {h : H} {w : World} (r : Rel σ h w) {q : LoopA} {q' : Loop} (lr : LR σ q q') : Sim σ h w (σ.bind h.next 0 (w.heap.size, 0, 0)) (h.new (.loop q)) (World.push w (.loop q')) :=
  r.alloc ⟨rfl, rfl, rfl, q', rfl, lr.up (S.bind_up (r.fresh 0))⟩

/-- The part behind the record's laying. -/
theorem rangeGo_ok (rc : RecOk E rec) {fn : FuncId} {rd : Option B} {fr : Fr} {k : Rs → H → Prop} {g : FuncId} {first captured : List V} {l : Nat} {h : H}
    (e : rec (.call g (first ++ [.fn (.yield l) [] []] ++ captured) .plain) h fun r h => match r with
          | .cr (.ret _) _ => (match loopAt h l with
            | some q => (match q.st with
              | .busy => False
              | _ => h.setK l (.loop { q with st := .exhausted }) fun h => (match q.pend with
                | none => k (.ex .normal fr) h
                | some c => rec (.code fn rd c fr) h k))
            | none => False)
          | .cr (.pan v) _ => k (.ex (.pan v) fr) h
          | _ => False)
    {σ : S} {w : World} {b : Frame} {a : Act} {ks : List Item} {K0 : K} {u : FrameMode} (r : Rel σ h w) (hf : FrR σ fr a) (hfn : b.fn = fn) (hk : b.kind = K0.kind) (hrd : RdR σ rd b.roundOf) (hu : UR σ fr.cm K0 u)
    {l' : Nat} (hl : BR σ (.own l) l') {xs' ys' : Array Value} (hx : VRs σ first xs'.toList) (hy : VRs σ captured ys'.toList) :
    notNGe E.P g ∧ ∃ e fr' h' σ' w' a' u', k (.ex e fr') h' ∧ Sim σ h w σ' h' w' ∧ FrR σ' fr' a' ∧ UR σ' fr'.cm K0 u' ∧
      Arr E.P σ' (lone (Frame.enter E.P g (xs' ++ #[Value.func (.yield l') #[] #[]] ++ ys') .normal) (b.atR a (.inRangeFunc l' :: ks) :: K0.cs u) w) b ks (K0.cs u') a' w' e := by
  refine ⟨rc.body _ _ _ _ _ e, ?_⟩
  have hall : VRs σ (first ++ [.fn (.yield l) [] []] ++ captured) (xs' ++ #[Value.func (.yield l') #[] #[]] ++ ys').toList := by
    rw [Array.toList_append, Array.toList_append]
    exact (hx.append (.cons _ _ _ _ (.yld _ _ hl) .nil)).append hy
  obtain ⟨cr, cm', h1, σ1, w1, u1, fr1, e, sim1, _, st, hkf, hlv, _⟩ := rc.ok _ _ _ e σ w _ (.plain (b.atR a (.inRangeFunc l' :: ks) :: K0.cs u)) .run r hall trivial
  cases cr with
  | pan v =>
    obtain ⟨v', hv, s2⟩ := leave_step_pan (c := b.atR a (.inRangeFunc l' :: ks)) (cs := K0.cs u) hlv
    exact ⟨.pan v, fr, h1, σ1, w1, a, u, e, sim1, hf.up sim1.up, hu.up sim1.up, _, v', hv, st.trans (Steps.one s2)⟩
  | ret v =>
    obtain ⟨v', hv, s2⟩ := leave_step (c := b.atR a (.inRangeFunc l' :: ks)) (cs := K0.cs u) hlv hkf
    rw [finish_atR_inRangeFunc] at s2
    simp only at e
    cases hla : loopAt h1 l with
    | none => rw [hla] at e; exact e.elim
    | some q =>
      rw [hla] at e
      have hl1 := hl.up sim1.up
      obtain ⟨ho, q', hq, lr⟩ := sim1.rel.loopObj hla hl1
      simp only at e
      have hst : q.st ≠ .busy ∧ (h1.setK l (.loop { q with st := .exhausted }) fun h => (match q.pend with
                | none => k (.ex .normal fr) h
                | some c => rec (.code fn rd c fr) h k)) := by
        cases hs : q.st <;> rw [hs] at e <;> first | exact e.elim | exact ⟨by simp, e⟩
      obtain ⟨hnb, e⟩ := hst
      rw [H.setK_eq] at e
      have hend := run_endLoop (P := E.P) hq (by rw [lr.st]; exact hnb)
      rw [World.put_putObj] at hend
      have sim2 : Sim σ1 h1 w1 σ1 (h1.set l (.loop { q with st := .exhausted })) (World.put w1 l' (.loop { q' with state := .exhausted })) :=
        sim1.rel.turnLoop ho hl1 { lr with st := rfl }
      have s3 := stepR_endRangeFunc (b := b) (a := a) (k := ks) (cs := K0.cs u) hend
      have sall := (st.trans (Steps.one s2)).trans (Steps.one s3)
      have hu1 := hu.up sim1.up
      generalize World.put w1 l' (.loop { q' with state := .exhausted }) = W at sall sim2
      rw [lr.pend] at sall
      cases hp : q.pend with
      | none =>
        rw [hp] at e sall sim2
        exact ⟨.normal, fr, _, σ1, _, a, u, e, sim1.trans sim2, hf.up sim1.up, hu1, sall⟩
      | some c =>
        rw [hp] at e sall sim2
        obtain ⟨ex2, fr2, h2, σ2, w2, a2, u2, e, sim3, hf2, hu2, arr2⟩ := rc.ok _ _ _ e σ1 _ b a ks K0 u sim2.rel (hf.up sim1.up) hfn hk (hrd.up sim1.up) hu1
        exact ⟨ex2, fr2, h2, σ2, w2, a2, u2, e, (sim1.trans sim2).trans sim3, hf2, hu2, arr2.of_steps sall⟩

theorem rangeFunc_ok (rc : RecOk E rec) {fn : FuncId} {rd : Option B} {fo : Operand} {ps : Array Tmp} {as bd : Code} {fr : Fr} {h : H} {k : Rs → H → Prop} (e : estep E rec (.code fn rd (.rangeFunc fo ps as bd) fr) h k) : TkOk E.P (.code fn rd (.rangeFunc fo ps as bd) fr) h k := by
  intro σ w b a ks K0 u r hf hfn hk hrd hu
  unfold estep at e
  simp only at e
  split at e
  · rename_i g first captured hfe
    have hfv := hf.eval hfe
    generalize hfa : a.eval fo = fv at hfv
    cases hfv with | fn _ _ _ xs' ys' hx hy =>
    split at e
    · exact e.elim
    · have hres : ∀ (l' : Nat) (w : World), (resolve a.eval (rangeCall fo l') 0).run E.P w = .ok { target := .fn (.func g) ys', args := xs' ++ #[Value.func (.yield l') #[] #[]] } w := by
        intro l' w
        have h1 : (rangeCall fo l').args.map a.eval = #[Value.func (.yield l') #[] #[]] := by simp [rangeCall]; rfl
        simp only [resolve, h1]
        show Sem.run E.P (Deferred.ofValue (a.eval fo) #[Value.func (.yield l') #[] #[]]) w = _
        rw [hfa]
        rfl
      have hinv : ∀ (hn : notNGe E.P g) (l' : Nat) (w : World), (invoke (.fn (.func g) ys') (xs' ++ #[Value.func (.yield l') #[] #[]])).run E.P w = .ok (.enter g (xs' ++ #[Value.func (.yield l') #[] #[]] ++ ys')) w := by
        intro hn l' w
        exact callFunc_enter hn _ w
      cases rd with
      | none =>
        have hro : b.roundOf = none := by cases hb : b.roundOf with | none => rfl | some _ => rw [hb] at hrd; exact hrd.elim
        simp only [H.newK_eq] at e
        have sim1 := r.allocDefs
        have hd1 : BR (σ.bind h.next 0 (w.heap.size, 0, 0)) (.own h.next) w.heap.size := S.bind_self σ _ _ _
        have hf1 : FrR (σ.bind h.next 0 (w.heap.size, 0, 0)) { fr with ds := .coll (.own h.next) :: fr.ds } { a with defers := { target := .collected w.heap.size, args := #[] } :: a.defers } :=
          ⟨(hf.up sim1.up).tm, .cons _ _ _ _ (.coll _ _ hd1) (hf.up sim1.up).ds⟩
        have lr : LR (σ.bind h.next 0 (w.heap.size, 0, 0)) { st := .ready, pend := none, fn := fn, n := fr.n, tmps := fr.tmps, params := ps, assign := as, body := bd, defs := .own h.next }
            { state := .ready, pending := none, fn := b.fn, tmps := a.tmps, params := ps, assign := as, body := bd, defers := w.heap.size } :=
          ⟨rfl, rfl, hfn, rfl, rfl, rfl, hf1.tm, hd1⟩
        have sim2 := sim1.rel.allocLoop lr
        have hl2 : BR ((σ.bind h.next 0 (w.heap.size, 0, 0)).bind (h.new (.defs (some []))).next 0 ((World.push w (.deferred (some []))).heap.size, 0, 0)) (.own (h.new (.defs (some []))).next) (World.push w (.deferred (some []))).heap.size := S.bind_self _ _ _ _
        have up := sim1.up.trans sim2.up
        obtain ⟨hn, ex, fr', h', σ', w', a', u', e, sim3, hf3, hu3, arr⟩ := rangeGo_ok rc e (b := b) (ks := ks) (K0 := K0) (u := u) sim2.rel (hf1.up sim2.up) hfn hk (by rw [hro]; trivial) (hu.up up) hl2 (hx.up up) (hy.up up)
        refine ⟨ex, fr', h', σ', w', a', u', e, (sim1.trans sim2).trans sim3, hf3, hu3, arr.of_steps (Steps.one ?_)⟩
        have he := run_enterLoop_outer (P := E.P) (w := w) b.fn a.tmps ps as bd
        rw [← hro] at he
        have hsz : (World.push w (.deferred (some []))).heap.size = w.heap.size + 1 := World.push_size _ _
        rw [hsz]
        exact stepR_rangeFunc he (hres _ _) (hinv hn _ _)
      | some bb =>
        cases hb : b.roundOf with
        | none => rw [hb] at hrd; cases bb <;> exact hrd.elim
        | some li =>
          rw [hb] at hrd
          cases bb with
          | own i =>
            simp only at e
            cases hla : loopAt h i with
            | none => rw [hla] at e; exact e.elim
            | some q =>
              rw [hla] at e
              simp only [H.newK_eq] at e
              obtain ⟨ho, q', hq, lq⟩ := r.loopObj hla hrd
              have lr : LR σ { st := .ready, pend := none, fn := fn, n := fr.n, tmps := fr.tmps, params := ps, assign := as, body := bd, defs := q.defs }
                  { state := .ready, pending := none, fn := b.fn, tmps := a.tmps, params := ps, assign := as, body := bd, defers := q'.defers } :=
                ⟨rfl, rfl, hfn, rfl, rfl, rfl, hf.tm, lq.defs⟩
              have sim2 := r.allocLoop lr
              have hl2 : BR (σ.bind h.next 0 (w.heap.size, 0, 0)) (.own h.next) w.heap.size := S.bind_self _ _ _ _
              have up := sim2.up
              obtain ⟨hn, ex, fr', h', σ', w', a', u', e, sim3, hf3, hu3, arr⟩ := rangeGo_ok rc e (b := b) (ks := ks) (K0 := K0) (u := u) sim2.rel (hf.up sim2.up) hfn hk (by rw [hb]; exact RdR.up (a := some (.own i)) (b := some li) up hrd) (hu.up up) hl2 (hx.up up) (hy.up up)
              refine ⟨ex, fr', h', σ', w', a', u', e, sim2.trans sim3, hf3, hu3, arr.of_steps (Steps.one ?_)⟩
              have he : (Instr.enterLoop b.fn a.tmps ps as bd b.roundOf).run E.P w = .ok (w.heap.size, []) (World.push w (.loop { state := .ready, pending := none, fn := b.fn, tmps := a.tmps, params := ps, assign := as, body := bd, defers := q'.defers })) := by
                rw [hb]
                simp [Instr.enterLoop, Sem.run_bind, run_getLoop hq, Result.andThen, World.push]
              exact stepR_rangeFunc (a := a) he (hres _ _) (hinv hn _ _)
          | base i => exact e.elim
          | glob i => exact e.elim
  · exact e.elim
end

end Go.Proofs.Ab
