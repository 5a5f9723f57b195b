/- The evaluator's soundness, twenty-fourth part: calls, frames that leave; the theorem. -/
import Derived.Test.YtelmlcciphafjaaGreatDoorAb26
import Derived.RangeFuncLeaves
namespace Go.Proofs.Ab
open Go

section
variable {E : E} {rec : Rec}

def resSem (tmps : Array Value) : ResultVar → Sem Value
  | .tmp t => pure (tmps.getD t undef)
  | .cell a t => do loadVar t (← asAddr (tmps.getD a undef))
theorem resultsV_run {P : Program} {h : H} {fr : Fr} {σ : S} {w : World} {tmps : Array Value} (hE : E.P = P) (r : Rel σ h w) (ht : TmR σ fr.n fr.tmps tmps) : ∀ {l : List ResultVar} {vs : List V}, resultsV E h fr l = some vs →
    ∃ vs', VRs σ vs vs' ∧ (l.mapM (resSem tmps)).run P w = .ok vs' w
  | [], vs, e => by
    simp [resultsV] at e; subst e
    exact ⟨[], .nil, by simp⟩
  | x :: l, vs, e => by
    have hf : FrR σ { fr with ds := [] } { tmps := tmps, defers := [] } := ⟨ht, .nil⟩
    cases x with
    | tmp t =>
      simp only [resultsV] at e
      rw [Option.bind_eq_some_iff] at e; obtain ⟨q, hq, e⟩ := e
      injection e with e; subst e
      obtain ⟨vs', h1, h2⟩ := resultsV_run hE r ht hq
      refine ⟨_ :: vs', .cons _ _ _ _ (hf.get t) h1, ?_⟩
      rw [List.mapM_cons]
      simp only [resSem, Sem.run_bind, Sem.run_pure, Result.andThen_ok, h2]
    | cell a t =>
      simp only [resultsV] at e
      rw [Option.bind_eq_some_iff] at e; obtain ⟨v, hv, e⟩ := e
      rw [Option.bind_eq_some_iff] at e; obtain ⟨q, hq, e⟩ := e
      injection e with e; subst e
      obtain ⟨vs', h1, h2⟩ := resultsV_run hE r ht hq
      have hg := hf.get a
      have hg' : ({ fr with ds := [] } : Fr).get a = fr.get a := rfl
      rw [hg'] at hg
      split at hv
      · rename_i x hx
        rw [hx] at hg
        simp only at hg
        generalize hgv : tmps.getD a undef = gv at hg
        cases hg with | ptr _ a' ha =>
        rw [hE] at hv
        obtain ⟨v', hvr, hrun⟩ := loadT_run hv r ha
        refine ⟨_ :: vs', .cons _ _ _ _ hvr h1, ?_⟩
        rw [List.mapM_cons]
        have hasA : (asAddr (tmps.getD a undef)).run P w = .ok a' w := by rw [hgv]; rfl
        have hx1 : (resSem tmps (.cell a t)).run P w = .ok v' w := by simp only [resSem, Sem.run_bind, hasA, Result.andThen_ok, hrun]
        simp only [Sem.run_bind, hx1, Sem.run_pure, Result.andThen_ok, h2]
      · cases hv

theorem results_ok {h : H} {fr : Fr} {σ : S} {w : World} {tmps : Array Value} (r : Rel σ h w) (ht : TmR σ fr.n fr.tmps tmps) {fn : Func} {vs : List V} (e : resultsV E h fr fn.results.toList = some vs) :
    ∃ v', VR σ (resultV vs) v' ∧ (results fn tmps).run E.P w = .ok v' w := by
  obtain ⟨vs', h1, h2⟩ := resultsV_run rfl r ht e
  have hrun : (results fn tmps).run E.P w = .ok (if h : vs'.toArray.size = 1 then vs'.toArray[0] else .tuple vs'.toArray) w := by
    show ((do let vs ← fn.results.mapM (resSem tmps); pure (if h : vs.size = 1 then vs[0] else .tuple vs)) : Sem Value).run E.P w = _
    rw [Array.mapM_eq_mapM_toList]
    simp only [Sem.run_bind, Sem.run_map]
    rw [h2]
    simp
  rw [hrun]
  match vs, h1 with
  | [], .nil => exact ⟨_, .tup _ #[] .nil, rfl⟩
  | [v], .cons _ v' _ _ hv .nil => exact ⟨v', hv, rfl⟩
  | v1 :: v2 :: l, .cons _ v1' _ _ hv1 (.cons _ v2' _ l' hv2 hl) =>
    refine ⟨.tuple (v1' :: v2' :: l').toArray, .tup _ _ (.cons _ _ _ _ hv1 (.cons _ _ _ _ hv2 hl)), ?_⟩
    simp

theorem argsT_get : ∀ (vs : List V) (i : Nat) (t : T V) (x : Nat), (argsT i vs t).get x = if i ≤ x ∧ x < i + vs.length then vs[x - i]? else t.get x
  | [], i, t, x => by
    simp only [argsT, List.length_nil]
    rw [if_neg (by omega)]
  | v :: vs, i, t, x => by
    simp only [argsT, List.length_cons]
    rw [argsT_get vs (i + 1) _ x, T.get_set]
    by_cases h1 : x = i
    · subst h1
      rw [if_neg (by omega), if_pos rfl, if_pos (by omega)]; simp
    · by_cases h2 : i + 1 ≤ x ∧ x < i + 1 + vs.length
      · rw [if_pos h2, if_pos (by omega)]
        have : x - i = (x - (i + 1)) + 1 := by omega
        rw [this]; simp
      · rw [if_neg h2, if_neg h1, if_neg (by omega)]

theorem enterFr_rel {σ : S} {n : Nat} {args : List V} {cm : CM} {args' : Array Value} (h : VRs σ args args'.toList) : TmR σ (enterFr n args cm).n (enterFr n args cm).tmps (args' ++ Array.replicate (n - args'.size) undef) := by
  have hl : args.length = args'.size := by rw [h.length]; simp
  refine ⟨by simp only [enterFr, Array.size_append, Array.size_replicate]; omega, fun i hi => ?_, fun i hi => ?_⟩
  · simp only [enterFr] at hi ⊢
    rw [argsT_get, Array.getD_eq_getD_getElem?]
    by_cases c : i < args.length
    · rw [if_pos (by omega)]
      obtain ⟨x', h1, h2⟩ := h.get i args[i] (List.getElem?_eq_getElem c)
      rw [Array.getElem?_append_left (by omega)]
      simp only [Nat.sub_zero, List.getElem?_eq_getElem c, Option.getD_some]
      rw [← Array.getElem?_toList, h1]; exact h2
    · rw [if_neg (by omega), T.get_e, Array.getElem?_append_right (by omega)]
      rw [Array.getElem?_replicate]
      split <;> exact undef_rel σ
  · simp only [enterFr] at hi ⊢
    rw [argsT_get, if_neg (by omega), T.get_e]

theorem call_ok (eo : EOk E) (rc : RecOk E rec) {f : FuncId} {args : List V} {cm : CM} {h : H} {k : Rs → H → Prop} (e : estep E rec (.call f args cm) h k) : notNGe E.P f ∧ TkOk E.P (.call f args cm) h k := by
  unfold estep at e
  simp only at e
  split at e
  · rename_i hook hhk
    cases cm with
    | plain =>
      obtain ⟨h1, h2⟩ := eo.hook f hook hhk
      refine ⟨h1, ?_⟩
      have := h2 h args _ e
      intro σ w args' K0 u r hv hu
      obtain ⟨c, cm', h', σ', w', u', fr', e, sim, hu', st, hk, hl, hff⟩ := this σ w args' K0 u r hv hu
      cases cm' with
      | plain => exact ⟨c, .plain, h', σ', w', u', fr', e, sim, hu', st, hk, hl, hff⟩
      | _ => exact e.elim
    | _ => exact e.elim
  · split at e
    · rename_i fn hfn
      split at e
      · rename_i c hc
        cases hng : notNG fn.name with
        | false => rw [hng] at e; exact e.elim
        | true =>
          rw [hng] at e
          simp only [cond_true] at e
          refine ⟨⟨fn, c, hfn, hc, hng⟩, ?_⟩
          intro σ w args' K0 u r hv hu
          let b : Frame := { (default : Frame) with fn := f, kind := K0.kind, roundOf := none }
          have hb0 : Frame.enter E.P f args' K0.kind = b.atR { tmps := args' ++ Array.replicate (fn.ntmps - args'.size) undef, defers := [] } [.code c] := by
            simp [Frame.enter, Frame.atR, b, hfn, hc]
          rw [hb0]
          obtain ⟨ex, fr1, h1, σ1, w1, a1, u1, e, sim1, hf1, hu1, arr1⟩ := rc.ok _ _ _ e σ w b { tmps := args' ++ Array.replicate (fn.ntmps - args'.size) undef, defers := [] } [] K0 u r ⟨enterFr_rel hv, .nil⟩ rfl rfl trivial hu
          have fin : ∀ (m : CM) (F : Frame), rec (.unw f fr1 fr1.ds m) h1 k → F.tmps = a1.tmps → F.defers = a1.defers → F.fn = f → F.kind = K0.kind → MR σ1 m F.mode → Steps E.P (lone (b.atR { tmps := args' ++ Array.replicate (fn.ntmps - args'.size) undef, defers := [] } [.code c]) (K0.cs u) w) (lone F (K0.cs u1) w1) →
              ∃ c' cm' h' σ' w' u' fr', k (.cr c' cm') h' ∧ Sim σ h w σ' h' w' ∧ UR σ' cm' K0 u' ∧ Steps E.P (lone (b.atR { tmps := args' ++ Array.replicate (fn.ntmps - args'.size) undef, defers := [] } [.code c]) (K0.cs u) w) (lone fr' (K0.cs u') w') ∧ fr'.kind = K0.kind ∧ Leave E.P σ' c' fr' w' ∧ fr'.fn = f := by
            intro m F e ht hd hff hk hm hs
            obtain ⟨c', h2, σ2, w2, fr2, e, sim2, st2, hk2, hl2, hf2⟩ := rc.ok _ _ _ e σ1 w1 F K0 u1 sim1.rel (by rw [ht]; exact hf1.tm) (by rw [hd]; exact hf1.ds) hff hk hm hu1 ⟨fn, hfn⟩
            exact ⟨c', fr1.cm, h2, σ2, w2, u1, fr2, e, sim1.trans sim2, hu1.up sim2.up, hs.trans st2, hk2, hl2, hf2⟩
          cases ex with
          | normal => exact fin .ret { b.atR a1 [] with mode := .returning } e rfl rfl rfl rfl rfl (Steps.trans arr1 (Steps.one (stepR_end rfl)))
          | ret => obtain ⟨k2, s2⟩ := arr1; exact fin .ret { b.atR a1 (.code .ret :: k2) with mode := .returning } e rfl rfl rfl rfl rfl (s2.trans (Steps.one (stepR_ret rfl)))
          | pan v => obtain ⟨k2, v', hv', s2⟩ := arr1; exact fin (.pan v false) { b.atR a1 k2 with mode := .panicking [{ v := v', recovered := false }] } e rfl rfl rfl rfl ⟨v', rfl, hv'⟩ s2
          | exit _ => exact e.elim
          | goto _ => exact e.elim
      · exact e.elim
    · exact e.elim

theorem MR.notrun {σ : S} {c : CM} {m : FrameMode} (h : MR σ c m) : m ≠ .run := by
  cases c with
  | plain => exact h.elim
  | ret => have h : m = .returning := h; rw [h]; intro c; cases c
  | pan v r => obtain ⟨v', h, _⟩ := h; rw [h]; intro c; cases c
theorem MR.ur {σ : S} {c : CM} {m : FrameMode} (h : MR σ c m) (F : Frame) (cs : List Frame) : UR σ c (.dfr F cs) m := by
  cases c with
  | plain => exact h.elim
  | ret => exact h
  | pan v r => exact h

theorem unw_ok (rc : RecOk E rec) {f : FuncId} {fr : Fr} {ds : List D} {m : CM} {h : H} {k : Rs → H → Prop} (e : estep E rec (.unw f fr ds m) h k) : TkOk E.P (.unw f fr ds m) h k := by
  intro σ w F K0 u r ht hds hff hk hm hu hfe
  unfold estep at e
  simp only at e
  split at e
  · have hnil : F.defers = [] := hds.nil_inv
    split at e
    · split at e
      · rename_i fn hfn
        split at e
        · rename_i vs hvs
          obtain ⟨v', hv, hrun⟩ := results_ok r ht hvs
          exact ⟨_, h, σ, w, F, e, Sim.refl r, Steps.refl _ _, hk, ⟨hm, hnil, fn, v', by rw [hff]; exact hfn, hrun, hv⟩, hff⟩
        · exact e.elim
      · exact e.elim
    · rename_i v
      obtain ⟨v', hmode, hv⟩ := hm
      exact ⟨.pan v, h, σ, w, F, e, Sim.refl r, Steps.refl _ _, hk, ⟨v', hmode, hnil, by rw [hff]; exact hfe, hv⟩, hff⟩
    · exact e.elim
  · rename_i i ds'
    split at e
    · rename_i l ho
      rw [H.setK_eq] at e
      generalize hFd : F.defers = fd at hds
      cases hds with | cons _ d' _ rest' hd hrest =>
      cases hd with | coll _ rb hb =>
      have hbm : σ.m i 0 = some (rb, 0, 0) := hb
      obtain ⟨_, _, _, ds2, hw, hod⟩ := r.obj _ _ _ _ _ _ ho hbm
      cases ds2 with
      | none => exact hod.elim
      | some l' =>
        have htd := run_takeDeferred (P := E.P) hw
        rw [World.put_putObj] at htd
        have st := step_collected (cs := K0.cs u) hm.notrun hFd rfl htd
        have sim1 : Sim σ h w σ (h.set i (.defs none)) (World.put w rb (.deferred none)) := by
          refine r.turn hbm rfl ?_
          intro v c sh ext hv
          obtain ⟨rfl, rfl, rfl, _⟩ := r.obj _ _ _ _ _ _ ho hv
          rw [hbm] at hv; cases hv
          rw [if_pos rfl]
          exact ⟨rfl, rfl, rfl, none, rfl, trivial⟩
        have happ : ∀ {a : List D} {a' : List Deferred} {c : List D} {c' : List Deferred}, DRs σ a a' → DRs σ c c' → DRs σ (a ++ c) (a' ++ c') := by
          intro a a' c c' h1 h2
          induction h1 with
          | nil => exact h2
          | cons d d' ds ds' h _ ih => exact .cons _ _ _ _ h ih
        obtain ⟨c, h2, σ2, w2, fr2, e, sim2, st2, hk2, hl2, hf2⟩ := rc.ok _ _ _ e σ _ { F with defers := l' ++ rest' } K0 u sim1.rel ht (happ hod hrest) hff hk hm hu hfe
        exact ⟨c, h2, σ2, w2, fr2, e, sim1.trans sim2, (Steps.one st).trans st2, hk2, hl2, hf2⟩
    · exact e.elim
  · rename_i g captured args ds'
    split at e
    · exact e.elim
    · generalize hFd : F.defers = fd at hds
      cases hds with | cons _ d' _ rest' hd hrest =>
      cases hd with | call _ _ _ cap' args' hc ha =>
      have hng := rc.body _ _ _ _ _ e
      have hall : VRs σ (args ++ captured) (args' ++ cap').toList := by rw [Array.toList_append]; exact ha.append hc
      have st := step_defer (cs := K0.cs u) hm.notrun hFd rfl (show (invoke (.fn (.func g) cap') args').run E.P w = .ok (.enter g (args' ++ cap')) w from callFunc_enter hng _ w)
      obtain ⟨cr, cm', h1, σ1, w1, u1, fr1, e, sim1, hu1, st1, hk1, hl1, _⟩ := rc.ok _ _ _ e σ w (args' ++ cap') (.dfr { F with defers := rest' } (K0.cs u)) F.mode r hall (hm.ur _ _)
      have st1' : Steps E.P (lone F (K0.cs u) w) (lone fr1 ({ F with defers := rest', mode := u1 } :: K0.cs u) w1) := (Steps.one st).trans st1
      have go : ∀ (m2 : CM) (md : FrameMode), rec (.unw f fr ds' m2) h1 k → MR σ1 m2 md → step E.P (lone fr1 ({ F with defers := rest', mode := u1 } :: K0.cs u) w1) = .next (lone { F with defers := rest', mode := md } (K0.cs u) w1) →
          ∃ c h' σ' w' fr', k (.cr c fr.cm) h' ∧ Sim σ h w σ' h' w' ∧ Steps E.P (lone F (K0.cs u) w) (lone fr' (K0.cs u) w') ∧ fr'.kind = K0.kind ∧ Leave E.P σ' c fr' w' ∧ fr'.fn = f := by
        intro m2 md e hm2 hst
        obtain ⟨c, h2, σ2, w2, fr2, e, sim2, st2, hk2, hl2, hf2⟩ := rc.ok _ _ _ e σ1 w1 { F with defers := rest', mode := md } K0 u sim1.rel (ht.up sim1.up) (hrest.up sim1.up) hff hk hm2 (hu.up sim1.up) hfe
        exact ⟨c, h2, σ2, w2, fr2, e, sim1.trans sim2, (st1'.trans (Steps.one hst)).trans st2, hk2, hl2, hf2⟩
      cases cr with
      | ret v =>
        have hgo : fr1.kind = .deferred := hk1
        obtain ⟨g1, g2, fn, v', g3, g4, g5⟩ := hl1
        have hst := step_going_returned (c := { F with defers := rest', mode := u1 }) (cs := K0.cs u) hgo ⟨g1, g2, fn, g3, g4⟩
        cases cm' with
        | plain => exact e.elim
        | ret =>
          have hu1 : u1 = .returning := hu1
          subst hu1
          exact go .ret .returning e rfl hst
        | pan q rq =>
          obtain ⟨q', hq, hvq⟩ := hu1
          subst hq
          cases rq with
          | true => exact go .ret .returning e rfl hst
          | false => exact go (.pan q false) _ e ⟨q', rfl, hvq⟩ hst
      | pan v =>
        obtain ⟨v', g1, g2, g3, g4⟩ := hl1
        have hst := step_going_panicked (c := { F with defers := rest', mode := u1 }) (cs := K0.cs u) (w := w1) ⟨g1, g2, g3⟩
        cases cm' with
        | ret =>
          have hu1 : u1 = .returning := hu1
          subst hu1
          exact go (.pan v false) _ e ⟨v', rfl, g4⟩ hst
        | _ => exact e.elim
  · exact e.elim

theorem estep_ok (eo : EOk E) (rc : RecOk E rec) : ∀ (t : Tk) (h : H) (k : Rs → H → Prop), estep E rec t h k → TkOk E.P t h k
  | .call f args cm, h, k, e => (call_ok eo rc e).2
  | .unw f fr ds m, h, k, e => unw_ok rc e
  | .scope fn rd all cur fr, h, k, e => scope_ok rc e
  | .again fn rd c fr, h, k, e => fun σ w b a ks K0 u r hf hfn hk hrd hu => again_ok rc e σ w b a ks K0 u r hf hfn hk hrd hu _ (Steps.one stepR_inLoop)
  | .code fn rd c fr, h, k, e => by
    cases c with
    | skip => exact fun σ w b a ks K0 u r hf hfn hk hrd hu => ⟨.normal, fr, h, σ, w, a, u, e, Sim.refl r, hf, hu, Steps.one stepR_skip⟩
    | label l => exact fun σ w b a ks K0 u r hf hfn hk hrd hu => ⟨.normal, fr, h, σ, w, a, u, e, Sim.refl r, hf, hu, Steps.one stepR_label⟩
    | exit id => exact fun σ w b a ks K0 u r hf hfn hk hrd hu => ⟨.exit id, fr, h, σ, w, a, u, e, Sim.refl r, hf, hu, ks, Steps.refl _ _, rfl⟩
    | goto l => exact fun σ w b a ks K0 u r hf hfn hk hrd hu => ⟨.goto l, fr, h, σ, w, a, u, e, Sim.refl r, hf, hu, ks, Steps.refl _ _, rfl⟩
    | ret => exact fun σ w b a ks K0 u r hf hfn hk hrd hu => ⟨.ret, fr, h, σ, w, a, u, e, Sim.refl r, hf, hu, ks, Steps.refl _ _⟩
    | refuse s => exact e.elim
    | seq x y => exact seq_ok rc e
    | block id x => exact block_ok rc e
    | loop x => exact fun σ w b a ks K0 u r hf hfn hk hrd hu => again_ok rc e σ w b a ks K0 u r hf hfn hk hrd hu _ (Steps.one stepR_loop)
    | scope x =>
      intro σ w b a ks K0 u r hf hfn hk hrd hu
      obtain ⟨ex, fr1, h1, σ1, w1, a1, u1, e, sim1, hf1, hu1, arr1⟩ := rc.ok _ _ _ e σ w b a ks K0 u r hf hfn hk hrd hu
      exact ⟨ex, fr1, h1, σ1, w1, a1, u1, e, sim1, hf1, hu1, arr1.of_steps (Steps.one stepR_scope)⟩
    | rangeFunc f ps as bd => exact rangeFunc_ok rc e
    | cond c x y =>
      intro σ w b a ks K0 u r hf hfn hk hrd hu
      unfold estep at e
      simp only at e
      split at e
      · rename_i hc
        have hv := hf.eval hc
        generalize hca : a.eval c = cv at hv
        cases hv
        obtain ⟨ex, fr1, h1, σ1, w1, a1, u1, e, sim1, hf1, hu1, arr1⟩ := rc.ok _ _ _ e σ w b a ks K0 u r hf hfn hk hrd hu
        exact ⟨ex, fr1, h1, σ1, w1, a1, u1, e, sim1, hf1, hu1, arr1.of_steps (Steps.one (stepR_cond hca))⟩
      · rename_i hc
        have hv := hf.eval hc
        generalize hca : a.eval c = cv at hv
        cases hv
        obtain ⟨ex, fr1, h1, σ1, w1, a1, u1, e, sim1, hf1, hu1, arr1⟩ := rc.ok _ _ _ e σ w b a ks K0 u r hf hfn hk hrd hu
        exact ⟨ex, fr1, h1, σ1, w1, a1, u1, e, sim1, hf1, hu1, arr1.of_steps (Steps.one (stepR_cond hca))⟩
      · exact e.elim
    | region id ops d =>
      cases d with
      | false =>
        intro σ w b a ks K0 u r hf hfn hk hrd hu
        obtain ⟨ex, fr1, h1, σ1, w1, a1, u1, e, sim1, hf1, hu1, arr1⟩ := opsK_ok (ks := ks) eo rc hk ops.toList 0 (by simp) e r hf hrd hu
        refine ⟨ex, fr1, h1, σ1, w1, a1, u1, e, sim1, hf1, hu1, arr1.of_steps (Steps.one ?_)⟩
        rw [stepR_region, List.range_eq_range']; rfl
      | true =>
        have e := plan_eq e
        intro σ w b a ks K0 u r hf hfn hk hrd hu
        obtain ⟨fr', h', σ', w', a', e, sim, hf', hcm, st⟩ := region_any_ok (b := b) (ks := ks) (cs := K0.cs u) (id := id) eo rc e r hf
        exact ⟨.normal, fr', h', σ', w', a', u, e, sim, hf', by rw [hcm]; exact hu.up sim.up, st⟩

/-- **What the evaluator says, the machine does.** -/
theorem run_ok (eo : EOk E) : ∀ n, RecOk E (run E n)
  | 0 => ⟨fun _ _ _ e => e.elim, fun _ _ _ _ _ e => e.elim⟩
  | n + 1 => by
    have ih := run_ok eo n
    refine ⟨fun t h k e => estep_ok eo ih t h k e, fun f args cm h k e => (call_ok eo ih e).1⟩
end

end Go.Proofs.Ab
