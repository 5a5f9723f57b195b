/- The evaluator's soundness, nineteenth part: operations that yield a value; one operation; the order of the text. -/
import Derived.Test.YtelmlcciphafjaaGreatDoorAb21
namespace Go.Proofs.Ab
open Go

section
variable {E : E} {rec : Rec} {σ : S} {w : World} {b : Frame} {a : Act} {ks : List Item} {ops : Array Oper} {i : Nat} {rest : List Nat} {o : Oper}

theorem opV_step {cs : List Frame} {P : Program} {h h' : H} {fr : Fr} {v : V} (r : Rel σ h w) (hf : FrR σ fr a) (ho : ops[i]? = some o) (hwt : Region.wanted o (yielded ops a.tmps) = true) (e : opV P fr h o.op = some (v, h')) :
    ∃ σ' w' v', Sim σ h w σ' h' w' ∧ VR σ' v v' ∧ Steps P (lone (b.atR a (.inRegion ops (i :: rest) :: ks)) cs w) (lone (b.atR (a.put o.dst v') (.inRegion ops rest :: ks)) cs w') := by
  obtain ⟨σ', w', v', sim, hv, hr⟩ := opV_ok r hf e
  have hsem : o.semAt b.roundOf a.eval = execOp a.eval o := Oper.semAt_eq _ _ _ (by intro c hc; rw [hc] at e; simp [opV] at e)
  refine ⟨σ', w', v', sim, hv, .one ?_⟩
  rcases hr with hr | ⟨hr, hu⟩
  · exact stepOp_value ho hwt (by rw [hsem]; exact hr)
  · rw [hu]; exact stepOp_skip ho hwt (by rw [hsem]; exact hr)

theorem actK_ok {cs : List Frame} (eo : EOk E) (rc : RecOk E rec) {fr : Fr} {h : H} {k kp : V → H → Prop} (e : actK E rec fr h o k kp) (r : Rel σ h w) (hf : FrR σ fr a) (ho : ops[i]? = some o) (hwt : Region.wanted o (yielded ops a.tmps) = true) :
    (∃ v h' σ' w' v', k v h' ∧ Sim σ h w σ' h' w' ∧ VR σ' v v' ∧ Steps E.P (lone (b.atR a (.inRegion ops (i :: rest) :: ks)) cs w) (lone (b.atR (a.put o.dst v') (.inRegion ops rest :: ks)) cs w')) ∨
    (∃ v h' σ' w' v', kp v h' ∧ Sim σ h w σ' h' w' ∧ VR σ' v v' ∧ Steps E.P (lone (b.atR a (.inRegion ops (i :: rest) :: ks)) cs w) (lone { b.atR a (.inRegion ops (i :: rest) :: ks) with mode := .panicking [{ v := v', recovered := false }] } cs w')) := by
  unfold actK at e
  split at e
  · rename_i f args ats hop
    split at e
    · rename_i fv vs hfe hve
      obtain ⟨cr, h', σ', w', e, sim, hc⟩ := callV_ok (b := b) (ks := ks) (cs := cs) (rest := rest) eo rc e r ho hwt hop (hf.eval hfe) (hf.evals hve)
      cases cr with
      | ret v =>
        obtain ⟨v', hv, st⟩ := hc
        rw [finishOp ho] at st
        exact .inl ⟨v, h', σ', w', v', e, sim, hv, st⟩
      | pan v =>
        obtain ⟨v', hv, st⟩ := hc
        exact .inr ⟨v, h', σ', w', v', e, sim, hv, st⟩
    · exact e.elim
  · rename_i x hop
    split at e
    · rename_i v hve
      obtain ⟨v, h', σ', w', v', e, sim, hv, hr⟩ := nextK_ok (P := E.P) r e (hf.eval hve) o.type
      refine .inl ⟨v, h', σ', w', v', e, sim, hv, .one (stepOp_value ho hwt ?_)⟩
      rw [Oper.semAt_eq _ _ _ (by intro c hc; rw [hop] at hc; cases hc)]
      simp only [execOp, hop, Sem.run_bind, hr, Result.andThen_ok, Sem.run_pure]
    · exact e.elim
  · rename_i op t x y u hop
    split at e
    · rename_i av bv hav hbv
      cases hc : anyCmp op av bv with
      | false =>
        rw [hc] at e
        simp only [cond_false] at e
        split at e
        · rename_i v h' hve
          rw [← hop] at hve
          obtain ⟨σ', w', v', sim, hv, st⟩ := opV_step (b := b) (ks := ks) (cs := cs) (rest := rest) r hf ho hwt hve
          exact .inl ⟨v, h', σ', w', v', e, sim, hv, st⟩
        · exact e.elim
      | true =>
        rw [hc] at e
        simp only [cond_true] at e
        obtain ⟨q, σ', w', v', sim, hv, hr⟩ := anyCmp_ok (P := E.P) (t := t) (x := x) (y := y) r hc (hf.eval hav) (hf.eval hbv)
        have e' : k (.bool q) h := by cases q <;> first | exact e.1 | exact e.2
        refine .inl ⟨_, h, σ', w', v', e', sim, hv, .one (stepOp_value ho hwt ?_)⟩
        rw [Oper.semAt_eq _ _ _ (by intro c hc; rw [hop] at hc; cases hc)]
        have hs : execOp a.eval o = (do pure (Next.value (← (do eqGuard op t x y (a.eval x) (a.eval y); binOp op t (a.eval x) (a.eval y))))) := by simp only [execOp, hop] <;> rfl
        rw [hs, Sem.run_bind, hr]
        rfl
    · exact e.elim
  · split at e
    · rename_i v h' hve
      obtain ⟨σ', w', v', sim, hv, st⟩ := opV_step (b := b) (ks := ks) (cs := cs) (rest := rest) r hf ho hwt hve
      exact .inl ⟨v, h', σ', w', v', e, sim, hv, st⟩
    · exact e.elim

/-- One operation. -/
theorem opK_ok {K0 : K} {u : FrameMode} (eo : EOk E) (rc : RecOk E rec) {rd : Option B} {fr : Fr} {h : H} {k : Fr → H → Prop} {kp : V → H → Prop} (e : opK E rec rd fr h o k kp) (r : Rel σ h w) (hf : FrR σ fr a)
    (ho : ops[i]? = some o) (hwt : Region.wanted o (yielded ops a.tmps) = true) (hk : b.kind = K0.kind) (hrd : RdR σ rd b.roundOf) (hu : UR σ fr.cm K0 u) :
    (∃ fr' h' σ' w' a' u', k fr' h' ∧ Sim σ h w σ' h' w' ∧ FrR σ' fr' a' ∧ UR σ' fr'.cm K0 u' ∧ Steps E.P (lone (b.atR a (.inRegion ops (i :: rest) :: ks)) (K0.cs u) w) (lone (b.atR a' (.inRegion ops rest :: ks)) (K0.cs u') w')) ∨
    (∃ v h' σ' w' v', kp v h' ∧ Sim σ h w σ' h' w' ∧ VR σ' v v' ∧ Steps E.P (lone (b.atR a (.inRegion ops (i :: rest) :: ks)) (K0.cs u) w) (lone { b.atR a (.inRegion ops (i :: rest) :: ks) with mode := .panicking [{ v := v', recovered := false }] } (K0.cs u) w')) := by
  unfold opK at e
  split at e
  · rename_i args ats hop
    cases rd with
    | some _ => exact e.elim
    | none =>
      have hro : b.roundOf = none := by cases hb : b.roundOf with | none => rfl | some _ => rw [hb] at hrd; exact hrd.elim
      have hrun : (o.semAt b.roundOf a.eval).run E.P w = .ok .recover w := by
        rw [semAt_call hop, execOp_builtin _ _ _ _ _ hop]
        rfl
      simp only at e
      split at e
      · rename_i v hcm
        rw [Fr.putK_put] at e
        rw [hcm] at hu
        cases K0 with
        | plain cs => exact hu.elim
        | dfr c cs =>
          obtain ⟨v', rfl, hv⟩ := hu
          refine .inl ⟨_, h, σ, w, a.put o.dst v', .panicking [{ v := v', recovered := true }], e, Sim.refl r, FrR.put (fr := { fr with cm := .pan v true }) ⟨hf.tm, hf.ds⟩ hv o.dst, ?_, .one (stepOp_recover ho hwt hro hrun ?_)⟩
          · rw [Fr.put_cm]; exact ⟨v', rfl, hv⟩
          · rw [tryRecover_deferred (fr := b.atR a (.inRegion ops (i :: rest) :: ks)) hk]; rfl
      · rename_i hcm
        rw [Fr.putK_put] at e
        refine .inl ⟨_, h, σ, w, a.put o.dst .nilIface, u, e, Sim.refl r, hf.put .niliface o.dst, by rw [Fr.put_cm]; exact hu, .one (stepOp_norecover ho hwt hro hrun ?_)⟩
        cases K0 with
        | plain cs => unfold tryRecover; rw [show (b.atR a (.inRegion ops (i :: rest) :: ks)).kind = .normal from hk]
        | dfr c cs =>
          rw [tryRecover_deferred (fr := b.atR a (.inRegion ops (i :: rest) :: ks)) hk]
          cases hc : fr.cm with
          | plain => rw [hc] at hu; exact hu.elim
          | ret => rw [hc] at hu; have hu : u = .returning := hu; subst hu; rfl
          | pan v q =>
            cases q with
            | false => exact absurd hc (hcm v)
            | true => rw [hc] at hu; obtain ⟨v', rfl, _⟩ := hu; rfl
  · rename_i f args ats hop
    split at e
    · rename_i g first captured vs hfe hve
      have hro : b.roundOf = none := by cases hb : b.roundOf with | none => rfl | some _ => rw [hb] at hrd; exact hrd.elim
      rw [Fr.putK_put] at e
      have hfv := hf.eval hfe
      generalize hfa : a.eval f = fv at hfv
      cases hfv with | fn _ _ _ xs' ys' hx hy =>
      have hd : DR σ (.call (.func g) captured (first ++ vs)) { target := .fn (.func g) ys', args := xs' ++ args.map a.eval } :=
        .call _ _ _ _ _ hy (by rw [Array.toList_append, Array.toList_map]; exact hx.append (hf.evals hve))
      refine .inl ⟨_, h, σ, w, _, u, e, Sim.refl r, FrR.put (fr := { fr with ds := .call (.func g) captured (first ++ vs) :: fr.ds }) (a := { a with defers := _ :: a.defers }) ⟨hf.tm, .cons _ _ _ _ hd hf.ds⟩ (undef_rel σ) o.dst, by rw [Fr.put_cm]; exact hu, .one (stepOp_defer ho hwt ?_)⟩
      rw [hro, Oper.semAt_none]
      simp [execOp, hop, resolve, hfa, Deferred.ofValue]
    · exact e.elim
  · rename_i x hop
    split at e
    · rename_i t v hve
      have hv := hf.eval hve
      generalize hfa : a.eval x = fv at hv
      refine .inr ⟨_, h, σ, w, fv, e, Sim.refl r, hv, .one (stepOp_panic ho hwt ?_)⟩
      rw [Oper.semAt_eq _ _ _ (by intro c hc; rw [hop] at hc; cases hc)]
      cases hv
      simp [execOp, hop, hfa, Instr.panic]
    · exact e.elim
  · rcases actK_ok (b := b) (ks := ks) (cs := K0.cs u) (rest := rest) eo rc e r hf ho hwt with ⟨v, h', σ', w', v', e, sim, hv, st⟩ | ⟨v, h', σ', w', v', e, sim, hv, st⟩
    · rw [Fr.putK_put] at e
      exact .inl ⟨_, h', σ', w', _, u, e, sim, (hf.up sim.up).put hv o.dst, by rw [Fr.put_cm]; exact hu.up sim.up, st⟩
    · exact .inr ⟨v, h', σ', w', v', e, sim, hv, st⟩

/-- The operations in the order of the text. -/
theorem opsK_ok {K0 : K} (eo : EOk E) (rc : RecOk E rec) {rd : Option B} (hk : b.kind = K0.kind) {k : Rs → H → Prop} : ∀ (os : List Oper) (i : Nat) {fr : Fr} {h : H} {a : Act} {σ : S} {w : World} {u : FrameMode}, ops.toList.drop i = os → opsK E rec rd ops os fr h k →
    Rel σ h w → FrR σ fr a → RdR σ rd b.roundOf → UR σ fr.cm K0 u →
    ∃ e fr' h' σ' w' a' u', k (.ex e fr') h' ∧ Sim σ h w σ' h' w' ∧ FrR σ' fr' a' ∧ UR σ' fr'.cm K0 u' ∧ Arr E.P σ' (lone (b.atR a (.inRegion ops (List.range' i (ops.size - i)) :: ks)) (K0.cs u) w) b ks (K0.cs u') a' w' e
  | [], i, fr, h, a, σ, w, u, hd, e, r, hf, hrd, hu => by
    have hge : ops.size ≤ i := by simpa using hd
    rw [show ops.size - i = 0 by omega]
    exact ⟨.normal, fr, h, σ, w, a, u, e, Sim.refl r, hf, hu, .one stepR_region_end⟩
  | o :: os, i, fr, h, a, σ, w, u, hd, e, r, hf, hrd, hu => by
    have hlt : i < ops.size := by
      rcases Nat.lt_or_ge i ops.size with c | c
      · exact c
      · rw [List.drop_eq_nil_of_le (by simpa using c)] at hd; cases hd
    have ho : ops[i]? = some o := by
      have : (ops.toList.drop i)[0]? = some o := by rw [hd]; rfl
      simpa using this
    have hd' : ops.toList.drop (i + 1) = os := by
      rw [← List.tail_drop, hd]; rfl
    have hr : List.range' i (ops.size - i) = i :: List.range' (i + 1) (ops.size - (i + 1)) := by
      rw [show ops.size - i = (ops.size - (i + 1)) + 1 by omega, List.range'_succ]
    rw [hr]
    unfold opsK at e
    cases hwv : wantedV ops fr o with
    | true =>
      rw [hwv] at e
      simp only [cond_true] at e
      rcases opK_ok (ks := ks) (rest := List.range' (i + 1) (ops.size - (i + 1))) eo rc e r hf ho (by rw [wantedV_eq hf]; exact hwv) hk hrd hu with ⟨fr', h', σ', w', a', u', e, sim, hf', hu', st⟩ | ⟨v, h', σ', w', v', e, sim, hv, st⟩
      · obtain ⟨ex, fr2, h2, σ2, w2, a2, u2, e, sim2, hf2, hu2, arr⟩ := opsK_ok eo rc hk os (i + 1) hd' e sim.rel hf' (hrd.up sim.up) hu'
        exact ⟨ex, fr2, h2, σ2, w2, a2, u2, e, sim.trans sim2, hf2, hu2, arr.of_steps st⟩
      · exact ⟨.pan v, fr, h', σ', w', a, u, e, sim, hf.up sim.up, hu.up sim.up, _, v', hv, st⟩
    | false =>
      rw [hwv] at e
      simp only [cond_false, Fr.putK_put] at e
      obtain ⟨ex, fr2, h2, σ2, w2, a2, u2, e, sim2, hf2, hu2, arr⟩ := opsK_ok eo rc hk os (i + 1) hd' e r (hf.put (undef_rel σ) o.dst) hrd (by rw [Fr.put_cm]; exact hu)
      exact ⟨ex, fr2, h2, σ2, w2, a2, u2, e, sim2, hf2, hu2, arr.of_steps (.one (stepOp_unwanted ho (by rw [wantedV_eq hf]; exact hwv)))⟩
end

end Go.Proofs.Ab
