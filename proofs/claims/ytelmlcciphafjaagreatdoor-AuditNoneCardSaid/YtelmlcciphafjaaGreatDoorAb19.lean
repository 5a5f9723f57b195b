/- The evaluator's soundness, sixteenth part: rounds of loops over functions, calls of values. -/
import Derived.Test.YtelmlcciphafjaaGreatDoorAb18
import Derived.RangeFuncRecord
import Derived.Defers
namespace Go.Proofs.Ab
open Go

/-- What a call brings to its caller. -/
def CRes (P : Program) (σ : S) (m : Machine) (c : Frame) (cs : List Frame) (w : World) : CR → Prop
  | .ret v => ∃ v', VR σ v v' ∧ Steps P m (lone (c.finish v') cs w)
  | .pan v => ∃ v', VR σ v v' ∧ Steps P m (lone (c.raise [{ v := v', recovered := false }]) cs w)

theorem CRes.of_steps {P : Program} {σ : S} {m m1 : Machine} {c : Frame} {cs : List Frame} {w : World} {r : CR} (h : Steps P m m1) (x : CRes P σ m1 c cs w r) : CRes P σ m c cs w r := by
  cases r with
  | ret v => obtain ⟨v', a, b⟩ := x; exact ⟨v', a, h.trans b⟩
  | pan v => obtain ⟨v', a, b⟩ := x; exact ⟨v', a, h.trans b⟩

theorem World.put_putObj (w : World) (r : Nat) (o : Obj) : w.putObj r o = World.put w r o := rfl

theorem DRs.nil_inv {σ : S} {l : List Deferred} (h : DRs σ [] l) : l = [] := by cases h; rfl

theorem roundK_ok {E : E} {rec : Rec} (rc : RecOk E rec) {i l : Nat} {args : List V} {h : H} {k : CR → H → Prop} (e : roundK E rec i args h k) {σ : S} {w : World} (r : Rel σ h w) (hb : BR σ (.own i) l)
    {args' : Array Value} (hv : VRs σ args args'.toList) (c : Frame) (cs : List Frame) :
    ∃ q', w.heap[l]? = some (.loop q') ∧ args'.size = q'.params.size ∧ ∃ cr h' σ' w', k cr h' ∧ Sim σ h w σ' h' w' ∧
      CRes E.P σ' (lone (Frame.round l q'.fn ((q'.params.zip args').foldl (fun tmps (t, a) => tmps.setIfInBounds t a) q'.tmps) q'.assign q'.body .normal) (c :: cs) w) c cs w' cr := by
  unfold roundK at e
  cases hl : loopAt h i with
  | none => rw [hl] at e; exact e.elim
  | some q =>
    rw [hl] at e
    obtain ⟨ho, q', hq, lr⟩ := r.loopObj hl hb
    refine ⟨q', hq, ?_⟩
    simp only at e
    cases hn : Nat.beq args.length q.params.size with
    | false => rw [hn] at e; exact e.elim
    | true =>
      rw [hn] at e
      simp only [cond_true] at e
      have hlen : args.length = q.params.size := Nat.eq_of_beq_eq_true hn
      have hsz : args'.size = q'.params.size := by rw [lr.params, ← hlen, hv.length]; simp
      refine ⟨hsz, ?_⟩
      let b : Frame := { (default : Frame) with fn := q'.fn, kind := .normal, roundOf := some l }
      let tm := (q'.params.zip args').foldl (fun tmps (t, a) => tmps.setIfInBounds t a) q'.tmps
      have hb0 : Frame.round l q'.fn tm q'.assign q'.body .normal = b.atR { tmps := tm, defers := [] } [.code q'.assign, .beginRound, .code q'.body] := by
        simp [Frame.round, Frame.atR, b]
      have htm : TmR σ q.n (setPs q.params.toList args q.n q.tmps) tm := by
        have := setPs_ok (σ := σ) (n := q.n) q.params.toList args q.tmps args'.toList q'.tmps hv lr.tmps
        simp only [tm]
        rw [← Array.foldl_toList, Array.toList_zip, lr.params]
        exact this
      have s1 := rc.ok _ _ _ e σ w b { tmps := tm, defers := [] } [.beginRound, .code q'.body] (.plain (c :: cs)) .run r ⟨htm, .nil⟩ lr.fn rfl hb trivial
      obtain ⟨ex, fr1, h1, σ1, w1, a1, u1, e, sim1, hf1, hu1, arr1⟩ := s1
      cases ex with
      | normal =>
        simp only at e
        cases hl1 : loopAt h1 i with
        | none => rw [hl1] at e; exact e.elim
        | some q1 =>
          rw [hl1] at e
          have hb1 : BR σ1 (.own i) l := hb.up sim1.up
          obtain ⟨ho1, q1', hq1, lr1⟩ := sim1.rel.loopObj hl1 hb1
          simp only at e
          cases hst : q1.st with
          | ready =>
            rw [hst] at e
            simp only [H.setK_eq] at e
            have hbr := run_beginRound (P := E.P) hq1 (by rw [lr1.st, hst])
            have sim2 : Sim σ1 h1 w1 σ1 (h1.set i (.loop { q1 with st := .busy })) (World.put w1 l (.loop { q1' with state := .busy })) :=
              sim1.rel.turnLoop ho1 hb1 { lr1 with st := rfl }
            rw [World.put_putObj] at hbr
            have s2 := rc.ok _ _ _ e σ1 _ b a1 [] (.plain (c :: cs)) u1 sim2.rel hf1 lr.fn rfl hb1 hu1
            obtain ⟨ex2, fr2, h2, σ2, w2, a2, u2, e, sim3, hf2, hu2, arr2⟩ := s2
            have hb2 : BR σ2 (.own i) l := hb1.up sim3.up
            have sim13 := (sim1.trans sim2).trans sim3
            have st1 : Steps E.P (lone (b.atR { tmps := tm, defers := [] } [.code q'.assign, .beginRound, .code q'.body]) (c :: cs) w) (lone (b.atR a1 [.code q.body]) (c :: cs) (World.put w1 l (.loop { q1' with state := .busy }))) := by
              have arr1' : Steps E.P (lone (b.atR { tmps := tm, defers := [] } [.code q.assign, .beginRound, .code q'.body]) (c :: cs) w) (lone (b.atR a1 [.beginRound, .code q'.body]) (c :: cs) w1) := arr1
              rw [lr.assign]
              rw [lr.body] at arr1' ⊢
              exact arr1'.trans (.one (stepR_beginRound rfl hbr))
            have fin : ∀ (p : Option Code) (bb : Bool) (ls : LoopState) (ks2 : List Item), bb = p.isNone → ls = (if p.isNone then .ready else .done) → (match loopAt h2 i with
                | some l'' => k (.ret (.bool bb)) (h2.set i (.loop { l'' with st := ls, pend := p }))
                | none => False) → Steps E.P (lone (b.atR a1 [.code q.body]) (c :: cs) (World.put w1 l (.loop { q1' with state := .busy }))) (lone (b.atR a2 ks2) (c :: cs) w2) →
                (∀ (v : Value) (w' : World), (Instr.endRound l p).run E.P w2 = .ok v w' → step E.P (lone (b.atR a2 ks2) (c :: cs) w2) = .next (lone (c.finish v) cs w')) →
                ∃ cr h' σ' w', k cr h' ∧ Sim σ h w σ' h' w' ∧ CRes E.P σ' (lone (b.atR { tmps := tm, defers := [] } [.code q'.assign, .beginRound, .code q'.body]) (c :: cs) w) c cs w' cr := by
              intro p bb ls ks2 hbb hls e hs hstep
              cases hl2 : loopAt h2 i with
              | none => rw [hl2] at e; exact e.elim
              | some q2 =>
                rw [hl2] at e
                simp only at e
                obtain ⟨ho2, q2', hq2, lr2⟩ := sim3.rel.loopObj hl2 hb2
                have her := run_endRound (P := E.P) p hq2
                have sim4 : Sim σ2 h2 w2 σ2 (h2.set i (.loop { q2 with st := ls, pend := p })) (World.put w2 l (.loop { q2' with state := if p.isNone then .ready else .done, pending := p })) :=
                  sim3.rel.turnLoop ho2 hb2 { lr2 with st := hls.symm, pend := rfl }
                rw [World.put_putObj] at her
                refine ⟨_, _, σ2, _, e, sim13.trans sim4, .bool bb, .bool bb, ?_⟩
                rw [hbb]
                exact (st1.trans hs).trans (.one (hstep _ _ her))
            rw [hb0]
            cases ex2 with
            | normal => exact fin none true _ [] rfl rfl e arr2 fun v w' hr => stepR_round_end rfl rfl hr
            | ret => obtain ⟨k2, arr2⟩ := arr2; exact fin (some .ret) false _ _ rfl rfl e arr2 fun v w' hr => stepR_round_ret rfl rfl hr
            | exit id => obtain ⟨k2, arr2, hx⟩ := arr2; exact fin (some (.exit id)) false _ _ rfl rfl e arr2 fun v w' hr => stepR_round_exit rfl rfl hx hr
            | goto t => obtain ⟨k2, arr2, hx⟩ := arr2; exact fin (some (.goto t)) false _ _ rfl rfl e arr2 fun v w' hr => stepR_round_goto rfl rfl hx hr
            | pan v =>
              obtain ⟨k2, v', hvv, arr2⟩ := arr2
              simp only at e
              cases hds : fr2.ds with
              | cons d ds => rw [hds] at e; exact e.elim
              | nil =>
                rw [hds] at e
                cases hfn : E.P.funcs[q.fn]? with
                | none => rw [hfn] at e; exact e.elim
                | some fn =>
                  rw [hfn] at e
                  have hnil : a2.defers = [] := by have := hf2.ds; rw [hds] at this; exact this.nil_inv
                  refine ⟨_, _, σ2, _, e, sim13, v', hvv, (st1.trans arr2).trans (.one ?_)⟩
                  exact step_leave_panicked ⟨rfl, hnil, fn, by rw [← hfn]; exact congrArg (fun x => E.P.funcs[x]?) lr.fn⟩
          | _ => rw [hst] at e; exact e.elim
      | _ => exact e.elim

end Go.Proofs.Ab
