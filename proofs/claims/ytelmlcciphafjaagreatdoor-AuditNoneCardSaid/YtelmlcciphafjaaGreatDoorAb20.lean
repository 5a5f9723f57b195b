/- The evaluator's soundness, seventeenth part: calls of values; one operation in the order of the text. -/
import Derived.Test.YtelmlcciphafjaaGreatDoorAb19
namespace Go.Proofs.Ab
open Go

theorem Leave.res {P : Program} {σ : S} {cr : CR} {fr c : Frame} {cs : List Frame} {w : World} (h : Leave P σ cr fr w) (hk : fr.kind = .normal) : CRes P σ (lone fr (c :: cs) w) c cs w cr := by
  cases cr with
  | ret v => obtain ⟨v', hv, st⟩ := leave_step (c := c) (cs := cs) h hk; exact ⟨v', hv, .one st⟩
  | pan v => obtain ⟨v', hv, st⟩ := leave_step_pan (c := c) (cs := cs) h; exact ⟨v', hv, .one st⟩

theorem callV_ok {E : E} {rec : Rec} (eo : EOk E) (rc : RecOk E rec) {f : V} {vs : List V} {h : H} {k : CR → H → Prop} (e : callV E rec f vs h k) {σ : S} {w : World} (r : Rel σ h w)
    {b : Frame} {a : Act} {ks : List Item} {cs : List Frame} {ops : Array Oper} {i : Nat} {rest : List Nat} {o : Oper} (ho : ops[i]? = some o) (hwt : Region.wanted o (yielded ops a.tmps) = true)
    {fo : Operand} {args : Array Operand} {ats : Array TypeId} (hop : o.op = .call { callee := .value fo, args := args, argTypes := ats }) (hf : VR σ f (a.eval fo)) (hv : VRs σ vs (args.toList.map a.eval)) :
    ∃ cr h' σ' w', k cr h' ∧ Sim σ h w σ' h' w' ∧ CRes E.P σ' (lone (b.atR a (.inRegion ops (i :: rest) :: ks)) cs w) (b.atR a (.inRegion ops (i :: rest) :: ks)) cs w' cr := by
  have hsem := semAt_call hop b.roundOf a.eval
  have hargs : (args.map a.eval).toList = args.toList.map a.eval := Array.toList_map
  unfold callV at e
  split at e
  · rename_i g first captured
    generalize hfe : a.eval fo = fv at hf
    cases hf with | fn _ _ _ xs' ys' hx hy =>
    have hrun := call_fn hop hfe (P := E.P) w
    have hall : VRs σ (first ++ vs ++ captured) (xs' ++ args.map a.eval ++ ys').toList := by
      rw [Array.toList_append, Array.toList_append, hargs]
      exact (hx.append hv).append hy
    split at e
    · rename_i x hx
      split at e
      · rename_i v h' hxe
        obtain ⟨σ', w', v', sim, hvv, hr⟩ := eo.ext g x hx σ h w _ _ v h' r hall hxe
        refine ⟨.ret v, h', σ', w', e, sim, v', hvv, .one ?_⟩
        rw [finishOp ho]
        rcases hr with hr | ⟨hr, hu⟩
        · exact stepOp_value ho hwt (by rw [hsem, hrun, hr])
        · rw [hu]; exact stepOp_skip ho hwt (by rw [hsem, hrun, hr])
      · exact e.elim
    · have hng := rc.body _ _ _ _ _ e
      obtain ⟨cr, cm', h', σ', w', u', fr', e, sim, _, st, hk, hl, _⟩ := rc.ok _ _ _ e σ w _ (.plain (b.atR a (.inRegion ops (i :: rest) :: ks) :: cs)) .run r hall trivial
      refine ⟨cr, h', σ', w', e, sim, .of_steps ((Steps.one ?_).trans st) (hl.res hk)⟩
      exact stepOp_enter ho hwt (by rw [hsem, hrun]; exact callFunc_enter hng _ w)
  · rename_i j
    generalize hfe : a.eval fo = fv at hf
    have hy : ∃ l, fv = .func (.yield l) #[] #[] ∧ BR σ (.own j) l := by
      cases hf with
      | yld _ l hb => exact ⟨l, rfl, hb⟩
    obtain ⟨l, rfl, hb⟩ := hy
    have hv' : VRs σ vs (args.map a.eval).toList := by rw [hargs]; exact hv
    obtain ⟨q', hq, hsz, cr, h', σ', w', e, sim, hc⟩ := roundK_ok rc e r hb hv' (b.atR a (.inRegion ops (i :: rest) :: ks)) cs
    refine ⟨cr, h', σ', w', e, sim, .of_steps (Steps.one ?_) hc⟩
    exact stepOp_round ho hwt (by rw [hsem, call_yield hop hfe]; exact yield_run hq hsz)
  · exact e.elim

end Go.Proofs.Ab
