/- The evaluator's soundness, fifteenth part: what each task means for the machine; operations that call. -/
import Derived.Test.YtelmlcciphafjaaGreatDoorAb17
import Derived.RangeFuncIn
namespace Go.Proofs.Ab
open Go

/-- A frame that is about to leave. -/
def Leave (P : Program) (σ : S) (c : CR) (fr : Frame) (w : World) : Prop := match c with
  | .ret v => fr.mode = .returning ∧ fr.defers = [] ∧ ∃ fn v', P.funcs[fr.fn]? = some fn ∧ (results fn fr.tmps).run P w = .ok v' w ∧ VR σ v v'
  | .pan v => ∃ v', fr.mode = .panicking [{ v := v', recovered := false }] ∧ fr.defers = [] ∧ (∃ fn, P.funcs[fr.fn]? = some fn) ∧ VR σ v v'

/-- The mode of a frame that unwinds. -/
def MR (σ : S) : CM → FrameMode → Prop
  | .plain, _ => False
  | .ret, m => m = .returning
  | .pan v r, m => ∃ v', m = .panicking [{ v := v', recovered := r }] ∧ VR σ v v'
theorem MR.up {σ σ' : S} (u : Up σ σ') {c : CM} {m : FrameMode} (h : MR σ c m) : MR σ' c m := by
  cases c with
  | plain => exact h
  | ret => exact h
  | pan v r => obtain ⟨v', e, hv⟩ := h; exact ⟨v', e, hv.up u⟩

def TkOk (P : Program) : Tk → H → (Rs → H → Prop) → Prop
  | .code fn rd c fr, h, k => ∀ (σ : S) (w : World) (b : Frame) (a : Act) (ks : List Item) (K0 : K) (u : FrameMode), Rel σ h w → FrR σ fr a → b.fn = fn → b.kind = K0.kind → RdR σ rd b.roundOf → UR σ fr.cm K0 u →
      ∃ e fr' h' σ' w' a' u', k (.ex e fr') h' ∧ Sim σ h w σ' h' w' ∧ FrR σ' fr' a' ∧ UR σ' fr'.cm K0 u' ∧ Arr P σ' (lone (b.atR a (.code c :: ks)) (K0.cs u) w) b ks (K0.cs u') a' w' e
  | .scope fn rd all cur fr, h, k => ∀ (σ : S) (w : World) (b : Frame) (a : Act) (ks : List Item) (K0 : K) (u : FrameMode), Rel σ h w → FrR σ fr a → b.fn = fn → b.kind = K0.kind → RdR σ rd b.roundOf → UR σ fr.cm K0 u →
      ∃ e fr' h' σ' w' a' u', k (.ex e fr') h' ∧ Sim σ h w σ' h' w' ∧ FrR σ' fr' a' ∧ UR σ' fr'.cm K0 u' ∧ Arr P σ' (lone (b.atR a (.code cur :: .inScope all :: ks)) (K0.cs u) w) b ks (K0.cs u') a' w' e
  | .again fn rd c fr, h, k => ∀ (σ : S) (w : World) (b : Frame) (a : Act) (ks : List Item) (K0 : K) (u : FrameMode), Rel σ h w → FrR σ fr a → b.fn = fn → b.kind = K0.kind → RdR σ rd b.roundOf → UR σ fr.cm K0 u →
      ∃ e fr' h' σ' w' a' u', k (.ex e fr') h' ∧ Sim σ h w σ' h' w' ∧ FrR σ' fr' a' ∧ UR σ' fr'.cm K0 u' ∧ Arr P σ' (lone (b.atR a (.inLoop c :: ks)) (K0.cs u) w) b ks (K0.cs u') a' w' e
  | .call f args cm, h, k => ∀ (σ : S) (w : World) (args' : Array Value) (K0 : K) (u : FrameMode), Rel σ h w → VRs σ args args'.toList → UR σ cm K0 u →
      ∃ c cm' h' σ' w' u' fr', k (.cr c cm') h' ∧ Sim σ h w σ' h' w' ∧ UR σ' cm' K0 u' ∧ Steps P (lone (Frame.enter P f args' K0.kind) (K0.cs u) w) (lone fr' (K0.cs u') w') ∧ fr'.kind = K0.kind ∧ Leave P σ' c fr' w' ∧ fr'.fn = f
  | .unw f fr ds m, h, k => ∀ (σ : S) (w : World) (F : Frame) (K0 : K) (u : FrameMode), Rel σ h w → TmR σ fr.n fr.tmps F.tmps → DRs σ ds F.defers → F.fn = f → F.kind = K0.kind → MR σ m F.mode → UR σ fr.cm K0 u → (∃ fn, P.funcs[f]? = some fn) →
      ∃ c h' σ' w' fr', k (.cr c fr.cm) h' ∧ Sim σ h w σ' h' w' ∧ Steps P (lone F (K0.cs u) w) (lone fr' (K0.cs u) w') ∧ fr'.kind = K0.kind ∧ Leave P σ' c fr' w' ∧ fr'.fn = f

def notNGe (P : Program) (g : FuncId) : Prop := ∃ fn c, P.funcs[g]? = some fn ∧ fn.body = some c ∧ notNG fn.name = true

structure EOk (E : E) : Prop where
  mixed : E.P.follows .mixedOrders = true
  hook : ∀ f hk, E.hk f = some hk → notNGe E.P f ∧ ∀ h args k, hk args h k → TkOk E.P (.call f args .plain) h (fun r h => match r with | .cr c .plain => k c h | _ => False)
  ext : ∀ g x, E.ext g = some x → ∀ (σ : S) (h : H) (w : World) (vs : List V) (vs' : Array Value) (v : V) (h' : H), Rel σ h w → VRs σ vs vs'.toList → x vs h = some (v, h') → OpOk E.P σ h w (callFunc g vs') v h'

variable {E : E} {rec : Rec}

/-- What is known of the levels below. -/
structure RecOk (E : Go.Proofs.Ab.E) (rec : Rec) : Prop where
  ok : ∀ t h k, rec t h k → TkOk E.P t h k
  body : ∀ f args cm h k, rec (.call f args cm) h k → notNGe E.P f

theorem callFunc_enter {P : Program} {g : FuncId} (h : notNGe P g) (args : Array Value) (w : World) : (callFunc g args).run P w = .ok (.enter g args) w := by
  obtain ⟨fn, c, h1, h2, h3⟩ := h
  have hn : (fn.name == "runtime.NumGoroutine") = false := by simpa [notNG] using h3
  simp only [callFunc, Sem.run_bind, run_program, Result.andThen_ok, h1, hn, Bool.false_eq_true, if_false, h2, Option.isNone_some, Sem.run_pure]

theorem call_fn {P : Program} {a : Act} {o : Oper} {f : Operand} {args : Array Operand} {ats : Array TypeId} (ho : o.op = .call { callee := .value f, args := args, argTypes := ats }) {g : FuncId} {xs ys : Array Value} (hf : a.eval f = .func (.func g) xs ys) (w : World) :
    (execOp a.eval o).run P w = (callFunc g (xs ++ args.map a.eval ++ ys)).run P w := by
  simp [execOp, ho, resolve, hf, Deferred.ofValue, invoke]
theorem call_yield {P : Program} {a : Act} {o : Oper} {f : Operand} {args : Array Operand} {ats : Array TypeId} (ho : o.op = .call { callee := .value f, args := args, argTypes := ats }) {l : Nat} (hf : a.eval f = .func (.yield l) #[] #[]) (w : World) :
    (execOp a.eval o).run P w = (Instr.yield l (args.map a.eval)).run P w := by
  simp [execOp, ho, resolve, hf, Deferred.ofValue, invoke]

theorem semAt_call {o : Oper} {c : Call} (ho : o.op = .call c) (ro : Option Nat) (ρ : Operand → Value) : o.semAt ro ρ = execOp ρ o := Oper.semAt_eq ro ρ o (by rw [ho]; intro c h; cases h)

theorem leave_step {P : Program} {σ : S} {v : V} {fr c : Frame} {cs : List Frame} {w : World} (h : Leave P σ (.ret v) fr w) (hk : fr.kind = .normal) : ∃ v', VR σ v v' ∧ Go.step P (lone fr (c :: cs) w) = .next (lone (c.finish v') cs w) := by
  obtain ⟨h1, h2, fn, v', h3, h4, h5⟩ := h
  exact ⟨v', h5, step_leave_returned ⟨h1, h2, hk, fn, h3, h4⟩⟩
theorem leave_step_pan {P : Program} {σ : S} {v : V} {fr c : Frame} {cs : List Frame} {w : World} (h : Leave P σ (.pan v) fr w) : ∃ v', VR σ v v' ∧ Go.step P (lone fr (c :: cs) w) = .next (lone (c.raise [{ v := v', recovered := false }]) cs w) := by
  obtain ⟨v', h1, h2, h3, h4⟩ := h
  exact ⟨v', h4, step_leave_panicked ⟨h1, h2, h3⟩⟩

/-! ## A round -/
theorem Rel.loopObj {σ : S} {h : H} {w : World} (r : Rel σ h w) {i l : Nat} {q : LoopA} (e : loopAt h i = some q) (hb : BR σ (.own i) l) :
    h.own.get i = some (.loop q) ∧ ∃ q', w.heap[l]? = some (.loop q') ∧ LR σ q q' := by
  unfold loopAt at e
  split at e
  · injection e with e; subst e
    rename_i ho
    have hm : σ.m i 0 = some (l, 0, 0) := hb
    obtain ⟨_, _, _, q', g1, g2⟩ := r.obj _ _ _ _ _ _ ho hm
    exact ⟨ho, q', g1, g2⟩
  · cases e
theorem Rel.turnLoop {σ : S} {h : H} {w : World} (r : Rel σ h w) {i l : Nat} {q q2 : LoopA} {q2' : Loop} (ho : h.own.get i = some (.loop q)) (hb : BR σ (.own i) l) (h2 : LR σ q2 q2') :
    Sim σ h w σ (h.set i (.loop q2)) (World.put w l (.loop q2')) := by
  have hm : σ.m i 0 = some (l, 0, 0) := hb
  refine r.turn hm rfl ?_
  intro v c sh ext hv
  obtain ⟨rfl, rfl, rfl, _⟩ := r.obj _ _ _ _ _ _ ho hv
  rw [hm] at hv; cases hv
  rw [if_pos rfl]
  exact ⟨rfl, rfl, rfl, q2', rfl, h2⟩

theorem setPs_ok {σ : S} {n : Nat} : ∀ (ts : List Tmp) (vs : List V) (t : T V) (vs' : List Value) (a : Array Value), VRs σ vs vs' → TmR σ n t a → TmR σ n (setPs ts vs n t) ((ts.zip vs').foldl (fun tmps (t, a) => tmps.setIfInBounds t a) a)
  | [], vs, t, vs', a, _, h => by simpa [setPs] using h
  | x :: ts, [], t, vs', a, hv, h => by cases hv; simpa [setPs] using h
  | x :: ts, v :: vs, t, _, a, hv, h => by
    cases hv with | cons _ v' _ vs' h1 h2 =>
    simp only [setPs, List.zip_cons_cons, List.foldl_cons]
    exact setPs_ok ts vs _ vs' _ h2 (h.put h1 x)

theorem yield_run {P : Program} {l : Nat} {q' : Loop} {args : Array Value} {w : World} (hw : w.heap[l]? = some (.loop q')) (hn : args.size = q'.params.size) :
    (Instr.yield l args).run P w = .ok (.round l q'.fn ((q'.params.zip args).foldl (fun tmps (t, a) => tmps.setIfInBounds t a) q'.tmps) q'.assign q'.body) w := by
  have hget := run_getObj' (P := P) hw (fun _ _ _ c => by cases c)
  simp [Instr.yield, Instr.getLoop, hget, hn]

end Go.Proofs.Ab
