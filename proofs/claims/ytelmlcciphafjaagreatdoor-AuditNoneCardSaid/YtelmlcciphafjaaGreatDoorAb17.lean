/- The evaluator's soundness, fourteenth part: the machine's steps at an operation. -/
import Derived.Test.YtelmlcciphafjaaGreatDoorAb16
import Derived.Recover
namespace Go.Proofs.Ab
open Go

section
variable {P : Program} {b : Frame} {a : Act} {k : List Item} {cs : List Frame} {w w' : World} {ops : Array Oper} {i : Nat} {rest : List Nat} {o : Oper}

theorem finishOp (ho : ops[i]? = some o) (a : Act) (v : Value) : (b.atR a (.inRegion ops (i :: rest) :: k)).finish v = b.atR (a.put o.dst v) (.inRegion ops rest :: k) := by
  rw [Frame.finish_atR, ho]; rfl

theorem stepOp_value (ho : ops[i]? = some o) (hw : Region.wanted o (yielded ops a.tmps) = true) {v : Value} (hr : (o.semAt b.roundOf a.eval).run P w = .ok (.value v) w') :
    step P (lone (b.atR a (.inRegion ops (i :: rest) :: k)) cs w) = .next (lone (b.atR (a.put o.dst v) (.inRegion ops rest :: k)) cs w') := by
  rw [← finishOp ho]
  refine step_lone_go ?_
  rw [stepGR_op ho hw]
  simp [stepG.apply, Sem.runT_eq, hr]
theorem stepOp_skip (ho : ops[i]? = some o) (hw : Region.wanted o (yielded ops a.tmps) = true) (hr : (o.semAt b.roundOf a.eval).run P w = .ok .skip w') :
    step P (lone (b.atR a (.inRegion ops (i :: rest) :: k)) cs w) = .next (lone (b.atR (a.put o.dst undef) (.inRegion ops rest :: k)) cs w') := by
  rw [← finishOp ho]
  refine step_lone_go ?_
  rw [stepGR_op ho hw]
  simp [stepG.apply, Sem.runT_eq, hr]
theorem stepOp_unwanted (ho : ops[i]? = some o) (hw : Region.wanted o (yielded ops a.tmps) = false) :
    step P (lone (b.atR a (.inRegion ops (i :: rest) :: k)) cs w) = .next (lone (b.atR (a.put o.dst undef) (.inRegion ops rest :: k)) cs w) := by
  have := stepR_op_skip (P := P) (b := b) (a := a) (k := k) (cs := cs) (w := w) (ops := ops) (i := i) (rest := rest) (by simp [ho, hw])
  rw [this, ho]; rfl
theorem stepOp_enter (ho : ops[i]? = some o) (hw : Region.wanted o (yielded ops a.tmps) = true) {f : FuncId} {args : Array Value} (hr : (o.semAt b.roundOf a.eval).run P w = .ok (.enter f args) w') :
    step P (lone (b.atR a (.inRegion ops (i :: rest) :: k)) cs w) = .next (lone (Frame.enter P f args .normal) (b.atR a (.inRegion ops (i :: rest) :: k) :: cs) w') := by
  refine step_lone_go ?_
  rw [stepGR_op ho hw]
  simp [stepG.apply, Sem.runT_eq, hr, Frame.atR]
theorem stepOp_round (ho : ops[i]? = some o) (hw : Region.wanted o (yielded ops a.tmps) = true) {l : Nat} {f : FuncId} {tmps : Array Value} {as bd : Code} (hr : (o.semAt b.roundOf a.eval).run P w = .ok (.round l f tmps as bd) w') :
    step P (lone (b.atR a (.inRegion ops (i :: rest) :: k)) cs w) = .next (lone (Frame.round l f tmps as bd .normal) (b.atR a (.inRegion ops (i :: rest) :: k) :: cs) w') := by
  refine step_lone_go ?_
  rw [stepGR_op ho hw]
  simp [stepG.apply, Sem.runT_eq, hr, Frame.atR]
theorem stepOp_defer (ho : ops[i]? = some o) (hw : Region.wanted o (yielded ops a.tmps) = true) {d : Deferred} (hr : (o.semAt b.roundOf a.eval).run P w = .ok (.defer d) w') :
    step P (lone (b.atR a (.inRegion ops (i :: rest) :: k)) cs w) = .next (lone (b.atR ({ a with defers := d :: a.defers }.put o.dst undef) (.inRegion ops rest :: k)) cs w') := by
  rw [← finishOp ho]
  refine step_lone_go ?_
  rw [stepGR_op ho hw]
  simp [stepG.apply, Sem.runT_eq, hr, Frame.atR]
theorem stepOp_panic (ho : ops[i]? = some o) (hw : Region.wanted o (yielded ops a.tmps) = true) {v : Value} (hr : (o.semAt b.roundOf a.eval).run P w = .halt (.panic v) w') :
    step P (lone (b.atR a (.inRegion ops (i :: rest) :: k)) cs w) = .next (lone { b.atR a (.inRegion ops (i :: rest) :: k) with mode := .panicking [{ v, recovered := false }] } cs w') := by
  refine step_lone_go ?_
  rw [stepGR_op ho hw]
  simp [stepG.apply, Sem.runT_eq, hr, Frame.raise, Frame.atR]
theorem stepOp_recover (ho : ops[i]? = some o) (hw : Region.wanted o (yielded ops a.tmps) = true) (hro : b.roundOf = none) (hr : (o.semAt b.roundOf a.eval).run P w = .ok .recover w') {v : Value} {cs' : List Frame}
    (ht : tryRecover (b.atR a (.inRegion ops (i :: rest) :: k)) cs = some (v, cs')) :
    step P (lone (b.atR a (.inRegion ops (i :: rest) :: k)) cs w) = .next (lone (b.atR (a.put o.dst v) (.inRegion ops rest :: k)) cs' w') := by
  rw [← finishOp ho]
  refine step_lone_go ?_
  rw [stepGR_op ho hw]
  have hro' : (b.atR a (.inRegion ops (i :: rest) :: k)).roundOf = none := hro
  simp [stepG.apply, Sem.runT_eq, hr, hro', ht]
theorem stepOp_norecover (ho : ops[i]? = some o) (hw : Region.wanted o (yielded ops a.tmps) = true) (hro : b.roundOf = none) (hr : (o.semAt b.roundOf a.eval).run P w = .ok .recover w')
    (ht : tryRecover (b.atR a (.inRegion ops (i :: rest) :: k)) cs = none) :
    step P (lone (b.atR a (.inRegion ops (i :: rest) :: k)) cs w) = .next (lone (b.atR (a.put o.dst .nilIface) (.inRegion ops rest :: k)) cs w') := by
  rw [← finishOp ho]
  refine step_lone_go ?_
  rw [stepGR_op ho hw]
  have hro' : (b.atR a (.inRegion ops (i :: rest) :: k)).roundOf = none := hro
  simp [stepG.apply, Sem.runT_eq, hr, hro', ht]
end

/-! ## Callers -/
/-- The frames below: of a plain call; or of a deferred one, whose first frame may be recovered. -/
inductive K where
  | plain (cs : List Frame)
  | dfr (c : Frame) (cs : List Frame)
def K.cs : K → FrameMode → List Frame
  | .plain cs, _ => cs
  | .dfr c cs, u => { c with mode := u } :: cs
def K.kind : K → CallKind
  | .plain _ => .normal
  | .dfr _ _ => .deferred
def UR (σ : S) : CM → K → FrameMode → Prop
  | .plain, .plain _, _ => True
  | .ret, .dfr _ _, u => u = .returning
  | .pan v r, .dfr _ _, u => ∃ v', u = .panicking [{ v := v', recovered := r }] ∧ VR σ v v'
  | _, _, _ => False
theorem UR.up {σ σ' : S} (h : Up σ σ') {cm : CM} {K0 : K} {u : FrameMode} (x : UR σ cm K0 u) : UR σ' cm K0 u := by
  cases cm <;> cases K0 <;> first | exact x | (obtain ⟨v', e, hv⟩ := x; exact ⟨v', e, hv.up h⟩)

def RdR (σ : S) : Option B → Option Nat → Prop
  | none, none => True
  | some b, some l => BR σ b l
  | _, _ => False
theorem RdR.up {σ σ' : S} (u : Up σ σ') {a : Option B} {b : Option Nat} (h : RdR σ a b) : RdR σ' a b := by
  cases a <;> cases b <;> first | exact h | exact BR.up u h

/-- Where the machine comes to: as the evaluator's way out of a piece of code has it. -/
def Arr (P : Program) (σ : S) (m : Machine) (b : Frame) (ks : List Item) (cs : List Frame) (a : Act) (w : World) : Ex → Prop
  | .normal => Steps P m (lone (b.atR a ks) cs w)
  | .exit id => ∃ k2, Steps P m (lone (b.atR a (.code (.exit id) :: k2)) cs w) ∧ exitTo id k2 = exitTo id ks
  | .goto l => ∃ k2, Steps P m (lone (b.atR a (.code (.goto l) :: k2)) cs w) ∧ gotoIn l k2 = gotoIn l ks
  | .ret => ∃ k2, Steps P m (lone (b.atR a (.code .ret :: k2)) cs w)
  | .pan v => ∃ k2 v', VR σ v v' ∧ Steps P m (lone { b.atR a k2 with mode := .panicking [{ v := v', recovered := false }] } cs w)

theorem Arr.of_steps {P : Program} {σ : S} {m m1 : Machine} {b : Frame} {ks : List Item} {cs : List Frame} {a : Act} {w : World} {e : Ex} (h : Steps P m m1) (x : Arr P σ m1 b ks cs a w e) : Arr P σ m b ks cs a w e := by
  cases e with
  | normal => exact h.trans x
  | exit id => obtain ⟨k2, x, e⟩ := x; exact ⟨k2, h.trans x, e⟩
  | goto l => obtain ⟨k2, x, e⟩ := x; exact ⟨k2, h.trans x, e⟩
  | ret => obtain ⟨k2, x⟩ := x; exact ⟨k2, h.trans x⟩
  | pan v => obtain ⟨k2, v', hv, x⟩ := x; exact ⟨k2, v', hv, h.trans x⟩

/-- An item that every jump passes by. -/
theorem Arr.pass {P : Program} {σ : S} {m : Machine} {b : Frame} {x : Item} {ks : List Item} {cs : List Frame} {a : Act} {w : World} {e : Ex} (hx : ∀ id, exitTo id (x :: ks) = exitTo id ks) (hg : ∀ l, gotoIn l (x :: ks) = gotoIn l ks) (he : e ≠ .normal)
    (h : Arr P σ m b (x :: ks) cs a w e) : Arr P σ m b ks cs a w e := by
  cases e with
  | normal => exact absurd rfl he
  | exit id => obtain ⟨k2, s, e⟩ := h; exact ⟨k2, s, by rw [e, hx]⟩
  | goto l => obtain ⟨k2, s, e⟩ := h; exact ⟨k2, s, by rw [e, hg]⟩
  | ret => exact h
  | pan v => exact h

theorem wantedV_eq {σ : S} {fr : Fr} {a : Act} (hf : FrR σ fr a) (ops : Array Oper) (o : Oper) : Region.wanted o (yielded ops a.tmps) = wantedV ops fr o := by
  unfold Region.wanted wantedV yielded
  cases o.guard with
  | none => rfl
  | some g =>
    obtain ⟨j, want⟩ := g
    simp only
    cases hd : (ops[j]?).bind (·.dst) with
    | none => simp
    | some t =>
      simp only [Option.bind_some]
      cases hb : Nat.blt t fr.n with
      | true =>
        have hlt : t < fr.n := Nat.le_of_ble_eq_true hb
        have hr := hf.get t
        have hlt' : t < a.tmps.size := by rw [hf.tm.1]; exact hlt
        rw [Array.getD_eq_getD_getElem?, Array.getElem?_eq_getElem hlt'] at hr
        rw [Array.getElem?_eq_getElem hlt']
        simp only [Option.getD_some] at hr
        simp only [cond_true]
        cases hv : fr.get t with
        | bool q =>
          rw [hv] at hr
          generalize a.tmps[t] = y at hr
          cases hr
          cases q <;> cases want <;> rfl
        | _ =>
          rw [hv] at hr
          generalize a.tmps[t] = y at hr
          cases hr <;> first | rfl | (rename_i h; cases y <;> first | rfl | exact absurd rfl (h.bool _))
      | false =>
        have hge : ¬ t < fr.n := by intro c; have : Nat.blt t fr.n = true := Nat.ble_eq_true_of_le c; rw [this] at hb; cases hb
        rw [Array.getElem?_eq_none (by rw [hf.tm.1]; exact Nat.le_of_not_lt hge)]
        rfl

end Go.Proofs.Ab
