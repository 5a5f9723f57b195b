/- The evaluator's soundness, twelfth part: every operation that calls nothing. -/
import Derived.Test.YtelmlcciphafjaaGreatDoorAb14
namespace Go.Proofs.Ab
open Go

variable {P : Program}

structure FrR (σ : S) (fr : Fr) (a : Act) : Prop where
  tm : TmR σ fr.n fr.tmps a.tmps
  ds : DRs σ fr.ds a.defers

theorem FrR.up {σ σ' : S} (u : Up σ σ') {fr : Fr} {a : Act} (h : FrR σ fr a) : FrR σ' fr a := ⟨h.tm.up u, h.ds.up u⟩

theorem undef_rel (σ : S) : VR σ .u undef := .tup _ _ .nil

theorem Fr.get_eq (fr : Fr) (t : Nat) : fr.get t = (fr.tmps.get t).getD .u := by
  unfold Fr.get
  cases fr.tmps.get t <;> rfl

theorem Fr.putK_eq {β : Type} (fr : Fr) (d : Option Tmp) (v : V) (k : Fr → β) : fr.putK d v k = k (match d with | none => fr | some d => bif Nat.blt d fr.n then { fr with tmps := fr.tmps.set d v } else fr) := by
  unfold Fr.putK
  cases d with
  | none => rfl
  | some d =>
    simp only
    cases Nat.blt d fr.n with
    | true => simp only [cond_true, fV_eq, T.setK_set]
    | false => simp only [cond_false]
def Fr.put (fr : Fr) (d : Option Tmp) (v : V) : Fr := match d with | none => fr | some d => bif Nat.blt d fr.n then { fr with tmps := fr.tmps.set d v } else fr
theorem Fr.putK_put {β : Type} (fr : Fr) (d : Option Tmp) (v : V) (k : Fr → β) : fr.putK d v k = k (fr.put d v) := Fr.putK_eq fr d v k
theorem Fr.put_cm (fr : Fr) (d : Option Tmp) (v : V) : (fr.put d v).cm = fr.cm := by
  unfold Fr.put
  cases d with
  | none => rfl
  | some d => simp only; cases Nat.blt d fr.n <;> rfl
theorem Fr.put_n (fr : Fr) (d : Option Tmp) (v : V) : (fr.put d v).n = fr.n := by
  unfold Fr.put
  cases d with
  | none => rfl
  | some d => simp only; cases Nat.blt d fr.n <;> rfl
theorem Fr.put_ds (fr : Fr) (d : Option Tmp) (v : V) : (fr.put d v).ds = fr.ds := by
  unfold Fr.put
  cases d with
  | none => rfl
  | some d => simp only; cases Nat.blt d fr.n <;> rfl

theorem TmR.put {σ : S} {n : Nat} {t : T V} {a : Array Value} (h : TmR σ n t a) {v : V} {v' : Value} (hv : VR σ v v') (d : Nat) : TmR σ n (bif Nat.blt d n then t.set d v else t) (a.setIfInBounds d v') := by
  refine ⟨by simp [h.1], fun i hi => ?_, fun i hi => ?_⟩
  · cases hb : Nat.blt d n with
    | true =>
      have hd : d < n := Nat.le_of_ble_eq_true hb
      simp only [cond_true, T.get_set]
      rw [Array.getD_eq_getD_getElem?, Array.getElem?_setIfInBounds]
      by_cases hdi : d = i
      · subst hdi
        rw [if_pos rfl, if_pos rfl, if_pos (by rw [h.1]; exact hi)]
        exact hv
      · rw [if_neg (Ne.symm hdi), if_neg hdi, ← Array.getD_eq_getD_getElem?]
        exact h.2.1 i hi
    | false =>
      have hd : ¬ d < n := by intro c; have : Nat.blt d n = true := Nat.ble_eq_true_of_le c; rw [this] at hb; cases hb
      simp only [cond_false]
      rw [Array.getD_eq_getD_getElem?, Array.getElem?_setIfInBounds, if_neg (by omega), ← Array.getD_eq_getD_getElem?]
      exact h.2.1 i hi
  · cases hb : Nat.blt d n with
    | true =>
      have hd : d < n := Nat.le_of_ble_eq_true hb
      simp only [cond_true, T.get_set]
      rw [if_neg (by omega)]; exact h.2.2 i hi
    | false => exact h.2.2 i hi

theorem FrR.put {σ : S} {fr : Fr} {a : Act} (h : FrR σ fr a) {v : V} {v' : Value} (hv : VR σ v v') (d : Option Tmp) : FrR σ (fr.put d v) (a.put d v') := by
  cases d with
  | none => exact h
  | some d =>
    refine ⟨?_, ?_⟩
    · have := h.tm.put hv d
      unfold Fr.put Act.put
      simp only
      cases hb : Nat.blt d fr.n with
      | true => rw [hb] at this; exact this
      | false => rw [hb] at this; exact this
    · rw [Fr.put_ds]; exact h.ds

theorem FrR.get {σ : S} {fr : Fr} {a : Act} (h : FrR σ fr a) (t : Nat) : VR σ (fr.get t) (a.tmps.getD t undef) := by
  rw [Fr.get_eq]
  rcases Nat.lt_or_ge t fr.n with hlt | hge
  · exact h.tm.2.1 t hlt
  · rw [h.tm.2.2 t hge, Array.getD_eq_getD_getElem?, Array.getElem?_eq_none (by rw [h.tm.1]; exact hge)]
    exact undef_rel σ

theorem FrR.eval {σ : S} {fr : Fr} {a : Act} (h : FrR σ fr a) {x : Operand} {v : V} (e : fr.eval x = some v) : VR σ v (a.eval x) := by
  cases x with
  | tmp t => simp only [Fr.eval, Option.some.injEq] at e; subst e; exact h.get t
  | const c => exact ofV_ok e σ
  | global g =>
    simp only [Fr.eval, Option.some.injEq] at e; subst e
    exact .ptr _ _ ⟨rfl, rfl⟩
  | func f =>
    simp only [Fr.eval, Option.some.injEq] at e; subst e
    exact .fn _ _ _ _ _ .nil .nil

theorem FrR.evals {σ : S} {fr : Fr} {a : Act} (h : FrR σ fr a) : ∀ {xs : List Operand} {vs : List V}, fr.evals xs = some vs → VRs σ vs (xs.map a.eval)
  | [], vs, e => by simp [Fr.evals] at e; subst e; exact .nil
  | x :: xs, vs, e => by
    simp only [Fr.evals] at e
    rw [Option.bind_eq_some_iff] at e; obtain ⟨v, hv, e⟩ := e
    rw [Option.bind_eq_some_iff] at e; obtain ⟨r, hr, e⟩ := e
    injection e with e; subst e
    exact .cons _ _ _ _ (h.eval hv) (h.evals hr)

theorem FrR.evalPs {σ : S} {fr : Fr} {a : Act} (h : FrR σ fr a) : ∀ {xs : List (Nat × Operand)} {vs : List (Nat × V)}, evalPs fr xs = some vs → PsR σ vs (xs.map fun (i, x) => (i, a.eval x))
  | [], vs, e => by simp [Ab.evalPs] at e; subst e; exact .nil
  | (i, x) :: xs, vs, e => by
    simp only [Ab.evalPs] at e
    rw [Option.bind_eq_some_iff] at e; obtain ⟨v, hv, e⟩ := e
    rw [Option.bind_eq_some_iff] at e; obtain ⟨r, hr, e⟩ := e
    injection e with e; subst e
    exact .cons _ _ _ _ _ (h.eval hv) (h.evalPs hr)

theorem FrR.evalO {σ : S} {fr : Fr} {a : Act} (h : FrR σ fr a) {x : Option Operand} {v : Option V} (e : evalO fr x = some v) : OV σ v (x.map a.eval) := by
  cases x with
  | none => simp [Ab.evalO] at e; subst e; exact .none
  | some x =>
    simp only [Ab.evalO] at e
    rw [Option.bind_eq_some_iff] at e; obtain ⟨y, hy, e⟩ := e
    injection e with e; subst e
    exact .some _ _ (h.eval hy)

/-- What an operation leaves: a value; or nothing to be told, where 'undef' is laid. -/
def OpOk (P : Program) (σ : S) (h : H) (w : World) (s : Sem Next) (v : V) (h' : H) : Prop :=
  ∃ σ' w' v', Sim σ h w σ' h' w' ∧ VR σ' v v' ∧ (s.run P w = .ok (.value v') w' ∨ (s.run P w = .ok .skip w' ∧ v' = undef))

theorem VOk.op {σ : S} {h h' : H} {w : World} {s : Sem Value} {v : V} (x : VOk P σ h w s v h') {s' : Sem Next} (hs : s'.run P w = (s.run P w).andThen fun a w' => .ok (.value a) w') : OpOk P σ h w s' v h' := by
  obtain ⟨σ', w', v', h1, h2, h3⟩ := x
  exact ⟨σ', w', v', h1, h2, .inl (by rw [hs, h3]; rfl)⟩
theorem UOk.op {σ : S} {h h' : H} {w : World} {s : Sem Unit} (x : UOk P σ h w s h') {s' : Sem Next} (hs : s'.run P w = (s.run P w).andThen fun _ w' => .ok .skip w') : OpOk P σ h w s' .u h' := by
  obtain ⟨w', h1, h2⟩ := x
  exact ⟨σ, w', undef, h1, undef_rel σ, .inr ⟨by rw [hs, h2]; rfl, rfl⟩⟩

theorem eqGuardIn_run : ∀ (d : Nat) (t : Nat) (x y : Value) (w : World), P.eqGuardType d t = false → (∃ r w', (Op.eqGuardIn d t x y).run P w = .ok r w') ∨ True := fun _ _ _ _ _ _ => .inr trivial

theorem guardV_run {op : BinOp} {t : Nat} {x y : Operand} {a b : V} (h : guardV P t (isC x) (isC y) a b = true) {σ : S} {a' b' : Value} (ha : VR σ a a') (hb : VR σ b b') (w : World) : (eqGuard op t x y a' b').run P w = .ok () w := by
  have main : ∀ op : BinOp, (op = .eql ∨ op = .neq) → (eqGuard op t x y a' b').run P w = .ok () w := by
    intro op hop
    unfold guardV at h
    cases a with
    | any t => cases b <;> simp at h
    | niliface =>
      cases b with
      | any t => simp at h
      | niliface =>
        cases ha; cases hb
        simp only at h
        rcases hop with rfl | rfl <;> (cases x <;> cases y <;> simp [isC] at h <;> simp [eqGuard])
      | _ => rcases hop with rfl | rfl <;> (cases ha; cases hb <;> simp [eqGuard])
    | agg cs =>
      cases b with
      | any t => simp at h
      | agg ds =>
        cases ha; cases hb
        simp only [Bool.not_eq_true'] at h
        rcases hop with rfl | rfl <;> simp [eqGuard, h]
      | _ => rcases hop with rfl | rfl <;> (cases ha; cases hb <;> simp [eqGuard])
    | _ => rcases hop with rfl | rfl <;> (cases ha <;> cases hb <;> first | (simp [eqGuard]; done) | (simp at h; done))
  cases op <;> first | exact main _ (.inl rfl) | exact main _ (.inr rfl) | simp [eqGuard]

set_option maxHeartbeats 4000000 in
theorem binV_ok {σ : S} {h : H} {w : World} (r : Rel σ h w) {op : BinOp} {t : Nat} {x y : Operand} {a b v : V} (e : binV P op t (isC x) (isC y) a b = some v) {a' b' : Value} (ha : VR σ a a') (hb : VR σ b b') :
    VOk P σ h w (do eqGuard op t x y a' b'; binOp op t a' b') v h := by
  have plain : ∀ {v' : Value}, VR σ v v' → guardV P t (isC x) (isC y) a b = true → (binOp op t a' b').run P w = .ok v' w → VOk P σ h w (do eqGuard op t x y a' b'; binOp op t a' b') v h := by
    intro v' hv hg hr
    refine VOk.pure r hv ?_
    simp [guardV_run (op := op) hg ha hb w, hr]
  have gint : ∀ k n k' n', a = .int k n → b = .int k' n' → guardV P t (isC x) (isC y) a b = true := by intro k n k' n' ea eb; subst ea; subst eb; rfl
  have gstr : ∀ s s', a = .str s → b = .str s' → guardV P t (isC x) (isC y) a b = true := by intro s s' ea eb; subst ea; subst eb; rfl
  have noteq : (∀ o, op = o → o = .shl ∨ o = .shr ∨ o = .eql ∨ o = .neq ∨ True) := fun _ _ => .inr (.inr (.inr (.inr trivial)))
  unfold binV at e
  split at e
  · split at e
    · cases ha; cases hb
      obtain ⟨v', g1, g2⟩ := shV_run (P := P) e (σ := σ)
      exact plain g1 (gint _ _ _ _ rfl rfl) (by simp [binOp, g2])
    · cases e
  · split at e
    · cases ha; cases hb
      obtain ⟨v', g1, g2⟩ := shV_run (P := P) e (σ := σ)
      exact plain g1 (gint _ _ _ _ rfl rfl) (by simp [binOp, g2])
    · cases e
  · rename_i hsl hsr
    split at e
    · split at e
      · rename_i hk; subst hk
        cases ha; cases hb
        obtain ⟨v', g1, g2⟩ := intV_run (P := P) e (by intro c; exact hsl c) (by intro c; exact hsr c) (σ := σ) (t := t)
        exact plain g1 (gint _ _ _ _ rfl rfl) (g2 w)
      · cases e
    · rename_i s1 s2
      cases ha with | str _ b1 hb1 => cases hb with | str _ b2 hb2 =>
      have l1 : b1.toList = s1 := by rw [ByteArray.toList_eq]; exact hb1
      have l2 : b2.toList = s2 := by rw [ByteArray.toList_eq]; exact hb2
      have sz1 : b1.size = s1.length := by rw [← hb1]; rfl
      have sz2 : b2.size = s2.length := by rw [← hb2]; rfl
      have hbin : ∀ w, (binOp op t (.string b1) (.string b2)).run P w = (Op.stringOp op b1 b2).run P w := by
        intro w
        cases op <;> first | exact absurd rfl hsl | exact absurd rfl hsr | rfl
      unfold strV at e
      split at e
      · cases hle : Nat.ble (s1.length + s2.length) (2 ^ 40) with
        | false => rw [hle] at e; cases e
        | true =>
          rw [hle] at e
          simp only [cond_true, Option.some.injEq] at e
          subst e
          have := Nat.le_of_ble_eq_true hle
          refine plain (v' := .string (b1 ++ b2)) (.str _ _ (by rw [ByteArray.data_append, Array.toList_append, hb1, hb2])) (gstr _ _ rfl rfl) ?_
          rw [hbin]
          have hmax : ¬ (((b1.size + b2.size : Nat) : Int) > IntKind.i64.max) := by simp [IntKind.max, IntKind.bits, IntKind.signed, sz1, sz2]; omega
          simp only [Op.stringOp]
          rw [if_neg hmax]; rfl
      all_goals first
        | (cases e; refine plain (.bool _) (gstr _ _ rfl rfl) ?_; rw [hbin]; simp [Op.stringOp, l1, l2, bytesBeq_iff]; done)
        | cases e
    · rename_i hI hS
      split at e
      · cases hg : guardV P t (isC x) (isC y) a b with
        | false => rw [hg] at e; cases e
        | true =>
          rw [hg] at e
          simp only [cond_true] at e
          rw [Option.bind_eq_some_iff] at e; obtain ⟨q, hq, e⟩ := e
          injection e with e; subst e
          have heq := eqV_run eqLevels t a b q hq σ a' b' ha hb 10000 w (by decide)
          refine plain (.bool q) hg ?_
          have hni : ∀ k n k' n', ¬ (a = .int k n ∧ b = .int k' n') := by rintro k n k' n' ⟨e1, e2⟩; exact hI k n k' n' e1 e2
          have hns : ∀ s s', ¬ (a = .str s ∧ b = .str s') := by rintro s s' ⟨e1, e2⟩; exact hS s s' e1 e2
          have : (binOp .eql t a' b').run P w = ((Op.equal t a' b').run P w).andThen fun r w' => .ok (.bool r) w' := by
            cases ha <;> cases hb <;> first | exact absurd ⟨rfl, rfl⟩ (hni _ _ _ _) | exact absurd ⟨rfl, rfl⟩ (hns _ _) | (simp [binOp]; done) | (simp [guardV] at hg; done)
          rw [this]
          simp [Op.equal, Op.maxDepth, heq]
      · cases hg : guardV P t (isC x) (isC y) a b with
        | false => rw [hg] at e; cases e
        | true =>
          rw [hg] at e
          simp only [cond_true] at e
          rw [Option.bind_eq_some_iff] at e; obtain ⟨q, hq, e⟩ := e
          injection e with e; subst e
          have heq := eqV_run eqLevels t a b q hq σ a' b' ha hb 10000 w (by decide)
          refine plain (.bool (!q)) hg ?_
          have hni : ∀ k n k' n', ¬ (a = .int k n ∧ b = .int k' n') := by rintro k n k' n' ⟨e1, e2⟩; exact hI k n k' n' e1 e2
          have hns : ∀ s s', ¬ (a = .str s ∧ b = .str s') := by rintro s s' ⟨e1, e2⟩; exact hS s s' e1 e2
          have : (binOp .neq t a' b').run P w = ((Op.equal t a' b').run P w).andThen fun r w' => .ok (.bool (!r)) w' := by
            cases ha <;> cases hb <;> first | exact absurd ⟨rfl, rfl⟩ (hni _ _ _ _) | exact absurd ⟨rfl, rfl⟩ (hns _ _) | (simp [binOp]; done) | (simp [guardV] at hg; done)
          rw [this]
          simp [Op.equal, Op.maxDepth, heq]
      · cases e

end Go.Proofs.Ab
