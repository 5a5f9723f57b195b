/- The evaluator's soundness, thirteenth part: the theorem over all operations that call nothing. -/
import Derived.Test.YtelmlcciphafjaaGreatDoorAb15
namespace Go.Proofs.Ab
open Go

variable {P : Program}

theorem unV_ok {σ : S} {op : UnOp} {x v : V} (e : unV op x = some v) {x' : Value} (hx : VR σ x x') : ∃ v', VR σ v v' ∧ ∀ w, (Op.unary op x').run P w = .ok v' w := by
  unfold unV at e
  cases op with
  | neg =>
    simp only at e
    split at e
    · cases e; cases hx; exact ⟨_, .int _ _, fun w => by simp [Op.unary, Op.intArith]⟩
    · cases e
  | xor =>
    simp only at e
    split at e
    · cases hx
      unfold intV at e
      simp only at e
      cases e
      exact ⟨_, .int _ _, fun w => by simp [Op.unary, Op.intBits]⟩
    · cases e
  | not =>
    simp only at e
    split at e
    · cases e; cases hx; exact ⟨_, .bool _, fun w => by simp [Op.unary]⟩
    · cases e
  | plus => simp at e

theorem VOk.opv {σ : S} {h h' : H} {w : World} {s : Sem Value} {v : V} (x : VOk P σ h w s v h') {s' : Sem Next} (hs : s' = (do Pure.pure (Next.value (← s)))) : OpOk P σ h w s' v h' :=
  x.op (by subst hs; simp)
theorem UOk.opu {σ : S} {h h' : H} {w : World} {s : Sem Unit} (x : UOk P σ h w s h') {s' : Sem Next} (hs : s' = (do s; Pure.pure Next.skip)) : OpOk P σ h w s' .u h' :=
  x.op (by subst hs; simp)

theorem VOk.weak {σ : S} {h h' : H} {w : World} {s : Sem Value} {v1 v : V} (x : VOk P σ h w s v1 h') (f : ∀ σ' v', VR σ' v1 v' → VR σ' v v') : VOk P σ h w s v h' := by
  obtain ⟨σ', w', v', s1, s2, s3⟩ := x
  exact ⟨σ', w', v', s1, f _ _ s2, s3⟩

theorem intK_ok {σ : S} {x : V} {k : IntKind} (e : intK x = some k) {x' : Value} (hx : VR σ x x') : ∃ n, x' = .int k n := by
  cases hx <;> simp [intK] at e
  · rename_i t ht
    cases t <;> simp [intK] at e
    subst e
    exact ht
  · subst e; exact ⟨_, rfl⟩
theorem isStr_ok {σ : S} {x : V} (e : isStr x = true) {x' : Value} (hx : VR σ x x') : ∃ s : ByteArray, x' = .string s := by
  cases hx <;> simp [isStr] at e
  · rename_i t ht
    cases t <;> simp [isStr] at e
    exact ht
  · exact ⟨_, rfl⟩
theorem toInt {σ' : S} {k : IntKind} {n : Int} : ∀ v', VR σ' (.int k n) v' → VR σ' (.any (.int k)) v' := by
  intro v' h
  cases h
  exact .any _ _ ⟨n, rfl⟩

theorem anyBin_ok {σ : S} {h : H} {w : World} (r : Rel σ h w) {op : BinOp} {t : Nat} {x y : Operand} {a b v : V} (e : anyBin op a b = some v) {a' b' : Value} (ha : VR σ a a') (hb : VR σ b b') :
    VOk P σ h w (do eqGuard op t x y a' b'; binOp op t a' b') v h := by
  unfold anyBin at e
  cases hany : isAny a || isAny b with
  | false => rw [hany] at e; cases e
  | true =>
    rw [hany] at e
    simp only [cond_true] at e
    cases hr : isRing op with
    | true =>
      rw [hr] at e
      simp only [cond_true] at e
      split at e
      · rename_i k k' h1 h2
        split at e
        · rename_i hk
          subst hk
          injection e with e; subst e
          obtain ⟨n, rfl⟩ := intK_ok h1 ha
          obtain ⟨m, rfl⟩ := intK_ok h2 hb
          cases op <;> simp [isRing] at hr <;> exact (binV_ok r (by simp [binV, intV]; rfl) (.int k n) (.int k m)).weak fun _ => toInt
        · cases e
      · cases e
    | false =>
      rw [hr] at e
      simp only [cond_false] at e
      cases hs : isShift op with
      | false =>
        rw [hs] at e
        simp only [cond_false] at e
        cases hd : isDiv op with
        | false => rw [hd] at e; cases e
        | true =>
          rw [hd] at e
          simp only [cond_true] at e
          split at e
          · rename_i k k' q h1
            split at e
            · rename_i hk
              subst hk
              split at e
              · cases e
              · rename_i hq
                injection e with e; subst e
                obtain ⟨n, rfl⟩ := intK_ok h1 ha
                cases hb
                cases op <;> simp [isDiv] at hd <;> exact (binV_ok r (by simp [binV, intV, hq]; rfl) (.int k n) (.int _ _)).weak fun _ => toInt
            · cases e
          · cases e
      | true =>
        rw [hs] at e
        simp only [cond_true] at e
        split at e
        · rename_i k k' q h1
          split at e
          · cases e
          · rename_i hq
            injection e with e; subst e
            obtain ⟨n, rfl⟩ := intK_ok h1 ha
            cases hb
            cases op <;> simp [isShift] at hs <;> exact (binV_ok r (by simp [binV, shV, hq]; rfl) (.int k n) (.int _ _)).weak fun _ => toInt
        · cases e

theorem anyCmp_ok {σ : S} {h : H} {w : World} (r : Rel σ h w) {op : BinOp} {t : Nat} {x y : Operand} {a b : V} (e : anyCmp op a b = true) {a' b' : Value} (ha : VR σ a a') (hb : VR σ b b') :
    ∃ q, VOk P σ h w (do eqGuard op t x y a' b'; binOp op t a' b') (.bool q) h := by
  unfold anyCmp at e
  simp only [Bool.and_eq_true] at e
  obtain ⟨⟨_, hc⟩, e⟩ := e
  split at e
  · rename_i k k' h1 h2
    have hk := of_decide_eq_true e
    subst hk
    obtain ⟨n, rfl⟩ := intK_ok h1 ha
    obtain ⟨m, rfl⟩ := intK_ok h2 hb
    cases op <;> simp [isCmp] at hc <;> exact ⟨_, binV_ok r (by simp only [binV, intV, ↓reduceIte]; rfl) (.int k n) (.int k m)⟩
  · rw [Bool.and_eq_true] at e
    obtain ⟨s, rfl⟩ := isStr_ok e.1 ha
    obtain ⟨s', rfl⟩ := isStr_ok e.2 hb
    cases op <;> simp [isCmp] at hc <;> exact ⟨_, binV_ok r (by simp only [binV, strV]; rfl) (.str _ s rfl) (.str _ s' rfl)⟩

theorem anyUn_ok {σ : S} {op : UnOp} {x v : V} (e : anyUn op x = some v) {x' : Value} (hx : VR σ x x') : ∃ v', VR σ v v' ∧ ∀ w, (Op.unary op x').run P w = .ok v' w := by
  unfold anyUn at e
  split at e
  · rename_i k
    cases hx with | any _ _ hx =>
    obtain ⟨n, rfl⟩ := hx
    cases op with
    | neg =>
      cases e
      obtain ⟨v', h1, h2⟩ := unV_ok (P := P) (σ := σ) (op := .neg) (x := .int k n) rfl (.int k n)
      exact ⟨v', toInt _ h1, h2⟩
    | xor =>
      cases e
      obtain ⟨v', h1, h2⟩ := unV_ok (P := P) (σ := σ) (op := .xor) (x := .int k n) rfl (.int k n)
      exact ⟨v', toInt _ h1, h2⟩
    | not => cases e
    | plus => cases e
  · cases e

theorem anyConv_ok {σ : S} {h : H} {w : World} (r : Rel σ h w) {src dst : Nat} {x v : V} (e : anyConv P src dst x = some v) {x' : Value} (hx : VR σ x x') : VOk P σ h w (convert src dst x') v h := by
  unfold anyConv at e
  split at e
  · rename_i k
    cases hx with | any _ _ hx =>
    obtain ⟨n, rfl⟩ := hx
    split at e
    · rename_i h1 h2
      injection e with e; subst e
      exact (convertV_ok r (by simp only [convertV, h1, h2]; rfl) (.int k n)).weak fun _ => toInt
    · cases e
  · cases e

theorem anyLen_ok {σ : S} {h : H} {w : World} (r : Rel σ h w) {t ty : Nat} {ts : Array TypeId} (hts : ts[0]? = some t) {x v : V} (e : anyLen P t x = some v) {x' : Value} (hx : VR σ x x') : VOk P σ h w (Builtin.len_ ts ty #[x']) v h := by
  unfold anyLen at e
  split at e
  · cases hx with | any _ _ hx =>
    obtain ⟨s, rfl⟩ := hx
    split at e
    · rename_i h1
      injection e with e; subst e
      exact (lenV_ok r hts (by simp [lenV, h1]; rfl) (.str _ s rfl)).weak fun _ => toInt
    · cases e
  · cases e

theorem toList_map_eval {a : Act} {xs : Array Operand} : (xs.map a.eval).toList = xs.toList.map a.eval := Array.toList_map

theorem row_vok {σ : S} {h h' : H} {w : World} (r : Rel σ h w) {t : TypeId} {v z : V} {z' : Value} (hz : VR σ z z') (e : (h.row z.cells fun a h => some (.ptr a, h)) = some (v, h')) : VOk P σ h w (Instr.box t z') v h' := by
  obtain ⟨ha, e⟩ := H.row_eq e
  simp only [Option.some.injEq, Prod.mk.injEq] at e
  obtain ⟨rfl, rfl⟩ := e
  exact ⟨_, _, _, newRow_ok r t hz.cells ha, .ptr _ _ row_addr, by simp [Instr.box, newVar, newRow_run]⟩

theorem OpOk.skipValue {σ : S} {h : H} {w : World} (r : Rel σ h w) {s : Sem Next} {v : V} {v' : Value} (hv : VR σ v v') (hs : s.run P w = .ok (.value v') w) : OpOk P σ h w s v h := ⟨σ, w, v', Sim.refl r, hv, .inl hs⟩

theorem execOp_builtin (a : Act) (o : Oper) (b : Builtin) (args : Array Operand) (argTypes : Array TypeId) (ho : o.op = .call { callee := .builtin b, args, argTypes }) (w : World) :
    (execOp a.eval o).run P w = (builtin b argTypes o.type (args.map fun | .const _ => true | _ => false) (args.map a.eval)).run P w := by
  simp only [execOp, ho, resolve, Sem.run_bind, Sem.run_pure, Result.andThen_ok, invoke]
  rfl

set_option maxHeartbeats 4000000 in
theorem opV_ok {σ : S} {h h' : H} {w : World} (r : Rel σ h w) {fr : Fr} {a : Act} (hf : FrR σ fr a) {o : Oper} {v : V} (e : opV P fr h o.op = some (v, h')) : OpOk P σ h w (execOp a.eval o) v h' := by
  have pureOk : ∀ {x : V} {x' : Value}, VR σ x x' → some (x, h) = some (v, h') → (execOp a.eval o).run P w = .ok (.value x') w → OpOk P σ h w (execOp a.eval o) v h' := by
    intro x x' hx e hs
    injection e with e; injection e with e1 e2; subst e1; subst e2
    exact ⟨σ, w, x', Sim.refl r, hx, .inl hs⟩
  have doneU : ∀ {s : Sem Unit} {h2 : H}, UOk P σ h w s h2 → some (V.u, h2) = some (v, h') → execOp a.eval o = (do s; pure Next.skip) → OpOk P σ h w (execOp a.eval o) v h' := by
    intro s h2 hu e hs
    injection e with e; injection e with e1 e2; subst e1; subst e2
    exact hu.opu hs
  have valV : ∀ {s : Sem Value} {x : V}, VOk P σ h w s x h → some (x, h) = some (v, h') → execOp a.eval o = (do pure (Next.value (← s))) → OpOk P σ h w (execOp a.eval o) v h' := by
    intro s x hv e hs
    injection e with e; injection e with e1 e2; subst e1; subst e2
    exact hv.opv hs
  unfold opV at e
  cases ho : o.op with
  | move x =>
    simp only [ho] at e
    rw [Option.bind_eq_some_iff] at e; obtain ⟨x1, h1, e⟩ := e
    exact pureOk (hf.eval h1) e (by simp [execOp, ho])
  | assign x =>
    simp only [ho] at e
    rw [Option.bind_eq_some_iff] at e; obtain ⟨x1, h1, e⟩ := e
    exact pureOk (hf.eval h1) e (by simp [execOp, ho])
  | pick c x y =>
    simp only [ho] at e
    rw [Option.bind_eq_some_iff] at e; obtain ⟨c1, h1, e⟩ := e
    have hc := hf.eval h1
    split at e
    · rw [Option.bind_eq_some_iff] at e; obtain ⟨x1, h2, e⟩ := e
      have : a.eval c = .bool true := by generalize a.eval c = q at hc; cases hc; rfl
      exact pureOk (hf.eval h2) e (by simp [execOp, ho, this, asBool])
    · rw [Option.bind_eq_some_iff] at e; obtain ⟨x1, h2, e⟩ := e
      have : a.eval c = .bool false := by generalize a.eval c = q at hc; cases hc; rfl
      exact pureOk (hf.eval h2) e (by simp [execOp, ho, this, asBool])
    · cases e
  | alloc t =>
    simp only [ho] at e
    rw [Option.bind_eq_some_iff] at e; obtain ⟨z, hz, e⟩ := e
    obtain ⟨z', hzr, hzrun⟩ := zeroT_run hz σ
    obtain ⟨σ', w', v', s1, s2, s3⟩ := row_vok (P := P) r (t := t) hzr e
    refine ⟨σ', w', v', s1, s2, .inl ?_⟩
    simp only [Instr.box, Sem.run_bind, Sem.run_pure] at s3
    simp only [execOp, ho, Instr.alloc, Sem.run_bind, hzrun, Result.andThen_ok, Sem.run_pure, s3]
  | box t x =>
    simp only [ho] at e
    rw [Option.bind_eq_some_iff] at e; obtain ⟨x1, h1, e⟩ := e
    exact (row_vok (P := P) r (t := t) (hf.eval h1) e).opv (by simp only [execOp, ho] <;> rfl)
  | build t ps =>
    simp only [ho] at e
    rw [Option.bind_eq_some_iff] at e; obtain ⟨l, h1, e⟩ := e
    rw [Option.bind_eq_some_iff] at e; obtain ⟨x, h2, e⟩ := e
    obtain ⟨v', g1, g2⟩ := buildV_ok (parts' := ps.map fun (i, x) => (i, a.eval x)) h2 (by rw [Array.toList_map]; exact hf.evalPs h1)
    exact pureOk g1 e (by simp only [execOp, ho, Sem.run_bind, g2, Result.andThen_ok, Sem.run_pure])
  | buildSlice t n ps =>
    simp only [ho] at e
    rw [Option.bind_eq_some_iff] at e; obtain ⟨l, h1, e⟩ := e
    exact (buildSliceV_ok (parts' := ps.map fun (i, x) => (i, a.eval x)) r e (by rw [Array.toList_map]; exact hf.evalPs h1)).opv (by simp only [execOp, ho] <;> rfl)
  | load t x =>
    simp only [ho] at e
    rw [Option.bind_eq_some_iff] at e; obtain ⟨x1, h1, e⟩ := e
    have hx := hf.eval h1
    split at e
    · rw [Option.bind_eq_some_iff] at e; obtain ⟨y, h2, e⟩ := e
      generalize hq : a.eval x = q at hx
      cases hx with | ptr _ a' ha =>
      obtain ⟨v', g1, g2⟩ := loadT_run h2 r ha
      exact pureOk g1 e (by simp [execOp, ho, hq, Instr.loadAt, Instr.sureAddr, g2])
    · cases e
  | store t x y =>
    simp only [ho] at e
    rw [Option.bind_eq_some_iff] at e; obtain ⟨x1, h1, e⟩ := e
    rw [Option.bind_eq_some_iff] at e; obtain ⟨y1, h2, e⟩ := e
    have hx := hf.eval h1
    split at e
    · generalize hq : a.eval x = q at hx
      cases hx with | ptr _ a' ha =>
      obtain ⟨h3, w3, e3, sim, g2⟩ := storeT_run e r ha (hf.eval h2)
      refine doneU (s := Instr.storeAt t (a.eval x) (a.eval y)) ⟨w3, sim, ?_⟩ e3 (by simp only [execOp, ho] <;> rfl)
      simp [hq, Instr.storeAt, Instr.sureAddr, g2]
    · cases e
  | nilCheck x =>
    simp only [ho] at e
    rw [Option.bind_eq_some_iff] at e; obtain ⟨x1, h1, e⟩ := e
    have hx := hf.eval h1
    split at e
    · have hx0 := hx
      generalize hq : a.eval x = q at hx
      cases hx with | ptr _ a' ha =>
      exact pureOk (.ptr _ _ ha) e (by simp [execOp, ho, hq])
    · generalize hq : a.eval x = q at hx
      cases hx with | fn f _ _ xs' ys' h1 h2 =>
      exact pureOk (.fn _ _ _ _ _ h1 h2) e (by simp [execOp, ho, hq])
    · cases e
  | binOp op t x y u =>
    simp only [ho] at e
    rw [Option.bind_eq_some_iff] at e; obtain ⟨x1, h1, e⟩ := e
    rw [Option.bind_eq_some_iff] at e; obtain ⟨y1, h2, e⟩ := e
    split at e
    · rename_i z h3
      exact valV (anyBin_ok r h3 (hf.eval h1) (hf.eval h2)) e (by simp only [execOp, ho] <;> rfl)
    · rw [Option.bind_eq_some_iff] at e; obtain ⟨z, h3, e⟩ := e
      exact valV (binV_ok r h3 (hf.eval h1) (hf.eval h2)) e (by simp only [execOp, ho] <;> rfl)
  | unOp op t x =>
    simp only [ho] at e
    rw [Option.bind_eq_some_iff] at e; obtain ⟨x1, h1, e⟩ := e
    split at e
    · rename_i z h3
      obtain ⟨v', g1, g2⟩ := anyUn_ok (P := P) h3 (hf.eval h1)
      exact pureOk g1 e (by simp [execOp, ho, g2])
    · rw [Option.bind_eq_some_iff] at e; obtain ⟨z, h3, e⟩ := e
      obtain ⟨v', g1, g2⟩ := unV_ok (P := P) h3 (hf.eval h1)
      exact pureOk g1 e (by simp [execOp, ho, g2])
  | convert s d x =>
    simp only [ho] at e
    rw [Option.bind_eq_some_iff] at e; obtain ⟨x1, h1, e⟩ := e
    split at e
    · rename_i z h3
      exact valV (anyConv_ok r h3 (hf.eval h1)) e (by simp only [execOp, ho] <;> rfl)
    · exact (convertV_ok r e (hf.eval h1)).opv (by simp only [execOp, ho] <;> rfl)
  | sliceToArrayPointer t x =>
    simp only [ho] at e
    rw [Option.bind_eq_some_iff] at e; obtain ⟨x1, h1, e⟩ := e
    have hx := hf.eval h1
    split at e
    · rename_i n el a0 len c hu
      cases hc : (Nat.ble n len && Nat.blt 0 c) with
      | false => rw [hc] at e; cases e
      | true =>
        rw [hc] at e
        simp only [cond_true] at e
        simp only [Bool.and_eq_true] at hc
        have hle := Nat.le_of_ble_eq_true hc.1
        have hpos : 0 < c := Nat.le_of_ble_eq_true hc.2
        generalize hq : a.eval x = q at hx
        cases hx with | slk _ a' _ _ ha hlc =>
        have ha : AR σ a0 a' := by rcases ha with rfl | ha; · omega
                                   · exact ha
        exact pureOk (.ptr _ _ ha) e (by simp [execOp, ho, hq, Instr.arrayAt, run_underlying hu]; intro c; omega)
    · rename_i n el a0 len z hu
      cases hc : (Nat.ble n len && Nat.blt 0 n) with
      | false => rw [hc] at e; cases e
      | true =>
        rw [hc] at e
        simp only [cond_true] at e
        simp only [Bool.and_eq_true] at hc
        have hle := Nat.le_of_ble_eq_true hc.1
        have hpos : 0 < n := Nat.le_of_ble_eq_true hc.2
        generalize hq : a.eval x = q at hx
        cases hx with | slt _ a' _ _ c ht =>
        have := ht.le
        exact pureOk (.ptr _ _ (ht.addr (by omega))) e (by simp [execOp, ho, hq, Instr.arrayAt, run_underlying hu]; intro c; omega)
    · cases e
  | makeInterface t x =>
    simp only [ho] at e
    rw [Option.bind_eq_some_iff] at e; obtain ⟨x1, h1, e⟩ := e
    split at e
    · cases e
    · rename_i d hni hu
      refine pureOk (.iface t _ _ (hf.eval h1)) e ?_
      simp only [execOp, ho, Instr.makeInterface, Sem.run_bind, run_underlying hu, Result.andThen_ok]
      cases d <;> first | rfl | exact absurd hu (hni _)
    · cases e
  | makeFunc f xs ys =>
    simp only [ho] at e
    rw [Option.bind_eq_some_iff] at e; obtain ⟨x1, h1, e⟩ := e
    rw [Option.bind_eq_some_iff] at e; obtain ⟨y1, h2, e⟩ := e
    split at e
    · rename_i fid
      refine pureOk (.fn fid _ _ (xs.map a.eval) (ys.map a.eval) (by rw [toList_map_eval]; exact hf.evals h1) (by rw [toList_map_eval]; exact hf.evals h2)) e ?_
      simp [execOp, ho, Instr.makeFunc]
    · cases e
  | makeMap t rs =>
    simp only [ho] at e
    have fin : ∀ {x : V}, (h.newK (.map [] 0) fun i h => some (V.map (.own i), h)) = some (v, h') → VOk P σ h w (do pure (.map (some (← newObj (.map #[] 0))))) v h' := by
      intro x e
      simp only [H.newK_eq, Option.some.injEq, Prod.mk.injEq] at e
      obtain ⟨rfl, rfl⟩ := e
      refine ⟨_, _, _, r.alloc (ext := 0) (o' := .map #[] 0) ⟨rfl, rfl, rfl, #[], rfl, .nil⟩, .map (.own h.next) w.heap.size ?_, by simp [World.push]⟩
      exact S.bind_self σ _ _ _
    cases rs with
    | none =>
      simp only at e
      exact (fin (x := .nilp) e).opv (by simp only [execOp, ho, Instr.makeMap, Option.map_none])
    | some x =>
      simp only at e
      rw [Option.bind_eq_some_iff] at e; obtain ⟨ke, hk, e⟩ := e
      rw [Option.bind_eq_some_iff] at e; obtain ⟨x1, h1, e⟩ := e
      rw [Option.bind_eq_some_iff] at e; obtain ⟨i, hi, e⟩ := e
      obtain ⟨q, rfl⟩ := intOfV_eq hi
      have hx := hf.eval h1
      generalize hq : a.eval x = y at hx
      cases hx
      obtain ⟨k, el⟩ := ke
      obtain ⟨σ', w', v', s1, s2, s3⟩ := fin (x := .nilp) e
      refine ⟨σ', w', v', s1, s2, .inl ?_⟩
      simp only [Sem.run_bind] at s3
      simp only [execOp, ho, Instr.makeMap, Option.map_some, Sem.run_bind, run_underlying (keyT_run hk), Result.andThen_ok, hq, asInt, asIntOf, Sem.run_pure, s3]
      first | (simp only [Sem.run_pure] at s3; rw [s3]; rfl) | skip
  | makeSlice t l c =>
    simp only [ho] at e
    rw [Option.bind_eq_some_iff] at e; obtain ⟨x1, h1, e⟩ := e
    rw [Option.bind_eq_some_iff] at e; obtain ⟨y1, h2, e⟩ := e
    exact (makeSliceV_ok r e (hf.eval h1) (hf.eval h2)).opv (by simp only [execOp, ho] <;> rfl)
  | slice t x lo hi mx =>
    simp only [ho] at e
    rw [Option.bind_eq_some_iff] at e; obtain ⟨x1, h1, e⟩ := e
    rw [Option.bind_eq_some_iff] at e; obtain ⟨l1, h2, e⟩ := e
    rw [Option.bind_eq_some_iff] at e; obtain ⟨hi1, h3, e⟩ := e
    rw [Option.bind_eq_some_iff] at e; obtain ⟨m1, h4, e⟩ := e
    rw [Option.bind_eq_some_iff] at e; obtain ⟨z, h5, e⟩ := e
    exact valV (sliceV_ok r h5 (hf.eval h1) (hf.evalO h2) (hf.evalO h3) (hf.evalO h4)) e (by simp only [execOp, ho] <;> rfl)
  | fieldAddr s x f =>
    simp only [ho] at e
    rw [Option.bind_eq_some_iff] at e; obtain ⟨x1, h1, e⟩ := e
    rw [Option.bind_eq_some_iff] at e; obtain ⟨z, h5, e⟩ := e
    exact valV (fieldAtV_ok r h5 (hf.eval h1)) e (by simp only [execOp, ho] <;> rfl)
  | field s x f =>
    simp only [ho] at e
    rw [Option.bind_eq_some_iff] at e; obtain ⟨x1, h1, e⟩ := e
    rw [Option.bind_eq_some_iff] at e; obtain ⟨z, h5, e⟩ := e
    exact valV (fieldV_ok r h5 (hf.eval h1)) e (by simp only [execOp, ho] <;> rfl)
  | indexAddr t x i =>
    simp only [ho] at e
    rw [Option.bind_eq_some_iff] at e; obtain ⟨x1, h1, e⟩ := e
    rw [Option.bind_eq_some_iff] at e; obtain ⟨y1, h2, e⟩ := e
    rw [Option.bind_eq_some_iff] at e; obtain ⟨z, h5, e⟩ := e
    exact valV (indexAtV_ok r h5 (hf.eval h1) (hf.eval h2)) e (by simp only [execOp, ho] <;> rfl)
  | index t x i =>
    simp only [ho] at e
    rw [Option.bind_eq_some_iff] at e; obtain ⟨x1, h1, e⟩ := e
    rw [Option.bind_eq_some_iff] at e; obtain ⟨y1, h2, e⟩ := e
    rw [Option.bind_eq_some_iff] at e; obtain ⟨z, h5, e⟩ := e
    exact valV (indexV_ok r h5 (hf.eval h1) (hf.eval h2)) e (by simp only [execOp, ho] <;> rfl)
  | lookup t x i ok =>
    simp only [ho] at e
    rw [Option.bind_eq_some_iff] at e; obtain ⟨x1, h1, e⟩ := e
    rw [Option.bind_eq_some_iff] at e; obtain ⟨y1, h2, e⟩ := e
    rw [Option.bind_eq_some_iff] at e; obtain ⟨z, h5, e⟩ := e
    exact valV (lookupV_ok r h5 (hf.eval h1) (hf.eval h2)) e (by simp only [execOp, ho] <;> rfl)
  | mapUpdate t m k x =>
    simp only [ho] at e
    rw [Option.bind_eq_some_iff] at e; obtain ⟨x1, h1, e⟩ := e
    rw [Option.bind_eq_some_iff] at e; obtain ⟨y1, h2, e⟩ := e
    rw [Option.bind_eq_some_iff] at e; obtain ⟨z1, h3, e⟩ := e
    rw [Option.bind_eq_some_iff] at e; obtain ⟨h4, h5, e⟩ := e
    exact doneU (updateV_ok r h5 (hf.eval h1) (hf.eval h2) (hf.eval h3)) e (by simp only [execOp, ho] <;> rfl)
  | insert t m k x =>
    simp only [ho] at e
    rw [Option.bind_eq_some_iff] at e; obtain ⟨x1, h1, e⟩ := e
    rw [Option.bind_eq_some_iff] at e; obtain ⟨y1, h2, e⟩ := e
    rw [Option.bind_eq_some_iff] at e; obtain ⟨z1, h3, e⟩ := e
    rw [Option.bind_eq_some_iff] at e; obtain ⟨h4, h5, e⟩ := e
    exact doneU (updateV_ok r h5 (hf.eval h1) (hf.eval h2) (hf.eval h3)) e (by simp only [execOp, ho] <;> rfl)
  | mapEntry t m k =>
    simp only [ho] at e
    rw [Option.bind_eq_some_iff] at e; obtain ⟨x1, h1, e⟩ := e
    rw [Option.bind_eq_some_iff] at e; obtain ⟨y1, h2, e⟩ := e
    exact (entryV_ok r e (hf.eval h1) (hf.eval h2)).opv (by simp only [execOp, ho] <;> rfl)
  | entryStore t m s x =>
    simp only [ho] at e
    rw [Option.bind_eq_some_iff] at e; obtain ⟨x1, h1, e⟩ := e
    rw [Option.bind_eq_some_iff] at e; obtain ⟨y1, h2, e⟩ := e
    rw [Option.bind_eq_some_iff] at e; obtain ⟨z1, h3, e⟩ := e
    rw [Option.bind_eq_some_iff] at e; obtain ⟨h4, h5, e⟩ := e
    exact doneU (entryStoreV_ok (t := t) r h5 (hf.eval h1) (hf.eval h2) (hf.eval h3)) e (by simp only [execOp, ho] <;> rfl)
  | range t x =>
    simp only [ho] at e
    rw [Option.bind_eq_some_iff] at e; obtain ⟨x1, h1, e⟩ := e
    exact (rangeV_ok r e (hf.eval h1)).opv (by simp only [execOp, ho] <;> rfl)
  | next x s =>
    cases s with
    | true =>
      simp only [ho] at e
      rw [Option.bind_eq_some_iff] at e; obtain ⟨x1, h1, e⟩ := e
      exact (nextStrV_ok (t := o.type) r e (hf.eval h1)).opv (by simp only [execOp, ho] <;> rfl)
    | false => simp [ho] at e
  | entry x =>
    simp only [ho] at e
    rw [Option.bind_eq_some_iff] at e; obtain ⟨x1, h1, e⟩ := e
    rw [Option.bind_eq_some_iff] at e; obtain ⟨z, h5, e⟩ := e
    exact valV (entryOfV_ok r h5 (hf.eval h1)) e (by simp only [execOp, ho] <;> rfl)
  | typeAssert x t u ok =>
    simp only [ho] at e
    rw [Option.bind_eq_some_iff] at e; obtain ⟨x1, h1, e⟩ := e
    rw [Option.bind_eq_some_iff] at e; obtain ⟨z, h5, e⟩ := e
    exact valV (assertV_ok r h5 (hf.eval h1)) e (by simp only [execOp, ho] <;> rfl)
  | extract x i =>
    simp only [ho] at e
    rw [Option.bind_eq_some_iff] at e; obtain ⟨x1, h1, e⟩ := e
    rw [Option.bind_eq_some_iff] at e; obtain ⟨z, h5, e⟩ := e
    exact valV (extractV_ok r h5 (hf.eval h1)) e (by simp only [execOp, ho] <;> rfl)
  | call c =>
    obtain ⟨callee, args, argTypes⟩ := c
    cases callee with
    | builtin b =>
      simp only [ho] at e
      rw [Option.bind_eq_some_iff] at e; obtain ⟨vs, h1, e⟩ := e
      have hvs := hf.evals h1
      have hrun := execOp_builtin (P := P) a o b args argTypes ho
      have hargs : (args.map a.eval).toList = args.toList.map a.eval := toList_map_eval
      have one : ∀ {x : V}, vs = [x] → ∃ x', args.map a.eval = #[x'] ∧ VR σ x x' := by
        intro x hx
        rw [hx] at hvs
        rw [← hargs] at hvs
        generalize args.map a.eval = q at hvs
        obtain ⟨l⟩ := q
        cases hvs with | cons _ y _ ys h1 h2 => cases h2; exact ⟨y, rfl, h1⟩
      have two : ∀ {x y : V}, vs = [x, y] → ∃ x' y', args.map a.eval = #[x', y'] ∧ VR σ x x' ∧ VR σ y y' := by
        intro x y hx
        rw [hx] at hvs
        rw [← hargs] at hvs
        generalize args.map a.eval = q at hvs
        obtain ⟨l⟩ := q
        cases hvs with | cons _ y _ ys h1 h2 => cases h2 with | cons _ z _ zs h3 h4 => cases h4; exact ⟨y, z, rfl, h1, h3⟩
      have bval : ∀ {s : Sem Value} {x : V} {h2 : H}, VOk P σ h w s x h2 → some (x, h2) = some (v, h') → (execOp a.eval o).run P w = (s.run P w).andThen (fun a w' => .ok (.value a) w') → OpOk P σ h w (execOp a.eval o) v h' := by
        intro s x h2 hv e hs
        injection e with e; injection e with e1 e2; subst e1; subst e2
        exact hv.op hs
      split at e
      · rename_i x t ts hts
        obtain ⟨x', ha', hx'⟩ := one rfl
        have ht0 : argTypes[0]? = some t := by rw [← Array.getElem?_toList, hts]; rfl
        split at e
        · rename_i z h5
          exact bval (anyLen_ok (ty := o.type) r ht0 h5 hx') e (by rw [hrun, ha']; simp [builtin])
        · rw [Option.bind_eq_some_iff] at e; obtain ⟨z, h5, e⟩ := e
          exact bval (lenV_ok (ty := o.type) r ht0 h5 hx') e (by rw [hrun, ha']; simp [builtin])
      · rename_i x t ts hts
        rw [Option.bind_eq_some_iff] at e; obtain ⟨z, h5, e⟩ := e
        obtain ⟨x', ha', hx'⟩ := one rfl
        have ht0 : argTypes[0]? = some t := by rw [← Array.getElem?_toList, hts]; rfl
        exact bval (capV_ok (ty := o.type) r ht0 h5 hx') e (by rw [hrun, ha']; simp [builtin])
      · rename_i s x t u hts
        obtain ⟨s', x', ha', hs', hx'⟩ := two rfl
        have hat : argTypes = #[t, u] := by obtain ⟨l⟩ := argTypes; simp at hts; rw [hts]
        split at e
        · rename_i d hu
          exact bval (appendV_ok (ty := o.type) r hu e hs' hx') rfl (by rw [hrun, ha', hat]; simp [builtin])
        · cases e
      · rename_i d s t ts hts
        obtain ⟨d', s', ha', hd', hs'⟩ := two rfl
        have ht0 : argTypes[0]? = some t := by rw [← Array.getElem?_toList, hts]; rfl
        exact bval (copyV_ok (u := t) (ty := o.type) r ht0 e hd' hs') rfl (by rw [hrun, ha']; simp [builtin])
      · rename_i m k t ts hts
        rw [Option.bind_eq_some_iff] at e; obtain ⟨h2, h5, e⟩ := e
        obtain ⟨m', k', ha', hm', hk'⟩ := two rfl
        have ht0 : argTypes[0]? = some t := by rw [← Array.getElem?_toList, hts]; rfl
        exact bval (deleteV_ok (ty := o.type) r ht0 h5 hm' hk') e (by rw [hrun, ha']; simp [builtin])
      · rename_i x t ts hts
        obtain ⟨x', ha', hx'⟩ := one rfl
        have ht0 : argTypes[0]? = some t := by rw [← Array.getElem?_toList, hts]; rfl
        split at e
        · rename_i d hu
          rw [Option.bind_eq_some_iff] at e; obtain ⟨h2, h5, e⟩ := e
          exact bval (clearV_ok (ty := o.type) r ht0 hu h5 hx') e (by rw [hrun, ha']; simp [builtin])
        · cases e
      · rename_i x rr
        rw [Option.bind_eq_some_iff] at e; obtain ⟨z, h5, e⟩ := e
        rw [← hargs] at hvs
        generalize hq : args.map a.eval = q at hvs
        obtain ⟨l⟩ := q
        cases hvs with | cons _ y _ ys h1 h2 =>
        obtain ⟨v', g1, g2⟩ := fold2V_ok (P := P) max2V_ok w rr x z h5 y ys h1 h2
        exact bval (VOk.pure (s := Builtin.max_ argTypes o.type ⟨y :: ys⟩) r g1 (by simp [Builtin.max_, g2])) e (by rw [hrun, hq]; simp [builtin])
      · rename_i x rr
        rw [Option.bind_eq_some_iff] at e; obtain ⟨z, h5, e⟩ := e
        rw [← hargs] at hvs
        generalize hq : args.map a.eval = q at hvs
        obtain ⟨l⟩ := q
        cases hvs with | cons _ y _ ys h1 h2 =>
        obtain ⟨v', g1, g2⟩ := fold2V_ok (P := P) min2V_ok w rr x z h5 y ys h1 h2
        exact bval (VOk.pure (s := Builtin.min_ argTypes o.type ⟨y :: ys⟩) r g1 (by simp [Builtin.min_, g2])) e (by rw [hrun, hq]; simp [builtin])
      · cases e
    | _ => simp [ho] at e
  | _ => simp [ho] at e

end Go.Proofs.Ab
