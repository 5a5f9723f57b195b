/- The evaluator's soundness, tenth part: maps. -/
import Derived.Test.YtelmlcciphafjaaGreatDoorAb12
namespace Go.Proofs.Ab
open Go

variable {P : Program}

mutual
theorem V.beq_eq : ∀ {a b : V}, V.beq a b = true → a = b
  | .any a, b, h => by cases b <;> simp [V.beq] at h; rw [h]
  | .bool a, b, h => by cases b <;> simp [V.beq] at h; rw [h]
  | .int k a, b, h => by cases b <;> simp [V.beq] at h; rw [h.1, h.2]
  | .str a, b, h => by cases b <;> simp [V.beq] at h; rw [h]
  | .nilp, b, h => by cases b <;> simp [V.beq] at h; rfl
  | .ptr a, b, h => by cases b <;> simp [V.beq] at h; rw [h]
  | .nilsl, b, h => by cases b <;> simp [V.beq] at h; rfl
  | .sl a l c, b, h => by cases b <;> simp [V.beq] at h; rw [h.1.1, h.1.2, h.2]
  | .nilmap, b, h => by cases b <;> simp [V.beq] at h; rfl
  | .map a, b, h => by cases b <;> simp [V.beq] at h; rw [h]
  | .nilfn, b, h => by cases b <;> simp [V.beq] at h; rfl
  | .fn f xs ys, b, h => by
    cases b <;> simp [V.beq] at h
    rw [h.1.1, V.beqs_eq h.1.2, V.beqs_eq h.2]
  | .niliface, b, h => by cases b <;> simp [V.beq] at h; rfl
  | .iface t v, b, h => by
    cases b <;> simp [V.beq] at h
    rw [h.1, V.beq_eq h.2]
  | .agg xs, b, h => by cases b <;> simp [V.beq] at h; rw [V.beqs_eq h]
  | .tup xs, b, h => by cases b <;> simp [V.beq] at h; rw [V.beqs_eq h]
theorem V.beqs_eq : ∀ {a b : List V}, V.beqs a b = true → a = b
  | [], b, h => by cases b <;> simp [V.beqs] at h; rfl
  | x :: xs, b, h => by
    cases b <;> simp [V.beqs] at h
    rw [V.beq_eq h.1, V.beqs_eq h.2]
end
mutual
theorem V.beq_refl : ∀ (a : V), V.beq a a = true
  | .any a => by simp [V.beq]
  | .bool a => by simp [V.beq]
  | .int k a => by simp [V.beq]
  | .str a => by simp [V.beq]
  | .nilp => by simp [V.beq]
  | .ptr a => by simp [V.beq]
  | .nilsl => by simp [V.beq]
  | .sl a l c => by simp [V.beq]
  | .nilmap => by simp [V.beq]
  | .map a => by simp [V.beq]
  | .nilfn => by simp [V.beq]
  | .fn f xs ys => by simp [V.beq, V.beqs_refl xs, V.beqs_refl ys]
  | .niliface => by simp [V.beq]
  | .iface t v => by simp [V.beq, V.beq_refl v]
  | .agg xs => by simp [V.beq, V.beqs_refl xs]
  | .tup xs => by simp [V.beq, V.beqs_refl xs]
theorem V.beqs_refl : ∀ (a : List V), V.beqs a a = true
  | [] => rfl
  | x :: xs => by simp [V.beqs, V.beq_refl x, V.beqs_refl xs]
end

theorem plainV_one {σ : S} {v : V} (h : plainV v = true) {a b : Value} (ha : VR σ v a) (hb : VR σ v b) : a = b ∧ ∀ n, Instr.sameBits n a a = true := by
  cases v <;> simp [plainV] at h
  · cases ha; cases hb; exact ⟨rfl, fun n => by cases n <;> simp [Instr.sameBits]⟩
  · cases ha; cases hb; exact ⟨rfl, fun n => by cases n <;> simp [Instr.sameBits]⟩
  · cases ha with | str _ x hx => cases hb with | str _ y hy =>
    have hxy : x = y := by
      obtain ⟨⟨x⟩⟩ := x; obtain ⟨⟨y⟩⟩ := y
      simp at hx hy
      rw [hx, hy]
    subst hxy
    have hxx : (x == x) = true := by
      obtain ⟨⟨l⟩⟩ := x
      show ((⟨l⟩ : Array UInt8) == ⟨l⟩) = true
      simp
    exact ⟨rfl, fun n => by cases n <;> simp [Instr.sameBits, hxx]⟩
theorem plainVs_one {σ : S} : ∀ {vs : List V}, plainVs vs = true → ∀ {a b : List Value}, VRs σ vs a → VRs σ vs b → a = b ∧ ∀ n, (a.zip a).all (fun (x, y) => Instr.sameBits n x y) = true
  | [], _, _, _, ha, hb => by cases ha; cases hb; simp
  | v :: vs, h, _, _, ha, hb => by
    simp only [plainVs, Bool.and_eq_true] at h
    cases ha with | cons _ x _ xs h1 h2 => cases hb with | cons _ y _ ys k1 k2 =>
    obtain ⟨rfl, g1⟩ := plainV_one h.1 h1 k1
    obtain ⟨rfl, g2⟩ := plainVs_one h.2 h2 k2
    exact ⟨rfl, fun n => by simp [g1 n, g2 n]⟩
theorem plainK_one {σ : S} {v : V} (h : plainK v = true) {a b : Value} (ha : VR σ v a) (hb : VR σ v b) : a = b ∧ Instr.sameBits 10000 a a = true := by
  by_cases hv : ∃ cs, v = .agg cs
  · obtain ⟨cs, rfl⟩ := hv
    simp only [plainK] at h
    cases ha with | agg _ x hx => cases hb with | agg _ y hy =>
    obtain ⟨e, g⟩ := plainVs_one h hx hy
    have : x = y := Array.toList_inj.1 e
    subst this
    exact ⟨rfl, by
      show (x.size == x.size && (x.toList.zip x.toList).all fun (p, q) => Instr.sameBits 9999 p q) = true
      rw [g 9999]; simp⟩
  · have : plainV v = true := by
      cases v <;> simp only [plainK] at h <;> first | exact h | exact absurd ⟨_, rfl⟩ hv
    obtain ⟨e, g⟩ := plainV_one this ha hb
    exact ⟨e, g _⟩
theorem keyThatStays_run {σ : S} {old k : V} (hp : plainK k = true) (hb : V.beq old k = true) {old' k' : Value} (ho : VR σ old old') (hk : VR σ k k') (w : World) : (Instr.keyThatStays old' k').run P w = .ok k' w ∧ old' = k' := by
  obtain rfl := V.beq_eq hb
  obtain ⟨rfl, g⟩ := plainK_one hp ho hk
  exact ⟨by simp [Instr.keyThatStays, g], rfl⟩

/-! ## Entries -/
def EqR (σ : S) (e : V × V × Nat) (e' : MapEntry) : Prop := VR σ e.1 e'.key ∧ VR σ e.2.1 e'.val ∧ e'.born = e.2.2
theorem ER.length {σ : S} {es : List (V × V × Nat)} {es' : List MapEntry} (h : ER σ es es') : es.length = es'.length := by
  induction h with
  | nil => rfl
  | cons => simp [*]
theorem ER.get {σ : S} {es : List (V × V × Nat)} {es' : List MapEntry} (h : ER σ es es') : ∀ (j : Nat) e, es[j]? = some e → ∃ e', es'[j]? = some e' ∧ EqR σ e e' := by
  induction h with
  | nil => intro j e he; simp at he
  | cons k v n k' v' es es' h1 h2 _ ih =>
    intro j e he
    cases j with
    | zero => simp at he; subst he; exact ⟨{ key := k', val := v', born := n }, by simp, h1, h2, rfl⟩
    | succ j => simpa using ih j e (by simpa using he)
theorem ER.of_get {σ : S} : ∀ {es : List (V × V × Nat)} {es' : List MapEntry}, es.length = es'.length → (∀ (j : Nat) e, es[j]? = some e → ∃ e', es'[j]? = some e' ∧ EqR σ e e') → ER σ es es'
  | [], [], _, _ => .nil
  | [], _ :: _, h, _ => by simp at h
  | _ :: _, [], h, _ => by simp at h
  | (k, v, n) :: es, e' :: es', h, g => by
    obtain ⟨x', ex, h1, h2, h3⟩ := g 0 (k, v, n) (by simp)
    simp at ex; subst ex
    obtain ⟨k', v', b⟩ := e'
    simp only at h1 h2 h3
    subst h3
    exact .cons k v _ k' v' es es' h1 h2 (ER.of_get (by simpa using h) fun j e he => by simpa using g (j + 1) e (by simpa using he))
theorem ER.append {σ : S} {a b : List (V × V × Nat)} {a' b' : List MapEntry} (h : ER σ a a') (g : ER σ b b') : ER σ (a ++ b) (a' ++ b') := by
  induction h with
  | nil => exact g
  | cons k v n k' v' es es' h1 h2 _ ih => exact .cons _ _ _ _ _ _ _ h1 h2 ih
theorem setE_get (k x : V) : ∀ (i : Nat) (es : List (V × V × Nat)) (j : Nat), (setE k x i es)[j]? = if j = i then (es[j]?).map (fun e => (k, x, e.2.2)) else es[j]?
  | i, [], j => by simp [setE]
  | 0, e :: es, j => by cases j <;> simp [setE]
  | i + 1, e :: es, j => by
    cases j with
    | zero => simp [setE]
    | succ j => simp [setE, setE_get k x i es j]
theorem setE_length (k x : V) : ∀ (i : Nat) (es : List (V × V × Nat)), (setE k x i es).length = es.length
  | i, [] => by simp [setE]
  | 0, e :: es => by simp [setE]
  | i + 1, e :: es => by simp [setE, setE_length k x i es]
theorem delE_eq : ∀ (i : Nat) (es : List (V × V × Nat)), delE i es = es.eraseIdx i
  | i, [] => by simp [delE]
  | 0, e :: es => by simp [delE]
  | i + 1, e :: es => by simp [delE, delE_eq i es]
theorem ER.erase {σ : S} {es : List (V × V × Nat)} {es' : List MapEntry} (h : ER σ es es') : ∀ (i : Nat), ER σ (es.eraseIdx i) (es'.eraseIdx i) := by
  induction h with
  | nil => intro i; simpa using ER.nil
  | cons k v n k' v' es es' h1 h2 h3 ih =>
    intro i
    cases i with
    | zero => simpa using h3
    | succ i => simpa using ER.cons _ _ _ _ _ _ _ h1 h2 (ih i)
theorem ER.set {σ : S} {es : List (V × V × Nat)} {es' : Array MapEntry} (h : ER σ es es'.toList) {k x : V} {k' x' : Value} (hk : VR σ k k') (hx : VR σ x x') (i : Nat) (f : MapEntry → MapEntry) (hf : ∀ e, es'[i]? = some e → f e = { e with key := k', val := x' }) :
    ER σ (setE k x i es) (es'.modify i f).toList := by
  refine ER.of_get (by rw [setE_length, h.length]; simp) fun j e he => ?_
  rw [setE_get] at he
  rw [Array.getElem?_toList, Array.getElem?_modify]
  by_cases hj : j = i
  · subst hj
    rw [if_pos rfl] at he
    cases hq : es[j]? with
    | none => simp [hq] at he
    | some q =>
      simp [hq] at he; subst he
      obtain ⟨q', g1, g2, g3, g4⟩ := h.get _ _ hq
      rw [Array.getElem?_toList] at g1
      refine ⟨f q', by simp [g1], ?_⟩
      rw [hf _ g1]
      exact ⟨hk, hx, g4⟩
  · rw [if_neg hj] at he
    obtain ⟨q', g1, g2⟩ := h.get _ _ he
    rw [Array.getElem?_toList] at g1
    exact ⟨q', by rw [if_neg (Ne.symm hj)]; exact g1, g2⟩

/-! ## Finding a key -/
theorem sameNow_eq {σ : S} {d : TypeDesc} {t : Nat} (hu : P.underlying t = some d) {x y : V} {b : Bool} {n : Nat} (h : eqV P (n + 1) t x y = some b) {x' y' : Value} (hx : VR σ x x') (hy : VR σ y y') : ∀ q, Instr.sameNow d x' y' = some q → q = b := by
  intro q hq
  unfold eqV at h
  simp only [hu] at h
  cases d with
  | int k =>
    simp only at h
    split at h
    · rename_i k1 a k2 c
      split at h
      · rename_i e
        subst e
        cases h; cases hx; cases hy
        simp only [Instr.sameNow, if_true, Option.some.injEq] at hq
        rw [← hq]
        by_cases hac : a = c <;> simp [hac]
      · cases h
    · cases h
  | string =>
    simp only at h
    split at h
    · cases h
      cases hx with | str _ p hp => cases hy with | str _ q2 hq2 =>
      simp only [Instr.sameNow, Option.some.injEq] at hq
      rw [← hq, bytesBeq_iff, ← hp, ← hq2]
      obtain ⟨⟨p⟩⟩ := p; obtain ⟨⟨q2⟩⟩ := q2
      show ((⟨p⟩ : Array UInt8) == ⟨q2⟩) = (p == q2)
      simp
    · cases h
  | bool =>
    simp only at h
    split at h
    · cases h; cases hx; cases hy
      simp only [Instr.sameNow, Option.some.injEq] at hq
      exact hq.symm
    · cases h
  | _ => simp [Instr.sameNow] at hq

theorem findV_run {σ : S} {kt : Nat} {d : TypeDesc} (hu : P.underlying kt = some d) {k : V} {k' : Value} (hk : VR σ k k') (w : World) : ∀ {es : List (V × V × Nat)} {es' : List MapEntry}, ER σ es es' → ∀ (i : Nat) (r : Option (Nat × V × V × Nat)), findV P kt k es i = some r →
    ∃ r' : Option (Nat × Value), (Instr.findAsking kt k' es' i).run P w = .ok r' w ∧ (∀ q, Instr.findNow d k' es' i = some q → q = r') ∧
      ((r = none ∧ r' = none) ∨ ∃ j e e', r = some (i + j, e) ∧ es[j]? = some e ∧ es'[j]? = some e' ∧ r' = some (i + j, e'.val) ∧ EqR σ e e') := by
  intro es es' h
  induction h with
  | nil =>
    intro i r hf
    simp [findV] at hf; subst hf
    exact ⟨none, by simp [Instr.findAsking], fun q hq => by simp [Instr.findNow] at hq; exact hq.symm, .inl ⟨rfl, rfl⟩⟩
  | cons a v n a' v' es es' h1 h2 h3 ih =>
    intro i r hf
    simp only [findV] at hf
    rw [Option.bind_eq_some_iff] at hf; obtain ⟨b, hb, hf⟩ := hf
    have heq := eqV_run eqLevels kt k a b hb σ k' a' hk h1 10000 w (by decide)
    have hnow := sameNow_eq (n := 11) hu hb hk h1
    cases b with
    | true =>
      simp at hf; subst hf
      refine ⟨some (i, v'), ?_, ?_, .inr ⟨0, (a, v, n), { key := a', val := v', born := n }, rfl, by simp, by simp, rfl, h1, h2, rfl⟩⟩
      · simp only [Instr.findAsking, Op.equal, Op.maxDepth, Sem.run_bind, heq, Result.andThen_ok, if_true, Sem.run_pure]
      · intro q hq
        simp only [Instr.findNow] at hq
        split at hq
        · exact (by injection hq with hq; exact hq.symm)
        · rename_i hs; cases hnow _ hs
        · cases hq
    | false =>
      simp at hf
      obtain ⟨r', g1, g2, g3⟩ := ih (i + 1) r hf
      refine ⟨r', ?_, ?_, ?_⟩
      · simp only [Instr.findAsking, Op.equal, Op.maxDepth, Sem.run_bind, heq, Result.andThen_ok, Bool.false_eq_true, if_false]
        exact g1
      · intro q hq
        simp only [Instr.findNow] at hq
        split at hq
        · rename_i hs; cases hnow _ hs
        · exact g2 q hq
        · cases hq
      · rcases g3 with ⟨rfl, rfl⟩ | ⟨j, e, e', rfl, p1, p2, rfl, p3⟩
        · exact .inl ⟨rfl, rfl⟩
        · exact .inr ⟨j + 1, e, e', by rw [show i + 1 + j = i + (j + 1) by omega], by simpa using p1, by simpa using p2, by rw [show i + 1 + j = i + (j + 1) by omega], p3⟩

theorem findKey_run {σ : S} {kt : Nat} {d : TypeDesc} (hu : P.underlying kt = some d) {k : V} {k' : Value} (hk : VR σ k k') (w : World) {es : List (V × V × Nat)} {es' : List MapEntry} (h : ER σ es es') {r : Option (Nat × V × V × Nat)} (hf : findV P kt k es 0 = some r) :
    ∃ r' : Option (Nat × Value), (Instr.findKey kt k' es').run P w = .ok r' w ∧ ((r = none ∧ r' = none) ∨ ∃ j e e', r = some (j, e) ∧ es[j]? = some e ∧ es'[j]? = some e' ∧ r' = some (j, e'.val) ∧ EqR σ e e') := by
  obtain ⟨r', g1, g2, g3⟩ := findV_run hu hk w h 0 r hf
  refine ⟨r', ?_, by simpa using g3⟩
  simp only [Instr.findKey, Sem.run_bind, run_underlying hu, Result.andThen_ok]
  cases hq : Instr.findNow d k' es' 0 with
  | none => exact g1
  | some q => rw [g2 q hq]; simp

theorem ckV_run (em : Bool) : ∀ (d : Nat) (t : Nat) (v : V), ckV P d t v = true → ∀ (σ : S) (v' : Value), VR σ v v' → ∀ (D : Nat) (w : World), d ≤ D → (Instr.checkKey em D t v').run P w = .ok () w
  | 0, _, _, h => by simp [ckV] at h
  | d + 1, t, v, h => by
    intro σ v' hv D w hD
    obtain ⟨D, rfl⟩ : ∃ m, D = m + 1 := ⟨D - 1, by omega⟩
    have hd : d ≤ D := by omega
    unfold ckV at h
    cases hu : P.underlying t with
    | none => simp [hu] at h
    | some k =>
      simp only [hu] at h
      cases k with
      | interface ms => simp at h
      | struct fs =>
        simp only at h
        split at h
        · rename_i cs
          cases hv with | agg _ cs' hc =>
          simp only [Instr.checkKey, Sem.run_bind, run_underlying hu, Result.andThen_ok]
          rw [← Array.forIn_toList]
          generalize fs.toList = l at h
          induction l with
          | nil => simp
          | cons f l ih =>
            simp only [ckV.ckFs, Bool.and_eq_true] at h
            obtain ⟨h1, h2⟩ := h
            split at h2
            · rename_i x hx
              simp only [Bool.and_eq_true] at h2
              obtain ⟨x', g1, g2⟩ := partT_run hx hc
              have := ckV_run em d f.type x h2.1 σ x' g1 D w hd
              simp only [List.forIn_cons, ne_eq, notBlank_iff.1 h1, not_false_eq_true, if_true, Sem.run_bind, g2, this, Result.andThen_ok, Sem.run_pure]
              exact ih h2.2
            · cases h2
        · cases h
      | array n e =>
        simp only at h
        split at h
        · rename_i cs s hs
          cases hv with | agg _ cs' hc =>
          simp only [Instr.checkKey, Sem.run_bind, run_underlying hu, Result.andThen_ok]
          simp only [Std.Legacy.Range.forIn_eq_forIn_range', Std.Legacy.Range.size, Nat.sub_zero, Nat.add_one_sub_one, Nat.div_one]
          have : ∀ (n i : Nat), ckV.ckEs P (ckV P d) e s n i cs = true → (forIn (List.range' i n) PUnit.unit fun i r => (do
              Instr.checkKey em D e (← part e cs' (i * (← sizeOf e)))
              pure (ForInStep.yield PUnit.unit) : Sem (ForInStep PUnit))).run P w = .ok PUnit.unit w := by
            intro n
            induction n with
            | zero => intro i _; simp
            | succ n ih =>
              intro i h
              simp only [ckV.ckEs] at h
              split at h
              · rename_i x hx
                simp only [Bool.and_eq_true] at h
                obtain ⟨x', g1, g2⟩ := partT_run hx hc
                have := ckV_run em d e x h.1 σ x' g1 D w hd
                rw [List.range'_succ]
                simp only [List.forIn_cons, Sem.run_bind, szT_run hs, g2, this, Result.andThen_ok, Sem.run_pure]
                exact ih (i + 1) h.2
              · cases h
          rw [this n 0 h]; rfl
        · cases h
      | _ => simp only [Instr.checkKey, Sem.run_bind, run_underlying hu, Result.andThen_ok]; rfl

theorem keyT_run {t k e : Nat} (h : keyT P t = some (k, e)) : P.underlying t = some (.map k e) := by
  unfold keyT at h
  cases hu : P.underlying t with
  | none => simp [hu] at h
  | some d => cases d <;> simp [hu] at h; obtain ⟨rfl, rfl⟩ := h; rfl

theorem ckV_known {d t : Nat} {v : V} (h : ckV P d t v = true) : ∃ k, P.underlying t = some k := by
  cases d with
  | zero => simp [ckV] at h
  | succ d =>
    unfold ckV at h
    cases hu : P.underlying t with
    | none => simp [hu] at h
    | some k => exact ⟨k, rfl⟩

theorem mapAt_eq {h : H} {b : B} {i clock : Nat} {es : List (V × V × Nat)} (e : h.mapAt b = some (i, es, clock)) : b = .own i ∧ h.own.get i = some (.map es clock) := by
  unfold H.mapAt at e
  cases b with
  | own j =>
    simp only at e
    split at e
    · injection e with e; injection e with e1 e2; injection e2 with e2 e3; subst e1; subst e2; subst e3; exact ⟨rfl, by assumption⟩
    · cases e
  | _ => simp at e

theorem Rel.mapObj {σ : S} {h : H} {w : World} (r : Rel σ h w) {b : B} {i clock r' : Nat} {es : List (V × V × Nat)} (e : h.mapAt b = some (i, es, clock)) (hb : BR σ b r') :
    h.own.get i = some (.map es clock) ∧ σ.m i 0 = some (r', 0, 0) ∧ ∃ es', w.heap[r']? = some (.map es' clock) ∧ ER σ es es'.toList := by
  obtain ⟨rfl, ho⟩ := mapAt_eq e
  have hm : σ.m i 0 = some (r', 0, 0) := hb
  obtain ⟨_, _, _, es', g1, g2⟩ := r.obj _ _ _ _ _ _ ho hm
  exact ⟨ho, hm, es', g1, g2⟩

theorem run_getObj' {r : Nat} {o : Obj} {w : World} (h : w.heap[r]? = some o) (hn : ∀ c t fz, o ≠ .cells c t fz) : (getObj r).run P w = .ok o w := by
  simp only [getObj, Sem.run, h]
  try (cases o <;> first | rfl | exact absurd rfl (hn _ _ _))
theorem run_setObj' {r : Nat} {o x : Obj} {w : World} (h : w.heap[r]? = some o) (hn : ∀ c t fz, o ≠ .cells c t fz) : (setObj r x).run P w = .ok () (World.put w r x) := by
  simp only [setObj, Sem.run, h, World.put]
  try (cases o <;> first | rfl | exact absurd rfl (hn _ _ _))

/-- A map's object turned. -/
theorem Rel.turnMap {σ : S} {h : H} {w : World} (r : Rel σ h w) {i clock b : Nat} {es : List (V × V × Nat)} (ho : h.own.get i = some (.map es clock)) (hm : σ.m i 0 = some (b, 0, 0)) {es2 : List (V × V × Nat)} {es2' : Array MapEntry} {clock2 : Nat} (h2 : ER σ es2 es2'.toList) :
    Sim σ h w σ (h.set i (.map es2 clock2)) (World.put w b (.map es2' clock2)) := by
  refine r.turn hm rfl ?_
  intro v c sh ext hv
  obtain ⟨rfl, rfl, rfl, _⟩ := r.obj _ _ _ _ _ _ ho hv
  rw [hm] at hv; cases hv
  rw [if_pos rfl]
  exact ⟨rfl, rfl, rfl, es2', rfl, h2⟩

theorem lookupV_ok {σ : S} {h : H} {w : World} (r : Rel σ h w) {t : Nat} {m k v : V} {ok : Bool} (e : lookupV P h t m k ok = some v) {m' k' : Value} (hm : VR σ m m') (hk : VR σ k k') : VOk P σ h w (Instr.lookup t m' k' ok) v h := by
  unfold lookupV at e
  rw [Option.bind_eq_some_iff] at e; obtain ⟨⟨kt, et⟩, hkt, e⟩ := e
  simp only at e
  have hu := keyT_run hkt
  cases hck : ckV P eqLevels kt k with
  | false => rw [hck] at e; cases e
  | true =>
    rw [hck] at e
    simp only [cond_true] at e
    rw [Option.bind_eq_some_iff] at e; obtain ⟨es, hes, e⟩ := e
    rw [Option.bind_eq_some_iff] at e; obtain ⟨res, hf, e⟩ := e
    obtain ⟨kd, hkd⟩ := ckV_known hck
    have hcheck := fun em => ckV_run em eqLevels kt k hck σ k' hk 10000 w (by decide)
    have fin : ∀ (es' : Array MapEntry), ER σ es es'.toList → ∃ r' : Option (Nat × Value), (Instr.findKey kt k' es'.toList).run P w = .ok r' w ∧
        ((∃ q, r' = some q ∧ VR σ v (if ok then .tuple #[q.2, .bool true] else q.2)) ∨ (r' = none ∧ ∃ z', (zeroValue et).run P w = .ok z' w ∧ VR σ v (if ok then .tuple #[z', .bool false] else z'))) := by
      intro es' hER
      obtain ⟨r', g1, g2⟩ := findKey_run hkd hk w hER hf
      refine ⟨r', g1, ?_⟩
      rcases g2 with ⟨rfl, rfl⟩ | ⟨j, en, en', rfl, p1, p2, rfl, p3⟩
      · right
        refine ⟨rfl, ?_⟩
        simp only at e
        rw [Option.bind_eq_some_iff] at e; obtain ⟨z, hz, e⟩ := e
        obtain ⟨z', hzr, hzrun⟩ := zeroT_run hz σ
        injection e with e; subst e
        refine ⟨z', hzrun w, ?_⟩
        cases ok
        · exact hzr
        · exact .tup _ _ (.cons _ _ _ _ hzr (.cons _ _ _ _ (.bool _) .nil))
      · left
        refine ⟨(j, en'.val), rfl, ?_⟩
        obtain ⟨ek, ev, eb⟩ := en
        simp only at e
        injection e with e; subst e
        cases ok
        · exact p3.2.1
        · exact .tup _ _ (.cons _ _ _ _ p3.2.1 (.cons _ _ _ _ (.bool _) .nil))
    cases m with
    | nilmap =>
      simp at hes; subst hes
      cases hm
      obtain ⟨r', g1, g2⟩ := fin #[] .nil
      rcases g2 with ⟨⟨j, q⟩, rfl, hv⟩ | ⟨rfl, z', hz, hv⟩
      · refine VOk.pure r hv ?_
        simp only [Instr.lookup, Sem.run_bind, run_underlying hu, Result.andThen_ok, Sem.run_pure, hcheck, g1]
      · refine VOk.pure r hv ?_
        simp only [Instr.lookup, Sem.run_bind, run_underlying hu, Result.andThen_ok, Sem.run_pure, hcheck, g1, hz]
    | map b =>
      simp only [Option.bind_eq_some_iff] at hes
      obtain ⟨⟨i, es2, clock⟩, hma, hes⟩ := hes
      injection hes with hes; subst hes
      cases hm with | map _ rr hb =>
      obtain ⟨ho, hmm, es', hw, hER⟩ := r.mapObj hma hb
      have hget := run_getObj' (P := P) hw (fun _ _ _ c => by cases c)
      obtain ⟨r', g1, g2⟩ := fin es' hER
      rcases g2 with ⟨⟨j, q⟩, rfl, hv⟩ | ⟨rfl, z', hz, hv⟩
      · refine VOk.pure r hv ?_
        simp only [Instr.lookup, Sem.run_bind, run_underlying hu, Result.andThen_ok, Sem.run_pure, hget, hcheck, g1]
      · refine VOk.pure r hv ?_
        simp only [Instr.lookup, Sem.run_bind, run_underlying hu, Result.andThen_ok, Sem.run_pure, hget, hcheck, g1, hz]
    | _ => simp at hes

/-- An operation that the model writes as an action. -/
def UOk (P : Program) (σ : S) (h : H) (w : World) (s : Sem Unit) (h' : H) : Prop := ∃ w', Sim σ h w σ h' w' ∧ s.run P w = .ok () w'

theorem updateV_ok {σ : S} {h h' : H} {w : World} (r : Rel σ h w) {t : Nat} {m k x : V} (e : updateV P h t m k x = some h') {m' k' x' : Value} (hm : VR σ m m') (hk : VR σ k k') (hx : VR σ x x') : UOk P σ h w (Instr.mapUpdate t m' k' x') h' := by
  unfold updateV at e
  rw [Option.bind_eq_some_iff] at e; obtain ⟨⟨kt, et⟩, hkt, e⟩ := e
  simp only at e
  have hu := keyT_run hkt
  cases m with
  | map b =>
    simp only at e
    rw [Option.bind_eq_some_iff] at e; obtain ⟨⟨i, es, clock⟩, hma, e⟩ := e
    cases hck : ckV P eqLevels kt k with
    | false => rw [hck] at e; cases e
    | true =>
      rw [hck] at e
      simp only [cond_true] at e
      rw [Option.bind_eq_some_iff] at e; obtain ⟨res, hf, e⟩ := e
      obtain ⟨kd, hkd⟩ := ckV_known hck
      have hcheck := ckV_run false eqLevels kt k hck σ k' hk 10000 w (by decide)
      cases hm with | map _ rr hb =>
      obtain ⟨ho, hmm, es', hw, hER⟩ := r.mapObj hma hb
      have hget := run_getObj' (P := P) hw (fun _ _ _ c => by cases c)
      obtain ⟨r', g1, g2⟩ := findKey_run hkd hk w hER hf
      rcases g2 with ⟨rfl, rfl⟩ | ⟨j, en, en', rfl, p1, p2, rfl, p3⟩
      · simp only [H.setK_eq, Option.some.injEq] at e
        subst e
        refine ⟨_, r.turnMap (es2' := es'.push { key := k', val := x', born := clock }) ho hmm ?_, ?_⟩
        · rw [Array.toList_push]; exact hER.append (.cons _ _ _ _ _ _ _ hk hx .nil)
        · simp only [Instr.mapUpdate, Sem.run_bind, run_underlying hu, Result.andThen_ok, hget, hcheck, g1]
          exact run_setObj' (P := P) hw (fun _ _ _ c => by cases c)
      · obtain ⟨old, ov, ob⟩ := en
        simp only at e
        cases hp : (plainK k && V.beq old k) with
        | false => rw [hp] at e; cases e
        | true =>
          rw [hp] at e
          simp only [cond_true, H.setK_eq, Option.some.injEq] at e
          subst e
          simp only [Bool.and_eq_true] at hp
          obtain ⟨k1, k2⟩ := keyThatStays_run (P := P) hp.1 hp.2 p3.1 hk w
          have hlk : (((es'[j]?).map (·.key)).getD k') = en'.key := by rw [Array.getElem?_toList] at p2; simp [p2]
          refine ⟨_, r.turnMap (es2' := es'.modify j fun e => { e with key := k', val := x' }) ho hmm (hER.set hk hx j _ fun _ _ => rfl), ?_⟩
          simp only [Instr.mapUpdate, Sem.run_bind, run_underlying hu, Result.andThen_ok, hget, hcheck, g1, hlk, k1]
          exact run_setObj' (P := P) hw (fun _ _ _ c => by cases c)
  | _ => simp at e

theorem entryV_ok {σ : S} {h h' : H} {w : World} (r : Rel σ h w) {t : Nat} {m k v : V} (e : entryV P h t m k = some (v, h')) {m' k' : Value} (hm : VR σ m m') (hk : VR σ k k') : VOk P σ h w (Instr.mapEntry t m' k') v h' := by
  unfold entryV at e
  rw [Option.bind_eq_some_iff] at e; obtain ⟨⟨kt, et⟩, hkt, e⟩ := e
  simp only at e
  have hu := keyT_run hkt
  cases m with
  | map b =>
    simp only at e
    rw [Option.bind_eq_some_iff] at e; obtain ⟨⟨i, es, clock⟩, hma, e⟩ := e
    cases hck : ckV P eqLevels kt k with
    | false => rw [hck] at e; cases e
    | true =>
      rw [hck] at e
      simp only [cond_true] at e
      rw [Option.bind_eq_some_iff] at e; obtain ⟨res, hf, e⟩ := e
      obtain ⟨kd, hkd⟩ := ckV_known hck
      have hcheck := ckV_run false eqLevels kt k hck σ k' hk 10000 w (by decide)
      cases hm with | map _ rr hb =>
      obtain ⟨ho, hmm, es', hw, hER⟩ := r.mapObj hma hb
      have hget := run_getObj' (P := P) hw (fun _ _ _ c => by cases c)
      obtain ⟨r', g1, g2⟩ := findKey_run hkd hk w hER hf
      rcases g2 with ⟨rfl, rfl⟩ | ⟨j, en, en', rfl, p1, p2, rfl, p3⟩
      · simp only at e
        rw [Option.bind_eq_some_iff] at e; obtain ⟨z, hz, e⟩ := e
        obtain ⟨z', hzr, hzrun⟩ := zeroT_run hz σ
        simp only [H.setK_eq, Option.some.injEq, Prod.mk.injEq] at e
        obtain ⟨rfl, rfl⟩ := e
        refine ⟨σ, _, .tuple #[z', .int .i64 clock], r.turnMap (es2' := es'.push { key := k', val := z', born := clock }) ho hmm ?_, .tup _ _ (.cons _ _ _ _ hzr (.cons _ _ _ _ (.int _ _) .nil)), ?_⟩
        · rw [Array.toList_push]; exact hER.append (.cons _ _ _ _ _ _ _ hk hzr .nil)
        · simp only [Instr.mapEntry, Sem.run_bind, run_underlying hu, Result.andThen_ok, hget, hcheck, g1, hzrun]
          rw [run_setObj' (P := P) hw (fun _ _ _ c => by cases c)]
          rfl
      · obtain ⟨old, ov, ob⟩ := en
        simp only at e
        cases hp : (plainK k && V.beq old k) with
        | false => rw [hp] at e; cases e
        | true =>
          rw [hp] at e
          simp only [cond_true, H.setK_eq, Option.some.injEq, Prod.mk.injEq] at e
          obtain ⟨rfl, rfl⟩ := e
          simp only [Bool.and_eq_true] at hp
          obtain ⟨k1, k2⟩ := keyThatStays_run (P := P) hp.1 hp.2 p3.1 hk w
          have p2' := p2
          rw [Array.getElem?_toList] at p2'
          have hlk : (((es'[j]?).map (·.key)).getD k') = en'.key := by simp [p2']
          have hlb : (((es'[j]?).map (fun x => (x.born : Int))).getD 0) = ob := by simp [p2']; exact congrArg _ p3.2.2
          refine ⟨σ, _, .tuple #[en'.val, .int .i64 ob], r.turnMap (es2' := es'.modify j fun e => { e with key := k' }) ho hmm (hER.set hk p3.2.1 j _ fun q hq => ?_), .tup _ _ (.cons _ _ _ _ p3.2.1 (.cons _ _ _ _ (.int _ _) .nil)), ?_⟩
          · rw [p2'] at hq; cases hq; rfl
          · simp only [Instr.mapEntry, Sem.run_bind, run_underlying hu, Result.andThen_ok, hget, hcheck, g1, hlk, k1, hlb]
            rw [run_setObj' (P := P) hw (fun _ _ _ c => by cases c)]
            rfl
  | _ => simp at e

theorem bornE_get (b : Int) : ∀ (es : List (V × V × Nat)) (i j : Nat) (k : V), bornE b es i = some (j, k) → ∃ n e, j = i + n ∧ es[n]? = some e ∧ e.1 = k ∧ (e.2.2 : Int) = b ∧ ∀ m, m < n → ∀ q, es[m]? = some q → (q.2.2 : Int) ≠ b
  | [], i, j, k, h => by simp [bornE] at h
  | e :: es, i, j, k, h => by
    simp only [bornE] at h
    split at h
    · rename_i hb
      injection h with h; injection h with h1 h2
      exact ⟨0, e, by omega, by simp, h2, hb, fun m hm => by omega⟩
    · rename_i hb
      obtain ⟨n, e', h1, h2, h3, h4, h5⟩ := bornE_get b es (i + 1) j k h
      refine ⟨n + 1, e', by omega, by simpa using h2, h3, h4, fun m hm q hq => ?_⟩
      cases m with
      | zero => simp at hq; subst hq; exact hb
      | succ m => exact h5 m (by omega) q (by simpa using hq)

theorem entryStoreV_ok {σ : S} {h h' : H} {w : World} (r : Rel σ h w) {t : Nat} {m s x : V} (e : entryStoreV h m s x = some h') {m' s' x' : Value} (hm : VR σ m m') (hs : VR σ s s') (hx : VR σ x x') : UOk P σ h w (Instr.entryStore t m' s' x') h' := by
  unfold entryStoreV at e
  split at e
  · rename_i b k born
    rw [Option.bind_eq_some_iff] at e; obtain ⟨⟨i, es, clock⟩, hma, e⟩ := e
    simp only at e
    cases hb : bornE born es 0 with
    | none => simp [hb] at e
    | some jk =>
      obtain ⟨j, key⟩ := jk
      simp only [hb, H.setK_eq, Option.some.injEq] at e
      subst e
      obtain ⟨n, en, h1, h2, h3, h4, h5⟩ := bornE_get _ _ _ _ _ hb
      obtain rfl : j = n := by omega
      cases hm with | map _ rr hbr =>
      cases hs
      obtain ⟨ho, hmm, es', hw, hER⟩ := r.mapObj hma hbr
      have hget := run_getObj' (P := P) hw (fun _ _ _ c => by cases c)
      obtain ⟨en', g1, g2, g3, g4⟩ := hER.get _ _ h2
      have g1' := g1
      rw [Array.getElem?_toList] at g1'
      have hfind : es'.findIdx? (fun e => (e.born : Int) == born) = some j := by
        rw [Array.findIdx?_eq_some_iff_getElem]
        have hjl : j < es'.size := by
          rcases Nat.lt_or_ge j es'.size with h' | h'
          · exact h'
          · rw [Array.getElem?_eq_none h'] at g1'; cases g1'
        refine ⟨hjl, ?_, ?_⟩
        · rw [Array.getElem?_eq_getElem hjl] at g1'; injection g1' with g1'
          rw [g1', g4]; simp [h4]
        · intro m hm
          have hml : m < es.length := by rw [hER.length]; simp; omega
          obtain ⟨q', q1, q2, q3, q4⟩ := hER.get m _ (List.getElem?_eq_getElem hml)
          have hml' : m < es'.size := by omega
          rw [Array.getElem?_toList, Array.getElem?_eq_getElem hml'] at q1; injection q1 with q1
          rw [q1, q4]
          have := h5 m hm _ (List.getElem?_eq_getElem hml)
          simpa using this
      refine ⟨_, r.turnMap (es2' := es'.modify j fun e => { e with val := x' }) ho hmm (hER.set (k' := en'.key) (by rw [← h3]; exact g2) hx j _ fun q hq => ?_), ?_⟩
      · rw [g1'] at hq; cases hq; rfl
      · simp only [Instr.entryStore, Sem.run_bind, Result.andThen_ok, hget, asInt, asIntOf, Sem.run_pure, hfind]
        exact run_setObj' (P := P) hw (fun _ _ _ c => by cases c)
  · cases e

theorem deleteV_ok {σ : S} {h h' : H} {w : World} (r : Rel σ h w) {t ty : Nat} {ts : Array TypeId} (hts : ts[0]? = some t) {m k : V} (e : deleteV P h t m k = some h') {m' k' : Value} (hm : VR σ m m') (hk : VR σ k k') : VOk P σ h w (Builtin.delete_ ts ty #[m', k']) .u h' := by
  unfold deleteV at e
  rw [Option.bind_eq_some_iff] at e; obtain ⟨⟨kt, et⟩, hkt, e⟩ := e
  simp only at e
  have hu := keyT_run hkt
  cases hck : ckV P eqLevels kt k with
  | false => rw [hck] at e; cases e
  | true =>
    rw [hck] at e
    simp only [cond_true] at e
    obtain ⟨kd, hkd⟩ := ckV_known hck
    have hcheck := fun em => ckV_run em eqLevels kt k hck σ k' hk 10000 w (by decide)
    cases m with
    | nilmap =>
      simp only [Option.some.injEq] at e; subst e
      cases hm
      refine VOk.pure r (.tup _ #[] .nil) ?_
      simp [Builtin.delete_, hts, run_underlying hu, hcheck]
    | map b =>
      simp only at e
      rw [Option.bind_eq_some_iff] at e; obtain ⟨⟨i, es, clock⟩, hma, e⟩ := e
      rw [Option.bind_eq_some_iff] at e; obtain ⟨res, hf, e⟩ := e
      cases hm with | map _ rr hb =>
      obtain ⟨ho, hmm, es', hw, hER⟩ := r.mapObj hma hb
      have hget := run_getObj' (P := P) hw (fun _ _ _ c => by cases c)
      obtain ⟨r', g1, g2⟩ := findKey_run hkd hk w hER hf
      rcases g2 with ⟨rfl, rfl⟩ | ⟨j, en, en', rfl, p1, p2, rfl, p3⟩
      · simp only [Option.some.injEq] at e; subst e
        refine VOk.pure r (.tup _ #[] .nil) ?_
        have hset := run_setObj' (P := P) (x := .map es' clock) hw (fun _ _ _ c => by cases c)
        rw [put_self hw] at hset
        simp [Builtin.delete_, hts, run_underlying hu, hcheck, hget, g1, hset]
      · simp only [H.setK_eq, Option.some.injEq] at e; subst e
        have hset := run_setObj' (P := P) (x := .map (es'.eraseIdxIfInBounds j) clock) hw (fun _ _ _ c => by cases c)
        refine ⟨σ, _, _, r.turnMap (es2' := es'.eraseIdxIfInBounds j) ho hmm ?_, .tup _ #[] .nil, ?_⟩
        · rw [delE_eq]
          have : (es'.eraseIdxIfInBounds j).toList = es'.toList.eraseIdx j := by
            rw [Array.eraseIdxIfInBounds]
            split
            · simp
            · rename_i hlt
              rw [List.eraseIdx_of_length_le (by simpa using hlt)]
          rw [this]; exact hER.erase j
        · simp [Builtin.delete_, hts, run_underlying hu, hcheck, hget, g1, hset]
    | _ => simp at e

end Go.Proofs.Ab
