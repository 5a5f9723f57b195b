/- The evaluator's soundness, fourth part: types, constants, parts, equality, arithmetic. -/
import Derived.Test.YtelmlcciphafjaaGreatDoorAb6
import Derived.Laws.StructEq
import Derived.ChangeKeysEq
namespace Go.Proofs.Ab
open Go

variable {P : Program}

theorem szT_info {t n : Nat} (h : szT P t = some n) : ∃ i, P.info? t = some i ∧ i.size = n := by
  unfold szT at h
  cases e : P.info? t with
  | none => simp [e] at h
  | some i => simp [e] at h; exact ⟨i, rfl, h⟩
theorem szT_cellsOf {t n : Nat} (h : szT P t = some n) : P.cellsOf t = n := by
  obtain ⟨i, h1, h2⟩ := szT_info h
  simp [Program.cellsOf, h1, h2]
theorem byT_info {t n : Nat} (h : byT P t = some n) : ∃ i, P.info? t = some i ∧ i.bytes = n := by
  unfold byT at h
  cases e : P.info? t with
  | none => simp [e] at h
  | some i => simp [e] at h; exact ⟨i, rfl, h⟩
theorem run_typeInfo' {t : Nat} {i : TypeInfo} (h : P.info? t = some i) (w : World) : (typeInfo t).run P w = .ok i w := by
  simp [typeInfo, h]
theorem szT_run {t n : Nat} (h : szT P t = some n) (w : World) : (sizeOf t).run P w = .ok n w := by
  obtain ⟨i, h1, h2⟩ := szT_info h
  simp [sizeOf, run_typeInfo' h1, h2]
theorem aggT_run {t : Nat} {b : Bool} (h : aggT P t = some b) (w : World) : (isAgg t).run P w = .ok b w := by
  unfold aggT at h
  unfold isAgg
  cases e : P.underlying t with
  | none => simp [e] at h
  | some d => cases d <;> simp [e] at h <;> subst h <;> simp [run_underlying e]

theorem atomV_ok {v : Value} {x : V} (h : atomV v = some x) (σ : S) : VR σ x v ∧ x.atom = true := by
  unfold atomV at h
  split at h <;> first | cases h | skip
  all_goals first
    | exact ⟨.str _ _ rfl, rfl⟩
    | exact ⟨.fn _ _ _ _ _ .nil .nil, rfl⟩
    | (refine ⟨?_, rfl⟩; constructor)
theorem atomsV_ok : ∀ {vs : List Value} {xs : List V}, atomsV vs = some xs → ∀ (σ : S), VRs σ xs vs
  | [], xs, h, σ => by simp [atomsV] at h; subst h; exact .nil
  | v :: vs, xs, h, σ => by
    simp only [atomsV] at h
    cases e : atomV v with
    | none => simp [e] at h
    | some x =>
      cases e' : atomsV vs with
      | none => simp [e, e'] at h
      | some r =>
        simp [e, e'] at h; subst h
        exact .cons _ _ _ _ (atomV_ok e σ).1 (atomsV_ok e' σ)
theorem ofV_ok {v : Value} {x : V} (h : ofV v = some x) (σ : S) : VR σ x v := by
  unfold ofV at h
  split at h
  · rename_i cs
    cases e : atomsV cs.toList with
    | none => simp [e] at h
    | some l => simp [e] at h; subst h; exact .agg _ _ (atomsV_ok e σ)
  · cases h; exact .tup _ _ .nil
  · rename_i t v
    split at h
    · rename_i cs
      cases e : atomsV cs.toList with
      | none => simp [e] at h
      | some l => simp [e] at h; subst h; exact .iface _ _ _ (.agg _ _ (atomsV_ok e σ))
    · cases e : atomV v with
      | none => simp [e] at h
      | some l => simp [e] at h; subst h; exact .iface _ _ _ (atomV_ok e σ).1
  · exact (atomV_ok h σ).1

theorem zeroT_run {t : Nat} {z : V} (h : zeroT P t = some z) (σ : S) : ∃ v, VR σ z v ∧ ∀ w, (zeroValue t).run P w = .ok v w := by
  unfold zeroT at h
  cases e : P.info? t with
  | none => simp [e] at h
  | some i =>
    simp [e] at h
    cases e' : i.zero with
    | none => simp [e'] at h
    | some v =>
      simp [e'] at h
      exact ⟨v, ofV_ok h σ, fun w => by simp [zeroValue, run_typeInfo' e, e']⟩

theorem partT_run {t : Nat} {cs : List V} {off : Nat} {v : V} (h : partT P t cs off = some v) {σ : S} {cs' : Array Value} (hc : VRs σ cs cs'.toList) :
    ∃ v', VR σ v v' ∧ ∀ w, (part t cs' off).run P w = .ok v' w := by
  unfold partT at h
  cases ha : aggT P t with
  | none => simp [ha] at h
  | some b =>
    cases b with
    | true =>
      simp only [ha] at h
      cases hs : szT P t with
      | none => simp [hs] at h
      | some n =>
        simp only [hs, Option.bind_some] at h
        cases ht : takeV n (dropL off cs) with
        | none => simp [ht] at h
        | some r =>
          simp [ht] at h; subst h
          rw [dropL_eq] at ht
          obtain ⟨h1, h2⟩ := (hc.drop off).takeV ht
          refine ⟨.agg (cs'.extract off (off + n)), .agg _ _ ?_, fun w => ?_⟩
          · rw [Array.toList_extract]
            simp only [List.extract_eq_take_drop]
            simpa using h1
          · simp [part, aggT_run ha, szT_run hs]
    | false =>
      simp only [ha] at h
      cases ht : takeV 1 (dropL off cs) with
      | none => simp [ht] at h
      | some r =>
        simp only [ht, Option.bind_some] at h
        rw [dropL_eq] at ht
        obtain ⟨h1, h2⟩ := (hc.drop off).takeV ht
        split at h
        · cases h
          cases h1' : (cs'.toList.drop off).take 1 with
          | nil => rw [h1'] at h1; cases h1
          | cons y ys =>
            rw [h1'] at h1
            cases h1 with
            | cons _ _ _ _ h1 h1s =>
              refine ⟨y, h1, fun w => ?_⟩
              have hy : cs'[off]? = some y := by
                have h3 : ((cs'.toList.drop off).take 1)[0]? = some y := by rw [h1']; rfl
                simpa [List.getElem?_take, List.getElem?_drop] using h3
              simp [part, aggT_run ha, hy]
        · cases h

/-! ## Equality -/
theorem bytesBeq_eq : ∀ (a b : List UInt8), bytesBeq a b = decide (a = b)
  | [], [] => by simp [bytesBeq]
  | [], _ :: _ => by simp [bytesBeq]
  | _ :: _, [] => by simp [bytesBeq]
  | a :: x, b :: y => by
    simp only [bytesBeq, bytesBeq_eq x y]
    cases h : Nat.beq a.toNat b.toNat with
    | true =>
      have : a = b := UInt8.toNat_inj.1 (Nat.eq_of_beq_eq_true h)
      subst this
      simp
    | false =>
      have : a ≠ b := by intro e; subst e; rw [Nat.beq_refl] at h; cases h
      simp [this]
theorem bytesBeq_iff (a b : List UInt8) : bytesBeq a b = (a == b) := by
  rw [bytesBeq_eq]
  cases h : decide (a = b) <;> simp at h ⊢ <;> simpa using h

theorem notBlank_iff {s : String} : notBlank s = true ↔ s ≠ "_" := by simp [notBlank]

theorem AR.off_iff {σ : S} {a b : A} {a' b' : Addr} (ha : AR σ a a') (hb : AR σ b b') (h1 : a.blk = b.blk) (h2 : a.ver = b.ver) : a'.block = b'.block ∧ (decide (a.off = b.off) = (a' == b')) := by
  have key : ∀ (blk x y : Nat), decide (x = y) = ((⟨blk, x, none⟩ : Addr) == ⟨blk, y, none⟩) := by
    intro blk x y
    by_cases e : x = y
    · subst e; simp
    · have : (⟨blk, x, none⟩ : Addr) ≠ ⟨blk, y, none⟩ := by intro c; injection c with _ c; exact e c
      simp [e]
  unfold AR at ha hb
  rw [h1, h2] at ha
  cases hbk : b.blk with
  | base i =>
    simp only [hbk] at ha hb; rw [ha.2, hb.2]; refine ⟨rfl, ?_⟩
    rw [← key]
    by_cases e : a.off = b.off
    · simp [e]
    · have : ¬ ((σ.bs i).2 + a.off = (σ.bs i).2 + b.off) := by omega
      simp [e]
  | glob i => simp only [hbk] at ha hb; rw [ha.2, hb.2]; exact ⟨rfl, key _ _ _⟩
  | own i =>
    simp only [hbk] at ha hb
    obtain ⟨b1, s1, e1, m1, l1, r1⟩ := ha
    obtain ⟨b2, s2, e2, m2, l2, r2⟩ := hb
    rw [m1] at m2; cases m2
    rw [r1, r2]
    refine ⟨rfl, ?_⟩
    rw [← key]
    by_cases e : a.off = b.off
    · simp [e]
    · have : ¬ (a.off - s1 = b.off - s1) := by omega
      simp [e, this]

set_option maxHeartbeats 4000000 in
theorem eqV_run : ∀ (d : Nat) (t : TypeId) (x y : V) (b : Bool), eqV P d t x y = some b → ∀ (σ : S) (x' y' : Value), VR σ x x' → VR σ y y' → ∀ (D : Nat) (w : World), d ≤ D → (Op.equalIn D t x' y').run P w = .ok b w
  | 0, _, _, _, _, h => by simp [eqV] at h
  | d + 1, t, x, y, b, h => by
    intro σ x' y' hx hy D w hD
    obtain ⟨D, rfl⟩ : ∃ m, D = m + 1 := ⟨D - 1, by omega⟩
    have hd : d ≤ D := by omega
    have fields : ∀ (fs : List Field) (xs ys : List V) (b : Bool), eqV.eqFs P (eqV P d) fs xs ys = some b → ∀ (xs' ys' : Array Value), VRs σ xs xs'.toList → VRs σ ys ys'.toList →
        (Op.eqFields D xs' ys' fs).run P w = .ok b w := by
      intro fs
      induction fs with
      | nil => intro xs ys b h xs' ys' _ _; simp [eqV.eqFs] at h; subst h; simp [Op.eqFields]
      | cons f fs ih =>
        intro xs ys b h xs' ys' hx hy
        simp only [eqV.eqFs] at h
        cases hn : notBlank f.name with
        | false => simp [hn] at h
        | true =>
          simp only [hn, cond_true] at h
          cases h1 : partT P f.type xs f.offset with
          | none => simp [h1] at h
          | some a =>
            cases h2 : partT P f.type ys f.offset with
            | none => simp [h1, h2] at h
            | some c =>
              simp only [h1, h2, Option.bind_some] at h
              cases h3 : eqV P d f.type a c with
              | none => simp [h3] at h
              | some r =>
                simp only [h3, Option.bind_some] at h
                obtain ⟨a', g1, k1⟩ := partT_run h1 hx
                obtain ⟨c', g2, k2⟩ := partT_run h2 hy
                have k3 := eqV_run d f.type a c r h3 σ a' c' g1 g2 D w hd
                simp only [Op.eqFields, notBlank_iff.1 hn, Sem.run_bind, k1, k2, k3, Result.andThen_ok, ne_eq, not_false_eq_true, if_true]
                cases r with
                | true => simp at h ⊢; exact ih xs ys b h xs' ys' hx hy
                | false => simp at h ⊢; exact h
    have items : ∀ (e s n i : Nat) (xs ys : List V) (b : Bool), P.cellsOf e = s → eqV.eqEs P (eqV P d) e s n i xs ys = some b → ∀ (xs' ys' : Array Value), VRs σ xs xs'.toList → VRs σ ys ys'.toList →
        (Op.eqItems D e s xs' ys' (List.range' i n)).run P w = .ok b w := by
      intro e s n
      induction n with
      | zero => intro i xs ys b _ h xs' ys' _ _; simp [eqV.eqEs] at h; subst h; simp [Op.eqItems]
      | succ n ih =>
        intro i xs ys b hs h xs' ys' hx hy
        simp only [eqV.eqEs] at h
        cases h1 : partT P e xs (i * s) with
        | none => simp [h1] at h
        | some a =>
          cases h2 : partT P e ys (i * s) with
          | none => simp [h1, h2] at h
          | some c =>
            simp only [h1, h2, Option.bind_some] at h
            cases h3 : eqV P d e a c with
            | none => simp [h3] at h
            | some r =>
              simp only [h3, Option.bind_some] at h
              obtain ⟨a', g1, k1⟩ := partT_run h1 hx
              obtain ⟨c', g2, k2⟩ := partT_run h2 hy
              have k3 := eqV_run d e a c r h3 σ a' c' g1 g2 D w hd
              rw [List.range'_succ]
              simp only [Op.eqItems, Sem.run_bind, k1, k2, k3, Result.andThen_ok]
              cases r with
              | true => simp at h ⊢; exact ih (i + 1) xs ys b hs h xs' ys' hx hy
              | false => simp at h ⊢; exact h
    unfold eqV at h
    cases hu : P.underlying t with
    | none => simp [hu] at h
    | some k =>
      simp only [hu] at h
      cases k with
      | bool =>
        simp only at h
        split at h <;> cases h
        cases hx; cases hy
        exact run_equalIn_bool w D t _ _ hu
      | int q =>
        simp only at h
        split at h
        · rename_i k1 a k2 c
          split at h <;> cases h
          rename_i e; subst e
          cases hx; cases hy
          rw [run_equalIn_int w D t _ q _ _ hu]
          congr 1
        · cases h
      | string =>
        simp only at h
        split at h <;> cases h
        cases hx with | str _ bx ex => cases hy with | str _ by' ey =>
        rw [run_equalIn_string w D t _ _ hu, bytesBeq_iff, ByteArray.toList_eq, ByteArray.toList_eq, ex, ey]
      | pointer e =>
        simp only at h
        split at h
        · cases h; cases hx; cases hy; simp [Op.equalIn, run_underlying hu]
        · cases h; cases hx; cases hy; simp [Op.equalIn, run_underlying hu]
        · cases h; cases hx; cases hy; simp [Op.equalIn, run_underlying hu]
        · rename_i a c
          split at h
          · rename_i hc
            cases hs : szT P e with
            | none => simp [hs] at h
            | some n =>
              simp only [hs, Option.bind_some] at h
              cases hn : Nat.beq n 0 with
              | true => simp [hn] at h
              | false =>
                simp only [hn, cond_false] at h
                cases h
                cases hx with | ptr _ a' ha => cases hy with | ptr _ c' hcc =>
                obtain ⟨h1, h2⟩ := ha.off_iff hcc hc.1 hc.2
                have hn' : n ≠ 0 := by intro e; subst e; simp at hn
                simp [Op.equalIn, run_underlying hu, szT_run hs, hn', sameAddr, h1, h2]
          · cases h
        · cases h
      | interface ms =>
        simp only at h
        split at h
        · cases h; cases hx; cases hy; simp [Op.equalIn, run_underlying hu]
        · cases h; cases hx; cases hy; simp [Op.equalIn, run_underlying hu]
        · cases h; cases hx; cases hy; simp [Op.equalIn, run_underlying hu]
        · rename_i tx vx ty vy
          cases hx with | iface _ _ vx' hvx => cases hy with | iface _ _ vy' hvy =>
          split at h
          · rename_i e; subst e
            cases hi : P.info? tx with
            | none => simp [hi] at h
            | some i =>
              simp only [hi, Option.bind_some] at h
              cases hcmp : i.comparable with
              | false => simp [hcmp] at h
              | true =>
                simp only [hcmp, cond_true] at h
                have k3 := eqV_run d tx vx vy b h σ vx' vy' hvx hvy D w hd
                simp [Op.equalIn, run_underlying hu, run_typeInfo' hi, hcmp, k3]
          · rename_i e
            cases h
            simp [Op.equalIn, run_underlying hu, e]
        · cases h
      | slice e =>
        simp only at h
        split at h <;> cases h <;> cases hx <;> cases hy <;> simp [Op.equalIn, run_underlying hu]
      | map a e =>
        simp only at h
        split at h <;> cases h <;> cases hx <;> cases hy <;> simp [Op.equalIn, run_underlying hu]
      | func a e c =>
        simp only at h
        split at h <;> cases h <;> cases hx <;> cases hy <;> simp [Op.equalIn, run_underlying hu]
      | struct fs =>
        simp only at h
        split at h
        · rename_i xs ys
          cases hst : P.stoodInHeld t with
          | true => simp [hst] at h
          | false =>
            simp only [hst, cond_false] at h
            cases hx with | agg _ xs' hx => cases hy with | agg _ ys' hy =>
            have hf : P.fieldsOf t = fs := by simp [Program.fieldsOf, hu]
            rw [run_equalIn_struct w D t xs' ys' (by rw [hf]; exact hu) hst, hf]
            exact fields _ _ _ _ h _ _ hx hy
        · cases h
      | array n e =>
        simp only at h
        split at h
        · rename_i xs ys
          cases hs : szT P e with
          | none => simp [hs] at h
          | some s =>
            simp only [hs, Option.bind_some] at h
            cases hx with | agg _ xs' hx => cases hy with | agg _ ys' hy =>
            obtain ⟨i, hi, _⟩ := szT_info hs
            rw [run_equalIn_array w D xs' ys' hu hi, szT_cellsOf hs, List.range_eq_range']
            exact items _ _ _ _ _ _ _ (szT_cellsOf hs) h _ _ hx hy
        · cases h
      | _ => simp at h

/-! ## Arithmetic -/
theorem shV_run {op : BinOp} {k : IntKind} {a b : Int} {v : V} (h : shV op k a b = some v) {σ : S} : ∃ v', VR σ v v' ∧ ∀ yk w, (Op.shift op k a yk b).run P w = .ok v' w := by
  unfold shV at h
  split at h
  · cases h
  · rename_i hb
    split at h <;> cases h
    · exact ⟨_, .int _ _, fun _ w => by simp [Op.shift, hb]⟩
    · exact ⟨_, .int _ _, fun _ w => by simp [Op.shift, hb]⟩

theorem intV_run {op : BinOp} {k : IntKind} {a b : Int} {v : V} (h : intV op k a b = some v) (hs : op ≠ .shl) (hr : op ≠ .shr) {σ : S} {t : TypeId} :
    ∃ v', VR σ v v' ∧ ∀ w, (binOp op t (.int k a) (.int k b)).run P w = .ok v' w := by
  unfold intV at h
  cases op <;> simp only at h <;> first | exact absurd rfl hs | exact absurd rfl hr | skip
  all_goals first | (split at h <;> cases h) | cases h
  all_goals first
    | (refine ⟨_, .int _ _, fun w => ?_⟩; simp [binOp, Op.intArith, Op.intBits]; done)
    | (refine ⟨_, .int _ _, fun w => ?_⟩; simp [binOp, Op.intDiv, *]; done)
    | (refine ⟨_, .bool _, fun w => ?_⟩; simp [binOp, Op.intCmp]; done)
    | (refine ⟨_, .bool _, fun w => ?_⟩; by_cases e : a = b <;> simp [binOp, Op.intCmp, e])

end Go.Proofs.Ab
