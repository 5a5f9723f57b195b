/- The evaluator's soundness, eleventh part: conversions, assertions, lengths, iterators. -/
import Derived.Test.YtelmlcciphafjaaGreatDoorAb13
import Derived.Laws.BytesString
namespace Go.Proofs.Ab
open Go

variable {P : Program}

theorem bytesOfC_eq : ∀ {cs : List V} {s : List UInt8}, bytesOfC cs = some s → ∃ ns : List Int, cs = ns.map (V.int .u8) ∧ s = ns.map fun n => UInt8.ofNat n.toNat
  | [], s, h => by simp [bytesOfC] at h; subst h; exact ⟨[], rfl, rfl⟩
  | c :: cs, s, h => by
    unfold bytesOfC at h
    split at h
    · rename_i h1; cases h1
    · rename_i n r heq
      injection heq with h1 h2; subst h1; subst h2
      rw [Option.bind_eq_some_iff] at h; obtain ⟨l, hl, h⟩ := h
      injection h with h; subst h
      obtain ⟨ns, rfl, rfl⟩ := bytesOfC_eq hl
      exact ⟨n :: ns, rfl, rfl⟩
    · cases h
theorem VRs.ints {σ : S} : ∀ {ns : List Int} {vs : List Value}, VRs σ (ns.map (V.int .u8)) vs → vs = ns.map (Value.int .u8)
  | [], _, h => by cases h; rfl
  | n :: ns, _, h => by
    cases h with | cons _ v _ vs h hs =>
    cases h
    rw [VRs.ints hs]; rfl
theorem foldl_push : ∀ (ns : List Int) (b : ByteArray), (ns.foldl (fun r n => r.push (UInt8.ofNat n.toNat)) b).data.toList = b.data.toList ++ ns.map fun n => UInt8.ofNat n.toNat
  | [], b => by simp
  | n :: ns, b => by
    simp only [List.foldl_cons]
    rw [foldl_push ns]
    simp [ByteArray.push]

theorem freeze_push (w : World) (c : Array Value) (e : TypeId) : (World.push w (.cells c e)).freeze ⟨w.heap.size, c.size, none⟩ 1 = World.push w (.cells c e (c.size, c.size + 1)) := by
  simp only [World.freeze, World.push, Nat.one_ne_zero, if_false]
  congr 1
  apply Array.ext_getElem?
  intro i
  rw [Array.getElem?_modify, Array.getElem?_push, Array.getElem?_push]
  by_cases h : i = w.heap.size
  · subst h; simp
  · simp [h, Ne.symm h]

theorem convertV_ok {σ : S} {h h' : H} {w : World} (r : Rel σ h w) {src dst : Nat} {x v : V} (e : convertV P h src dst x = some (v, h')) {x' : Value} (hx : VR σ x x') : VOk P σ h w (convert src dst x') v h' := by
  unfold convertV at e
  cases hs : P.underlying src with
  | none => simp [hs] at e
  | some sd =>
    cases hd : P.underlying dst with
    | none => simp [hs, hd] at e
    | some dd =>
      simp only [hs, hd] at e
      split at e
      · rename_i k q n
        simp only [Option.some.injEq, Prod.mk.injEq] at e
        obtain ⟨rfl, rfl⟩ := e
        cases hx
        refine VOk.pure r (.int _ _) ?_
        simp only [convert, Sem.run_bind, run_underlying hs, run_underlying hd, Result.andThen_ok]
        cases sd <;> rfl
      · split at e
        · simp only [Option.some.injEq, Prod.mk.injEq] at e
          obtain ⟨rfl, rfl⟩ := e
          refine VOk.pure r hx ?_
          cases hx with | str _ b hb =>
          simp [convert, run_underlying hs, run_underlying hd]
        · cases e
      · split at e
        · rename_i el
          split at e
          · rename_i hel
            simp only [Option.some.injEq, Prod.mk.injEq] at e
            obtain ⟨rfl, rfl⟩ := e
            cases hx
            refine VOk.pure r (.str _ ByteArray.empty rfl) ?_
            simp [convert, run_underlying hs, run_underlying hd, run_underlying hel, Conv.bytesToString]
          · cases e
        · cases e
      · rename_i a len cap
        split at e
        · rename_i el
          split at e
          · rename_i hel
            rw [Option.bind_eq_some_iff] at e; obtain ⟨cs, hcs, e⟩ := e
            rw [Option.bind_eq_some_iff] at e; obtain ⟨s, hbs, e⟩ := e
            simp only [Option.some.injEq, Prod.mk.injEq] at e
            obtain ⟨rfl, rfl⟩ := e
            obtain ⟨ns, rfl, rfl⟩ := bytesOfC_eq hbs
            have key : ∀ (a' : Addr) (c : Nat), (len = 0 ∨ AR σ a a') → x' = .slice (some a') len c → VOk P σ h w (convert src dst x') (.str (ns.map fun n => UInt8.ofNat n.toNat)) h := by
              intro a' c ha hx'
              subst hx'
              obtain ⟨vs', g1, g2, _, _⟩ := r.loadS (P := P) ha hcs
              have hvs := g2.ints
              have hl : (loadCells a' len).run P w = .ok (ns.map (Value.int .u8)).toArray w := by rw [g1, ← hvs]
              refine VOk.pure r (.str _ (ns.foldl (fun r n => r.push (UInt8.ofNat n.toNat)) ByteArray.empty) (by rw [foldl_push]; rfl)) ?_
              have := run_bytesToString (P := P) w a' len c ns hl
              simp only [convert, Sem.run_bind, run_underlying hs, run_underlying hd, Result.andThen_ok, run_underlying hel]
              exact this
            cases hx with
            | slk _ a' _ c ha hle => exact key a' c (by rcases ha with rfl | ha; · left; omega
                                                        · exact .inr ha) rfl
            | slt _ a' _ z c ht => exact key a' c (by
                by_cases hc : c = 0
                · left; have := ht.le; omega
                · exact .inr (ht.addr hc)) rfl
          · cases e
        · cases e
      · rename_i el s
        split at e
        · rename_i hel
          obtain ⟨ha, e⟩ := H.row_eq e
          simp only [Option.some.injEq, Prod.mk.injEq] at e
          obtain ⟨rfl, rfl⟩ := e
          cases hx with | str _ b hb =>
          have hbsz : b.size = s.length := by rw [← hb]; rfl
          obtain ⟨c, hcap, hch⟩ : ∃ c, b.size ≤ c ∧ (choose (Question.appendCap b.size 0 el)).run P w = .ok c (drawn w) := by
            refine ⟨(Question.appendCap b.size 0 el).cut (w.tape w.drawn (Question.appendCap b.size 0 el)), by simp only [Question.cut]; omega, ?_⟩
            simp [run_choose, Question.forced, drawn]
          have r' : Rel σ h (drawn w) := r.heap rfl
          have hrel : VRs σ (bytesC s) (b.data.map fun (b : UInt8) => Value.int .u8 b.toNat).toList := by
            rw [Array.toList_map, hb]; exact bytesC_rel s
          have hall : ((b.data.map fun (b : UInt8) => Value.int .u8 b.toNat) ++ Array.replicate (c - b.size) (Value.int .u8 0)).size = c := by
            simp; show b.size + (c - b.size) = c; omega
          have sim := row_ok r' el hrel ha (c, c + 1) (List.replicate (c - b.size) (Value.int .u8 0)) ((b.data.map fun (b : UInt8) => Value.int .u8 b.toNat) ++ Array.replicate (c - b.size) (Value.int .u8 0)) (by rw [List.toArray_replicate]) (fun k hk q => by rw [hall] at hk; omega)
          rw [hall] at sim
          refine ⟨_, _, .slice (some ⟨w.heap.size, 0, none⟩) s.length c, sim.heapL rfl, .slt _ _ _ _ c ?_, ?_⟩
          · unfold TR
            exact ⟨w.heap.size, 0, c, S.bind_self σ _ _ _, Nat.zero_le _, by simp, by omega, fun _ => rfl⟩
          · have hfr := freeze_push (drawn w) ((b.data.map fun (b : UInt8) => Value.int .u8 b.toNat) ++ Array.replicate (c - b.size) (Value.int .u8 0)) el
            rw [hall] at hfr
            have hshape : (World.push (drawn w) (.cells ((b.data.map fun (b : UInt8) => Value.int .u8 b.toNat) ++ Array.replicate (c - b.size) (Value.int .u8 0)) el)).shape? (drawn w).heap.size = some (el, c) := by
              simp only [World.shape?, World.push_get_eq]; rw [hall]
            simp only [hbsz] at hch hshape hfr ⊢
            simp only [convert, Sem.run_bind, run_underlying hs, run_underlying hd, Result.andThen_ok, run_underlying hel, Conv.stringToBytes, hch, newRow_run, markStringish, run_shape, hshape, run_freeze, Sem.run_pure, hfr, hbsz]
            rfl
        · cases e
      · cases e

theorem assertV_ok {σ : S} {h : H} {w : World} (r : Rel σ h w) {xt t : Nat} {ok : Bool} {x v : V} (e : assertV P x t ok = some v) {x' : Value} (hx : VR σ x x') : VOk P σ h w (Instr.typeAssert x' xt t ok) v h := by
  unfold assertV at e
  have fails : (if ok then (zeroT P t).bind fun z => some (V.tup [z, .bool false]) else none) = some v → ∀ s : Sem Value, (∀ z', (zeroValue t).run P w = .ok z' w → ok = true → s.run P w = .ok (.tuple #[z', .bool false]) w) → VOk P σ h w s v h := by
    intro e s hs
    cases ok with
    | false => simp at e
    | true =>
      simp only [if_true] at e
      rw [Option.bind_eq_some_iff] at e; obtain ⟨z, hz, e⟩ := e
      injection e with e; subst e
      obtain ⟨z', hzr, hzrun⟩ := zeroT_run hz σ
      exact VOk.pure r (.tup _ #[z', .bool false] (.cons _ _ _ _ hzr (.cons _ _ _ _ (.bool _) .nil))) (hs z' (hzrun w) rfl)
  have holds : ∀ {u : V} {u' : Value}, VR σ u u' → some (if ok then V.tup [u, .bool true] else u) = some v → ∀ s : Sem Value, s.run P w = .ok (if ok then .tuple #[u', .bool true] else u') w → VOk P σ h w s v h := by
    intro u u' hu e s hs
    injection e with e; subst e
    refine VOk.pure r ?_ hs
    cases ok
    · exact hu
    · exact .tup _ _ (.cons _ _ _ _ hu (.cons _ _ _ _ (.bool _) .nil))
  cases hu : P.underlying t with
  | none => simp [hu] at e
  | some d =>
    simp only [hu] at e
    by_cases hd : ∃ ms, d = .interface ms
    · obtain ⟨want, rfl⟩ := hd
      simp only at e
      split at e
      · cases hx
        refine fails e _ fun z' hz ho => ?_
        subst ho
        simp only [Instr.typeAssert, Sem.run_bind, run_underlying hu, Result.andThen_ok, if_true, hz, Sem.run_pure]
      · rename_i dt y
        rw [Option.bind_eq_some_iff] at e; obtain ⟨i, hi, e⟩ := e
        cases hx with | iface _ _ y' hy =>
        split at e
        · rename_i hmm
          refine holds (.iface dt y y' hy) e _ ?_
          simp only [Instr.typeAssert, Sem.run_bind, run_underlying hu, Result.andThen_ok, run_typeInfo' hi, hmm]
          cases ok <;> rfl
        · rename_i mm hmm
          refine fails e _ fun z' hz ho => ?_
          subst ho
          simp only [Instr.typeAssert, Sem.run_bind, run_underlying hu, Result.andThen_ok, run_typeInfo' hi, hmm, if_true, hz, Sem.run_pure]
      · cases e
    · have hd' : ∀ ms, d ≠ .interface ms := fun ms c => hd ⟨ms, c⟩
      have e2 : (match (generalizing := false) x with
        | .niliface => (if ok then (zeroT P t).bind fun z => some (V.tup [z, .bool false]) else none)
        | .iface dt y => if dt = t then some (if ok then V.tup [y, .bool true] else y) else (if ok then (zeroT P t).bind fun z => some (V.tup [z, .bool false]) else none)
        | _ => none) = some v := by
        cases d <;> first | exact absurd rfl (hd' _) | exact e
      clear e
      split at e2
      · cases hx
        refine fails e2 _ fun z' hz ho => ?_
        subst ho
        simp only [Instr.typeAssert, Sem.run_bind, run_underlying hu, Result.andThen_ok]
        cases d <;> first | exact absurd rfl (hd' _) | simp [hz]
      · rename_i dt y
        cases hx with | iface _ _ y' hy =>
        split at e2
        · rename_i heq; subst heq
          refine holds hy e2 _ ?_
          simp only [Instr.typeAssert, Sem.run_bind, run_underlying hu, Result.andThen_ok]
          cases d <;> first | exact absurd rfl (hd' _) | (cases ok <;> simp)
        · rename_i hne
          refine fails e2 _ fun z' hz ho => ?_
          subst ho
          simp only [Instr.typeAssert, Sem.run_bind, run_underlying hu, Result.andThen_ok]
          cases d <;> first | exact absurd rfl (hd' _) | simp [hz, hne]
      · cases e2

theorem extractV_ok {σ : S} {h : H} {w : World} (r : Rel σ h w) {i : Nat} {x v : V} (e : extractV x i = some v) {x' : Value} (hx : VR σ x x') : VOk P σ h w (Instr.extract x' i) v h := by
  unfold extractV at e
  split at e
  · cases hx with | tup _ vs' hvs =>
    obtain ⟨v', g1, g2⟩ := hvs.get _ _ e
    rw [Array.getElem?_toList] at g1
    exact VOk.pure r g2 (by simp [Instr.extract, g1])
  · cases e

theorem lenV_ok {σ : S} {h : H} {w : World} (r : Rel σ h w) {t ty : Nat} {ts : Array TypeId} (hts : ts[0]? = some t) {x v : V} (e : lenV P h t x = some v) {x' : Value} (hx : VR σ x x') : VOk P σ h w (Builtin.len_ ts ty #[x']) v h := by
  unfold lenV at e
  cases hu : P.underlying t with
  | none => simp [hu] at e
  | some d =>
    simp only [hu] at e
    cases d with
    | string =>
      simp only at e
      split at e
      · injection e with e; subst e
        cases hx with | str _ b hb =>
        refine VOk.pure r (.int _ _) ?_
        have hsz : b.size = (b.data.toList).length := rfl
        rw [hb] at hsz
        simp [Builtin.len_, hts, run_underlying hu, goInt, hsz]
      · cases e
    | array n el =>
      simp only [Option.some.injEq] at e; subst e
      refine VOk.pure r (.int _ _) ?_
      simp [Builtin.len_, hts, run_underlying hu, goInt]
    | pointer arr =>
      simp only at e
      split at e
      · rename_i n el ha
        injection e with e; subst e
        refine VOk.pure r (.int _ _) ?_
        simp [Builtin.len_, hts, run_underlying hu, run_underlying ha, goInt]
      · cases e
    | slice el =>
      simp only at e
      split at e
      · injection e with e; subst e; cases hx
        refine VOk.pure r (.int _ _) ?_
        simp [Builtin.len_, hts, run_underlying hu, goInt]
      · injection e with e; subst e
        cases hx <;> refine VOk.pure r (.int _ _) ?_ <;> simp [Builtin.len_, hts, run_underlying hu, goInt]
      · cases e
    | map k el =>
      simp only at e
      split at e
      · injection e with e; subst e; cases hx
        refine VOk.pure r (.int _ _) ?_
        simp [Builtin.len_, hts, run_underlying hu, goInt]
      · rw [Option.bind_eq_some_iff] at e; obtain ⟨⟨i, es, clock⟩, hma, e⟩ := e
        injection e with e; subst e
        cases hx with | map _ rr hb =>
        obtain ⟨ho, hmm, es', hw, hER⟩ := r.mapObj hma hb
        have hget := run_getObj' (P := P) hw (fun _ _ _ c => by cases c)
        have hl := hER.length
        simp at hl
        refine VOk.pure r (.int _ _) ?_
        simp [Builtin.len_, hts, run_underlying hu, goInt, hget, hl]
      · cases e
    | _ => simp at e

theorem capV_ok {σ : S} {h : H} {w : World} (r : Rel σ h w) {t ty : Nat} {ts : Array TypeId} (hts : ts[0]? = some t) {x v : V} (e : capV P t x = some v) {x' : Value} (hx : VR σ x x') : VOk P σ h w (Builtin.cap_ ts ty #[x']) v h := by
  unfold capV at e
  split at e
  · rename_i el hu
    split at e
    · injection e with e; subst e; cases hx
      refine VOk.pure r (.int _ _) ?_
      simp [Builtin.cap_, hts, run_underlying hu, goInt]
    · injection e with e; subst e; cases hx
      refine VOk.pure r (.int _ _) ?_
      simp [Builtin.cap_, hts, run_underlying hu, goInt]
    · cases e
  · cases e

theorem fold2V_ok {σ : S} {f : V → V → Option V} {f' : Value → Value → Sem Value} (hf : ∀ x y z, f x y = some z → ∀ x' y', VR σ x x' → VR σ y y' → ∃ z', VR σ z z' ∧ ∀ w, (f' x' y').run P w = .ok z' w) (w : World) :
    ∀ (l : List V) (x v : V), fold2V f x l = some v → ∀ (x' : Value) (l' : List Value), VR σ x x' → VRs σ l l' → ∃ v', VR σ v v' ∧ (l'.foldlM f' x').run P w = .ok v' w
  | [], x, v, e, x', l', hx, hl => by
    simp [fold2V] at e; subst e; cases hl
    exact ⟨x', hx, by simp⟩
  | y :: r, x, v, e, x', l', hx, hl => by
    simp only [fold2V] at e
    rw [Option.bind_eq_some_iff] at e; obtain ⟨z, hz, e⟩ := e
    cases hl with | cons _ y' _ r' hy hr =>
    obtain ⟨z', g1, g2⟩ := hf x y z hz x' y' hx hy
    obtain ⟨v', k1, k2⟩ := fold2V_ok hf w r z v e z' r' g1 hr
    exact ⟨v', k1, by simp [List.foldlM_cons, g2, k2]⟩
theorem max2V_ok {σ : S} : ∀ x y z, max2V x y = some z → ∀ x' y', VR σ x x' → VR σ y y' → ∃ z', VR σ z z' ∧ ∀ w, (Builtin.max2 x' y').run P w = .ok z' w := by
  intro x y z h x' y' hx hy
  unfold max2V at h
  split at h
  · split at h
    · rename_i e; subst e; cases h; cases hx; cases hy
      exact ⟨_, .int _ _, fun w => by simp [Builtin.max2]⟩
    · cases h
  · cases h
theorem min2V_ok {σ : S} : ∀ x y z, min2V x y = some z → ∀ x' y', VR σ x x' → VR σ y y' → ∃ z', VR σ z z' ∧ ∀ w, (Builtin.min2 x' y').run P w = .ok z' w := by
  intro x y z h x' y' hx hy
  unfold min2V at h
  split at h
  · split at h
    · rename_i e; subst e; cases h; cases hx; cases hy
      exact ⟨_, .int _ _, fun w => by simp [Builtin.min2]⟩
    · cases h
  · cases h

theorem clearV_ok {σ : S} {h h' : H} {w : World} (r : Rel σ h w) {t ty : Nat} {ts : Array TypeId} (hts : ts[0]? = some t) {d : TypeDesc} (hu : P.underlying t = some d) {x : V} (e : clearV P h t x = some h') {x' : Value} (hx : VR σ x x') : VOk P σ h w (Builtin.clear_ ts ty #[x']) .u h' := by
  unfold clearV at e
  split at e
  · injection e with e; subst e; cases hx
    refine VOk.pure r (.tup _ #[] .nil) ?_
    simp only [Builtin.clear_, hts, List.getElem?_toArray, List.getElem?_cons_zero, Sem.run_bind, run_underlying hu, Result.andThen_ok]
    cases d <;> rfl
  · rw [Option.bind_eq_some_iff] at e; obtain ⟨⟨i, es, clock⟩, hma, e⟩ := e
    simp only [H.setK_eq, Option.some.injEq] at e; subst e
    cases hx with | map _ rr hb =>
    obtain ⟨ho, hmm, es', hw, hER⟩ := r.mapObj hma hb
    have hget := run_getObj' (P := P) hw (fun _ _ _ c => by cases c)
    have hset := run_setObj' (P := P) (x := .map #[] clock) hw (fun _ _ _ c => by cases c)
    refine ⟨σ, _, .tuple #[], r.turnMap (es2' := #[]) ho hmm .nil, .tup _ #[] .nil, ?_⟩
    simp only [Builtin.clear_, hts, List.getElem?_toArray, List.getElem?_cons_zero, Sem.run_bind, run_underlying hu, Result.andThen_ok]
    cases d <;> simp [hget, hset]
  · injection e with e; subst e; cases hx
    refine VOk.pure r (.tup _ #[] .nil) ?_
    simp only [Builtin.clear_, hts, List.getElem?_toArray, List.getElem?_cons_zero, Sem.run_bind, run_underlying hu, Result.andThen_ok]
    cases d <;> rfl
  · rename_i a n cap
    cases hb : Nat.beq n 0 with
    | true =>
      obtain rfl := Nat.eq_of_beq_eq_true hb
      simp only [Nat.beq_refl, cond_true, Option.some.injEq] at e; subst e
      refine VOk.pure r (v' := .tuple #[]) (.tup _ #[] .nil) ?_
      cases hx <;>
        (simp only [Builtin.clear_, hts, List.getElem?_toArray, List.getElem?_cons_zero, Sem.run_bind, run_underlying hu, Result.andThen_ok]; cases d <;> rfl)
    | false =>
      have hn : n ≠ 0 := by intro c; subst c; cases hb
      simp only [hb, cond_false] at e
      rw [Option.bind_eq_some_iff] at e; obtain ⟨el, hel, e⟩ := e
      rw [Option.bind_eq_some_iff] at e; obtain ⟨size, hsz, e⟩ := e
      rw [Option.bind_eq_some_iff] at e; obtain ⟨z, hz, e⟩ := e
      cases hl : Nat.beq z.cells.length size with
      | false => rw [hl] at e; cases e
      | true =>
        rw [hl] at e
        simp only [cond_true] at e
        obtain ⟨z', hzr, hzrun⟩ := zeroT_run hz σ
        have hrel := zeroCells_rep hzr.cells n
        have hel' := elemT_run hel
        rw [hu] at hel'; cases hel'
        obtain ⟨m, rfl⟩ : ∃ m, n = m + 1 := ⟨n - 1, by omega⟩
        have key : ∀ (a' : Addr) (c : Nat), AR σ a a' → x' = .slice (some a') (m + 1) c → VOk P σ h w (Builtin.clear_ ts ty #[x']) .u h' := by
          intro a' c ha hx'
          subst hx'
          obtain ⟨h2, w2, e2, hst, sim⟩ := r.store (P := P) ha hrel e
          injection e2 with e2; subst e2
          refine ⟨σ, w2, .tuple #[], sim, .tup _ #[] .nil, ?_⟩
          simp [Builtin.clear_, hts, run_underlying hu, hzrun, hst]
        cases hx with
        | slk _ a' _ c ha hle => exact key a' c (by rcases ha with rfl | ha; · omega
                                                    · exact ha) rfl
        | slt _ a' _ zz c ht => exact key a' c (ht.addr (by have := ht.le; omega)) rfl
  · cases e

/-! ## Iterators -/
theorem alloc_run (o : Obj) (w : World) : (newObj o).run P w = .ok w.heap.size (World.push w o) := rfl

theorem rangeV_ok {σ : S} {h h' : H} {w : World} (r : Rel σ h w) {t : Nat} {x v : V} (e : rangeV P h t x = some (v, h')) {x' : Value} (hx : VR σ x x') : VOk P σ h w (Instr.range t x') v h' := by
  unfold rangeV at e
  cases hu : P.underlying t with
  | none => simp [hu] at e
  | some d =>
    cases d with
    | string =>
      cases x with
      | str s =>
        simp only [hu, H.newK_eq, Option.some.injEq, Prod.mk.injEq] at e
        obtain ⟨rfl, rfl⟩ := e
        cases hx with | str _ b hb =>
        refine ⟨_, _, _, r.alloc (ext := 0) (o' := .stringIter b 0) ⟨rfl, rfl, rfl, b, rfl, hb⟩, .ptr _ _ row_addr, ?_⟩
        simp [Instr.range, run_underlying hu, World.push]
      | _ => simp [hu] at e
    | map k el =>
      cases x with
      | nilmap =>
        simp only [hu, H.newK_eq, Option.some.injEq, Prod.mk.injEq] at e
        obtain ⟨rfl, rfl⟩ := e
        cases hx
        refine ⟨_, _, _, r.alloc (ext := 0) (o' := .mapIter none 0 #[] 0) ⟨rfl, rfl, rfl, none, #[], rfl, trivial, rfl⟩, .ptr _ _ row_addr, ?_⟩
        simp [Instr.range, run_underlying hu, World.push]
      | map b =>
        simp only [hu] at e
        rw [Option.bind_eq_some_iff] at e; obtain ⟨⟨i, es, clock⟩, hma, e⟩ := e
        simp only [H.newK_eq, Option.some.injEq, Prod.mk.injEq] at e
        obtain ⟨rfl, rfl⟩ := e
        cases hx with | map _ rr hb =>
        obtain ⟨ho, hmm, es', hw, hER⟩ := r.mapObj hma hb
        have hget := run_getObj' (P := P) hw (fun _ _ _ c => by cases c)
        refine ⟨_, _, _, r.alloc (ext := 0) (o' := .mapIter (some rr) clock #[] clock) ⟨rfl, rfl, rfl, some rr, #[], rfl, hb.up (S.bind_up (r.fresh 0)), rfl⟩, .ptr _ _ row_addr, ?_⟩
        simp [Instr.range, run_underlying hu, hget, World.push]
      | _ => simp [hu] at e
    | _ => cases x <;> simp [hu] at e

theorem AR.own0 {σ : S} {i : Nat} {a' : Addr} (h : AR σ ⟨.own i, 0, 0⟩ a') : ∃ b ext, σ.m i 0 = some (b, 0, ext) ∧ a' = ⟨b, 0, none⟩ := by
  unfold AR at h
  obtain ⟨b, sh, ext, hm, hsh, rfl⟩ := h
  simp only at hm hsh
  obtain rfl : sh = 0 := by omega
  exact ⟨b, ext, hm, rfl⟩

theorem nextStrV_ok {σ : S} {h h' : H} {w : World} (r : Rel σ h w) {t : Nat} {x v : V} (e : nextStrV h x = some (v, h')) {x' : Value} (hx : VR σ x x') : VOk P σ h w (Instr.next x' true t) v h' := by
  unfold nextStrV at e
  split at e
  · rename_i i
    split at e
    · rename_i s pos ho
      cases hx with | ptr _ a' ha =>
      obtain ⟨b, ext, hm, rfl⟩ := ha.own0
      obtain ⟨_, _, rfl, s', hw, hs'⟩ := r.obj _ _ _ _ _ _ ho hm
      have hbs : s' = ⟨s.toArray⟩ := by obtain ⟨⟨l⟩⟩ := s'; simp at hs'; rw [hs']
      have hsz : s'.size = s.length := by rw [← hs']; rfl
      have hget := run_getObj' (P := P) hw (fun _ _ _ c => by cases c)
      split at e
      · rename_i hlt
        simp only [H.setK_eq, Option.some.injEq, Prod.mk.injEq] at e
        obtain ⟨rfl, rfl⟩ := e
        have hset := run_setObj' (P := P) (x := .stringIter s' (pos + (Utf8.decode ⟨s.toArray⟩ pos).2)) hw (fun _ _ _ c => by cases c)
        refine ⟨σ, _, .tuple #[.bool true, .int .i64 pos, .int .i32 (Utf8.decode ⟨s.toArray⟩ pos).1], r.turn (obj := .stringIter s' (pos + (Utf8.decode ⟨s.toArray⟩ pos).2)) hm rfl ?_, .tup _ _ (.cons _ _ _ _ (.bool _) (.cons _ _ _ _ (.int _ _) (.cons _ _ _ _ (.int _ _) .nil))), ?_⟩
        · intro v c sh ext hv
          obtain ⟨rfl, rfl, rfl, _⟩ := r.obj _ _ _ _ _ _ ho hv
          rw [hm] at hv; cases hv
          rw [if_pos rfl]
          exact ⟨rfl, rfl, rfl, s', rfl, hs'⟩
        · simp only [Instr.next, Sem.run_bind, hget, Result.andThen_ok, hsz, if_pos hlt]
          rw [hbs] at hset ⊢
          simp only [hset, Sem.run_bind, Result.andThen_ok, Sem.run_pure, goInt]
      · rename_i hlt
        simp only [Option.some.injEq, Prod.mk.injEq] at e
        obtain ⟨rfl, rfl⟩ := e
        refine VOk.pure r (.tup _ #[.bool false] (.cons _ _ _ _ (.bool _) .nil)) ?_
        simp only [Instr.next, Sem.run_bind, hget, Result.andThen_ok, hsz, if_neg hlt, Sem.run_pure]
    · cases e
  · cases e

theorem entryAt_get : ∀ (stamp : Nat) (es : List (V × V × Nat)) (e : V × V × Nat), entryAt stamp es = some e → ∀ {σ : S} {es' : List MapEntry}, ER σ es es' → ∃ e', es'.find? (·.born == stamp) = some e' ∧ EqR σ e e'
  | stamp, [], e, h, σ, es', hER => by simp [entryAt] at h
  | stamp, (k, v, n) :: es, e, h, σ, es', hER => by
    cases hER with | cons _ _ _ k' v' _ es'' h1 h2 h3 =>
    simp only [entryAt] at h
    cases hb : Nat.beq n stamp with
    | true =>
      have := Nat.eq_of_beq_eq_true hb
      simp only [hb, cond_true, Option.some.injEq] at h; subst h
      exact ⟨{ key := k', val := v', born := n }, by simp [this], h1, h2, rfl⟩
    | false =>
      have : n ≠ stamp := by intro c; subst c; rw [Nat.beq_refl] at hb; cases hb
      simp only [hb, cond_false] at h
      obtain ⟨e', g1, g2⟩ := entryAt_get stamp es e h h3
      have hbn : (n == stamp) = false := by simpa using this
      exact ⟨e', by simp only [List.find?_cons, hbn]; exact g1, g2⟩

theorem entryOfV_ok {σ : S} {h : H} {w : World} (r : Rel σ h w) {x v : V} (e : entryOfV h x = some v) {x' : Value} (hx : VR σ x x') : VOk P σ h w (Instr.entry x') v h := by
  unfold entryOfV at e
  split at e
  · rename_i i
    split at e
    · rename_i b since s seen stepped ho
      rw [Option.bind_eq_some_iff] at e; obtain ⟨⟨j, es, clock⟩, hma, e⟩ := e
      simp only at e
      cases hc : Nat.beq clock stepped with
      | false => rw [hc] at e; cases e
      | true =>
        rw [hc] at e
        simp only [cond_true] at e
        have hcl := Nat.eq_of_beq_eq_true hc
        rw [Option.bind_eq_some_iff] at e; obtain ⟨en, hen, e⟩ := e
        injection e with e; subst e
        cases hx with | ptr _ a' ha =>
        obtain ⟨bb, ext, hm, rfl⟩ := ha.own0
        obtain ⟨_, _, rfl, m', seen', hw, hom, hseen⟩ := r.obj _ _ _ _ _ _ ho hm
        cases m' with
        | none => exact absurd hom (by simp [OBR])
        | some rr =>
          have hget := run_getObj' (P := P) hw (fun _ _ _ c => by cases c)
          obtain ⟨ho2, hmm, es', hw2, hER⟩ := r.mapObj hma hom
          have hget2 := run_getObj' (P := P) hw2 (fun _ _ _ c => by cases c)
          obtain ⟨en', g1, g2, g3, g4⟩ := entryAt_get _ _ _ hen hER
          have hback : seen'.back? = some s := by
            rw [← Array.getLast?_toList, hseen]; simp
          have hfind : es'.find? (fun e => e.born == s) = some en' := by rw [← Array.find?_toList]; exact g1
          refine VOk.pure r (.tup _ #[en'.key, en'.val] (.cons _ _ _ _ g2 (.cons _ _ _ _ g3 .nil))) ?_
          have hne : (clock != stepped) = false := by simp [hcl]
          simp only [Instr.entry, Sem.run_bind, hget, Result.andThen_ok, hback, hget2, hne, Bool.false_eq_true, if_false, Sem.run_pure, hfind]
    · cases e
  · cases e

end Go.Proofs.Ab
