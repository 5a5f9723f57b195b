/- The evaluator's soundness, fifth part: variables, new blocks, literals, slices' bounds. -/
import Derived.Test.YtelmlcciphafjaaGreatDoorAb7
namespace Go.Proofs.Ab
open Go

variable {P : Program}

/-- The value of an operation that the model writes as a computation of a value. -/
def VOk (P : Program) (σ : S) (h : H) (w : World) (s : Sem Value) (v : V) (h' : H) : Prop :=
  ∃ σ' w' v', Sim σ h w σ' h' w' ∧ VR σ' v v' ∧ s.run P w = .ok v' w'
theorem VOk.pure {σ : S} {h : H} {w : World} (r : Rel σ h w) {s : Sem Value} {v : V} {v' : Value} (hv : VR σ v v') (hs : s.run P w = .ok v' w) : VOk P σ h w s v h :=
  ⟨σ, w, v', Sim.refl r, hv, hs⟩

theorem sureAddr_run (a : Addr) (w : World) : (Instr.sureAddr (.pointer (some a))).run P w = .ok a w := by simp [Instr.sureAddr]

theorem AR.spot {σ : S} {a : A} {a' : Addr} (h : AR σ a a') : ∃ b o, a' = ⟨b, o, none⟩ := by
  unfold AR at h
  cases hb : a.blk with
  | base i => simp only [hb] at h; exact ⟨_, _, h.2⟩
  | glob i => simp only [hb] at h; exact ⟨_, _, h.2⟩
  | own i => simp only [hb] at h; obtain ⟨b, sh, ext, _, _, e⟩ := h; exact ⟨_, _, e⟩
theorem AR.add {σ : S} {a : A} {a' : Addr} (h : AR σ a a') (n : Nat) : AR σ (a.add n) (a'.add n) := by
  unfold AR at *
  simp only [A.add]
  cases hb : a.blk with
  | base i => simp only [hb] at h ⊢; obtain ⟨h1, rfl⟩ := h; exact ⟨h1, by rw [add_of, Nat.add_assoc]⟩
  | glob i => simp only [hb] at h ⊢; obtain ⟨h1, rfl⟩ := h; exact ⟨h1, add_of _ _ _⟩
  | own i =>
    simp only [hb] at h ⊢
    obtain ⟨b, sh, ext, hm, hl, rfl⟩ := h
    refine ⟨b, sh, ext, hm, by omega, ?_⟩
    rw [add_of]
    congr 1
    omega

theorem loadT_run {t : Nat} {a : A} {v : V} {h : H} (e : loadT P h t a = some v) {σ : S} {w : World} (r : Rel σ h w) {a' : Addr} (ha : AR σ a a') :
    ∃ v', VR σ v v' ∧ (loadVar t a').run P w = .ok v' w := by
  unfold loadT at e
  cases hg : aggT P t with
  | none => simp [hg] at e
  | some b =>
    cases b with
    | true =>
      simp only [hg] at e
      cases hs : szT P t with
      | none => simp [hs] at e
      | some n =>
        simp only [hs, Option.bind_some] at e
        cases hc : h.cells a n with
        | none => simp [hc] at e
        | some cs =>
          simp [hc] at e; subst e
          obtain ⟨vs', h1, h2, _⟩ := r.load (P := P) ha hc
          exact ⟨.agg vs', .agg _ _ h2, by simp [loadVar, aggT_run hg, szT_run hs, h1]⟩
    | false =>
      simp only [hg, H.cell] at e
      cases hc : h.cells a 1 with
      | none => simp [hc] at e
      | some cs =>
        simp only [hc, Option.bind_some] at e
        split at e
        · cases e
          obtain ⟨_, b, o, rfl, h2⟩ := r.cells ha hc
          obtain ⟨x', g1, g2, _⟩ := h2 0 v (by simp)
          simp only [Nat.add_zero] at g1
          exact ⟨x', g2, by simp [loadVar, aggT_run hg, g1]⟩
        · cases e

theorem VR.cells_size {σ : S} {v : V} {v' : Value} (h : VR σ v v') : v'.cells.size = v.cells.length := by
  have := h.cells.length
  simpa using this.symm

theorem storeT_run {β : Type} {t : Nat} {a : A} {v : V} {h : H} {k : H → Option β} {x : β} (e : storeT P h t a v k = some x) {σ : S} {w : World} (r : Rel σ h w) {a' : Addr} (ha : AR σ a a') {v' : Value} (hv : VR σ v v') :
    ∃ h' w', k h' = some x ∧ Sim σ h w σ h' w' ∧ (storeVar t a' v').run P w = .ok () w' := by
  unfold storeT at e
  cases hs : szT P t with
  | none => simp [hs] at e
  | some n =>
    simp only [hs, Option.bind_some] at e
    cases hl : Nat.beq v.cells.length n with
    | false => simp [hl] at e
    | true =>
      have hl' := Nat.eq_of_beq_eq_true hl
      simp only [hl, cond_true] at e
      obtain ⟨h', w', h1, h2, h3⟩ := r.store (P := P) ha hv.cells e
      refine ⟨h', w', h1, h3, ?_⟩
      simp [storeVar, szT_run hs, hv.cells_size, hl', h2]

/-- A new row of cells. -/
theorem row_ok {σ : S} {h : H} {w : World} (r : Rel σ h w) (e : TypeId) {cs : List V} {cs' : Array Value} (hc : VRs σ cs cs'.toList) (ha : allAtoms cs = true) (fz : Nat × Nat) (more : List Value) :
    ∀ (all : Array Value), all = cs' ++ more.toArray → (∀ k, k < all.size → ¬ (fz.1 ≤ k ∧ k < fz.2)) →
    Sim σ h w (σ.bind h.next 0 (w.heap.size, 0, all.size)) (h.new (.cells 0 (cs.map fun v => (v, 0)))) (World.push w (.cells all e fz)) := by
  intro all hall hfz
  refine r.alloc (ext := all.size) ?_
  have hl := hc.length
  refine ⟨Nat.le_refl _, all, e, fz, rfl, rfl, hfz, ?_, ?_, ?_⟩
  · simp only [List.length_map]
    rw [if_pos trivial, hall]
    simp at hl ⊢
    omega
  · intro k x lo hk
    rw [List.getElem?_map] at hk
    cases hx : cs[k]? with
    | none => simp [hx] at hk
    | some y => simp [hx] at hk; omega
  · intro k x lo hk hlo _
    rw [List.getElem?_map] at hk
    cases hx : cs[k]? with
    | none => simp [hx] at hk
    | some y =>
      simp [hx] at hk
      obtain ⟨rfl, rfl⟩ := hk
      obtain ⟨y', g1, g2⟩ := hc.get _ _ hx
      refine ⟨y', ?_, g2.up (S.bind_up (r.fresh 0)), allAtoms_get ha _ _ hx⟩
      have hlt : k < cs'.size := by
        rcases Nat.lt_or_ge k cs'.size with h' | h'
        · exact h'
        · rw [List.getElem?_eq_none (by simpa using h')] at g1; cases g1
      rw [hall, Nat.sub_zero, Array.getElem?_append_left hlt]
      simpa using g1
theorem row_addr {σ : S} {h : H} {b ext : Nat} : AR (σ.bind h.next 0 (b, 0, ext)) ⟨.own h.next, 0, 0⟩ ⟨b, 0, none⟩ := by
  unfold AR
  exact ⟨b, 0, ext, S.bind_self σ _ _ _, Nat.le_refl _, rfl⟩

theorem newRow_run (e : TypeId) (cs : Array Value) (w : World) : (newRow e cs).run P w = .ok ⟨w.heap.size, 0, none⟩ (World.push w (.cells cs e)) := by
  simp [newRow, World.push]

theorem newRow_ok {σ : S} {h : H} {w : World} (r : Rel σ h w) (e : TypeId) {cs : List V} {cs' : Array Value} (hc : VRs σ cs cs'.toList) (ha : allAtoms cs = true) :
    Sim σ h w (σ.bind h.next 0 (w.heap.size, 0, cs'.size)) (h.new (.cells 0 (cs.map fun v => (v, 0)))) (World.push w (.cells cs' e)) :=
  row_ok r e hc ha (0, 0) [] cs' (by simp) (by simp)

/-! ## Literals -/
theorem puts_get : ∀ (v cs cs' : List V), putAll.puts v cs = some cs' → v.length ≤ cs.length ∧ cs'.length = cs.length ∧ ∀ k, cs'[k]? = if k < v.length then v[k]? else cs[k]?
  | [], cs, cs', h => by simp [putAll.puts] at h; subst h; simp
  | v :: vs, [], cs', h => by simp [putAll.puts] at h
  | v :: vs, c :: cs, cs', h => by
    simp only [putAll.puts] at h
    cases e : putAll.puts vs cs with
    | none => simp [e] at h
    | some q =>
      simp [e] at h; subst h
      obtain ⟨h1, h2, h3⟩ := puts_get vs cs q e
      refine ⟨by simp; exact h1, by simp [h2], fun k => ?_⟩
      cases k with
      | zero => simp
      | succ k => simp [h3 k]
theorem putAll_get : ∀ (off : Nat) (v cs cs' : List V), putAll off v cs = some cs' → off + v.length ≤ cs.length ∧ cs'.length = cs.length ∧ ∀ k, cs'[k]? = if off ≤ k ∧ k < off + v.length then v[k - off]? else cs[k]?
  | 0, v, cs, cs', h => by
    simp only [putAll] at h
    obtain ⟨h1, h2, h3⟩ := puts_get v cs cs' h
    exact ⟨by omega, h2, fun k => by simp [h3 k]⟩
  | off + 1, v, [], cs', h => by simp [putAll] at h
  | off + 1, v, c :: cs, cs', h => by
    simp only [putAll] at h
    cases e : putAll off v cs with
    | none => simp [e] at h
    | some q =>
      simp [e] at h; subst h
      obtain ⟨h1, h2, h3⟩ := putAll_get off v cs q e
      refine ⟨by simp; omega, by simp [h2], fun k => ?_⟩
      cases k with
      | zero => simp
      | succ k =>
        simp only [List.getElem?_cons_succ, h3 k]
        by_cases hk : off ≤ k ∧ k < off + v.length
        · rw [if_pos hk, if_pos (by omega), show k + 1 - (off + 1) = k - off by omega]
        · rw [if_neg hk, if_neg (by omega)]

theorem foldl_wr (off : Nat) : ∀ (vs : List Value) (i : Nat) (cells : Array Value), (vs.zipIdx i).foldl (fun cs (c, j) => cs.setIfInBounds (off + j) c) cells = wr cells (off + i) vs
  | [], i, cells => rfl
  | v :: vs, i, cells => by
    simp only [List.zipIdx_cons, List.foldl_cons, wr]
    rw [foldl_wr off vs (i + 1)]
    rfl

theorem putAll_rel {σ : S} {off : Nat} {v cs cs' : List V} (h : putAll off v cs = some cs') {v' : List Value} {c : Array Value} (hv : VRs σ v v') (hc : VRs σ cs c.toList) : VRs σ cs' (wr c off v').toList := by
  obtain ⟨h1, h2, h3⟩ := putAll_get off v cs cs' h
  have hl := hv.length
  have hl2 := hc.length
  simp at hl2
  refine VRs.of_get (by simp [wr_size, h2, hl2]) fun j x e => ?_
  rw [h3] at e
  simp only [Array.getElem?_toList]
  rw [wr_get _ _ _ _ (by omega)]
  by_cases hk : off ≤ j ∧ j < off + v.length
  · rw [if_pos hk] at e
    obtain ⟨x', g1, g2⟩ := hv.get _ _ e
    exact ⟨x', by rw [if_pos (by omega)]; exact g1, g2⟩
  · rw [if_neg hk] at e
    obtain ⟨x', g1, g2⟩ := hc.get _ _ e
    exact ⟨x', by rw [if_neg (by omega)]; simpa using g1, g2⟩

inductive PsR (σ : S) : List (Nat × V) → List (Nat × Value) → Prop
  | nil : PsR σ [] []
  | cons (i : Nat) (v : V) (v' : Value) (r : List (Nat × V)) (r' : List (Nat × Value)) : VR σ v v' → PsR σ r r' → PsR σ ((i, v) :: r) ((i, v') :: r')

theorem fillV_ok {σ : S} {place place' : Nat → Option (Nat × Nat)} (hp : ∀ i x, place i = some x → place' i = some x) : ∀ {parts : List (Nat × V)} {parts' : List (Nat × Value)} {cells cs : List V} {c : Array Value},
    PsR σ parts parts' → fillV place cells parts = some cs → VRs σ cells c.toList → ∃ c', Instr.fill place' c parts' = some c' ∧ VRs σ cs c'.toList
  | [], _, cells, cs, c, hps, h, hc => by
    cases hps
    simp [fillV] at h; subst h
    exact ⟨c, by simp [Instr.fill], hc⟩
  | (i, v) :: rest, _, cells, cs, c, hps, h, hc => by
    cases hps with
    | cons _ _ v' _ r' hv hr =>
      simp only [fillV] at h
      cases hpl : place i with
      | none => simp [hpl] at h
      | some os =>
        obtain ⟨off, size⟩ := os
        simp only [hpl, Option.bind_some] at h
        cases hb : Nat.beq v.cells.length size with
        | false => simp [hb] at h
        | true =>
          have hb' := Nat.eq_of_beq_eq_true hb
          simp only [hb, cond_true] at h
          cases hpa : putAll off v.cells cells with
          | none => simp [hpa] at h
          | some q =>
            simp only [hpa, Option.bind_some] at h
            have hq := putAll_rel hpa hv.cells hc
            have hq1 := (putAll_get _ _ _ _ hpa).1
            have hcl := hc.length
            simp at hcl
            obtain ⟨c', g1, g2⟩ := fillV_ok hp hr h hq
            refine ⟨c', ?_, g2⟩
            simp only [Instr.fill, hp i _ hpl, hv.cells_size, hb']
            rw [if_neg (by simp; omega)]
            rw [← g1]
            congr 1
            have := foldl_wr off v'.cells.toList 0 c
            simp only [Nat.add_zero] at this
            rw [← this, ← Array.foldl_toList]
            simp

theorem mapM_ok {α β : Type} {f : α → Sem β} {g : α → β} {w : World} : ∀ (l : List α), (∀ x ∈ l, (f x).run P w = .ok (g x) w) → (l.mapM f).run P w = .ok (l.map g) w
  | [], _ => by simp
  | x :: xs, h => by
    simp [List.mapM_cons, h x (by simp), mapM_ok xs fun y hy => h y (by simp [hy])]

theorem buildV_ok {σ : S} {t : Nat} {parts : List (Nat × V)} {parts' : Array (Nat × Value)} {v : V} (e : buildV P t parts = some v) (hps : PsR σ parts parts'.toList) : ∃ v', VR σ v v' ∧ ∀ w, (Instr.build t parts').run P w = .ok v' w := by
  unfold buildV at e
  cases hz : zeroT P t with
  | none => simp [hz] at e
  | some z =>
    simp only [hz, Option.bind_some] at e
    obtain ⟨z', hzr, hzrun⟩ := zeroT_run hz σ
    cases hu : P.underlying t with
    | none => simp [hu] at e
    | some d =>
      simp only [hu] at e
      cases d with
      | struct fs =>
        simp only at e
        cases hall : fs.toList.all (fun f => (szT P f.type).isSome) with
        | false => simp only [hall, Bool.not_false, cond_true] at e; cases e
        | true =>
        simp only [hall, Bool.not_true, cond_false] at e
        have hsz : ∀ f ∈ fs.toList, ∃ n, szT P f.type = some n := fun f hf => by
          have := List.all_eq_true.1 hall f hf
          exact Option.isSome_iff_exists.1 this
        cases hf : fillV (fun i => (fs.toList[i]?).bind fun f => (szT P f.type).bind fun n => some (f.offset, n)) z.cells parts with
        | none => rw [hf] at e; cases e
        | some cs =>
          rw [hf] at e
          simp only [Option.bind_some, Option.some.injEq] at e; subst e
          let g : Field → Nat × Nat := fun f => (f.offset, (szT P f.type).getD 0)
          obtain ⟨c', g1, g2⟩ := fillV_ok (place' := fun i => ((fs.map g)[i]? : Option (Nat × Nat))) (by
            intro i x hx
            simp only [Array.getElem?_map]
            cases hi : fs.toList[i]? with
            | none => simp [hi] at hx
            | some f =>
              simp only [hi, Option.bind_some] at hx
              cases hs : szT P f.type with
              | none => simp [hs] at hx
              | some n =>
                simp [hs] at hx; subst hx
                have : fs[i]? = some f := by simpa using hi
                simp [this, g, hs]) hps hf hzr.cells
          refine ⟨.agg c', .agg _ _ g2, fun w => ?_⟩
          have hm : (fs.mapM fun f => (do pure (f.offset, ← sizeOf f.type) : Sem (Nat × Nat))).run P w = .ok (fs.map g) w := by
            have := mapM_ok (P := P) (f := fun f : Field => (do pure (f.offset, ← sizeOf f.type) : Sem (Nat × Nat))) (g := g) (w := w) fs.toList (fun f hf => by
              obtain ⟨n, hn⟩ := hsz f hf
              simp [szT_run hn, g, hn])
            rw [Array.mapM_eq_mapM_toList, Sem.run_map, this]
            simp only [Result.andThen_ok]
            congr 1
            apply Array.ext'
            simp
          simp only [Instr.build, Sem.run_bind, hzrun, Result.andThen_ok, run_underlying hu]
          rw [hm]
          simp only [Result.andThen_ok]
          rw [g1]
          rfl
      | array n el =>
        simp only at e
        cases hs : szT P el with
        | none => simp [hs] at e
        | some k =>
          simp only [hs, Option.bind_some] at e
          cases hf : fillV (fun i => some (i * k, k)) z.cells parts with
          | none => simp [hf] at e
          | some cs =>
            simp [hf] at e; subst e
            obtain ⟨c', g1, g2⟩ := fillV_ok (place' := fun i => some (i * k, k)) (fun _ _ h => h) hps hf hzr.cells
            refine ⟨.agg c', .agg _ _ g2, fun w => ?_⟩
            simp [Instr.build, hzrun, run_underlying hu, szT_run hs, g1]
      | _ => simp at e

end Go.Proofs.Ab
