/- The evaluator's soundness, sixth part: slices: made, cut, indexed, appended to, copied. -/
import Derived.Test.YtelmlcciphafjaaGreatDoorAb8
namespace Go.Proofs.Ab
open Go

variable {P : Program}

theorem elemT_run {t e : Nat} (h : elemT P t = some e) : P.underlying t = some (.slice e) := by
  unfold elemT at h
  cases hu : P.underlying t with
  | none => simp [hu] at h
  | some d => cases d <;> simp [hu] at h; subst h; rfl

theorem repV_get (z : List V) : ∀ (k j : Nat), (repV z k)[j]? = if j < k * z.length then z[j % z.length]? else none
  | 0, j => by simp [repV]
  | k + 1, j => by
    simp only [repV]
    by_cases hj : j < z.length
    · rw [List.getElem?_append_left hj, Nat.mod_eq_of_lt hj, if_pos (by rw [Nat.add_mul]; omega)]
    · rw [List.getElem?_append_right (by omega), repV_get z k]
      by_cases hk : j - z.length < k * z.length
      · rw [if_pos hk, if_pos (by rw [Nat.add_mul]; omega)]
        congr 1
        exact (Nat.mod_eq_sub_mod (by omega)).symm
      · rw [if_neg hk, if_neg (by rw [Nat.add_mul]; omega)]
theorem repV_length (z : List V) : ∀ (k : Nat), (repV z k).length = k * z.length
  | 0 => by simp [repV]
  | k + 1 => by simp [repV, repV_length z k, Nat.add_mul, Nat.add_comm]
theorem repV_atoms {z : List V} (h : allAtoms z = true) : ∀ (k : Nat), allAtoms (repV z k) = true
  | 0 => rfl
  | k + 1 => by
    have app : ∀ (a b : List V), allAtoms a = true → allAtoms b = true → allAtoms (a ++ b) = true := by
      intro a
      induction a with
      | nil => intro b _ hb; exact hb
      | cons x xs ih => intro b ha hb; simp only [allAtoms, Bool.and_eq_true, List.cons_append] at ha ⊢; exact ⟨ha.1, ih b ha.2 hb⟩
    exact app _ _ h (repV_atoms h k)
theorem allAtoms_append {a b : List V} (ha : allAtoms a = true) (hb : allAtoms b = true) : allAtoms (a ++ b) = true := by
  induction a with
  | nil => exact hb
  | cons x xs ih => simp only [allAtoms, Bool.and_eq_true, List.cons_append] at ha ⊢; exact ⟨ha.1, ih ha.2⟩

theorem range_rep {σ : S} {z : List V} {z' : Array Value} (h : VRs σ z z'.toList) (k : Nat) : VRs σ (repV z k) (((Array.range (k * z'.size)).map (fun i => z'[i % z'.size]!)).toList) := by
  have hl := h.length
  simp at hl
  refine VRs.of_get (by simp [repV_length, hl]) fun j x e => ?_
  rw [repV_get] at e
  by_cases hj : j < k * z.length
  · rw [if_pos hj] at e
    obtain ⟨x', g1, g2⟩ := h.get _ _ e
    refine ⟨x', ?_, g2⟩
    simp only [Array.getElem?_toList, Array.getElem?_map, Array.getElem?_range]
    rw [if_pos (by rw [← hl]; exact hj)]
    simp only [Option.map_some]
    simp only [Array.getElem?_toList, hl] at g1
    rw [Array.getElem!_eq_getD, Array.getD_eq_getD_getElem?, g1]
    rfl
  · rw [if_neg hj] at e; cases e

theorem range_rep0 (z : Array Value) : ((Array.range 0).map (fun i => z[i % z.size]!)) = #[] := by simp

/-- The rows that literals and make lay. -/
theorem rep_run {σ : S} {e n len : Nat} {z : List V} (h : (bif Nat.beq (len * n) 0 then some [] else (zeroT P e).bind fun z => bif Nat.beq z.cells.length n then some z.cells else none) = some z) :
    ∃ z' : Array Value, VRs σ (bif Nat.beq (len * n) 0 then [] else repV z len) ((Array.range (len * n)).map (fun i => z'[i % z'.size]!)).toList ∧
      (len * n = 0 → z' = #[]) ∧ (len * n ≠ 0 → ∃ y : Value, z' = y.cells ∧ ∀ w, (zeroValue e).run P w = .ok y w) := by
  cases hz0 : Nat.beq (len * n) 0 with
  | true =>
    have hz0' := Nat.eq_of_beq_eq_true hz0
    refine ⟨#[], ?_, fun _ => rfl, fun c => absurd hz0' c⟩
    rw [hz0', range_rep0]
    exact .nil
  | false =>
    have hz0' : len * n ≠ 0 := by intro e; rw [e] at hz0; cases hz0
    simp only [hz0, cond_false] at h
    cases hz : zeroT P e with
    | none => simp [hz] at h
    | some y =>
      simp only [hz, Option.bind_some] at h
      cases hl : Nat.beq y.cells.length n with
      | false => simp [hl] at h
      | true =>
        have hl' := Nat.eq_of_beq_eq_true hl
        simp only [hl, cond_true, Option.some.injEq] at h
        subst h
        obtain ⟨y', hyr, hyrun⟩ := zeroT_run hz σ
        have hsz : y'.cells.size = n := by rw [hyr.cells_size, hl']
        refine ⟨y'.cells, ?_, fun c => absurd c hz0', fun _ => ⟨y', rfl, hyrun⟩⟩
        have := range_rep hyr.cells len
        rw [hsz] at this ⊢
        exact this

theorem buildSliceV_ok {σ : S} {h h' : H} {w : World} (r : Rel σ h w) {t len : Nat} {parts : List (Nat × V)} {parts' : Array (Nat × Value)} {v : V} (e : buildSliceV P h t len parts = some (v, h')) (hps : PsR σ parts parts'.toList) :
    VOk P σ h w (Instr.buildSlice t len parts') v h' := by
  unfold buildSliceV at e
  cases he : elemT P t with
  | none => simp [he] at e
  | some el =>
    simp only [he, Option.bind_some] at e
    cases hs : szT P el with
    | none => simp [hs] at e
    | some n =>
      simp only [hs, Option.bind_some] at e
      cases hle : Nat.ble (len * n) (2 ^ 24) with
      | false => simp [hle] at e
      | true =>
        have hle' : ¬ (2 ^ 24 < len * n) := by have := Nat.le_of_ble_eq_true hle; omega
        simp only [hle, cond_true] at e
        rw [Option.bind_eq_some_iff] at e; obtain ⟨z, hz, e⟩ := e
        rw [Option.bind_eq_some_iff] at e; obtain ⟨cs, hf, e⟩ := e
        obtain ⟨ha, e⟩ := H.row_eq e
        injection e with e; injection e with hv hh; subst hv; subst hh
        obtain ⟨z', hrep, hr0, hr1⟩ := rep_run (P := P) (σ := σ) hz
        obtain ⟨c', g1, g2⟩ := fillV_ok (place' := fun i => some (i * n, n)) (fun _ _ h => h) hps hf hrep
        refine ⟨_, _, _, newRow_ok r el g2 ha, .slk _ _ _ _ (.inr row_addr) (Nat.le_refl _), ?_⟩
        simp only [Instr.buildSlice, Sem.run_bind, run_underlying (elemT_run he), Result.andThen_ok, szT_run hs]
        rw [if_neg (by exact hle')]
        by_cases hz0 : len * n = 0
        · obtain rfl := hr0 hz0
          rw [if_pos hz0]
          simp only [Sem.run_bind, Sem.run_pure, Result.andThen_ok]
          rw [g1]
          simp [newRow_run]
        · obtain ⟨y, rfl, hy⟩ := hr1 hz0
          rw [if_neg hz0]
          simp only [Sem.run_bind, Sem.run_pure, Result.andThen_ok, hy]
          rw [g1]
          simp [newRow_run]

theorem makeSliceV_ok {σ : S} {h h' : H} {w : World} (r : Rel σ h w) {t : Nat} {l c v : V} (e : makeSliceV P h t l c = some (v, h')) {l' c' : Value} (hl : VR σ l l') (hc : VR σ c c') :
    VOk P σ h w (Instr.makeSlice t l' c') v h' := by
  unfold makeSliceV at e
  rw [Option.bind_eq_some_iff] at e; obtain ⟨el, he, e⟩ := e
  rw [Option.bind_eq_some_iff] at e; obtain ⟨n, hs, e⟩ := e
  rw [Option.bind_eq_some_iff] at e; obtain ⟨bytes, hb, e⟩ := e
  rw [Option.bind_eq_some_iff] at e; obtain ⟨i, hi, e⟩ := e
  rw [Option.bind_eq_some_iff] at e; obtain ⟨j, hj, e⟩ := e
  split at e
  · rename_i hcond
    obtain ⟨h0, h1, h2, h3⟩ := hcond
    rw [Option.bind_eq_some_iff] at e; obtain ⟨z, hz, e⟩ := e
    obtain ⟨ha, e⟩ := H.row_eq e
    injection e with e; injection e with hv hh; subst hv; subst hh
    obtain ⟨k1, rfl⟩ : ∃ k, l = .int k i := by cases l <;> simp [intOfV] at hi; subst hi; exact ⟨_, rfl⟩
    obtain ⟨k2, rfl⟩ : ∃ k, c = .int k j := by cases c <;> simp [intOfV] at hj; subst hj; exact ⟨_, rfl⟩
    cases hl; cases hc
    obtain ⟨z', hrep, hr0, hr1⟩ := rep_run (P := P) (σ := σ) hz
    have hbytes : ∃ inf, P.info? el = some inf ∧ inf.bytes = bytes := byT_info hb
    obtain ⟨inf, hinf, hbe⟩ := hbytes
    have w1 : IntKind.i64.wrap i = i := by simp [IntKind.wrap, IntKind.bits, IntKind.signed]; omega
    have w2 : IntKind.i64.wrap j = j := by simp [IntKind.wrap, IntKind.bits, IntKind.signed]; omega
    refine ⟨_, _, _, newRow_ok r el hrep ha, .slk _ _ _ _ (.inr row_addr) (by omega), ?_⟩
    simp only [Instr.makeSlice, Sem.run_bind, run_underlying (elemT_run he), Result.andThen_ok, asInt, asIntOf, Sem.run_pure, run_typeInfo' hinf, w1, w2, hbe]
    have f1 : (decide (j < 0) || decide ((bytes : Int) * j > 2 ^ 48)) = false := by simp; omega
    simp only [f1, Bool.false_or]
    have f2 : (decide (i < 0) || decide (i > j)) = false := by simp; omega
    simp only [f2, Bool.false_eq_true, if_false, Sem.run_pure, Sem.run_bind, Result.andThen_ok, run_askRoom, szT_run hs]
    by_cases hz0 : j.toNat * n = 0
    · obtain rfl := hr0 hz0
      rw [if_pos hz0]
      simp only [Sem.run_bind, Sem.run_pure, Result.andThen_ok, newRow_run]
    · obtain ⟨y, rfl, hy⟩ := hr1 hz0
      rw [if_neg hz0]
      simp only [Sem.run_bind, Sem.run_pure, Result.andThen_ok, newRow_run, hy]
  · cases e

end Go.Proofs.Ab
