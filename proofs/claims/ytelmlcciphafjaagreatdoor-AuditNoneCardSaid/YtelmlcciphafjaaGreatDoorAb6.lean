/- The evaluator's soundness, third part: storing cells, and appending beyond what is known. -/
import Derived.Test.YtelmlcciphafjaaGreatDoorAb5
namespace Go.Proofs.Ab
open Go

theorem updC_get (ver : Nat) : ∀ (off : Nat) (vs : List V) (cs cs' : List (V × Nat)), updC ver off vs cs = some cs' →
    cs'.length = cs.length ∧ (vs ≠ [] → off + vs.length ≤ cs.length) ∧ ∀ k, cs'[k]? = if off ≤ k ∧ k < off + vs.length then (vs[k - off]?).map (fun v => (v, ver)) else cs[k]?
  | off, [], cs, cs', h => by
    have : cs' = cs := by cases off <;> cases cs <;> simp [updC] at h <;> simp_all
    subst this
    refine ⟨rfl, fun e => absurd rfl e, fun k => ?_⟩
    rw [if_neg (by simp only [List.length_nil]; omega)]
  | 0, v :: vs, [], cs', h => by simp [updC] at h
  | off + 1, v :: vs, [], cs', h => by simp [updC] at h
  | 0, v :: vs, c :: cs, cs', h => by
    simp only [updC] at h
    cases e : updC ver 0 vs cs with
    | none => simp [e] at h
    | some q =>
      simp [e] at h; subst h
      obtain ⟨h1, h2, h3⟩ := updC_get ver 0 vs cs q e
      have hlen : vs.length ≤ cs.length := by
        cases vs with
        | nil => simp
        | cons y ys => have := h2 (by simp); simpa using this
      refine ⟨by simp [h1], fun _ => by simp; omega, fun k => ?_⟩
      cases k with
      | zero => simp
      | succ k =>
        simp only [List.getElem?_cons_succ, h3 k, List.length_cons, Nat.sub_zero, Nat.zero_le, true_and, Nat.zero_add]
        by_cases hk : k < vs.length
        · rw [if_pos hk, if_pos (by omega)]
        · rw [if_neg hk, if_neg (by omega)]
  | off + 1, v :: vs, c :: cs, cs', h => by
    simp only [updC] at h
    cases e : updC ver off (v :: vs) cs with
    | none => simp [e] at h
    | some q =>
      simp [e] at h; subst h
      obtain ⟨h1, h2, h3⟩ := updC_get ver off (v :: vs) cs q e
      have := h2 (by simp)
      refine ⟨by simp [h1], fun _ => by simp at this ⊢; omega, fun k => ?_⟩
      cases k with
      | zero => simp
      | succ k =>
        simp only [List.getElem?_cons_succ, h3 k]
        by_cases hk : off ≤ k ∧ k < off + (v :: vs).length
        · rw [if_pos hk, if_pos (by omega), show k + 1 - (off + 1) = k - off by omega]
        · rw [if_neg hk, if_neg (by omega)]

/-- The cells after a store. -/
def wr (c : Array Value) : Nat → List Value → Array Value
  | _, [] => c
  | k, v :: vs => wr (c.setIfInBounds k v) (k + 1) vs
theorem wr_size : ∀ (vs : List Value) (c : Array Value) (k : Nat), (wr c k vs).size = c.size
  | [], c, k => rfl
  | v :: vs, c, k => by simp [wr, wr_size vs]
theorem wr_get : ∀ (vs : List Value) (c : Array Value) (k j : Nat), k + vs.length ≤ c.size → (wr c k vs)[j]? = if k ≤ j ∧ j < k + vs.length then vs[j - k]? else c[j]?
  | [], c, k, j, _ => by simp [wr]; omega
  | v :: vs, c, k, j, h => by
    simp only [List.length_cons] at h
    simp only [wr]
    rw [wr_get vs _ _ _ (by simp; omega)]
    by_cases hj : j = k
    · subst hj
      rw [if_neg (by omega), if_pos (by simp only [List.length_cons]; omega)]
      have : j < c.size := by omega
      simp [this]
    · by_cases hr : k + 1 ≤ j ∧ j < k + 1 + vs.length
      · rw [if_pos hr, if_pos (by simp; omega)]
        rw [show j - k = (j - (k + 1)) + 1 by omega, List.getElem?_cons_succ]
      · rw [if_neg hr, if_neg (by simp; omega), Array.getElem?_setIfInBounds_ne (Ne.symm hj)]

theorem put_put (w : World) (b : Nat) (x y : Obj) : World.put (World.put w b x) b y = World.put w b y := by
  simp only [World.put]
  congr 1
  apply Array.ext_getElem?
  intro i
  simp only [Array.getElem?_setIfInBounds]
  by_cases h : b = i <;> simp [h]
theorem put_self {w : World} {b : Nat} {x : Obj} (h : w.heap[b]? = some x) : World.put w b x = w := by
  have : w.heap.setIfInBounds b x = w.heap := by
    apply Array.ext_getElem?
    intro i
    simp only [Array.getElem?_setIfInBounds]
    by_cases hb : b = i
    · subst hb
      rcases Nat.lt_or_ge b w.heap.size with h' | h'
      · rw [if_pos rfl, if_pos h', h]
      · rw [Array.getElem?_eq_none h'] at h; cases h
    · simp [hb]
  simp [World.put, this]
theorem setCell_put {w : World} {b o : Nat} {c : Array Value} {t : TypeId} {fz : Nat × Nat} {v : Value} (h : w.heap[b]? = some (.cells c t fz)) :
    w.setCell ⟨b, o, none⟩ v = World.put w b (.cells (c.setIfInBounds o v) t fz) := by
  simp only [World.setCell, World.put]
  congr 1
  apply Array.ext_getElem?
  intro i
  rcases Nat.lt_or_ge b w.heap.size with h' | h'
  · rw [Array.getElem?_modify, Array.getElem?_setIfInBounds]
    by_cases hb : b = i
    · subst hb; rw [if_pos rfl, if_pos rfl, if_pos h', h]; rfl
    · simp [hb]
  · rw [Array.getElem?_eq_none h'] at h; cases h

theorem storeCells_run {P : Program} {t : TypeId} {fz : Nat × Nat} {b o : Nat} : ∀ (vs : List Value) (i : Nat) (w : World) (c : Array Value), w.heap[b]? = some (.cells c t fz) →
    o + i + vs.length ≤ c.size → (∀ k, k < c.size → ¬ (fz.1 ≤ k ∧ k < fz.2)) → (∀ v ∈ vs, v.oneCell' = true) →
    (storeCells ⟨b, o, none⟩ vs i).run P w = .ok () (World.put w b (.cells (wr c (o + i) vs) t fz))
  | [], i, w, c, h, _, _, _ => by simp [storeCells, wr, put_self h]
  | v :: vs, i, w, c, h, hl, hf, hv => by
    simp only [List.length_cons] at hl
    simp only [storeCells, add_of, Sem.run_bind]
    rw [run_store _ _ _ _ _ (hv v (by simp)), cell?_of h]
    have hlt : o + i < c.size := by omega
    rw [Array.getElem?_eq_getElem hlt]
    have hfz : w.frozen? ⟨b, o + i, none⟩ = false := by
      obtain ⟨lo, hi⟩ := fz
      simp only [World.frozen?, h]
      have := hf (o + i) hlt
      simp only [Bool.and_eq_false_iff, decide_eq_false_iff_not]
      simp only at this
      by_cases h1 : lo ≤ o + i
      · right; intro h2; exact this ⟨h1, h2⟩
      · left; exact h1
    simp only [hfz, Bool.false_eq_true, if_false, Result.andThen_ok]
    rw [setCell_put h]
    have hb : b < w.heap.size := by
      rcases Nat.lt_or_ge b w.heap.size with h' | h'
      · exact h'
      · rw [Array.getElem?_eq_none h'] at h; cases h
    rw [storeCells_run vs (i + 1) (World.put w b (.cells (c.setIfInBounds (o + i) v) t fz)) (c.setIfInBounds (o + i) v) (by rw [World.put_get hb, if_pos rfl]) (by simp; omega) (by simpa using hf)
      (fun x hx => hv x (by simp [hx]))]
    rw [put_put]
    rfl

theorem VRs.one {σ : S} {vs : List V} {vs' : List Value} (h : VRs σ vs vs') (ha : allAtoms vs = true) : ∀ v ∈ vs', v.oneCell' = true := by
  induction vs generalizing vs' with
  | nil => cases h; simp
  | cons x xs ih =>
    cases h with
    | cons _ y _ ys h hs =>
      simp only [allAtoms, Bool.and_eq_true] at ha
      intro v hv
      rcases List.mem_cons.1 hv with rfl | hv
      · exact h.oneCell ha.1
      · exact ih hs ha.2 v hv

/-- A store. -/
theorem Rel.store {β : Type} {P : Program} {σ : S} {h : H} {w : World} (r : Rel σ h w) {a : A} {a' : Addr} (ha : AR σ a a') {vs : List V} {vs' : List Value} (hv : VRs σ vs vs') {k : H → Option β} {x : β}
    (e : h.put a vs k = some x) : ∃ h' w', k h' = some x ∧ (storeCells a' vs').run P w = .ok () w' ∧ Sim σ h w σ h' w' := by
  unfold H.put at e
  split at e
  · cases hv; exact ⟨h, w, e, by simp [storeCells], Sim.refl r⟩
  · rename_i hne
    have hne' : vs ≠ [] := hne
    cases hat : allAtoms vs with
    | false => simp [hat] at e
    | true =>
      simp only [hat, cond_true] at e
      unfold AR at ha
      cases hb : a.blk with
      | base i => simp [hb] at e
      | glob i => simp [hb] at e
      | own i =>
        simp only [hb] at e ha
        obtain ⟨b, sh, ext, hm, hsh, rfl⟩ := ha
        split at e
        · rename_i ver cs ho
          cases hver : Nat.beq a.ver ver with
          | false => simp [hver] at e
          | true =>
            have hver' : a.ver = ver := Nat.eq_of_beq_eq_true hver
            simp only [hver, cond_true] at e
            cases hu : updC ver a.off vs cs with
            | none => simp [hu] at e
            | some cs' =>
              simp only [hu, H.setK_eq] at e
              rw [hver'] at hm
              obtain ⟨hl1, hl2, hl3⟩ := updC_get _ _ _ _ _ hu
              have hl2' := hl2 hne'
              obtain ⟨_, c, t, fz, hc, hsz, hfz, hlen, hlo0, hg⟩ := r.obj i _ _ _ _ _ ho hm
              rw [if_pos rfl] at hlen
              have hvl := hv.length
              have hb' := (r.high _ _ _ _ _ hm).2
              refine ⟨_, World.put w b (.cells (wr c (a.off - sh) vs') t fz), e, ?_, ?_⟩
              · have := storeCells_run (P := P) (o := a.off - sh) vs' 0 w c hc (by omega) hfz (hv.one hat)
                simpa using this
              · refine r.turn hm rfl ?_
                have hlo' : ∀ (k : Nat) x lo, cs'[k]? = some (x, lo) → lo ≤ ver := by
                  intro k y lo hy
                  rw [hl3] at hy
                  by_cases hin : a.off ≤ k ∧ k < a.off + vs.length
                  · rw [if_pos hin] at hy
                    cases hvk : vs[k - a.off]? with
                    | none => simp [hvk] at hy
                    | some z => simp [hvk] at hy; omega
                  · rw [if_neg hin] at hy; exact hlo0 k y lo hy
                intro v b2 sh2 ext2 hm2
                obtain ⟨hle, c2, t2, fz2, hc2, hsz2, hfz2, hlen2, _, hg2⟩ := r.obj i _ _ _ _ _ ho hm2
                by_cases hbb : b2 = b
                · subst hbb
                  obtain ⟨_, rfl, rfl⟩ := r.inj _ _ _ _ _ _ _ _ _ hm hm2
                  rw [hc] at hc2; cases hc2
                  rw [if_pos rfl]
                  refine ⟨hle, _, t, fz, rfl, by rw [wr_size]; exact hsz, by rw [wr_size]; exact hfz, by rw [hl1]; exact hlen2, hlo', ?_⟩
                  intro k y lo hy hlo hk
                  rw [hl3] at hy
                  rw [wr_get _ _ _ _ (by omega)]
                  by_cases hin : a.off ≤ k ∧ k < a.off + vs.length
                  · rw [if_pos hin] at hy
                    cases hvk : vs[k - a.off]? with
                    | none => simp [hvk] at hy
                    | some z =>
                      simp [hvk] at hy
                      obtain ⟨rfl, rfl⟩ := hy
                      obtain ⟨z', g1, g2⟩ := hv.get _ _ hvk
                      refine ⟨z', ?_, g2, allAtoms_get hat _ _ hvk⟩
                      rw [if_pos (by omega), ← g1]
                      congr 1
                      omega
                  · rw [if_neg hin] at hy
                    obtain ⟨y', g1, g2, g3⟩ := hg2 k y lo hy hlo hk
                    exact ⟨y', by rw [if_neg (by omega)]; exact g1, g2, g3⟩
                · rw [if_neg hbb]
                  refine ⟨hle, c2, t2, fz2, hc2, hsz2, hfz2, by rw [hl1]; exact hlen2, hlo', ?_⟩
                  intro k y lo hy hlo hk
                  rw [hl3] at hy
                  by_cases hin : a.off ≤ k ∧ k < a.off + vs.length
                  · rw [if_pos hin] at hy
                    cases hvk : vs[k - a.off]? with
                    | none => simp [hvk] at hy
                    | some z =>
                      simp [hvk] at hy
                      obtain ⟨rfl, rfl⟩ := hy
                      have : v = ver := by omega
                      subst this
                      rw [hm] at hm2; cases hm2
                      exact absurd rfl hbb
                  · rw [if_neg hin] at hy
                    exact hg2 k y lo hy hlo hk
        · cases e

end Go.Proofs.Ab
