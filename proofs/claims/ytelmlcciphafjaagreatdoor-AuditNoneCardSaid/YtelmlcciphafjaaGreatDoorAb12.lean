/- The evaluator's soundness, ninth part: append, copy and clear as the evaluator has them. -/
import Derived.Test.YtelmlcciphafjaaGreatDoorAb11
namespace Go.Proofs.Ab
open Go

variable {P : Program}

theorem H.put_nil {β : Type} {h : H} {a : A} {k : H → Option β} : h.put a [] k = k h := rfl

/-- A store to a slice's cells. -/
theorem Rel.storeS {β : Type} {σ : S} {h : H} {w : World} (r : Rel σ h w) {a : A} {a' : Addr} {vs : List V} {vs' : List Value} (ha : vs = [] ∨ AR σ a a') (hv : VRs σ vs vs') {k : H → Option β} {x : β}
    (e : h.put a vs k = some x) : ∃ h' w', k h' = some x ∧ (storeCells a' vs').run P w = .ok () w' ∧ Sim σ h w σ h' w' := by
  rcases ha with rfl | ha
  · cases hv
    exact ⟨h, w, e, by simp [storeCells], Sim.refl r⟩
  · exact r.store ha hv e

theorem freshV_ok {σ : S} {h h' : H} {w : World} (r : Rel σ h w) {el size n c : Nat} {cs : List V} {cs' : Array Value} {more : Array Value} {v : V} (e : freshV h size n cs = some (v, h')) (hc : VRs σ cs cs'.toList)
    (hsz : (cs' ++ more).size = c * size) (hn : n ≤ c) :
    ∃ σ', Sim σ h w σ' h' (World.push (drawn w) (.cells (cs' ++ more) el)) ∧ VR σ' v (.slice (some ⟨w.heap.size, 0, none⟩) n c) := by
  unfold freshV at e
  obtain ⟨ha, e⟩ := H.row_eq e
  injection e with e; injection e with hv hh; subst hv; subst hh
  have r' : Rel σ h (drawn w) := r.heap rfl
  have s := row_ok r' el hc ha (0, 0) more.toList (cs' ++ more) (by simp) (fun k _ c => by simp at c)
  refine ⟨_, s.heapL rfl, .slt _ _ _ _ _ ?_⟩
  unfold TR
  exact ⟨w.heap.size, 0, _, S.bind_self σ _ _ _, Nat.zero_le _, by simpa using hsz.symm, hn, fun _ => rfl⟩

theorem appendV_ok {σ : S} {h h' : H} {w : World} (r : Rel σ h w) {t u ty : Nat} {s x v : V} {s' x' : Value} {d : TypeDesc} (hu : P.underlying u = some d) (e : appendV P h t (intT P (some u)) s x = some (v, h')) (hs : VR σ s s') (hx : VR σ x x') :
    VOk P σ h w (Builtin.append_ #[t, u] ty #[s', x']) v h' := by
  unfold appendV at e
  simp only [fN_eq, joinK_eq] at e
  rw [Option.bind_eq_some_iff] at e; obtain ⟨el, hel, e⟩ := e
  rw [Option.bind_eq_some_iff] at e; obtain ⟨size, hsz, e⟩ := e
  rw [Option.bind_eq_some_iff] at e; obtain ⟨bytes, hby, e⟩ := e
  rw [Option.bind_eq_some_iff] at e; obtain ⟨⟨n, new⟩, hnn, e⟩ := e
  have hel' := elemT_run hel
  simp only at e
  obtain ⟨new0, hn0, hnr0, hna, hnl⟩ := newV_run r hby hu hnn hx
  obtain ⟨new1, hn1, hnr1, _, _⟩ := newV_run (r.heap (w' := drawn w) rfl) hby hu hnn hx
  have hns1 : new1.size = n * size := by have := hnr1.length; simp at this; omega
  cases s with
  | nilsl =>
    simp only at e
    cases hs
    cases hb : Nat.beq n 0 with
    | true =>
      obtain rfl := Nat.eq_of_beq_eq_true hb
      simp only [Nat.beq_refl, cond_true, Option.some.injEq, Prod.mk.injEq] at e
      obtain ⟨rfl, rfl⟩ := e
      refine VOk.pure r (v' := .slice none 0 0) .nilsl ?_
      exact append_in hel' hsz hn0 (Nat.le_refl _) (fun a ha => by cases ha) (fun _ => rfl)
    | false =>
      have hn' : n ≠ 0 := by intro c; subst c; cases hb
      simp only [hb, cond_false] at e
      cases hf : (fits n bytes && zeroOk P el size) with
      | false => rw [hf] at e; cases e
      | true =>
        rw [hf] at e
        simp only [cond_true] at e
        simp only [Bool.and_eq_true] at hf
        obtain ⟨c, more, hc1, hc2, hc3⟩ := append_out (ty := ty) (cap := 0) (len := 0) (base := none) (old' := #[]) hel' hsz hby (by simpa using hf.1) hf.2 hn1 (by omega) (by simp [Builtin.firstCells]) (by simp) hns1
        obtain ⟨σ', s1, s2⟩ := freshV_ok r (el := el) (more := more) (c := c) e hnr1 (by simpa using hc2) (by omega)
        refine ⟨σ', _, _, s1, s2, ?_⟩
        rw [hc3]; simp
  | sl a len cap =>
    cases cap with
    | kn c =>
      simp only at e
      cases hs with
      | slk _ a' _ _ ha hle =>
      cases hb : Nat.ble (len + n) c with
      | true =>
        have hb' := Nat.le_of_ble_eq_true hb
        simp only [hb, cond_true] at e
        obtain ⟨h2, w2, e2, hst, sim⟩ := r.storeS (P := P) (a' := a'.add (len * size)) (by
          rcases ha with rfl | ha
          · left; have : n = 0 := by omega
            subst this; exact List.length_eq_zero_iff.1 (by simpa using hnl)
          · exact .inr (ha.add _)) hnr0 e
        injection e2 with e2; injection e2 with ev eh; subst ev; subst eh
        refine ⟨σ, w2, _, sim, .slk _ a' _ _ ha hb', ?_⟩
        exact append_in hel' hsz hn0 hb' (fun a ha => by injection ha with ha; subst ha; exact hst) (fun c => by cases c)
      | false =>
        have hb' : c < len + n := by
          rcases Nat.lt_or_ge c (len + n) with h' | h'
          · exact h'
          · rw [Nat.ble_eq_true_of_le h'] at hb; cases hb
        simp only [hb, cond_false] at e
        cases hf : (fits (len + n) bytes && zeroOk P el size) with
        | false => rw [hf] at e; cases e
        | true =>
          rw [hf] at e
          simp only [cond_true] at e
          simp only [Bool.and_eq_true] at hf
          rw [Option.bind_eq_some_iff] at e; obtain ⟨old, ho, e⟩ := e
          obtain ⟨old', g1, g2, g3, g4⟩ := (r.heap (w' := drawn w) rfl).loadS (P := P) (a' := a') (by rcases ha with rfl | ha; · left; rw [show len = 0 by omega]; simp
                                                                                                      · exact .inr ha) ho
          have hos : old'.size = len * size := by have := g2.length; simp at this; omega
          obtain ⟨cc, more, hc1, hc2, hc3⟩ := append_out (ty := ty) (base := some a') (old' := old') hel' hsz hby hf.1 hf.2 hn1 hb' (by simpa [Builtin.firstCells] using g1) hos hns1
          obtain ⟨σ', s1, s2⟩ := freshV_ok r (el := el) (cs' := old' ++ new1) (more := more) (c := cc) e (by rw [Array.toList_append]; exact g2.append hnr1) hc2 hc1
          exact ⟨σ', _, _, s1, s2, hc3⟩
    | tip z =>
      simp only at e
      cases hs with
      | slt _ a' _ _ c ht =>
      cases hb : Nat.beq n 0 with
      | true =>
        obtain rfl := Nat.eq_of_beq_eq_true hb
        simp only [Nat.beq_refl, cond_true, Option.some.injEq, Prod.mk.injEq] at e
        obtain ⟨rfl, rfl⟩ := e
        have hnil : new = [] := List.length_eq_zero_iff.1 (by simpa using hnl)
        subst hnil
        have : new0.toList = [] := by cases hq : new0.toList with
          | nil => rfl
          | cons y ys => rw [hq] at hnr0; cases hnr0
        refine VOk.pure r (.slt _ _ _ _ _ ht) ?_
        have := append_in (ty := ty) (len := len) (base := some a') (w1 := w) hel' hsz hn0 (cap := c) (by have := ht.le; omega) (fun a _ => by rw [this]; simp [storeCells]) (fun _ => rfl)
        simpa using this
      | false =>
        have hn' : n ≠ 0 := by intro c; subst c; cases hb
        simp only [hb, cond_false] at e
        cases hf : (Nat.beq z size && fits (len + n) bytes && Nat.blt 0 size && zeroOk P el size && allAtoms new) with
        | false => rw [hf] at e; cases e
        | true =>
          rw [hf] at e
          simp only [cond_true] at e
          simp only [Bool.and_eq_true] at hf
          obtain ⟨⟨⟨⟨hzs, hfit⟩, hpos⟩, hz0⟩, _⟩ := hf
          obtain rfl := Nat.eq_of_beq_eq_true hzs
          have hpos' : 0 < z := by have := Nat.le_of_ble_eq_true hpos; omega
          have ht' := ht
          unfold TR at ht
          cases hab : a.blk with
          | base i => simp only [hab] at ht
          | glob i => simp only [hab] at ht
          | own i =>
            simp only [hab] at ht e
            obtain ⟨b, sh, ext, hm, hsh, hext, hlc, haddr⟩ := ht
            split at e
            · rename_i ver cs ho
              cases hver : Nat.beq a.ver ver with
              | false => rw [hver] at e; cases e
              | true =>
                have hver' := Nat.eq_of_beq_eq_true hver
                simp only [hver, cond_true] at e
                rw [hver'] at hm
                obtain ⟨_, c0, t0, fz0, hw0, hcs0, _, hlen0, _, _⟩ := r.obj i _ _ _ _ _ ho hm
                rw [if_pos rfl] at hlen0
                have hmul : (len + n) * z = len * z + n * z := Nat.add_mul _ _ _
                cases hin : Nat.ble (a.off + (len + n) * z) cs.length with
                | true =>
                  have hin' := Nat.le_of_ble_eq_true hin
                  simp only [hin, cond_true] at e
                  have hcap : len + n ≤ c := by
                    have : (len + n) * z ≤ c * z := by omega
                    exact Nat.le_of_mul_le_mul_right this hpos'
                  have hA : AR σ a a' := ht'.addr (by omega)
                  obtain ⟨h2, w2, e2, hst, sim⟩ := r.storeS (P := P) (a' := a'.add (len * z)) (.inr (hA.add _)) hnr0 e
                  injection e2 with e2; injection e2 with ev eh; subst ev; subst eh
                  refine ⟨σ, w2, _, sim, .slt _ a' _ _ c ?_, append_in hel' hsz hn0 hcap (fun a ha => by injection ha with ha; subst ha; exact hst) (fun c => by cases c)⟩
                  unfold TR
                  simp only [hab]
                  exact ⟨b, sh, ext, by rw [hver']; exact hm, hsh, hext, hcap, haddr⟩
                | false =>
                  have hin' : cs.length < a.off + (len + n) * z := by
                    rcases Nat.lt_or_ge cs.length (a.off + (len + n) * z) with h' | h'
                    · exact h'
                    · rw [Nat.ble_eq_true_of_le h'] at hin; cases hin
                  simp only [hin, cond_false] at e
                  cases hK : Nat.ble (a.off + len * z) cs.length with
                  | false => rw [hK] at e; cases e
                  | true =>
                    have hK' := Nat.le_of_ble_eq_true hK
                    rw [hK] at e
                    simp only [cond_true] at e
                    rw [Option.bind_eq_some_iff] at e; obtain ⟨old, hold, e⟩ := e
                    rw [H.setK_eq] at e
                    injection e with e; injection e with ev eh; subst ev; subst eh
                    by_cases hcap : len + n ≤ c
                    · have hA : AR σ a a' := ht'.addr (by omega)
                      have hc0 : c ≠ 0 := by omega
                      have hcz : (len + n) * z ≤ c * z := Nat.mul_le_mul_right _ hcap
                      have hfit2 : a.off + len * z - sh + new.length ≤ ext := by omega
                      have sim := r.bumpSame (K := a.off + len * z) (new := new) (new' := new0.toList) ho hm hK' (by omega) hw0 hna hnr0 hfit2
                      refine ⟨_, _, _, sim, .slt _ a' _ _ c ?_, append_in hel' hsz hn0 hcap (fun a2 ha2 => ?_) (fun c => by cases c)⟩
                      · unfold TR
                        simp only [hab]
                        refine ⟨b, sh, ext, ?_, hsh, hext, hcap, haddr⟩
                        exact S.bind_self σ _ _ _
                      · injection ha2 with ha2; subst ha2
                        rw [haddr hc0, add_of]
                        have hnl0 := hnr0.length
                        have := storeCells_run (P := P) (t := t0) (fz := fz0) (b := b) (o := a.off - sh + len * z) new0.toList 0 w c0 hw0 (by omega) (by obtain ⟨_, c1, t1, fz1, hw1, _, hfz1, _, _, _⟩ := r.obj i _ _ _ _ _ ho hm; rw [hw0] at hw1; cases hw1; exact hfz1) (hnr0.one hna)
                        rw [this]
                        congr 2
                        congr 1
                        simp only [Nat.add_zero]
                        congr 1
                        omega
                    · have hgt : c < len + n := by omega
                      obtain ⟨old', g1, g2, g3, g4⟩ := (r.heap (w' := drawn w) rfl).loadS (P := P) (a' := a') (by
                        by_cases hc : c = 0
                        · left; rw [show len = 0 by omega]; simp
                        · exact .inr (ht'.addr hc)) hold
                      have hos : old'.size = len * z := by have := g2.length; simp at this; omega
                      obtain ⟨cc, more, hc1, hc2, hc3⟩ := append_out (ty := ty) (base := some a') (old' := old') hel' hsz hby hfit hz0 hn1 hgt (by simpa [Builtin.firstCells] using g1) hos hns1
                      have hals : (old' ++ new1 ++ more).size = cc * z := hc2
                      have hccz : (len + n) * z ≤ cc * z := Nat.mul_le_mul_right _ hc1
                      have sim := (r.heap (w' := drawn w) rfl).bumpNew (K := a.off + len * z) (sh' := a.off) (new := new) (all := old' ++ new1 ++ more) (el := el) ho hm hK' (by omega) hna (by
                        intro k x hk hsk
                        by_cases hkK : k < a.off + len * z
                        · rw [if_pos hkK] at hk
                          have hcell : old[k - a.off]? = some x := by
                            unfold H.cells at hold
                            simp only [hab, ho] at hold
                            obtain ⟨q1, q2⟩ := takeC_get _ _ _ _ hold
                            obtain ⟨y, lo, p1, p2, p3⟩ := q2 (k - a.off) (by omega)
                            rw [dropL_eq, List.getElem?_drop, show a.off + (k - a.off) = k by omega] at p1
                            rw [p1] at hk
                            simp at hk
                            rw [p3, hk]
                          obtain ⟨x', m1, m2⟩ := g2.get _ _ hcell
                          refine ⟨x', ?_, m2, allAtoms_get g3 _ _ hcell⟩
                          rw [Array.getElem?_append_left (by rw [Array.size_append]; omega), Array.getElem?_append_left (by omega)]
                          simpa using m1
                        · rw [if_neg hkK] at hk
                          obtain ⟨x', m1, m2⟩ := hnr1.get _ _ hk
                          have hkl : k - (a.off + len * z) < new1.size := by
                            rcases Nat.lt_or_ge (k - (a.off + len * z)) new1.size with h' | h'
                            · exact h'
                            · rw [List.getElem?_eq_none (by simpa using h')] at m1; cases m1
                          refine ⟨x', ?_, m2, allAtoms_get hna _ _ hk⟩
                          rw [Array.getElem?_append_left (by rw [Array.size_append]; omega), Array.getElem?_append_right (by omega)]
                          rw [hos, show k - a.off - len * z = k - (a.off + len * z) by omega]
                          simpa using m1)
                      refine ⟨_, _, _, sim.heapL rfl, .slt _ ⟨w.heap.size, 0, none⟩ _ _ cc ?_, hc3⟩
                      unfold TR
                      simp only [hab]
                      refine ⟨w.heap.size, a.off, _, S.bind_self σ _ _ _, Nat.le_refl _, by simpa using hc2.symm, hc1, fun _ => by simp⟩
            · cases e
  | _ => simp at e

theorem copyV_ok {σ : S} {h h' : H} {w : World} (r : Rel σ h w) {t u ty : Nat} {ts : Array TypeId} (hts : ts[0]? = some t) {d s v : V} {d' s' : Value} (e : copyV P h t d s = some (v, h')) (hd : VR σ d d') (hs : VR σ s s') :
    VOk P σ h w (Builtin.copy_ ts ty #[d', s']) v h' := by
  unfold copyV at e
  rw [Option.bind_eq_some_iff] at e; obtain ⟨el, hel, e⟩ := e
  rw [Option.bind_eq_some_iff] at e; obtain ⟨size, hsz, e⟩ := e
  rw [Option.bind_eq_some_iff] at e; obtain ⟨n, hn, e⟩ := e
  have hel' := elemT_run hel
  cases d with
  | nilsl =>
    simp only [Option.some.injEq, Prod.mk.injEq] at e
    obtain ⟨rfl, rfl⟩ := e
    cases hd
    have hf : ∃ a : Array Value, (Builtin.firstCells size (Nat.min n 0) s').run P w = .ok a w := by
      have h0 : Nat.min n 0 = 0 := Nat.min_zero n
      rw [h0]
      cases hs with
      | str q b hb => exact ⟨(b.extract 0 0).data.map fun b => .int .u8 b.toNat, by simp only [Builtin.firstCells, Sem.run_pure]⟩
      | nilsl => exact ⟨#[], by simp [Builtin.firstCells]⟩
      | slk => exact ⟨#[], by simp [Builtin.firstCells, loadCells_zero]⟩
      | slt => exact ⟨#[], by simp [Builtin.firstCells, loadCells_zero]⟩
      | _ => simp [V.len] at hn
    obtain ⟨arr, hf⟩ := hf
    rw [show Nat.min n 0 = 0 from Nat.min_zero n] at hf
    refine VOk.pure r (.int _ _) ?_
    simp [Builtin.copy_, hts, run_underlying hel', lenOf_run hn hs, szT_run hsz, hf, goInt]
  | sl a len cap =>
    simp only at e
    rw [Option.bind_eq_some_iff] at e; obtain ⟨cs, hcs, e⟩ := e
    obtain ⟨cs', g1, g2, g3, g4⟩ := firstC_run (P := P) r hs hcs (fun m hm => by rw [hn] at hm; injection hm with hm; subst hm; exact Nat.min_le_left _ _)
    have key : ∀ (a' : Addr) (c : Nat), (cs = [] ∨ AR σ a a') → d' = .slice (some a') len c → VOk P σ h w (Builtin.copy_ ts ty #[d', s']) v h' := by
      intro a' c ha hd'
      subst hd'
      obtain ⟨h2, w2, e2, hst, sim⟩ := r.storeS (P := P) ha g2 e
      injection e2 with e2; injection e2 with ev eh; subst ev; subst eh
      refine ⟨σ, w2, _, sim, .int _ _, ?_⟩
      simp [Builtin.copy_, hts, run_underlying hel', lenOf_run hn hs, szT_run hsz, g1, hst, goInt]
    have empty : len = 0 → cs = [] := by
      intro hl
      subst hl
      have h0 : Nat.min n 0 = 0 := Nat.min_zero n
      rw [h0] at hcs
      unfold firstC at hcs
      cases s with
      | str q => simp [bytesC] at hcs; exact hcs
      | nilsl => simp at hcs; exact hcs
      | sl b m cp => simp only [Nat.zero_mul] at hcs; exact cells_nil hcs
      | _ => simp at hcs
    cases hd with
    | slk _ a' _ c ha hle => exact key a' c (by rcases ha with rfl | ha; · exact .inl (empty (by omega))
                                                · exact .inr ha) rfl
    | slt _ a' _ z c ht =>
      exact key a' c (by
        by_cases hc : c = 0
        · have := ht.le; exact .inl (empty (by omega))
        · exact .inr (ht.addr hc)) rfl
  | _ => simp at e

end Go.Proofs.Ab
