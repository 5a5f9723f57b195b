/- The evaluator's soundness, seventh part: slices cut, indexed; fields. -/
import Derived.Test.YtelmlcciphafjaaGreatDoorAb9
namespace Go.Proofs.Ab
open Go

variable {P : Program}

theorem intOfV_eq {v : V} {i : Int} (h : intOfV v = some i) : ∃ k, v = .int k i := by
  cases v <;> simp [intOfV] at h; subst h; exact ⟨_, rfl⟩

/-- An operand that may be left out. -/
inductive OV (σ : S) : Option V → Option Value → Prop
  | none : OV σ none none
  | some (v : V) (v' : Value) : VR σ v v' → OV σ (some v) (some v')

theorem boundV_run {σ : S} {x : V} {x' : Value} {y n y' : Nat} (h : boundV x y = some n) (hx : VR σ x x') (hy : y ≤ y') (c : BoundsCode) (w : World) : (Instr.sliceBound x' y' c).run P w = .ok n w ∧ n ≤ y := by
  unfold boundV at h
  rw [Option.bind_eq_some_iff] at h; obtain ⟨i, hi, h⟩ := h
  obtain ⟨k, rfl⟩ := intOfV_eq hi
  cases hx
  split at h
  · rename_i hc
    cases h
    refine ⟨?_, by omega⟩
    have : 0 ≤ i ∧ i ≤ y' := by omega
    simp [Instr.sliceBound, asIntOf, this]
  · cases h

theorem lowE {σ : S} {lo : Option V} {lo' : Option Value} (hlo : OV σ lo lo') {hh l : Nat} (e : (match (generalizing := false) lo with | some v => boundV v hh | none => some 0) = some l) (c : BoundsCode) (w : World) :
    (match (generalizing := false) lo' with | some v => Instr.sliceBound v hh c | none => Pure.pure 0 : Sem Nat).run P w = .ok l w ∧ l ≤ hh := by
  cases hlo with
  | none => simp at e; subst e; exact ⟨by simp, by omega⟩
  | some v v' hv => simp at e; exact boundV_run (P := P) e hv (Nat.le_refl _) c w

theorem boundsV_run {σ : S} {len top top' : Nat} {lo hi mx : Option V} {lo' hi' mx' : Option Value} {l h m : Nat} (e : boundsV len top lo hi mx = some (l, h, m)) (hlo : OV σ lo lo') (hhi : OV σ hi hi') (hmx : OV σ mx mx')
    (ht : top ≤ top') (hlen : len ≤ top) (isS : Bool) (w : World) :
    (Instr.sliceBounds isS len top' lo' hi' mx').run P w = .ok (l, h, if mx.isSome then m else top') w ∧ l ≤ h ∧ h ≤ m ∧ m ≤ top ∧ (mx.isSome = false → m = top) := by
  unfold boundsV at e
  rw [Option.bind_eq_some_iff] at e; obtain ⟨m1, hm, e⟩ := e
  rw [Option.bind_eq_some_iff] at e; obtain ⟨h1, hh, e⟩ := e
  rw [Option.bind_eq_some_iff] at e; obtain ⟨l1, hl, e⟩ := e
  injection e with e; injection e with e1 e2; injection e2 with e2 e3
  subst e1; subst e2; subst e3
  cases hmx with
  | none =>
    simp at hm; subst hm
    obtain ⟨g1, g2⟩ := lowE (P := P) hlo hl .sliceB w
    cases hhi with
    | none =>
      simp at hh; subst hh
      refine ⟨?_, g2, hlen, Nat.le_refl _, fun _ => rfl⟩
      simp only [Instr.sliceBounds, Sem.run_bind, Sem.run_pure, Result.andThen_ok, Option.isSome_none, Bool.false_eq_true, if_false]
      cases lo' with
      | none => simp at g1; subst g1; simp
      | some v' => simp at g1; simp [g1]
    | some u u' hu =>
      simp at hh
      obtain ⟨k1, k2⟩ := boundV_run (P := P) hh hu ht (if isS then .sliceAcap else .sliceAlen) w
      refine ⟨?_, g2, k2, Nat.le_refl _, fun _ => rfl⟩
      simp only [Instr.sliceBounds, Sem.run_bind, Sem.run_pure, Result.andThen_ok, Option.isSome_none, Bool.false_eq_true, if_false, k1]
      cases lo' with
      | none => simp at g1; subst g1; simp
      | some v' => simp at g1; simp [g1]
  | some mv mv' hmv =>
    simp at hm
    obtain ⟨q1, q2⟩ := boundV_run (P := P) hm hmv ht (if isS then .slice3Acap else .slice3Alen) w
    obtain ⟨g1, g2⟩ := lowE (P := P) hlo hl .slice3C w
    cases hhi with
    | none => simp at hh
    | some u u' hu =>
      simp at hh
      obtain ⟨k1, k2⟩ := boundV_run (P := P) hh hu (Nat.le_refl _) .slice3B w
      refine ⟨?_, g2, k2, q2, fun c => by simp at c⟩
      simp only [Instr.sliceBounds, Sem.run_bind, Sem.run_pure, Result.andThen_ok, Option.isSome_some, if_true, q1, k1]
      cases lo' with
      | none => simp at g1; subst g1; simp
      | some v' => simp at g1; simp [g1]

theorem slid_AR {σ : S} {a : A} {a' : Addr} (ha : AR σ a a') (l m size : Nat) : AR σ (a.slid l m size) (if m = l then a' else a'.add (l * size)) := by
  unfold A.slid
  cases hb : Nat.beq m l with
  | true => rw [if_pos (Nat.eq_of_beq_eq_true hb)]; exact ha
  | false => rw [if_neg (by intro e; subst e; rw [Nat.beq_refl] at hb; cases hb)]; exact ha.add _

theorem string_extract (b : ByteArray) (l h : Nat) (hl : l ≤ h) (hh : h ≤ b.size) : (b.extract l h).data.toList = (b.data.toList.take h).drop l := by
  rw [ByteArray.data_extract, Array.toList_extract, List.extract_eq_take_drop]
  rw [List.take_drop]
  congr 2
  omega

theorem sliceV_ok {σ : S} {h : H} {w : World} (r : Rel σ h w) {t : Nat} {x v : V} {lo hi mx : Option V} (e : sliceV P t x lo hi mx = some v) {x' : Value} {lo' hi' mx' : Option Value} (hx : VR σ x x') (hlo : OV σ lo lo') (hhi : OV σ hi hi') (hmx : OV σ mx mx') :
    VOk P σ h w (Instr.sliceAt t x' lo' hi' mx') v h := by
  unfold sliceV at e
  cases hu : P.underlying t with
  | none => simp [hu] at e
  | some d =>
    simp only [hu] at e
    cases d with
    | array n el =>
      try simp only at e
      cases x with
      | ptr a =>
        try simp only at e
        rw [Option.bind_eq_some_iff] at e; obtain ⟨size, hs, e⟩ := e
        rw [Option.bind_eq_some_iff] at e; obtain ⟨⟨l, hh, m⟩, hb, e⟩ := e
        try dsimp only at e
        cases hx with
        | ptr _ a' ha =>
          injection e with e; subst e
          obtain ⟨g1, g2, g3, g4, g5⟩ := boundsV_run (P := P) hb hlo hhi hmx (Nat.le_refl _) (Nat.le_refl _) false w
          have hmm : (if mx.isSome then m else n) = m := by cases hq : mx.isSome with | true => rfl | false => rw [g5 hq]; rfl
          rw [hmm] at g1
          refine VOk.pure r (.slk _ _ _ _ (.inr (slid_AR ha l m size)) (by omega)) ?_
          simp [Instr.sliceAt, run_underlying hu, Instr.sureAddr, g1, szT_run hs]
      | _ => simp at e
    | pointer arr =>
      try simp only at e
      cases x with
      | ptr a =>
        try simp only at e
        cases hu2 : P.underlying arr with
        | none => simp [hu2] at e
        | some d2 =>
          cases d2 with
          | array n el =>
            simp only [hu2] at e
            rw [Option.bind_eq_some_iff] at e; obtain ⟨size, hs, e⟩ := e
            rw [Option.bind_eq_some_iff] at e; obtain ⟨⟨l, hh, m⟩, hb, e⟩ := e
            try dsimp only at e
            cases hx with
            | ptr _ a' ha =>
              injection e with e; subst e
              obtain ⟨g1, g2, g3, g4, g5⟩ := boundsV_run (P := P) hb hlo hhi hmx (Nat.le_refl _) (Nat.le_refl _) false w
              have hmm : (if mx.isSome then m else n) = m := by cases hq : mx.isSome with | true => rfl | false => rw [g5 hq]; rfl
              rw [hmm] at g1
              refine VOk.pure r (.slk _ _ _ _ (.inr (slid_AR ha l m size)) (by omega)) ?_
              simp [Instr.sliceAt, Instr.slice, run_underlying hu, run_underlying hu2, asAddr, g1, szT_run hs]
          | _ => simp [hu2] at e
      | _ => simp at e
    | string =>
      try simp only at e
      split at e
      · rename_i s
        rw [Option.bind_eq_some_iff] at e; obtain ⟨⟨l, hh, m⟩, hb, e⟩ := e
        try dsimp only at e
        injection e with e; subst e
        cases hx with
        | str _ b hbs =>
          obtain ⟨g1, g2, g3, g4, g5⟩ := boundsV_run (P := P) hb hlo hhi .none (Nat.le_refl _) (Nat.le_refl _) false w
          cases hmx
          have hsz : b.size = s.length := by rw [← hbs]; rfl
          refine VOk.pure r (.str _ (b.extract l hh) ?_) ?_
          · rw [← hbs]; exact string_extract b l hh g2 (by omega)
          · simp only [Option.isSome_none, Bool.false_eq_true, if_false] at g1
            simp [Instr.sliceAt, Instr.slice, run_underlying hu, hsz, g1]
      · cases e
    | slice el =>
      try simp only at e
      rw [Option.bind_eq_some_iff] at e; obtain ⟨size, hs, e⟩ := e
      split at e
      · rw [Option.bind_eq_some_iff] at e; obtain ⟨⟨l, hh, m⟩, hb, e⟩ := e
        try dsimp only at e
        injection e with e; subst e
        cases hx
        obtain ⟨g1, g2, g3, g4, g5⟩ := boundsV_run (P := P) hb hlo hhi hmx (Nat.le_refl _) (Nat.le_refl _) true w
        obtain rfl : m = 0 := by omega
        obtain rfl : hh = 0 := by omega
        obtain rfl : l = 0 := by omega
        refine VOk.pure r .nilsl ?_
        simp [Instr.sliceAt, Instr.slice, run_underlying hu, g1, szT_run hs]
      · rename_i a len c
        rw [Option.bind_eq_some_iff] at e; obtain ⟨⟨l, hh, m⟩, hb, e⟩ := e
        try dsimp only at e
        injection e with e; subst e
        cases hx with
        | slk _ a' _ _ ha hle =>
          obtain ⟨g1, g2, g3, g4, g5⟩ := boundsV_run (P := P) hb hlo hhi hmx (Nat.le_refl _) hle true w
          have hmm : (if mx.isSome then m else c) = m := by cases hq : mx.isSome with | true => rfl | false => rw [g5 hq]; rfl
          rw [hmm] at g1
          refine VOk.pure r (v' := .slice (some (if m = l then a' else a'.add (l * size))) (hh - l) (m - l)) (.slk _ _ _ _ ?_ (by omega)) ?_
          · rcases ha with rfl | ha
            · left; omega
            · right; exact slid_AR ha l m size
          · simp only [Instr.sliceAt, Instr.slice, Sem.run_bind, run_underlying hu, Result.andThen_ok, g1, szT_run hs, Sem.run_pure]
            by_cases hml : m = l <;> simp [hml]
      · rename_i a len z
        cases hz : Nat.beq z size with
        | false => simp [hz] at e
        | true =>
          obtain rfl := Nat.eq_of_beq_eq_true hz
          simp only [hz, cond_true] at e
          cases hx with
          | slt _ a' _ _ c ht =>
            unfold TR at ht
            cases hab : a.blk with
            | base i => simp only [hab] at ht
            | glob i => simp only [hab] at ht
            | own i =>
              simp only [hab] at ht
              obtain ⟨b, sh, ext, hm, hsh, hext, hlc, haddr⟩ := ht
              cases hmx with
              | none =>
                try simp only at e
                rw [Option.bind_eq_some_iff] at e; obtain ⟨⟨l, hh, m⟩, hb, e⟩ := e
                try dsimp only at e
                injection e with e; subst e
                obtain ⟨g1, g2, g3, g4, g5⟩ := boundsV_run (P := P) hb hlo hhi .none hlc (Nat.le_refl _) true w
                simp only [Option.isSome_none, Bool.false_eq_true, if_false] at g1
                refine VOk.pure r (v' := .slice (some (if c = l then a' else a'.add (l * z))) (hh - l) (c - l)) (.slt _ _ _ _ _ ?_) ?_
                · unfold TR
                  simp only [A.add, hab]
                  have hcl : l ≤ c := by omega
                  refine ⟨b, sh, ext, hm, by omega, ?_, by omega, ?_⟩
                  · have : c * z = l * z + (c - l) * z := by rw [← Nat.add_mul]; congr 1; omega
                    omega
                  · intro hne
                    have : c ≠ l := by omega
                    rw [if_neg this, haddr (by omega), add_of]
                    congr 1
                    omega
                · simp only [Instr.sliceAt, Instr.slice, Sem.run_bind, run_underlying hu, Result.andThen_ok, g1, szT_run hs, Sem.run_pure]
                  by_cases hml : c = l <;> simp [hml]
              | some mv mv' hmv =>
                try simp only at e
                rw [Option.bind_eq_some_iff] at e; obtain ⟨⟨l, hh, m⟩, hb, e⟩ := e
                try dsimp only at e
                injection e with e; subst e
                obtain ⟨g1, g2, g3, g4, g5⟩ := boundsV_run (P := P) hb hlo hhi (.some mv mv' hmv) hlc (Nat.le_refl _) true w
                simp only [Option.isSome_some, if_true] at g1
                refine VOk.pure r (v' := .slice (some (if m = l then a' else a'.add (l * z))) (hh - l) (m - l)) (.slk _ _ _ _ ?_ (by omega)) ?_
                · by_cases hc0 : c = 0
                  · left; omega
                  · right
                    refine slid_AR ?_ l m z
                    unfold AR
                    simp only [hab]
                    exact ⟨b, sh, ext, hm, hsh, haddr hc0⟩
                · simp only [Instr.sliceAt, Instr.slice, Sem.run_bind, run_underlying hu, Result.andThen_ok, g1, szT_run hs, Sem.run_pure]
                  by_cases hml : m = l <;> simp [hml]
      · cases e
    | _ => simp at e

theorem fieldAtV_ok {σ : S} {h : H} {w : World} (r : Rel σ h w) {s f : Nat} {x v : V} (e : fieldAtV P s x f = some v) {x' : Value} (hx : VR σ x x') : VOk P σ h w (Instr.fieldAt s x' f) v h := by
  unfold fieldAtV at e
  cases hu : P.underlying s with
  | none => simp [hu] at e
  | some d =>
    cases d with
    | struct fs =>
      cases x with
      | ptr a =>
        simp only [hu] at e
        cases hf : fs.toList[f]? with
        | none => simp only [hf] at e; cases e
        | some g =>
          simp only [hf] at e
          rw [Option.bind_eq_some_iff] at e; obtain ⟨n, hs, e⟩ := e
          cases hn : Nat.beq n 0 with
          | true => simp [hn] at e
          | false =>
            simp only [hn, cond_false] at e
            injection e with e; subst e
            have hn' : n ≠ 0 := by intro c; subst c; simp at hn
            cases hx with
            | ptr _ a' ha =>
              have hf' : fs[f]? = some g := by simpa using hf
              refine VOk.pure r (.ptr _ _ (ha.add g.offset)) ?_
              simp [Instr.fieldAt, run_underlying hu, hf', Instr.sureAddr, fieldPlace, szT_run hs, hn']
      | _ => simp [hu] at e
    | _ => cases x <;> simp [hu] at e

theorem fieldV_ok {σ : S} {h : H} {w : World} (r : Rel σ h w) {t f : Nat} {x v : V} (e : fieldV P t x f = some v) {x' : Value} (hx : VR σ x x') : VOk P σ h w (Instr.field t x' f) v h := by
  unfold fieldV at e
  cases hu : P.underlying t with
  | none => simp [hu] at e
  | some d =>
    cases d with
    | struct fs =>
      cases x with
      | agg cs =>
        simp only [hu] at e
        cases hf : fs.toList[f]? with
        | none => simp only [hf] at e; cases e
        | some g =>
          simp only [hf] at e
          cases hx with
          | agg _ cs' hc =>
            have hf' : fs[f]? = some g := by simpa using hf
            obtain ⟨v', g1, g2⟩ := partT_run e hc
            refine VOk.pure r g1 ?_
            simp [Instr.field, run_underlying hu, hf', asAgg, g2]
      | _ => simp [hu] at e
    | _ => cases x <;> simp [hu] at e

theorem inRange_eq {i : Int} {n j : Nat} (h : inRange i n = some j) : 0 ≤ i ∧ i < n ∧ j = i.toNat ∧ j < n := by
  unfold inRange at h
  split at h
  · rename_i c; cases h; exact ⟨c.1, c.2, rfl, by omega⟩
  · cases h

theorem indexAtV_ok {σ : S} {h : H} {w : World} (r : Rel σ h w) {t : Nat} {x ix v : V} (e : indexAtV P t x ix = some v) {x' ix' : Value} (hx : VR σ x x') (hi : VR σ ix ix') : VOk P σ h w (Instr.indexAt t x' ix') v h := by
  unfold indexAtV at e
  rw [Option.bind_eq_some_iff] at e; obtain ⟨i, hii, e⟩ := e
  obtain ⟨k, rfl⟩ := intOfV_eq hii
  cases hi
  cases hu : P.underlying t with
  | none => simp [hu] at e
  | some d =>
    cases d with
    | array n el =>
      simp only [hu] at e
      cases x with
      | ptr a =>
        try simp only at e
        rw [Option.bind_eq_some_iff] at e; obtain ⟨size, hs, e⟩ := e
        rw [Option.bind_eq_some_iff] at e; obtain ⟨j, hj, e⟩ := e
        injection e with e; subst e
        obtain ⟨h1, h2, h3, h4⟩ := inRange_eq hj
        cases hx with
        | ptr _ a' ha =>
          refine VOk.pure r (.ptr _ _ (ha.add (j * size))) ?_
          subst h3
          simp [Instr.indexAt, asIntOf, run_underlying hu, Instr.sureAddr, h1, h2, szT_run hs]
      | _ => simp at e
    | slice el =>
      simp only [hu] at e
      cases x with
      | sl a len cap =>
        try simp only at e
        rw [Option.bind_eq_some_iff] at e; obtain ⟨size, hs, e⟩ := e
        rw [Option.bind_eq_some_iff] at e; obtain ⟨j, hj, e⟩ := e
        injection e with e; subst e
        obtain ⟨h1, h2, h3, h4⟩ := inRange_eq hj
        subst h3
        cases hx with
        | slk _ a' _ c ha hle =>
          have ha : AR σ a a' := by rcases ha with rfl | ha; · omega
                                    · exact ha
          refine VOk.pure r (.ptr _ _ (ha.add (i.toNat * size))) ?_
          simp [Instr.indexAt, asIntOf, run_underlying hu, h1, h2, szT_run hs]
        | slt _ a' _ z c ht =>
          have ha : AR σ a a' := by
            unfold TR at ht
            unfold AR
            cases hab : a.blk with
            | base i => simp only [hab] at ht
            | glob i => simp only [hab] at ht
            | own i =>
              simp only [hab] at ht ⊢
              obtain ⟨b, sh, ext, hm, hsh, hext, hlc, haddr⟩ := ht
              exact ⟨b, sh, ext, hm, hsh, haddr (by omega)⟩
          refine VOk.pure r (.ptr _ _ (ha.add (i.toNat * size))) ?_
          simp [Instr.indexAt, asIntOf, run_underlying hu, h1, h2, szT_run hs]
      | _ => simp at e
    | _ => simp [hu] at e

theorem indexV_ok {σ : S} {h : H} {w : World} (r : Rel σ h w) {t : Nat} {x ix v : V} (e : indexV P t x ix = some v) {x' ix' : Value} (hx : VR σ x x') (hi : VR σ ix ix') : VOk P σ h w (Instr.index t x' ix') v h := by
  unfold indexV at e
  rw [Option.bind_eq_some_iff] at e; obtain ⟨i, hii, e⟩ := e
  obtain ⟨k, rfl⟩ := intOfV_eq hii
  cases hi
  cases hu : P.underlying t with
  | none => simp [hu] at e
  | some d =>
    cases d with
    | array n el =>
      simp only [hu] at e
      cases x with
      | agg cs =>
        try simp only at e
        rw [Option.bind_eq_some_iff] at e; obtain ⟨size, hs, e⟩ := e
        rw [Option.bind_eq_some_iff] at e; obtain ⟨j, hj, e⟩ := e
        obtain ⟨h1, h2, h3, h4⟩ := inRange_eq hj
        subst h3
        cases hx with
        | agg _ cs' hc =>
          obtain ⟨v', g1, g2⟩ := partT_run e hc
          refine VOk.pure r g1 ?_
          simp [Instr.index, asIntOf, run_underlying hu, h1, h2, szT_run hs, g2]
      | _ => simp at e
    | string =>
      simp only [hu] at e
      cases x with
      | str s =>
        try simp only at e
        rw [Option.bind_eq_some_iff] at e; obtain ⟨j, hj, e⟩ := e
        rw [Option.bind_eq_some_iff] at e; obtain ⟨b, hb, e⟩ := e
        injection e with e; subst e
        obtain ⟨h1, h2, h3, h4⟩ := inRange_eq hj
        subst h3
        cases hx with
        | str _ bs hbs =>
          refine VOk.pure r (.int _ _) ?_
          have hlt : i.toNat < bs.size := by rw [← hbs] at h4; exact h4
          have : bs[i.toNat]? = some b := by
            rw [getElem?_pos bs _ hlt]
            rw [← hbs, Array.getElem?_toList, Array.getElem?_eq_getElem hlt] at hb
            exact hb
          simp [Instr.index, asIntOf, run_underlying hu, h1, this]
      | _ => simp at e
    | _ => simp [hu] at e

end Go.Proofs.Ab
