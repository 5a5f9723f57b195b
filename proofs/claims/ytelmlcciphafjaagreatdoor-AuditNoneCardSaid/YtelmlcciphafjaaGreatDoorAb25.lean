/- The evaluator's soundness, twenty-second part: a region whose order is open. -/
import Derived.Test.YtelmlcciphafjaaGreatDoorAb24
namespace Go.Proofs.Ab
open Go

def Lst (listed : Array Bool) (j : Nat) : Prop := listed.getD j false = true

def tailE (E : E) (rec : Rec) (ops : Array Oper) (pures : List (Oper × Nat × Nat)) (kk : Fr → H → Prop) : List (Oper × Nat) → Nat → Fr → H → Option Nat → Prop
  | [], k, fr, h, pn => kk fr h
  | e :: es, k, fr, h, pn => bif wantedV ops fr e.1 then actK E rec fr h e.1 (fun v h => fr.putK e.1.dst v fun fr => regE E rec ops pures kk es (k + 1) fr h pn) (fun _ _ => False)
      else fr.putK e.1.dst .u fun fr => regE E rec ops pures kk es (k + 1) fr h pn
theorem regE_eq (E : E) (rec : Rec) (ops : Array Oper) (pures : List (Oper × Nat × Nat)) (kk : Fr → H → Prop) (es : List (Oper × Nat)) (k : Nat) (fr : Fr) (h : H) (pn : Option Nat) :
    regE E rec ops pures kk es k fr h pn = fillK E.P ops k (fun fr h pn => bif checkE E.P ops k h pn fr pures then tailE E rec ops pures kk es k fr h pn else False) pures fr h pn := by
  cases es <;> rfl

theorem wantedV_congr {ops : Array Oper} {fr g : Fr} {o : Oper} (hn : fr.n = g.n) (h : ∀ x ∈ tmpsOf o ops, fr.get x = g.get x) : wantedV ops fr o = wantedV ops g o := by
  unfold wantedV
  cases hg : o.guard with
  | none => rfl
  | some p =>
    obtain ⟨j, want⟩ := p
    simp only
    cases hd : (ops[j]?).bind (·.dst) with
    | none => rfl
    | some t =>
      simp only [hn]
      rw [h t (by unfold tmpsOf; rw [hg]; simp [hd])]

theorem eval_congr {fr g : Fr} {ops : Array Oper} {o : Oper} (h : ∀ x ∈ tmpsOf o ops, fr.get x = g.get x) : ∀ x ∈ o.op.operands.toList, fr.eval x = g.eval x := by
  intro x hx
  cases x with
  | tmp t =>
    simp only [Fr.eval]
    rw [h t]
    unfold tmpsOf
    rw [List.mem_append]
    exact .inl (List.mem_filterMap.2 ⟨_, hx, rfl⟩)
  | const c => rfl
  | global g => rfl
  | func f => rfl

structure RI (P : Program) (L : Nat) (ops : Array Oper) (t : T Nat) (listed : Array Bool) (done rem : List (Oper × Nat)) (fr g : Fr) : Prop where
  size : listed.size = ops.size
  closed : Closed ops (Lst listed)
  split : effsE P L ops = done ++ rem
  dn : ∀ e ∈ done, Lst listed e.2
  rm : ∀ e ∈ rem, ¬ Lst listed e.2
  n : fr.n = g.n
  ds : fr.ds = g.ds
  cm : fr.cm = g.cm
  hi : fr.Hi
  gi : g.Hi
  agr : ∀ x, (∀ (j : Nat) q, ops[j]? = some q → q.dst = some x → Lst listed j) → fr.get x = g.get x

section
variable {E : E} {rec : Rec} {L : Nat} {ops : Array Oper} {t : T Nat} {listed : Array Bool} {done rem : List (Oper × Nat)} {fr g : Fr}

theorem set_lst {i j : Nat} (hi : i < listed.size) : Lst (listed.setIfInBounds i true) j ↔ j = i ∨ Lst listed j := by
  unfold Lst
  by_cases hij : i = j
  · subst hij; simp [hi]
  · rw [getD_set_ne false hij]
    constructor
    · exact .inr
    · rintro (c | c)
      · exact absurd c.symm hij
      · exact c

theorem RI.reads (I : RI E.P L ops t listed done rem fr g) (hm : MaskOk ops t) (st : Steady E.P ops t) {i : Nat} {o : Oper} (ho : ops[i]? = some o) (hr : ∀ e ∈ o.after, Region.binds .any e = true → Lst listed e.on) :
    ∀ x ∈ tmpsOf o ops, fr.get x = g.get x := by
  intro x hx
  refine I.agr x fun j q hq hd => ?_
  refine I.closed.ready (hm _ _ (st.reads i o x ho hx j q hq hd)) fun o' ho' e he hb => ?_
  rw [ho] at ho'; cases ho'
  exact hr e he hb

theorem RI.lo (I : RI E.P L ops t listed done rem fr g) (hm : MaskOk ops t) {i : Nat} (hc : ∀ j, Anc ops i j → Lst listed j) : loE (mask t i) (effsE E.P L ops) 0 0 ≤ done.length := by
  rw [I.split]
  have := loE_le (m := mask t i) (rem := rem) (by
    intro e he
    cases hb : (mask t i).testBit e.2 with
    | false => rfl
    | true => exact absurd (hc _ (hm _ _ hb)) (I.rm e he)) done 0 0 (Nat.le_refl _)
  omega
theorem RI.hiL (I : RI E.P L ops t listed done rem fr g) (hm : MaskOk ops t) {i : Nat} (hc : ¬ Lst listed i) : done.length ≤ hiE t i (effsE E.P L ops) 0 := by
  rw [I.split]
  have := hiE_le (t := t) (i := i) (rem := rem) done 0 (by
    intro e he
    cases hb : (mask t e.2).testBit i with
    | false => rfl
    | true => exact absurd (I.closed.anc (hm _ _ hb) (I.dn e he)) hc)
  omega

theorem RI.set_closed (I : RI E.P L ops t listed done rem fr g) {i : Nat} (hi : i < listed.size) (hr : ∀ o, ops[i]? = some o → ∀ e ∈ o.after, Region.binds .any e = true → Lst listed e.on) : Closed ops (Lst (listed.setIfInBounds i true)) := by
  intro j o e hj ho he hb
  rw [set_lst hi] at hj ⊢
  rcases hj with rfl | hj
  · exact .inr (hr o ho e he hb)
  · exact .inr (I.closed j o e hj ho he hb)

/-- Everything is listed: the frames agree. -/
theorem RI.full (I : RI E.P L ops t listed done rem fr g) (hall : ∀ j, j < ops.size → Lst listed j) {σ : S} {a : Act} (hf : FrR σ g a) : rem = [] ∧ FrR σ fr a := by
  refine ⟨?_, ⟨?_, ?_, ?_⟩, ?_⟩
  · cases rem with
    | nil => rfl
    | cons e es =>
      have hm : (e.1, e.2) ∈ effsE E.P L ops := by rw [I.split]; simp
      have := (mem_effs.1 hm).1
      have hlt : e.2 < ops.size := (Array.getElem?_eq_some_iff.1 this).1
      exact absurd (hall _ hlt) (I.rm e (by simp))
  · rw [hf.tm.1, I.n]
  · intro i hi
    have h1 := hf.get i
    rw [← I.agr i fun j q hq _ => hall j (Array.getElem?_eq_some_iff.1 hq).1, Fr.get_eq] at h1
    exact h1
  · exact I.hi
  · rw [I.ds]; exact hf.ds

/-- Nothing is ready: everything is listed. -/
theorem all_listed (st : Steady E.P ops t) (hs : listed.size = ops.size) (h : Region.ready .any ops listed = []) : ∀ j, j < ops.size → Lst listed j := by
  intro j
  induction j using Nat.strongRecOn with
  | _ j ih =>
    intro hj
    cases hb : listed.getD j false with
    | true => exact hb
    | false =>
      exfalso
      have hm : j ∈ Region.ready .any ops listed := by
        rw [mem_ready]
        refine ⟨?_, ops[j], Array.getElem?_eq_getElem hj, fun e he hbi => ?_⟩
        · rw [Array.getD_eq_getD_getElem?, Array.getElem?_eq_getElem (by rw [hs]; exact hj)] at hb ⊢
          exact hb
        · have := st.back j _ e (Array.getElem?_eq_getElem hj) he hbi
          exact ih e.on this (by omega)
      rw [h] at hm; cases hm

theorem not_lst {i : Nat} (h : listed.getD i true = false) : i < listed.size ∧ ¬ Lst listed i := by
  have hlt : i < listed.size := by
    rcases Nat.lt_or_ge i listed.size with c | c
    · exact c
    · rw [Array.getD_eq_getD_getElem?, Array.getElem?_eq_none c] at h; cases h
  refine ⟨hlt, ?_⟩
  unfold Lst
  rw [Array.getD_eq_getD_getElem?, Array.getElem?_eq_getElem hlt] at h ⊢
  simp only [Option.getD_some] at h ⊢
  rw [h]; simp

/-- An operation's slot is filled, in both. -/
theorem agr_put {M M' : Nat → Prop} {i : Nat} {o : Oper} {v : V} (ho : ops[i]? = some o) (hM : ∀ j, M' j ↔ j = i ∨ M j) (hn : fr.n = g.n) (gi : g.Hi) (fi : fr.Hi)
    (h : ∀ x, (∀ (j : Nat) q, ops[j]? = some q → q.dst = some x → M j) → fr.get x = g.get x) :
    ∀ x, (∀ (j : Nat) q, ops[j]? = some q → q.dst = some x → M' j) → (fr.put o.dst v).get x = (g.put o.dst v).get x := by
  intro x hx
  rw [Fr.put_get, Fr.put_get, hn]
  by_cases hd : o.dst = some x
  · by_cases hlt : x < g.n
    · rw [if_pos ⟨hd, hlt⟩, if_pos ⟨hd, hlt⟩]
    · rw [if_neg (fun c => hlt c.2), if_neg (fun c => hlt c.2), gi.get (Nat.le_of_not_lt hlt), fi.get (by rw [hn]; exact Nat.le_of_not_lt hlt)]
  · rw [if_neg (fun c => hd c.1), if_neg (fun c => hd c.1)]
    refine h x fun j q hq hdq => ?_
    rcases (hM j).1 (hx j q hq hdq) with rfl | c
    · rw [ho] at hq; cases hq; exact absurd hdq hd
    · exact c

theorem regE_go {b : Frame} {cs : List Frame} {ks : List Item} (eo : EOk E) (rc : RecOk E rec) (hm : MaskOk ops t) (st : Steady E.P ops t) (hch : chainE t (effsE E.P L ops) = true) {kk : Fr → H → Prop} {nb : Nat} :
    ∀ (fuel T : Nat) {listed : Array Bool} {done rem : List (Oper × Nat)} {fr g : Fr} {h : H} {pn : Option Nat} {σ : S} {w : World} {a : Act}, cnt ops.size (fun j => !listed.getD j false) ≤ fuel → RI E.P L ops t listed done rem fr g →
      tailE E rec ops (puresE E.P L t (effsE E.P L ops) ops) kk rem done.length fr h pn → nb ≤ h.next → (¬ Lst listed L → PnOk nb σ h pn) → checkE E.P ops done.length h pn fr (puresE E.P L t (effsE E.P L ops) ops) = true → Rel σ h w → FrR σ g a →
      ∃ fr' h' σ' w' a', kk fr' h' ∧ SimB nb σ h w σ' h' w' ∧ FrR σ' fr' a' ∧ fr'.cm = g.cm ∧
        Steps E.P (lone (b.atR a (.inRegion ops (Region.linearise.go .any ops fuel T listed []) :: ks)) cs w) (lone (b.atR a' (.inRegion ops [] :: ks)) cs w') := by
  intro fuel
  induction fuel with
  | zero =>
    intro T listed done rem fr g h pn σ w a hc I e hnb hpn hck r hf
    have hall : ∀ j, j < ops.size → Lst listed j := by
      intro j hj
      have := cnt_zero (Nat.le_zero.1 hc) j hj
      simp only [Bool.not_eq_false'] at this
      exact this
    obtain ⟨rfl, hff⟩ := I.full hall hf
    exact ⟨fr, h, σ, w, a, e, (Sim.refl r).weak hnb, hff, I.cm, Steps.refl _ _⟩
  | succ fuel ih =>
    intro T listed done rem fr g h pn σ w a hc I e hnb hpn hck r hf
    simp only [Region.linearise.go]
    change ∃ fr' h' σ' w' a', kk fr' h' ∧ SimB nb σ h w σ' h' w' ∧ FrR σ' fr' a' ∧ fr'.cm = g.cm ∧
        Steps E.P (lone (b.atR a (.inRegion ops (match (Region.ready .any ops listed)[T % (Region.ready .any ops listed).length]? with
      | some i => Region.linearise.go .any ops fuel (T / (Region.ready .any ops listed).length) (listed.setIfInBounds i true) [i]
      | none => [].reverse) :: ks)) cs w) (lone (b.atR a' (.inRegion ops [] :: ks)) cs w')
    cases hi : (Region.ready .any ops listed)[T % (Region.ready .any ops listed).length]? with
    | none =>
      have hnil : Region.ready .any ops listed = [] := by
        cases hr : Region.ready .any ops listed with
        | nil => rfl
        | cons x xs =>
          rw [hr] at hi
          have hlt : T % (x :: xs).length < (x :: xs).length := Nat.mod_lt _ (by simp)
          rw [List.getElem?_eq_getElem hlt] at hi; cases hi
      obtain ⟨rfl, hff⟩ := I.full (all_listed st I.size hnil) hf
      exact ⟨fr, h, σ, w, a, e, (Sim.refl r).weak hnb, hff, I.cm, Steps.refl _ _⟩
    | some i =>
      simp only []
      rw [linearise_go_acc, List.reverse_singleton, List.singleton_append]
      obtain ⟨hl, o, ho, hpre⟩ := mem_ready.1 (List.mem_of_getElem? hi)
      obtain ⟨hil, hnl⟩ := not_lst hl
      have hilt : i < ops.size := by rw [← I.size]; exact hil
      have hrd : ∀ e ∈ o.after, Region.binds .any e = true → Lst listed e.on := hpre
      have hrd' : ∀ o', ops[i]? = some o' → ∀ e ∈ o'.after, Region.binds .any e = true → Lst listed e.on := by intro o' ho'; rw [ho] at ho'; cases ho'; exact hrd
      have hread := I.reads hm st ho hrd
      have hwc := wantedV_congr I.n hread
      have hec := eval_congr hread
      have hL : ∀ j, Lst (listed.setIfInBounds i true) j ↔ j = i ∨ Lst listed j := fun j => set_lst hil
      have hcnt : cnt ops.size (fun j => !(listed.setIfInBounds i true).getD j false) ≤ fuel := by
        have h1 := cnt_drop (n := ops.size) (p := fun j => !listed.getD j false) (q := fun j => !(listed.setIfInBounds i true).getD j false) hilt
          (by have : listed.getD i false = false := by
                cases hb : listed.getD i false with
                | false => rfl
                | true => exact absurd hb hnl
              simp only [this]; rfl)
          (by have := (hL i).2 (.inl rfl); unfold Lst at this; simp only [this]; rfl)
          (fun j hj => by simp only [getD_set_ne false (Ne.symm hj)])
        omega
      have hcl := I.set_closed hil hrd'
      have hsz : (listed.setIfInBounds i true).size = ops.size := by rw [Array.size_setIfInBounds]; exact I.size
      have hpnL : ∀ {σ1 : S} {h1 : H} {w1 : World}, Sim σ h w σ1 h1 w1 → ¬ Lst (listed.setIfInBounds i true) L → PnOk nb σ1 h1 pn := by
        intro σ1 h1 w1 sim hn
        exact (hpn fun c => hn ((hL L).2 (.inr c))).sim sim
      by_cases hk : Nat.ble (kd E.P o.op) 1 = true ∨ i = L
      · have hp : (o, loE (mask t i) (effsE E.P L ops) 0 0, hiE t i (effsE E.P L ops) 0) ∈ puresE E.P L t (effsE E.P L ops) ops := mem_pures.2 ⟨i, ho, hk, rfl, rfl⟩
        have hne : ∀ e ∈ rem, e.2 ≠ i := by
          intro e he c
          have hm' : (e.1, e.2) ∈ effsE E.P L ops := by rw [I.split]; simp [he]
          obtain ⟨g1, g2, g3⟩ := mem_effs.1 hm'
          rcases hk with hk | hk
          · rw [c, ho] at g1; injection g1 with g1; rw [← g1] at g2
            have := Nat.le_of_ble_eq_true hk
            have := Nat.le_of_ble_eq_true g2
            omega
          · exact g3 (c.trans hk)
        have mk : ∀ (v : V), (∀ d, o.dst = some d → fr.get d = v) → RI E.P L ops t (listed.setIfInBounds i true) done rem fr (g.put o.dst v) := by
          intro v hv
          refine ⟨hsz, hcl, I.split, fun e he => (hL _).2 (.inr (I.dn e he)), fun e he c => ?_, by rw [Fr.put_n]; exact I.n, by rw [Fr.put_ds]; exact I.ds, by rw [Fr.put_cm]; exact I.cm, I.hi, I.gi.put _ _, fun x hx => ?_⟩
          · rcases (hL _).1 c with c | c
            · exact hne e he c
            · exact I.rm e he c
          · have := agr_put (v := v) ho hL I.n I.gi I.hi I.agr x hx
            rw [← this, Fr.put_get]
            by_cases hd : o.dst = some x
            · by_cases hlt : x < fr.n
              · rw [if_pos ⟨hd, hlt⟩]; exact hv x hd
              · rw [if_neg (fun c => hlt c.2)]
            · rw [if_neg (fun c => hd c.1)]
        rcases checkE_ok hck _ hp (I.lo hm fun j hj => I.closed.ready hj hrd') (I.hiL hm hnl) with ⟨hw, hk1, v, h', hv, hvd⟩ | ⟨hw, hk1, hlo⟩ | ⟨hw, hvd⟩
        · have hv' : opV E.P g h o.op = some (v, h') := by rw [← opV_congr o.op hec]; exact hv
          have := pure_heap hk1 hv'; subst this
          obtain ⟨σ1, w1, v1, sim, hvr, stp⟩ := opV_step (b := b) (ks := ks) (cs := cs) (rest := Region.linearise.go .any ops fuel (T / (Region.ready .any ops listed).length) (listed.setIfInBounds i true) []) r hf ho (by rw [wantedV_eq hf, ← hwc]; exact hw) hv'
          obtain ⟨fr', h2, σ2, w2, a2, e2, sim2, hf2, hcm, stp2⟩ := ih (T / (Region.ready .any ops listed).length) hcnt (mk v hvd) e hnb (hpnL sim) hck sim.rel ((hf.up sim.up).put hvr o.dst)
          exact ⟨fr', h2, σ2, w2, a2, e2, (sim.weak hnb).trans sim2, hf2, by rw [hcm, Fr.put_cm], stp.trans stp2⟩
        · have hiL : i = L := by
            rcases hk with hk | hk
            · rw [hk1] at hk; cases hk
            · exact hk
          obtain ⟨nm, d, v, h2, cs2, rfl, hd, hil2, hv, hfv, hg2, hg⟩ := looseOk_ok hlo
          have hv' : opV E.P g { own := .e, next := nm, base := h.base, glob := h.glob } o.op = some (v, h2) := by rw [← opV_congr o.op hec]; exact hv
          obtain ⟨cs3, c', el, mkv, ha, hc3, rfl, hvr, hrun⟩ := loose_run hf hil2 hv'
          rw [H.new_get, if_pos rfl] at hg2
          injection hg2 with hg2; injection hg2 with _ hg2; subst hg2
          obtain ⟨hu, hlt, hnbm⟩ := hpn (by rw [← hiL]; exact hnl) nm rfl
          have simB := r.realise (nb := nb) (el := el) hg hu hnbm ha hc3
          have stp := stepOp_value (P := E.P) (b := b) (k := ks) (cs := cs) (w := w) (rest := Region.linearise.go .any ops fuel (T / (Region.ready .any ops listed).length) (listed.setIfInBounds i true) []) ho (a := a) (by rw [wantedV_eq hf, ← hwc]; exact hw) (by
            rw [Oper.semAt_eq _ _ _ (by intro c hc; rw [hc] at hil2; cases hil2)]; exact hrun w)
          obtain ⟨fr', h2, σ2, w2, a2, e2, sim2, hf2, hcm, stp2⟩ := ih (T / (Region.ready .any ops listed).length) hcnt (mk v (fun d' hd' => by rw [hd] at hd'; cases hd'; exact hfv)) e hnb (fun c => absurd ((hL L).2 (.inl hiL.symm)) c) hck simB.rel ((hf.up simB.up).put (hvr _ _ (S.bind_self _ _ _ _)) o.dst)
          exact ⟨fr', h2, σ2, w2, a2, e2, simB.trans sim2, hf2, by rw [hcm, Fr.put_cm], (Steps.one stp).trans stp2⟩
        · have stp := stepOp_unwanted (P := E.P) (b := b) (k := ks) (cs := cs) (w := w) (rest := Region.linearise.go .any ops fuel (T / (Region.ready .any ops listed).length) (listed.setIfInBounds i true) []) ho (a := a) (by rw [wantedV_eq hf, ← hwc]; exact hw)
          obtain ⟨fr', h2, σ2, w2, a2, e2, sim2, hf2, hcm, stp2⟩ := ih (T / (Region.ready .any ops listed).length) hcnt (mk .u hvd) e hnb (hpnL (Sim.refl r)) hck r (hf.put (undef_rel σ) o.dst)
          exact ⟨fr', h2, σ2, w2, a2, e2, sim2, hf2, by rw [hcm, Fr.put_cm], (Steps.one stp).trans stp2⟩
      · have hk1 : Nat.ble (kd E.P o.op) 1 = false := by
          cases c : Nat.ble (kd E.P o.op) 1 with
          | false => rfl
          | true => exact absurd (.inl c) hk
        have hiL : i ≠ L := fun c => hk (.inr c)
        have hk2 : Nat.ble 2 (kd E.P o.op) = true := by
          have : ¬ kd E.P o.op ≤ 1 := by intro c; rw [Nat.ble_eq_true_of_le c] at hk1; cases hk1
          exact Nat.ble_eq_true_of_le (by omega)
        have hme : (o, i) ∈ done ++ rem := by rw [← I.split]; exact mem_effs.2 ⟨ho, hk2, hiL⟩
        have hmr : (o, i) ∈ rem := by
          rcases List.mem_append.1 hme with c | c
          · exact absurd (I.dn _ c) hnl
          · exact c
        cases rem with
        | nil => cases hmr
        | cons ef rest =>
          have hhd : ef = (o, i) := by
            rcases List.mem_cons.1 hmr with c | c
            · exact c.symm
            · have hb := chainE_ok done ef rest hch I.split (o, i) c
              exact absurd (I.closed.ready (hm _ _ hb) hrd') (I.rm ef (by simp))
          subst hhd
          have hnr : ∀ e ∈ rest, e.2 ≠ i := by
            intro e he c
            have hb := chainE_ok done (o, i) rest hch I.split e he
            simp only at hb
            rw [c] at hb
            exact hnl (I.closed.ready (hm _ _ hb) hrd')
          -- the state behind the effect
          have mk : ∀ (v : V) {h1 : H} {σ1 : S} {w1 : World}, regE E rec ops (puresE E.P L t (effsE E.P L ops) ops) kk rest (done.length + 1) (fr.put o.dst v) h1 pn → Rel σ1 h1 w1 → nb ≤ h1.next → (¬ Lst (listed.setIfInBounds i true) L → PnOk nb σ1 h1 pn) →
              ∃ fr2 h2 pn2, RI E.P L ops t (listed.setIfInBounds i true) (done ++ [(o, i)]) rest fr2 (g.put o.dst v) ∧ tailE E rec ops (puresE E.P L t (effsE E.P L ops) ops) kk rest (done ++ [(o, i)]).length fr2 h2 pn2 ∧ checkE E.P ops (done ++ [(o, i)]).length h2 pn2 fr2 (puresE E.P L t (effsE E.P L ops) ops) = true ∧ SimB nb σ1 h1 w1 σ1 h2 w1 ∧ (¬ Lst (listed.setIfInBounds i true) L → PnOk nb σ1 h2 pn2) := by
            intro v h1 σ1 w1 e r1 hnb1 hpn1
            rw [regE_eq] at e
            obtain ⟨fr2, h2, pn2, e, f1, f2, f3, f4, f5, f6, f7⟩ := fillK_ok (¬ Lst (listed.setIfInBounds i true) L) e r1 hnb1 hpn1
            have hlen : (done ++ [(o, i)]).length = done.length + 1 := by simp
            rw [hlen]
            cases hc2 : checkE E.P ops (done.length + 1) h2 pn2 fr2 (puresE E.P L t (effsE E.P L ops) ops) with
            | false => rw [hc2] at e; exact e.elim
            | true =>
              rw [hc2] at e
              refine ⟨fr2, h2, pn2, ⟨hsz, hcl, by rw [I.split]; simp, ?_, ?_, by rw [f1, Fr.put_n, Fr.put_n]; exact I.n, by rw [f3, Fr.put_ds, Fr.put_ds]; exact I.ds, by rw [f2, Fr.put_cm, Fr.put_cm]; exact I.cm, f4 (I.hi.put _ _), I.gi.put _ _, ?_⟩, e, hc2, f6, f7⟩
              · intro e' he'
                rcases List.mem_append.1 he' with c | c
                · exact (hL _).2 (.inr (I.dn e' c))
                · rw [List.mem_singleton] at c; subst c; exact (hL _).2 (.inl rfl)
              · intro e' he' c
                rcases (hL _).1 c with c | c
                · exact hnr e' he' c
                · exact I.rm e' (by simp [he']) c
              · intro x hx
                rw [f5 x]
                · exact agr_put (v := v) ho hL I.n I.gi I.hi I.agr x hx
                · intro p hp hpl hpd
                  obtain ⟨j, hj, hjk, hjl, _⟩ := mem_pures.1 hp
                  rcases (hL j).1 (hx j p.1 hj hpd) with c | c
                  · subst c; rw [ho] at hj; injection hj with hj; rw [← hj] at hjk; exact hk hjk
                  · have := I.lo hm (i := j) fun q hq => I.closed.anc hq c
                    omega
          unfold tailE at e
          cases hw : wantedV ops fr o with
          | true =>
            simp only [hw, cond_true, Fr.putK_put] at e
            rw [actK_congr hec] at e
            rcases actK_ok (b := b) (ks := ks) (cs := cs) (rest := Region.linearise.go .any ops fuel (T / (Region.ready .any ops listed).length) (listed.setIfInBounds i true) []) eo rc e r hf ho (by rw [wantedV_eq hf, ← hwc]; exact hw) with ⟨v, h1, σ1, w1, v1, e, sim, hvr, stp⟩ | ⟨v, h1, σ1, w1, v1, e, _⟩
            · obtain ⟨fr2, h3, pn2, I2, e2, hck2, simB, hpn2⟩ := mk v e sim.rel (Nat.le_trans hnb sim.next) (hpnL sim)
              obtain ⟨fr', h2, σ2, w2, a2, e2, sim2, hf2, hcm, stp2⟩ := ih (T / (Region.ready .any ops listed).length) hcnt I2 e2 (Nat.le_trans (Nat.le_trans hnb sim.next) simB.next) hpn2 hck2 simB.rel ((hf.up sim.up).put hvr o.dst)
              exact ⟨fr', h2, σ2, w2, a2, e2, ((sim.weak hnb).trans simB).trans sim2, hf2, by rw [hcm, Fr.put_cm], stp.trans stp2⟩
            · exact e.elim
          | false =>
            simp only [hw, cond_false, Fr.putK_put] at e
            obtain ⟨fr2, h3, pn2, I2, e2, hck2, simB, hpn2⟩ := mk .u e r hnb (hpnL (Sim.refl r))
            have stp := stepOp_unwanted (P := E.P) (b := b) (k := ks) (cs := cs) (w := w) (rest := Region.linearise.go .any ops fuel (T / (Region.ready .any ops listed).length) (listed.setIfInBounds i true) []) ho (a := a) (by rw [wantedV_eq hf, ← hwc]; exact hw)
            obtain ⟨fr', h2, σ2, w2, a2, e2, sim2, hf2, hcm, stp2⟩ := ih (T / (Region.ready .any ops listed).length) hcnt I2 e2 (Nat.le_trans hnb simB.next) hpn2 hck2 simB.rel (hf.put (undef_rel σ) o.dst)
            exact ⟨fr', h2, σ2, w2, a2, e2, simB.trans sim2, hf2, by rw [hcm, Fr.put_cm], (Steps.one stp).trans stp2⟩

theorem plan_eq {E : Go.Proofs.Ab.E} {rec : Rec} {ops : Array Oper} {kk : Fr → H → Prop} {fr : Fr} {h : H}
    (e : match planE E.P ops with | some p => regE E rec ops p.1 kk p.2 0 fr h none | none => False) :
    masksK ops.toList 0 .e fun t => fN (looseE E.P ops t) fun L => bif steadyE E.P L ops t then regE E rec ops (puresE E.P L t (effsE E.P L ops) ops) kk (effsE E.P L ops) 0 fr h none else False := by
  unfold planE at e
  rw [masksK_eq, fN_eq] at e
  rw [masksK_eq, fN_eq]
  cases hs : steadyE E.P (looseE E.P ops (masks ops.toList 0 .e)) ops (masks ops.toList 0 .e) with
  | false => rw [hs] at e; exact e.elim
  | true => rw [hs] at e; exact e


/-- The region whose order is open. -/
theorem region_any_ok {σ : S} {h : H} {w : World} {a : Act} {b : Frame} {cs : List Frame} {ks : List Item} (eo : EOk E) (rc : RecOk E rec) {id : Nat} {fr : Fr} {kk : Fr → H → Prop}
    (e : masksK ops.toList 0 .e fun t => fN (looseE E.P ops t) fun L => bif steadyE E.P L ops t then regE E rec ops (puresE E.P L t (effsE E.P L ops) ops) kk (effsE E.P L ops) 0 fr h none else False) (r : Rel σ h w) (hf : FrR σ fr a) :
    ∃ fr' h' σ' w' a', kk fr' h' ∧ Sim σ h w σ' h' w' ∧ FrR σ' fr' a' ∧ fr'.cm = fr.cm ∧
      Steps E.P (lone (b.atR a (.code (.region id ops true) :: ks)) cs w) (lone (b.atR a' ks) cs w') := by
  rw [masksK_eq, fN_eq] at e
  have hm := masks_all ops
  generalize masks ops.toList 0 .e = t at e hm
  generalize looseE E.P ops t = L at e
  cases hst : steadyE E.P L ops t with
  | false => rw [hst] at e; exact e.elim
  | true =>
    rw [hst] at e
    simp only [cond_true] at e
    obtain ⟨st, hch⟩ := steadyE_ok hst
    rw [regE_eq] at e
    have r' : Rel σ h { w with drawn := w.drawn + 1 } := r.heapR rfl
    obtain ⟨fr2, h2, pn2, e, f1, f2, f3, f4, f5, f6, f7⟩ := fillK_ok (nb := h.next) True e r' (Nat.le_refl _) (fun _ nm c => by cases c)
    cases hc2 : checkE E.P ops 0 h2 pn2 fr2 (puresE E.P L t (effsE E.P L ops) ops) with
    | false => rw [hc2] at e; exact e.elim
    | true =>
      rw [hc2] at e
      have hno : ∀ j, ¬ Lst (Array.replicate ops.size false) j := by
        intro j c
        unfold Lst at c
        rw [Array.getD_eq_getD_getElem?, Array.getElem?_replicate] at c
        split at c <;> simp at c
      have I : RI E.P L ops t (Array.replicate ops.size false) [] (effsE E.P L ops) fr2 fr := by
        refine ⟨by simp, fun i o e' c => absurd c (hno i), by simp, fun e' c => (by cases c), fun e' _ => hno e'.2, f1, f3, f2, f4 hf.tm.2.2, hf.tm.2.2, fun x hx => ?_⟩
        rw [f5 x]
        intro p hp _ hpd
        obtain ⟨j, hj, _⟩ := mem_pures.1 hp
        exact hno j (hx j p.1 hj hpd)
      obtain ⟨fr', h', σ', w', a', e, sim, hf', hcm, stp⟩ := regE_go (b := b) (cs := cs) (ks := ks) eo rc hm st hch (nb := h.next) ops.size (w.tape w.drawn (.order b.fn id)) (listed := Array.replicate ops.size false) (by
        have := cnt_same (n := ops.size) (p := fun j => !(Array.replicate ops.size false).getD j false) (q := fun _ => true) (by
          intro i hi
          rw [Array.getD_eq_getD_getElem?, Array.getElem?_replicate]; simp [hi])
        rw [this, cnt_true]; exact Nat.le_refl _) I e f6.next (fun _ => f7 trivial) hc2 f6.rel hf
      refine ⟨fr', h', σ', w', a', e, ((f6.trans sim).full (Nat.le_refl _)).heapL rfl, hf', hcm, ?_⟩
      refine (Steps.one stepR_region_draw).trans (Steps.trans ?_ (Steps.one (stepR_region_end (ops := ops))))
      have hs : Region.schedule (E.P.follows .mixedOrders) ops (w.tape w.drawn (.order b.fn id)) = Region.linearise.go .any ops ops.size (w.tape w.drawn (.order b.fn id)) (Array.replicate ops.size false) [] := by
        simp only [Region.schedule, eo.mixed, Bool.true_or, if_true]; rfl
      rw [hs]
      exact stp
end

end Go.Proofs.Ab
