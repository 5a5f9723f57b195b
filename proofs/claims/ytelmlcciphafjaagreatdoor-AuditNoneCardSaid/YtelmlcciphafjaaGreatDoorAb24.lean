/- The evaluator's soundness, twenty-first part: what is before what in a region; filling and checking. -/
import Derived.Test.YtelmlcciphafjaaGreatDoorAb23
namespace Go.Proofs.Ab
open Go

/-! ## What is before -/
inductive Anc (ops : Array Oper) : Nat → Nat → Prop
  | edge (i : Nat) (o : Oper) (e : Edge) : ops[i]? = some o → e ∈ o.after → Region.binds .any e = true → Anc ops i e.on
  | step (i : Nat) (o : Oper) (e : Edge) (j : Nat) : ops[i]? = some o → e ∈ o.after → Region.binds .any e = true → Anc ops e.on j → Anc ops i j

def masks : List Oper → Nat → T Nat → T Nat
  | [], _, t => t
  | o :: os, i, t => masks os (i + 1) (t.set i (maskE t o.after.toList 0))
theorem masksK_eq {β : Type} : ∀ (os : List Oper) (i : Nat) (t : T Nat) (k : T Nat → β), masksK os i t k = k (masks os i t)
  | [], _, _, _ => rfl
  | o :: os, i, t, k => by simp only [masksK, masks, fN_eq, T.setK_set]; exact masksK_eq os (i + 1) _ k

theorem shl_bit (n j : Nat) : (Nat.shiftLeft 1 n).testBit j = decide (n = j) := by
  show (1 <<< n).testBit j = _
  rw [Nat.one_shiftLeft, Nat.testBit_two_pow]
theorem lor_bit (a b j : Nat) : (Nat.lor a b).testBit j = (a.testBit j || b.testBit j) := Nat.testBit_or a b j

theorem maskE_bit (t : T Nat) : ∀ (es : List Edge) (m j : Nat), (maskE t es m).testBit j = true → m.testBit j = true ∨ ∃ e ∈ es, Region.binds .any e = true ∧ (e.on = j ∨ (mask t e.on).testBit j = true)
  | [], m, j, h => .inl h
  | e :: es, m, j, h => by
    unfold maskE at h
    rcases maskE_bit t es _ j h with h | ⟨e', he, hb, h⟩
    · cases hb : Region.binds .any e with
      | false => rw [hb] at h; exact .inl h
      | true =>
        rw [hb] at h
        simp only [cond_true] at h
        rw [lor_bit, lor_bit, shl_bit, Bool.or_eq_true, Bool.or_eq_true] at h
        rcases h with h | h | h
        · exact .inl h
        · exact .inr ⟨e, by simp, hb, .inl (by simpa using h)⟩
        · exact .inr ⟨e, by simp, hb, .inr h⟩
    · exact .inr ⟨e', by simp [he], hb, h⟩

def MaskOk (ops : Array Oper) (t : T Nat) : Prop := ∀ i j, (mask t i).testBit j = true → Anc ops i j
theorem masks_ok (ops : Array Oper) : ∀ (os : List Oper) (i : Nat) (t : T Nat), ops.toList.drop i = os → MaskOk ops t → MaskOk ops (masks os i t)
  | [], _, _, _, h => h
  | o :: os, i, t, hd, h => by
    have ho : ops[i]? = some o := by
      have : (ops.toList.drop i)[0]? = some o := by rw [hd]; rfl
      simpa using this
    have hd' : ops.toList.drop (i + 1) = os := by rw [← List.tail_drop, hd]; rfl
    refine masks_ok ops os (i + 1) _ hd' ?_
    intro a j hb
    unfold mask at hb
    rw [T.get_set] at hb
    by_cases hai : a = i
    · subst hai
      rw [if_pos rfl] at hb
      simp only [Option.getD_some] at hb
      rcases maskE_bit t _ 0 j hb with h0 | ⟨e, he, hbi, hq⟩
      · simp at h0
      · have hm : e ∈ o.after := by simpa using he
        rcases hq with rfl | hq
        · exact .edge a o e ho hm hbi
        · exact .step a o e j ho hm hbi (h _ _ hq)
    · rw [if_neg hai] at hb
      exact h _ _ hb
theorem masks_all (ops : Array Oper) : MaskOk ops (masks ops.toList 0 .e) := masks_ok ops _ _ _ (by simp) (by intro i j h; simp [mask, T.get_e] at h)

/-- What is listed is closed: what is before it is listed too. -/
def Closed (ops : Array Oper) (L : Nat → Prop) : Prop := ∀ i o e, L i → ops[i]? = some o → e ∈ o.after → Region.binds .any e = true → L e.on
theorem Closed.anc {ops : Array Oper} {L : Nat → Prop} (h : Closed ops L) {i j : Nat} (a : Anc ops i j) (hi : L i) : L j := by
  induction a with
  | edge i o e ho he hb => exact h i o e hi ho he hb
  | step i o e j ho he hb _ ih => exact ih (h i o e hi ho he hb)
theorem Closed.ready {ops : Array Oper} {L : Nat → Prop} (h : Closed ops L) {i j : Nat} (a : Anc ops i j) (hi : ∀ o, ops[i]? = some o → ∀ e ∈ o.after, Region.binds .any e = true → L e.on) : L j := by
  cases a with
  | edge i o e ho he hb => exact hi o ho e he hb
  | step i o e j ho he hb a => exact h.anc a (hi o ho e he hb)

/-! ## What is steady -/
structure Steady (P : Program) (ops : Array Oper) (t : T Nat) : Prop where
  kd : ∀ (i : Nat) o, ops[i]? = some o → Nat.ble (kd P o.op) 3 = true
  back : ∀ (i : Nat) o e, ops[i]? = some o → e ∈ o.after → Region.binds .any e = true → e.on < i
  reads : ∀ (i : Nat) o x, ops[i]? = some o → x ∈ tmpsOf o ops → ∀ (j : Nat) q, ops[j]? = some q → q.dst = some x → (mask t i).testBit j = true
  once : ∀ (i : Nat) o x, ops[i]? = some o → o.dst = some x → ∀ (j : Nat) q, ops[j]? = some q → q.dst = some x → j = i

theorem mem_zip {ops : Array Oper} {i : Nat} {o : Oper} : (o, i) ∈ ops.toList.zipIdx ↔ ops[i]? = some o := by
  rw [List.mem_zipIdx_iff_getElem?]; simp

theorem steadyE_ok {P : Program} {L : Nat} {ops : Array Oper} {t : T Nat} (h : steadyE P L ops t = true) : Steady P ops t ∧ chainE t (effsE P L ops) = true := by
  unfold steadyE at h
  simp only [Bool.and_eq_true] at h
  obtain ⟨h, hc⟩ := h
  rw [List.all_eq_true] at h
  refine ⟨⟨?_, ?_, ?_, ?_⟩, hc⟩
  · intro i o ho
    have := h (o, i) (mem_zip.2 ho)
    simp only [Bool.and_eq_true] at this
    exact this.1.1.1
  · intro i o e ho he hb
    have := h (o, i) (mem_zip.2 ho)
    simp only [Bool.and_eq_true] at this
    have := List.all_eq_true.1 this.1.1.2 e (by simpa using he)
    rw [hb] at this
    simp only [Bool.not_true, Bool.or_false] at this
    exact Nat.le_of_ble_eq_true this
  · intro i o x ho hx j q hq hd
    have := h (o, i) (mem_zip.2 ho)
    simp only [Bool.and_eq_true] at this
    have := List.all_eq_true.1 (List.all_eq_true.1 this.1.2 x hx) (q, j) (mem_zip.2 hq)
    simpa [hd] using this
  · intro i o x ho hx j q hq hd
    have := h (o, i) (mem_zip.2 ho)
    simp only [Bool.and_eq_true] at this
    have := this.2
    rw [hx] at this
    have := List.all_eq_true.1 this (q, j) (mem_zip.2 hq)
    simp only [hd, bne_self_eq_false, Bool.or_false] at this
    exact (Nat.eq_of_beq_eq_true this).symm

theorem mem_effs {P : Program} {L : Nat} {ops : Array Oper} {o : Oper} {i : Nat} : (o, i) ∈ effsE P L ops ↔ ops[i]? = some o ∧ Nat.ble 2 (kd P o.op) = true ∧ i ≠ L := by
  unfold effsE
  rw [List.mem_filter, mem_zip]
  simp only [Bool.and_eq_true, Bool.not_eq_true']
  constructor
  · rintro ⟨h1, h2, h3⟩
    refine ⟨h1, h2, fun c => ?_⟩
    subst c; rw [Nat.beq_refl] at h3; cases h3
  · rintro ⟨h1, h2, h3⟩
    refine ⟨h1, h2, ?_⟩
    cases hb : Nat.beq i L with
    | false => rfl
    | true => exact absurd (Nat.eq_of_beq_eq_true hb) h3
theorem mem_pures {P : Program} {L : Nat} {ops : Array Oper} {t : T Nat} {es : List (Oper × Nat)} {p : Oper × Nat × Nat} : p ∈ puresE P L t es ops ↔ ∃ i, ops[i]? = some p.1 ∧ (Nat.ble (kd P p.1.op) 1 = true ∨ i = L) ∧ p.2.1 = loE (mask t i) es 0 0 ∧ p.2.2 = hiE t i es 0 := by
  unfold puresE
  rw [List.mem_filterMap]
  constructor
  · rintro ⟨⟨o, i⟩, hm, h⟩
    cases hk : Nat.ble (kd P o.op) 1 || Nat.beq i L with
    | false => simp only [hk, cond_false] at h; cases h
    | true =>
      simp only [hk, cond_true, Option.some.injEq] at h
      subst h
      refine ⟨i, mem_zip.1 hm, ?_, rfl, rfl⟩
      rw [Bool.or_eq_true] at hk
      exact hk.imp id Nat.eq_of_beq_eq_true
  · rintro ⟨i, ho, hk, h1, h2⟩
    obtain ⟨o, lo, hi⟩ := p
    simp only at ho hk h1 h2
    subst h1; subst h2
    refine ⟨(o, i), mem_zip.1 (mem_zip.2 ho) |> mem_zip.2, ?_⟩
    have : (Nat.ble (kd P o.op) 1 || Nat.beq i L) = true := by
      rw [Bool.or_eq_true]
      exact hk.imp id (fun c => by subst c; exact Nat.beq_refl _)
    simp only [this, cond_true]

theorem chainE_ok {t : T Nat} : ∀ {es : List (Oper × Nat)} (d : List (Oper × Nat)) (e : Oper × Nat) (r : List (Oper × Nat)), chainE t es = true → es = d ++ e :: r → ∀ x ∈ r, (mask t x.2).testBit e.2 = true
  | _, [], e, r, h, rfl, x, hx => by
    simp only [List.nil_append, chainE, Bool.and_eq_true] at h
    exact List.all_eq_true.1 h.1 x hx
  | _, y :: d, e, r, h, rfl, x, hx => by
    simp only [List.cons_append, chainE, Bool.and_eq_true] at h
    exact chainE_ok d e r h.2 rfl x hx

theorem loE_rem {m : Nat} : ∀ (rem : List (Oper × Nat)) (r acc : Nat), (∀ e ∈ rem, m.testBit e.2 = false) → loE m rem r acc = acc
  | [], _, _, _ => rfl
  | e :: es, r, acc, h => by
    unfold loE
    rw [h e (by simp)]
    exact loE_rem es _ _ fun x hx => h x (by simp [hx])
theorem loE_le {m : Nat} {rem : List (Oper × Nat)} (h : ∀ e ∈ rem, m.testBit e.2 = false) : ∀ (d : List (Oper × Nat)) (r acc : Nat), acc ≤ r → loE m (d ++ rem) r acc ≤ r + d.length
  | [], r, acc, ha => by rw [List.nil_append, loE_rem rem r acc h]; simpa using ha
  | e :: d, r, acc, ha => by
    rw [List.cons_append]
    unfold loE
    have := loE_le h d (r + 1) (bif m.testBit e.2 then r + 1 else acc) (by cases m.testBit e.2 <;> simp <;> omega)
    simp only [List.length_cons]; omega
theorem hiE_ge {t : T Nat} {i : Nat} : ∀ (es : List (Oper × Nat)) (r : Nat), r ≤ hiE t i es r
  | [], r => Nat.le_refl r
  | e :: es, r => by
    unfold hiE
    cases (mask t e.2).testBit i with
    | true => exact Nat.le_refl r
    | false => have := hiE_ge (t := t) (i := i) es (r + 1); simp only [cond_false]; omega
theorem hiE_le {t : T Nat} {i : Nat} {rem : List (Oper × Nat)} : ∀ (d : List (Oper × Nat)) (r : Nat), (∀ e ∈ d, (mask t e.2).testBit i = false) → r + d.length ≤ hiE t i (d ++ rem) r
  | [], r, _ => by simpa using hiE_ge rem r
  | e :: d, r, h => by
    rw [List.cons_append]
    unfold hiE
    rw [h e (by simp)]
    have := hiE_le (rem := rem) d (r + 1) fun x hx => h x (by simp [hx])
    simp only [List.length_cons, cond_false]; omega

/-! ## Slots -/
theorem Fr.put_get (fr : Fr) (d : Option Tmp) (v : V) (x : Nat) : (fr.put d v).get x = if d = some x ∧ x < fr.n then v else fr.get x := by
  cases d with
  | none => simp [Fr.put]
  | some d =>
    unfold Fr.put
    simp only
    cases hb : Nat.blt d fr.n with
    | true =>
      have hd : d < fr.n := Nat.le_of_ble_eq_true hb
      simp only [cond_true]
      rw [Fr.get_eq, Fr.get_eq]
      simp only [T.get_set]
      by_cases hx : x = d
      · subst hx; simp [hd]
      · have : ¬ (d = x) := fun c => hx c.symm
        simp [hx, this]
    | false =>
      have hd : ¬ d < fr.n := by intro c; have : Nat.blt d fr.n = true := Nat.ble_eq_true_of_le c; rw [this] at hb; cases hb
      simp only [cond_false]
      rw [if_neg]
      rintro ⟨c, c2⟩
      injection c with c; subst c; exact hd c2
/-- Nothing lies behind the frame's slots. -/
def Fr.Hi (fr : Fr) : Prop := ∀ x, fr.n ≤ x → fr.tmps.get x = none
theorem Fr.Hi.get {fr : Fr} (h : fr.Hi) {x : Nat} (hx : fr.n ≤ x) : fr.get x = .u := by rw [Fr.get_eq, h x hx]; rfl
theorem Fr.Hi.put {fr : Fr} (h : fr.Hi) (d : Option Tmp) (v : V) : (fr.put d v).Hi := by
  intro x hx
  rw [Fr.put_n] at hx
  cases d with
  | none => exact h x hx
  | some d =>
    unfold Fr.put
    simp only
    cases hb : Nat.blt d fr.n with
    | true =>
      have hd : d < fr.n := Nat.le_of_ble_eq_true hb
      simp only [cond_true, T.get_set]
      rw [if_neg (by intro c; subst c; exact absurd hx (Nat.not_le.2 hd))]; exact h x hx
    | false => exact h x hx

/-- The loose block's name, while it has no block. -/
def PnOk (nb : Nat) (σ : S) (h : H) (pn : Option Nat) : Prop := ∀ nm, pn = some nm → (∀ v, σ.m nm v = none) ∧ nm < h.next ∧ nb ≤ nm

theorem PnOk.sim {nb : Nat} {σ σ' : S} {h h' : H} {w w' : World} {pn : Option Nat} (p : PnOk nb σ h pn) (s : Sim σ h w σ' h' w') : PnOk nb σ' h' pn := by
  intro nm hnm
  obtain ⟨h1, h2, h3⟩ := p nm hnm
  exact ⟨(s.unreal nm h2 h1).1, Nat.lt_of_lt_of_le h2 s.next, h3⟩

theorem fillK_ok {P : Program} {ops : Array Oper} {k nb : Nat} {kk : Fr → H → Option Nat → Prop} {σ : S} {w : World} (Q : Prop) : ∀ {l : List (Oper × Nat × Nat)} {fr : Fr} {h : H} {pn : Option Nat}, fillK P ops k kk l fr h pn → Rel σ h w → nb ≤ h.next → (Q → PnOk nb σ h pn) →
    ∃ fr' h' pn', kk fr' h' pn' ∧ fr'.n = fr.n ∧ fr'.cm = fr.cm ∧ fr'.ds = fr.ds ∧ (fr.Hi → fr'.Hi) ∧ (∀ x, (∀ p ∈ l, p.2.1 = k → p.1.dst ≠ some x) → fr'.get x = fr.get x) ∧ SimB nb σ h w σ h' w ∧ (Q → PnOk nb σ h' pn')
  | [], fr, h, pn, e, r, hn, hq => ⟨fr, h, pn, e, rfl, rfl, rfl, id, fun _ _ => rfl, (Sim.refl r).weak hn, hq⟩
  | (o, lo, hi) :: r, fr, h, pn, e, rl, hn, hq => by
    unfold fillK at e
    have put : ∀ v h1 pn1, fillK P ops k kk r (fr.put o.dst v) h1 pn1 → lo = k → SimB nb σ h w σ h1 w → (Q → PnOk nb σ h1 pn1) → ∃ fr' h' pn', kk fr' h' pn' ∧ fr'.n = fr.n ∧ fr'.cm = fr.cm ∧ fr'.ds = fr.ds ∧ (fr.Hi → fr'.Hi) ∧ (∀ x, (∀ p ∈ (o, lo, hi) :: r, p.2.1 = k → p.1.dst ≠ some x) → fr'.get x = fr.get x) ∧ SimB nb σ h w σ h' w ∧ (Q → PnOk nb σ h' pn') := by
      intro v h1 pn1 e hl sim hq1
      obtain ⟨fr', h', pn', e, g1, g2, g3, g4, g5, g6, g7⟩ := fillK_ok Q e sim.rel (Nat.le_trans hn sim.next) hq1
      refine ⟨fr', h', pn', e, g1.trans (Fr.put_n _ _ _), g2.trans (Fr.put_cm _ _ _), g3.trans (Fr.put_ds _ _ _), fun hh => g4 (hh.put _ _), fun x hx => ?_, sim.trans g6, g7⟩
      rw [g5 x fun p hp => hx p (by simp [hp]), Fr.put_get, if_neg]
      rintro ⟨c, _⟩
      exact hx (o, lo, hi) (by simp) hl c
    have same : SimB nb σ h w σ h w := (Sim.refl rl).weak hn
    cases hb : Nat.beq lo k with
    | false =>
      rw [hb] at e
      obtain ⟨fr', h', pn', e, g1, g2, g3, g4, g5, g6, g7⟩ := fillK_ok Q e rl hn hq
      exact ⟨fr', h', pn', e, g1, g2, g3, g4, fun x hx => g5 x fun p hp => hx p (by simp [hp]), g6, g7⟩
    | true =>
      rw [hb] at e
      have hl : lo = k := Nat.eq_of_beq_eq_true hb
      simp only [cond_true, Fr.putK_put] at e
      cases hw : wantedV ops fr o with
      | true =>
        rw [hw] at e
        simp only [cond_true] at e
        split at e
        · rename_i v h1 hv
          cases hk : Nat.ble (kd P o.op) 1 with
          | true =>
            rw [hk] at e
            exact put _ _ _ e hl same hq
          | false =>
            rw [hk] at e
            simp only [cond_false] at e
            cases hlo : isLoose o.op with
            | false => rw [hlo] at e; exact e.elim
            | true =>
              rw [hlo] at e
              simp only [cond_true] at e
              have hnew : ∃ ob, h1 = h.new ob := by
                cases ho : o.op <;> rw [ho] at hlo hv <;> simp only [isLoose] at hlo <;> try (cases hlo; done)
                case alloc t =>
                  simp only [opV] at hv
                  rw [Option.bind_eq_some_iff] at hv; obtain ⟨z, _, hv⟩ := hv
                  obtain ⟨_, hv⟩ := H.row_eq hv
                  cases hv; exact ⟨_, rfl⟩
                case buildSlice t n ps =>
                  simp only [opV] at hv
                  rw [Option.bind_eq_some_iff] at hv; obtain ⟨z, _, hv⟩ := hv
                  unfold buildSliceV at hv
                  rw [Option.bind_eq_some_iff] at hv; obtain ⟨_, _, hv⟩ := hv
                  rw [Option.bind_eq_some_iff] at hv; obtain ⟨_, _, hv⟩ := hv
                  simp only [cond_eq_ite] at hv
                  split at hv
                  · rw [Option.bind_eq_some_iff] at hv; obtain ⟨_, _, hv⟩ := hv
                    rw [Option.bind_eq_some_iff] at hv; obtain ⟨_, _, hv⟩ := hv
                    obtain ⟨_, hv⟩ := H.row_eq hv
                    cases hv; exact ⟨_, rfl⟩
                  · cases hv
              obtain ⟨ob, rfl⟩ := hnew
              refine put _ _ _ e hl (rl.ghost hn ob) (fun _ nm hnm => ?_)
              injection hnm with hnm; subst hnm
              exact ⟨fun v => rl.fresh v, Nat.lt_succ_self _, hn⟩
        · exact e.elim
      | false => rw [hw] at e; exact put _ _ _ e hl same hq

theorem cellsBeq_eq : ∀ {a b : List (V × Nat)}, cellsBeq a b = true → a = b
  | [], [], _ => rfl
  | [], _ :: _, h => by cases h
  | _ :: _, [], h => by cases h
  | x :: a, y :: b, h => by
    simp only [cellsBeq, Bool.and_eq_true] at h
    obtain ⟨⟨h1, h2⟩, h3⟩ := h
    rw [cellsBeq_eq h3]
    congr 1
    exact Prod.ext (V.beq_eq h1) (Nat.eq_of_beq_eq_true h2)

theorem looseOk_ok {P : Program} {fr : Fr} {h : H} {o : Oper} {pn : Option Nat} (e : looseOk P fr h o pn = true) :
    ∃ nm d v h2 cs, pn = some nm ∧ o.dst = some d ∧ isLoose o.op = true ∧ opV P fr { own := .e, next := nm, base := h.base, glob := h.glob } o.op = some (v, h2) ∧ fr.get d = v ∧ h2.own.get nm = some (.cells 0 cs) ∧ h.own.get nm = some (.cells 0 cs) := by
  unfold looseOk at e
  split at e
  · rename_i nm d hd
    rw [Bool.and_eq_true] at e
    obtain ⟨hl, e⟩ := e
    split at e
    · rename_i v h2 hv
      rw [Bool.and_eq_true] at e
      obtain ⟨e1, e2⟩ := e
      split at e2
      · rename_i a b ha hb
        have := cellsBeq_eq e2
        subst this
        exact ⟨nm, d, v, h2, a, rfl, hd, hl, hv, (V.beq_eq e1).symm, ha, hb⟩
      · cases e2
    · cases e
  · cases e

theorem checkE_ok {P : Program} {ops : Array Oper} {k : Nat} {h : H} {pn : Option Nat} {fr : Fr} : ∀ {l : List (Oper × Nat × Nat)}, checkE P ops k h pn fr l = true → ∀ p ∈ l, p.2.1 ≤ k → k ≤ p.2.2 →
    (wantedV ops fr p.1 = true ∧ Nat.ble (kd P p.1.op) 1 = true ∧ ∃ v h', opV P fr h p.1.op = some (v, h') ∧ ∀ d, p.1.dst = some d → fr.get d = v) ∨
    (wantedV ops fr p.1 = true ∧ Nat.ble (kd P p.1.op) 1 = false ∧ looseOk P fr h p.1 pn = true) ∨ (wantedV ops fr p.1 = false ∧ ∀ d, p.1.dst = some d → fr.get d = .u)
  | [], _, p, hp, _, _ => by cases hp
  | (o, lo, hi) :: r, e, p, hp, h1, h2 => by
    unfold checkE at e
    rw [Bool.and_eq_true] at e
    rcases List.mem_cons.1 hp with rfl | hp
    · have e := e.1
      have b1 : Nat.ble lo k = true := Nat.ble_eq_true_of_le h1
      have b2 : Nat.ble k hi = true := Nat.ble_eq_true_of_le h2
      rw [b1, b2] at e
      simp only [Bool.and_self, cond_true] at e
      cases hw : wantedV ops fr o with
      | true =>
        rw [hw] at e
        simp only [cond_true] at e
        cases hk : Nat.ble (kd P o.op) 1 with
        | true =>
          rw [hk] at e
          simp only [cond_true] at e
          split at e
          · rename_i v h' hv
            refine .inl ⟨rfl, rfl, v, h', hv, fun d hd => ?_⟩
            simp only at hd
            rw [hd] at e
            exact (V.beq_eq e).symm
          · cases e
        | false =>
          rw [hk] at e
          exact .inr (.inl ⟨rfl, rfl, e⟩)
      | false =>
        rw [hw] at e
        simp only [cond_false] at e
        refine .inr (.inr ⟨rfl, fun d hd => ?_⟩)
        simp only at hd
        rw [hd] at e
        exact (V.beq_eq e).symm
    · exact checkE_ok e.2 p hp h1 h2

/-- How many places hold. -/
def cnt : Nat → (Nat → Bool) → Nat
  | 0, _ => 0
  | n + 1, p => cnt n p + (if p n then 1 else 0)
theorem cnt_true : ∀ n, cnt n (fun _ => true) = n
  | 0 => rfl
  | n + 1 => by simp [cnt, cnt_true n]
theorem cnt_zero : ∀ {n : Nat} {p : Nat → Bool}, cnt n p = 0 → ∀ i, i < n → p i = false
  | 0, _, _, i, hi => by omega
  | n + 1, p, h, i, hi => by
    simp only [cnt] at h
    by_cases c : i = n
    · subst c; cases hp : p i with | false => rfl | true => simp [hp] at h
    · exact cnt_zero (n := n) (by omega) i (by omega)
theorem cnt_same : ∀ {n : Nat} {p q : Nat → Bool}, (∀ i, i < n → p i = q i) → cnt n p = cnt n q
  | 0, _, _, _ => rfl
  | n + 1, p, q, h => by simp only [cnt]; rw [cnt_same (n := n) (fun i hi => h i (by omega)), h n (by omega)]
theorem cnt_drop : ∀ {n : Nat} {p q : Nat → Bool} {i : Nat}, i < n → p i = true → q i = false → (∀ j, j ≠ i → q j = p j) → cnt n q + 1 = cnt n p
  | 0, _, _, _, h, _, _, _ => by omega
  | n + 1, p, q, i, h, hp, hq, he => by
    simp only [cnt]
    by_cases c : i = n
    · subst c
      rw [cnt_same (n := i) (p := q) (q := p) (fun j hj => he j (by omega)), hp, hq]; simp
    · have := cnt_drop (n := n) (i := i) (by omega) hp hq he
      rw [he n (fun c2 => c c2.symm)]; omega

end Go.Proofs.Ab
