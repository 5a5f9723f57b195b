/- What a task does, as a triple without a bound: the evaluator's rules hold of it; frames may be told anew. -/
import Derived.Test.YtelmlcciphafjaaGreatDoorAb28
namespace Go.Proofs.Ab
open Go Go.RowKit

/-- From here the task comes to an end, and that end is as k says. -/
structure Tr (P : Program) (t : Tk) (h : H) (k : Rs → H → Prop) : Prop where
  ok : TkOk P t h k
  body : ∀ f args cm, t = .call f args cm → notNGe P f

theorem TkOk.mono {P : Program} {t : Tk} {h : H} {k k' : Rs → H → Prop} (e : TkOk P t h k) (hk : ∀ r h, k r h → k' r h) : TkOk P t h k' := by
  cases t with
  | code fn rd c fr => intro σ w b a ks K0 u h1 h2 h3 h4 h5 h6; obtain ⟨e', fr', h', σ', w', a', u', g1, g2⟩ := e σ w b a ks K0 u h1 h2 h3 h4 h5 h6; exact ⟨e', fr', h', σ', w', a', u', hk _ _ g1, g2⟩
  | scope fn rd all cur fr => intro σ w b a ks K0 u h1 h2 h3 h4 h5 h6; obtain ⟨e', fr', h', σ', w', a', u', g1, g2⟩ := e σ w b a ks K0 u h1 h2 h3 h4 h5 h6; exact ⟨e', fr', h', σ', w', a', u', hk _ _ g1, g2⟩
  | again fn rd c fr => intro σ w b a ks K0 u h1 h2 h3 h4 h5 h6; obtain ⟨e', fr', h', σ', w', a', u', g1, g2⟩ := e σ w b a ks K0 u h1 h2 h3 h4 h5 h6; exact ⟨e', fr', h', σ', w', a', u', hk _ _ g1, g2⟩
  | call f args cm => intro σ w args' K0 u h1 h2 h3; obtain ⟨c, cm', h', σ', w', u', fr', g1, g2⟩ := e σ w args' K0 u h1 h2 h3; exact ⟨c, cm', h', σ', w', u', fr', hk _ _ g1, g2⟩
  | unw f fr ds m => intro σ w F K0 u h1 h2 h3 h4 h5 h6 h7 h8; obtain ⟨c, h', σ', w', fr', g1, g2⟩ := e σ w F K0 u h1 h2 h3 h4 h5 h6 h7 h8; exact ⟨c, h', σ', w', fr', hk _ _ g1, g2⟩
theorem Tr.mono {P : Program} {t : Tk} {h : H} {k k' : Rs → H → Prop} (e : Tr P t h k) (hk : ∀ r h, k r h → k' r h) : Tr P t h k' := ⟨e.ok.mono hk, e.body⟩

section
variable {E : E}
theorem Tr.recOk : RecOk E (Tr E.P) := ⟨fun _ _ _ e => e.ok, fun _ _ _ _ _ e => e.body _ _ _ rfl⟩
theorem Tr.fold (eo : EOk E) {t : Tk} {h : H} {k : Rs → H → Prop} (e : estep E (Tr E.P) t h k) : Tr E.P t h k := by
  refine ⟨estep_ok eo Tr.recOk t h k e, ?_⟩
  rintro f args cm rfl
  exact (call_ok eo Tr.recOk e).1
theorem Tr.of_run (eo : EOk E) {n : Nat} {t : Tk} {h : H} {k : Rs → H → Prop} (e : run E n t h k) : Tr E.P t h k := by
  refine ⟨(run_ok eo n).ok _ _ _ e, ?_⟩
  rintro f args cm rfl
  exact (run_ok eo n).body _ _ _ _ _ e
end

/-- Whatever the one stands for, the other one stands for. -/
def VW (v v' : V) : Prop := ∀ σ x, VR σ v x → VR σ v' x
theorem VW.refl (v : V) : VW v v := fun _ _ e => e
theorem VW.anyInt (k : IntKind) (n : Int) : VW (.int k n) (.any (.int k)) := fun σ x e => by cases e; exact .any _ _ ⟨n, rfl⟩
theorem VW.anyStr (s : List UInt8) : VW (.str s) (.any .str) := fun σ x e => by cases e with | str s b h => exact .any _ _ ⟨b, rfl⟩

/-- The frame fr is told as fr'. -/
structure FrW (fr fr' : Fr) : Prop where
  n : fr'.n = fr.n
  get : ∀ i, i < fr.n → VW ((fr.tmps.get i).getD .u) ((fr'.tmps.get i).getD .u)
  out : ∀ i, fr.n ≤ i → fr'.tmps.get i = none
  ds : fr'.ds = fr.ds
  cm : fr'.cm = fr.cm

theorem FrW.rel {fr fr' : Fr} (w : FrW fr fr') {σ : S} {a : Act} (h : FrR σ fr a) : FrR σ fr' a := by
  refine ⟨⟨by rw [w.n]; exact h.tm.1, fun i hi => w.get i (by rw [← w.n]; exact hi) _ _ (h.tm.2.1 i (by rw [← w.n]; exact hi)), fun i hi => w.out i (by rw [← w.n]; exact hi)⟩, by rw [w.ds]; exact h.ds⟩

theorem Tr.frame {P : Program} {fn : FuncId} {rd : Option B} {c : Code} {fr fr' : Fr} {h : H} {k : Rs → H → Prop} (w : FrW fr fr') (e : Tr P (.code fn rd c fr') h k) : Tr P (.code fn rd c fr) h k :=
  ⟨fun σ W b a ks K0 u h1 h2 h3 h4 h5 h6 => e.ok σ W b a ks K0 u h1 (w.rel h2) h3 h4 h5 (by rw [w.cm]; exact h6), fun _ _ _ x => by cases x⟩

/-- A full frame. -/
def T.ofFn {α : Type} : Nat → Nat → (Nat → α) → T α
  | 0, _, _ => .e
  | _ + 1, 0, _ => .e
  | f + 1, m + 1, g => .n (T.ofFn f ((m + 1) / 2) fun j => g (2 * j + 1)) (some (g 0)) (T.ofFn f (m / 2) fun j => g (2 * j + 2))
theorem T.get_ofFn {α : Type} : ∀ (f m : Nat) (g : Nat → α) (i : Nat), m ≤ f → (T.ofFn f m g).get i = if i < m then some (g i) else none
  | 0, m, g, i, h => by
    have : m = 0 := by omega
    subst this
    simp [T.ofFn, T.get]
  | f + 1, 0, g, i, _ => by simp [T.ofFn, T.get]
  | f + 1, m + 1, g, 0, _ => by simp [T.ofFn, T.get]
  | f + 1, m + 1, g, k + 1, h => by
    simp only [T.ofFn, T.get_ns]
    cases hb : Nat.beq (k % 2) 0 with
    | true =>
      have hk : k % 2 = 0 := Nat.eq_of_beq_eq_true hb
      simp only [cond_true]
      rw [T.get_ofFn f _ _ _ (by omega)]
      have h1 : 2 * (k / 2) + 1 = k + 1 := by omega
      rw [h1]
      by_cases c : k / 2 < (m + 1) / 2
      · rw [if_pos c, if_pos (by omega)]
      · rw [if_neg c, if_neg (by omega)]
    | false =>
      have hk : k % 2 ≠ 0 := by intro e; rw [e] at hb; exact absurd hb (by decide)
      simp only [cond_false]
      rw [T.get_ofFn f _ _ _ (by omega)]
      have h1 : 2 * (k / 2) + 2 = k + 1 := by omega
      rw [h1]
      by_cases c : k / 2 < m / 2
      · rw [if_pos c, if_pos (by omega)]
      · rw [if_neg c, if_neg (by omega)]

def fullFr (n : Nat) (args : List V) (cm : CM) : Fr := { n := max args.length n, tmps := T.ofFn (max args.length n) (max args.length n) fun i => (args[i]?).getD .u, ds := [], cm := cm }

theorem fullFr_w (n : Nat) (args : List V) (cm : CM) : FrW (enterFr n args cm) (fullFr n args cm) where
  n := rfl
  get := fun i hi => by
    simp only [enterFr, fullFr] at hi ⊢
    rw [argsT_get, T.get_ofFn _ _ _ _ (Nat.le_refl _), if_pos hi]
    by_cases c : i < args.length
    · rw [if_pos (by omega)]; simp only [Nat.sub_zero, List.getElem?_eq_getElem c, Option.getD_some]; exact VW.refl _
    · rw [if_neg (by omega), T.get_e, List.getElem?_eq_none (by omega)]; exact VW.refl _
  out := fun i hi => by
    simp only [enterFr, fullFr] at hi ⊢
    rw [T.get_ofFn _ _ _ _ (Nat.le_refl _), if_neg (by omega)]
  ds := rfl
  cm := rfl

end Go.Proofs.Ab
