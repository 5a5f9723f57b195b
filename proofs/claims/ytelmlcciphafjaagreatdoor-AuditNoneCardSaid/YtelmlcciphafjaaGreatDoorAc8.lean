/- Frames told with less: as trees. -/
import Derived.Test.YtelmlcciphafjaaGreatDoorAc7
namespace Go.Proofs.Ab
open Go Go.RowKit
inductive TW : T V → T V → Prop
  | e : TW .e .e
  | n {l l' r r' : T V} {v v' : V} : TW l l' → VW v v' → TW r r' → TW (.n l (some v) r) (.n l' (some v') r')
  | o {l l' r r' : T V} : TW l l' → TW r r' → TW (.n l none r) (.n l' none r')
theorem TW.refl : ∀ t : T V, TW t t
  | .e => .e
  | .n l none r => .o (TW.refl l) (TW.refl r)
  | .n l (some v) r => .n (TW.refl l) (VW.refl v) (TW.refl r)
theorem TW.get {t t' : T V} (h : TW t t') : ∀ i, VW ((t.get i).getD .u) ((t'.get i).getD .u) := by
  induction h with
  | e => intro i; exact VW.refl _
  | n _ hv _ ih1 ih2 =>
    intro i
    cases i with
    | zero => exact hv
    | succ i =>
      simp only [T.get_ns]
      cases Nat.beq (i % 2) 0 with
      | true => exact ih1 _
      | false => exact ih2 _
  | o _ _ ih1 ih2 =>
    intro i
    cases i with
    | zero => exact VW.refl _
    | succ i =>
      simp only [T.get_ns]
      cases Nat.beq (i % 2) 0 with
      | true => exact ih1 _
      | false => exact ih2 _
theorem FrW.of_tree {n : Nat} {t : T V} {l : List V} {ds : List D} {cm : CM} (h : TW t (mkT l)) (hl : l.length = n) : FrW ⟨n, t, ds, cm⟩ ⟨n, mkT l, ds, cm⟩ where
  n := rfl
  get := fun i _ => h.get i
  out := fun i hi => by
    show (mkT l).get i = none
    rw [mkT, mkK_get _ _ (Nat.le_refl _)]
    exact List.getElem?_eq_none (by simp only at hi; omega)
  ds := rfl
  cm := rfl

inductive VWs : List V → List V → Prop
  | nil : VWs [] []
  | cons {v v' : V} {l l' : List V} : VW v v' → VWs l l' → VWs (v :: l) (v' :: l')
theorem VW.agg {l l' : List V} (h : VWs l l') : VW (.agg l) (.agg l') := by
  intro σ x e
  cases e with
  | agg _ cs' hc =>
    refine .agg _ _ ?_
    generalize cs'.toList = q at hc
    induction h generalizing q with
    | nil => exact hc
    | cons h1 _ ih => cases hc with | cons _ y _ ys g1 g2 => exact .cons _ _ _ _ (h1 _ _ g1) (ih _ g2)
theorem VW.valSl {v : V} {n : Nat} (h : SlV v n) : VW v (.any .val) := by
  intro σ x e
  rcases h with ⟨rfl, _⟩ | ⟨a, c, rfl⟩
  · cases e; exact .any _ _ ⟨⟨rfl, rfl⟩, fun b h => by cases h⟩
  · cases e <;> exact .any _ _ ⟨⟨rfl, rfl⟩, fun b h => by cases h⟩
theorem hookOk {P : Program} {f : FuncId} (e : ∀ (h : H) (k : Rs → H → Prop), k (.cr (.ret (.bool true)) .plain) h → Tr P (.call f [] .plain) h k) :
    notNGe P f ∧ ∀ (h : H) (args : List V) (k : CR → H → Prop), (match args with | [] => k (.ret (.bool true)) h | _ => False) → TkOk P (.call f args .plain) h (fun r h => match r with | .cr c .plain => k c h | _ => False) := by
  refine ⟨(e { own := .e, next := 0, base := fun _ => none, glob := fun _ => none } (fun _ _ => True) trivial).body _ _ _ rfl, ?_⟩
  intro h args k hk
  split at hk
  · exact (e h _ hk).ok
  · exact hk.elim
end Go.Proofs.Ab
