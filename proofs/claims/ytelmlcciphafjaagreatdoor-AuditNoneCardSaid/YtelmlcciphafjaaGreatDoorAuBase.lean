/- Chapter 49: the program's functions of the runtime; the examples. -/
import Derived.Test.YtelmlcciphafjaaGreatDoorAc7
import Derived.Test.YtelmlcciphafjaaGreatDoorProg
import Derived.KernelRfl
namespace Go.Proofs.Ab
open Go Go.RowKit
set_option maxRecDepth 100000
def X49 : Ext := fun g => bif Nat.beq g 83 then some cloneX else bif Nat.beq g 144 then some idxX else none
def okR (r : Rs) : Prop := match r with
  | .cr (.ret (.bool true)) .plain => True
  | _ => False
theorem okR_ret {r : Rs} (h : okR r) : r = .cr (.ret (.bool true)) .plain := by
  unfold okR at h
  split at h
  · rfl
  · exact h.elim
theorem known_eq : runF (EE Tryz.prog X49) 1000000 (.call 6 [] .plain) { own := .e, next := 0, base := fun _ => none, glob := fun _ => none } (fun r _ => okR r) = True := by kernel_rfl
theorem hm49 {P : Program} {X : Ext} : HkMono (EE P X) := fun f hk h => by cases h
theorem eo49 : EOk (EE Tryz.prog X49) where
  mixed := by kernel_rfl
  hook := fun f hk h => by cases h
  ext := fun g x h => by
    simp only [X49] at h
    cases h1 : Nat.beq g 83 with
    | true =>
      rw [h1] at h
      simp only [cond_true, Option.some.injEq] at h
      subst h
      obtain rfl := Nat.eq_of_beq_eq_true h1
      exact cloneX_ok Tryz.func83 (by kernel_rfl) (by kernel_rfl) (by kernel_rfl) (by kernel_rfl)
    | false =>
      rw [h1] at h
      simp only [cond_false] at h
      cases h2 : Nat.beq g 144 with
      | true =>
        rw [h2] at h
        simp only [cond_true, Option.some.injEq] at h
        subst h
        obtain rfl := Nat.eq_of_beq_eq_true h2
        exact idxX_ok Tryz.func144 (by kernel_rfl) (by kernel_rfl) (by kernel_rfl) (by kernel_rfl)
      | false => rw [h2] at h; cases h
theorem known_tr {h : H} {k : Rs → H → Prop} (hk : k (.cr (.ret (.bool true)) .plain) h) : Tr Tryz.prog (.call 6 [] .plain) h k := by
  refine Tr.closed2 (b0 := fun _ => none) (g0 := fun _ => none) rfl (fun i cs h => by cases h) (fun i cs h => by cases h) ?_
  refine runF_ok eo49 hm49 _ _ _ _ _ (known_eq ▸ trivial) ?_
  intro r h' hr
  exact ⟨.bool true, okR_ret hr, rfl, hk⟩
end Go.Proofs.Ab
