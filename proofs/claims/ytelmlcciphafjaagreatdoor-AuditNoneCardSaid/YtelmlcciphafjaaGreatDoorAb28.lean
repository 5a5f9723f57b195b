/- The evaluator and a function's contract. -/
import Derived.Test.YtelmlcciphafjaaGreatDoorAb27
import Derived.Below
namespace Go.Proofs.Ab
open Go Go.RowKit

/-- The names when the call begins: none. -/
def S.start (W : World) (bs : Nat → Nat × Nat) (good : Nat → Value → Prop) : S := { m := fun _ _ => none, bs := bs, n0 := W.heap.size, h0 := fun b => W.heap[b]?, good := good }
def H.start (base glob : Nat → Option (List V)) : H := { own := .e, next := 0, base := base, glob := glob }

theorem Rel.start {W : World} {bs : Nat → Nat × Nat} {good : Nat → Value → Prop} {base glob : Nat → Option (List V)}
    (hb : ∀ i cs, base i = some cs → (bs i).1 < W.heap.size ∧ ∃ c t fz, W.heap[(bs i).1]? = some (.cells c t fz) ∧ ∀ (k : Nat) x, cs[k]? = some x → ∃ x', c[(bs i).2 + k]? = some x' ∧ VR (S.start W bs good) x x' ∧ x.atom = true)
    (hg : ∀ g cs, glob g = some cs → g < W.heap.size ∧ ∃ c t fz, W.heap[g]? = some (.cells c t fz) ∧ ∀ (k : Nat) x, cs[k]? = some x → ∃ x', c[k]? = some x' ∧ VR (S.start W bs good) x x' ∧ x.atom = true) :
    Rel (S.start W bs good) (H.start base glob) W where
  low := Nat.le_refl _
  obj := fun i o v b sh ext h => by simp [H.start, T.get_e] at h
  dom := fun i v x h => by simp [S.start] at h
  lt := fun i o h => by simp [H.start, T.get_e] at h
  inj := fun i v j u b sh ext sh' ext' h => by simp [S.start] at h
  high := fun i v b sh ext h => by simp [S.start] at h
  base := hb
  glob := hg
  old := fun b _ => rfl

/-- What the evaluator says of a call, as a contract. -/
theorem calls_of_run {E : E} (eo : EOk E) {n : Nat} {f : FuncId} {args : List V} {h : H} {post : Rs → H → Prop} (e : run E n (.call f args .plain) h post) (hpost : ∀ r h', post r h' → r = .cr (.ret (.bool true)) .plain)
    {σ : S} {W : World} (r : Rel σ h W) {args' : Array Value} (hv : VRs σ args args'.toList) :
    Calls E.P f args' W fun e W' => e = .returned (.bool true) ∧ Below σ.n0 W W' := by
  intro cs
  obtain ⟨c, cm', h', σ', w', u', fr', hp, sim, _, st, hk, hl, hf⟩ := (run_ok eo n).ok _ _ _ e σ W args' (.plain cs) .run r hv trivial
  have := hpost _ _ hp
  injection this with h1 h2
  subst h1
  obtain ⟨g1, g2, fn, v', g3, g4, g5⟩ := hl
  cases g5
  refine ⟨.returned (.bool true), w', fr', ⟨rfl, sim.io.1, sim.io.2.1, sim.io.2.2, sim.size, fun k hk => ?_⟩, st, hf, g1, g2, hk, fn, g3, g4⟩
  rw [sim.rel.old k (by rw [sim.n0]; exact hk), r.old k hk, sim.h0]

end Go.Proofs.Ab
