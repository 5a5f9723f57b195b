/- Rules of triples, third part: lengths of rows that are not looked into. -/
import Derived.Test.YtelmlcciphafjaaGreatDoorAc6
namespace Go.Proofs.Ab
open Go Go.RowKit
/-- A row of some length. -/
def SlV (v : V) (n : Nat) : Prop := (v = .nilsl ∧ n = 0) ∨ ∃ a c, v = .sl a n c
theorem SlV.atom {v : V} {n : Nat} (h : SlV v n) : v.atom = true := by
  rcases h with ⟨rfl, _⟩ | ⟨a, c, rfl⟩ <;> rfl
theorem atom_int (k : IntKind) (n : Int) : (V.int k n).atom = true := rfl
theorem atom_str (s : List UInt8) : (V.str s).atom = true := rfl
theorem atom_bool (b : Bool) : (V.bool b).atom = true := rfl
theorem atom_ptr (a : A) : (V.ptr a).atom = true := rfl
theorem atom_sl (a : A) (l : Nat) (c : Cap) : (V.sl a l c).atom = true := rfl
theorem atom_map (b : B) : (V.map b).atom = true := rfl
theorem atom_fn (f : Fn) (x y : List V) : (V.fn f x y).atom = true := rfl
theorem cells_agg (l : List V) : (V.agg l).cells = l := rfl
section
variable {P : Program} {X : Ext} {fn : FuncId} {rd : Option B} {fr : Fr} {h : H} {k : Rs → H → Prop}
variable {all : Array Oper} {o : Oper} {os : List Oper} {n : Nat} {t t' : T V} {ds : List D} {cm : CM} {d : Nat} {v : V} {h' : H}
theorem ops_lenS {x : Operand} {ty el : TypeId} {m : Nat} (ho : o.op = .call { callee := .builtin .len, args := #[x], argTypes := #[ty] }) (hw : wantedV all ⟨n, t, ds, cm⟩ o = true) (hx : ∀ Q : V → Prop, Q v → evQ ⟨n, t, ds, cm⟩ x Q) (he : P.underlying ty = some (.slice el))
    (hd : o.dst = some d) (hl : Nat.blt d n = true) (hp : ∀ Q : T V → Prop, Q t' → T.setK (d + 1) t d (.int .i64 (m : Int)) Q) (hv : SlV v m) (e : Ops P X rd all os ⟨n, t', ds, cm⟩ h k) : Ops P X rd all (o :: os) ⟨n, t, ds, cm⟩ h k := by
  refine ops_v0 (v := .int .i64 m) (by rw [ho]; rfl) hw ?_ hd hl hp e
  rw [ho]
  rcases hv with ⟨rfl, rfl⟩ | ⟨a, c, rfl⟩
  · simp [opV, Fr.evals, ev_of hx, anyLen, lenV, he]
  · simp [opV, Fr.evals, ev_of hx, anyLen, lenV, he]
end
end Go.Proofs.Ab
