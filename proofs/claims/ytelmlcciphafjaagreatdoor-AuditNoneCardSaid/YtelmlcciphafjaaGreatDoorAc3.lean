/- Functions of the runtime without a body: what the evaluator takes them for. -/
import Derived.Test.YtelmlcciphafjaaGreatDoorAc2
import Derived.Laws.Externs
namespace Go.Proofs.Ab
open Go Go.RowKit

/-! ## internal/bytealg.IndexByteString -/
def idxB (c : Nat) : List UInt8 → Nat → Int
  | [], _ => -1
  | b :: r, i => bif Nat.beq b.toNat c then (i : Int) else idxB c r (i + 1)
def idxX (vs : List V) (h : H) : Option (V × H) := match vs with
  | [.str s, .int .u8 c] => bif Nat.blt c.toNat 256 then some (.int .i64 (idxB c.toNat s 0), h) else none
  | _ => none

theorem find_aux (c : UInt8) (s : List UInt8) : ∀ (r : List UInt8) (i : Nat), s.drop i = r →
    (match (List.range' i r.length).find? (fun j => s[j]?.getD default == c) with | some j => (j : Int) | none => -1) = idxB c.toNat r i
  | [], i, _ => rfl
  | b :: r, i, h => by
    have hi : s[i]? = some b := by
      have : (s.drop i)[0]? = some b := by rw [h]; rfl
      simpa using this
    have hd : s.drop (i + 1) = r := by
      rw [← List.drop_drop, h]; rfl
    have ih := find_aux c s r (i + 1) hd
    simp only [List.length_cons, List.range'_succ, List.find?_cons, hi, Option.getD_some, idxB]
    cases hb : Nat.beq b.toNat c.toNat with
    | true =>
      have : b = c := UInt8.toNat_inj.1 (Nat.eq_of_beq_eq_true hb)
      subst this
      simp
    | false =>
      have : (b == c) = false := by
        apply beq_false_of_ne
        rintro rfl
        rw [Nat.beq_refl] at hb; cases hb
      simp only [this, cond_false]
      exact ih

theorem firstIdx_eq (s : ByteArray) (c : UInt8) : firstIdx s c = idxB c.toNat s.data.toList 0 := by
  rw [← find_aux c s.data.toList s.data.toList 0 (by simp)]
  unfold firstIdx
  have : (fun (i : Nat) => s[i]! == c) = (fun (j : Nat) => s.data.toList[j]?.getD default == c) := by
    funext j
    congr 1
    by_cases hj : j < s.size
    · rw [getElem!_pos s j hj]
      have hj' : j < s.data.toList.length := by simpa using hj
      rw [List.getElem?_eq_getElem hj', Option.getD_some]
      rfl
    · rw [getElem!_neg s j hj]
      have hj' : ¬ j < s.data.toList.length := by simpa using hj
      rw [List.getElem?_eq_none (by omega)]; rfl
  rw [this, List.range_eq_range']
  have hl : s.size = s.data.toList.length := rfl
  rw [hl]
  split <;> rename_i h1 <;> rw [h1]

theorem idxX_ok {P : Program} {g : FuncId} {fn : Func} (hf : P.funcs[g]? = some fn) (hname : (fn.name == "runtime.NumGoroutine") = false)
    (hb : fn.body.isNone = true) (hn : Extern.findNext fn = none) (he : Extern.find fn = some Extern.BytealgIndexByte.indexByte)
    (σ : S) (h : H) (w : World) (vs : List V) (vs' : Array Value) (v : V) (h' : H) (r : Rel σ h w) (hv : VRs σ vs vs'.toList) (e : idxX vs h = some (v, h')) : OpOk P σ h w (callFunc g vs') v h' := by
  unfold idxX at e
  split at e
  · rename_i s c
    cases hc : Nat.blt c.toNat 256 with
    | false => rw [hc] at e; cases e
    | true =>
      rw [hc] at e
      simp only [cond_true, Option.some.injEq, Prod.mk.injEq] at e
      obtain ⟨rfl, rfl⟩ := e
      have hlt : c.toNat < 256 := Nat.le_of_ble_eq_true hc
      generalize hy : vs'.toList = q at hv
      cases hv with | cons _ y1 _ ys h1 h2 =>
      cases h2 with | cons _ y2 _ ys h2 h3 =>
      cases h3 with | nil =>
      cases h1 with | str _ b hb1 =>
      cases h2 with | int =>
      have hvs : vs' = #[.string b, .int .u8 c] := by
        cases vs'; simp at hy; simp [hy]
      subst hvs
      refine ⟨σ, w, _, Sim.refl r, .int _ _, .inl ?_⟩
      rw [run_callFunc_extern hf hname hb hn he, run_indexByte_string]
      simp only [Result.andThen]
      rw [firstIdx_eq, hb1]
      have : (c.toNat.toUInt8).toNat = c.toNat := by
        show c.toNat % 256 = c.toNat
        exact Nat.mod_eq_of_lt hlt
      rw [this]
  · cases e

/-! ## maps.clone -/
def cloneX (vs : List V) (h : H) : Option (V × H) := match vs with
  | [.iface t (.map b)] => (match h.mapAt b with
    | some (_, es, c) => h.newK (.map es c) fun i h => some (.iface t (.map (.own i)), h)
    | none => none)
  | _ => none

theorem cloneX_ok {P : Program} {g : FuncId} {fn : Func} (hf : P.funcs[g]? = some fn) (hname : (fn.name == "runtime.NumGoroutine") = false)
    (hb : fn.body.isNone = true) (hn : Extern.findNext fn = none) (he : Extern.find fn = some Extern.MapsClone.clone)
    (σ : S) (h : H) (w : World) (vs : List V) (vs' : Array Value) (v : V) (h' : H) (r : Rel σ h w) (hv : VRs σ vs vs'.toList) (e : cloneX vs h = some (v, h')) : OpOk P σ h w (callFunc g vs') v h' := by
  unfold cloneX at e
  split at e
  · rename_i t b
    split at e
    · rename_i x es c hm
      rw [H.newK_eq] at e
      simp only [Option.some.injEq, Prod.mk.injEq] at e
      obtain ⟨rfl, rfl⟩ := e
      generalize hy : vs'.toList = q at hv
      cases hv with | cons _ y1 _ ys h1 h2 =>
      cases h2 with | nil =>
      cases h1 with | iface _ _ y1 h1 =>
      cases h1 with | map _ rr h1 =>
      have hvs : vs' = #[.iface t (.map (some rr))] := by
        cases vs'; simp at hy; simp [hy]
      subst hvs
      cases b with
      | own i =>
        unfold H.mapAt at hm
        simp only at hm
        split at hm
        · rename_i es2 c2 ho
          injection hm with hm
          simp only [Prod.mk.injEq] at hm
          obtain ⟨hm1, hm2, hm3⟩ := hm
          subst hm1; subst hm2; subst hm3
          have hmm : σ.m i 0 = some (rr, 0, 0) := h1
          obtain ⟨_, _, _, es', g1, g2⟩ := r.obj _ _ _ _ _ _ ho hmm
          have hget := run_getObj' (P := P) g1 (fun _ _ _ c => by cases c)
          refine ⟨_, _, _, r.alloc (ext := 0) (o' := .map es' c2) ⟨rfl, rfl, rfl, es', rfl, g2.up (S.bind_up (r.fresh 0))⟩, .iface _ _ _ (.map (.own h.next) w.heap.size (S.bind_self σ _ _ _)), .inl ?_⟩
          rw [run_callFunc_extern hf hname hb hn he]
          have e1 : Extern.MapsClone.clone #[.iface t (.map (some rr))] = (getObj rr >>= fun o => match o with
            | .map entries clock => (newObj (.map entries clock) >>= fun n => pure (.iface t (.map (some n))))
            | _ => stuck "maps.clone: a map expected") := rfl
          rw [e1]
          simp [hget, Result.andThen, go_sem, World.push]
        · cases hm
      | _ => simp [H.mapAt] at hm
    · cases e
  · cases e

end Go.Proofs.Ab
