/- The evaluator's soundness, eighteenth part: the next entry of a map; operations that yield a value; one operation. -/
import Derived.Test.YtelmlcciphafjaaGreatDoorAb20
import Derived.Laws.NewFold
import Derived.Laws.World
namespace Go.Proofs.Ab
open Go

theorem Rel.heapR {σ : S} {h : H} {w w1 : World} (r : Rel σ h w) (e : w1.heap = w.heap) : Rel σ h w1 where
  low := by rw [e]; exact r.low
  obj := by rw [e]; exact r.obj
  dom := r.dom
  lt := r.lt
  inj := r.inj
  high := by rw [e]; exact r.high
  base := by rw [e]; exact r.base
  glob := by rw [e]; exact r.glob
  old := by rw [e]; exact r.old

theorem ER.filter {σ : S} {es : List (V × V × Nat)} {es' : List MapEntry} (h : ER σ es es') (p : Nat → Bool) : ER σ (es.filter fun e => p e.2.2) (es'.filter fun e => p e.born) := by
  induction h with
  | nil => exact .nil
  | cons k v n k' v' es es' h1 h2 _ ih =>
    simp only [List.filter_cons]
    cases p n with
    | true => exact .cons _ _ _ _ _ _ _ h1 h2 ih
    | false => exact ih
theorem ER.length' {σ : S} {es : List (V × V × Nat)} {es' : List MapEntry} (h : ER σ es es') : es.length = es'.length := by
  induction h with
  | nil => rfl
  | cons k v n k' v' es es' h1 h2 _ ih => simp [ih]
theorem ER.all {σ : S} {es : List (V × V × Nat)} {es' : List MapEntry} (h : ER σ es es') (p : Nat → Bool) : (es.all fun e => p e.2.2) = (es'.all fun e => p e.born) := by
  induction h with
  | nil => rfl
  | cons k v n k' v' es es' h1 h2 _ ih => simp [ih]
theorem ER.getR {σ : S} {es : List (V × V × Nat)} {es' : List MapEntry} (h : ER σ es es') : ∀ (j : Nat) e', es'[j]? = some e' → ∃ e, es[j]? = some e ∧ EqR σ e e' := by
  induction h with
  | nil => intro j e c; simp at c
  | cons k v n k' v' es es' h1 h2 _ ih =>
    intro j e' he
    cases j with
    | zero => simp at he; subst he; exact ⟨_, rfl, h1, h2, rfl⟩
    | succ j => simpa using ih j e' (by simpa using he)

theorem choose_next {P : Program} (n : Nat) (hn : 0 < n) (w : World) : ∃ c w1, (choose (.mapNext n)).run P w = .ok c w1 ∧ c < n ∧ w1.heap = w.heap ∧ w1.os = w.os ∧ w1.tape = w.tape ∧ w1.output = w.output := by
  rw [run_choose_drew]
  cases hf : (Question.mapNext n).forced with
  | true => exact ⟨0, w, by simp, hn, rfl, rfl, rfl, rfl⟩
  | false => exact ⟨(Question.mapNext n).cut (w.tape w.drawn (.mapNext n)), w.drew, by simp, Nat.mod_lt _ hn, rfl, rfl, rfl, rfl⟩

theorem Rel.turnIter {σ : S} {h : H} {w : World} (r : Rel σ h w) {i l : Nat} {m : Option B} {m' : Option Nat} {s1 s2 s3 s4 : Nat} {l1 l2 : List Nat} {l2' : Array Nat} (ho : h.own.get i = some (.miter m s1 l1 s2)) (hb : σ.m i 0 = some (l, 0, 0)) (hm : OBR σ m m') (hl : l2'.toList = l2.reverse) :
    Sim σ h w σ (h.set i (.miter m s3 l2 s4)) (World.put w l (.mapIter m' s3 l2' s4)) := by
  refine r.turn hb rfl ?_
  intro v c sh ext hv
  obtain ⟨rfl, rfl, rfl, _⟩ := r.obj _ _ _ _ _ _ ho hv
  rw [hb] at hv; cases hv
  rw [if_pos rfl]
  exact ⟨rfl, rfl, rfl, m', l2', rfl, hm, hl⟩

theorem andL_mem {α : Type} {p : α → Prop} : ∀ {l : List α}, andL p l → ∀ e ∈ l, p e
  | [], _, e, h => by cases h
  | [x], h, e, he => by rw [List.mem_singleton] at he; subst he; exact h
  | x :: y :: l, h, e, he => by
    rcases List.mem_cons.1 he with rfl | he
    · exact h.1
    · exact andL_mem h.2 e he
theorem nextK_ok {P : Program} {σ : S} {h : H} {w : World} (r : Rel σ h w) {x : V} {k : V → H → Prop} (e : nextK h x k) {x' : Value} (hx : VR σ x x') (t : Nat) :
    ∃ v h' σ' w' v', k v h' ∧ Sim σ h w σ' h' w' ∧ VR σ' v v' ∧ (Instr.next x' false t).run P w = .ok v' w' := by
  unfold nextK at e
  split at e
  · rename_i i
    cases hx with | ptr _ a' ha =>
    obtain ⟨b, ext, hm, rfl⟩ := ha.own0
    split at e
    · rename_i s1 s2 s3 ho
      obtain ⟨_, _, rfl, m', seen', hw, hm', hs⟩ := r.obj _ _ _ _ _ _ ho hm
      cases m' with
      | some _ => exact hm'.elim
      | none =>
        have hget := run_getObj' (P := P) hw (fun _ _ _ c => by cases c)
        refine ⟨_, _, σ, w, .tuple #[.bool false], e, Sim.refl r, .tup _ #[.bool false] (.cons _ _ _ _ (.bool _) .nil), ?_⟩
        simp only [Instr.next, Sem.run_bind, hget, Result.andThen_ok, Sem.run_pure]
    · rename_i mb since seen stepped ho
      obtain ⟨_, _, rfl, m', seen', hw, hm', hs⟩ := r.obj _ _ _ _ _ _ ho hm
      cases m' with
      | none => exact hm'.elim
      | some mr =>
        have hget := run_getObj' (P := P) hw (fun _ _ _ c => by cases c)
        have hmb : BR σ mb mr := hm'
        split at e
        · rename_i mi es clock hma
          obtain ⟨_, _, es', hes, her⟩ := r.mapObj hma hmb
          have hget2 := run_getObj' (P := P) hes (fun _ _ _ c => by cases c)
          cases hc : (seen.isEmpty || es.isEmpty || !(es.all fun e => Nat.ble stepped e.2.2)) && (es.all fun e => Nat.blt e.2.2 since) with
          | false => rw [hc] at e; exact e.elim
          | true =>
            rw [hc] at e
            simp only [cond_true, H.setK_eq] at e
            rw [Bool.and_eq_true] at hc
            obtain ⟨hc1, hc2⟩ := hc
            have hcont : ∀ n, seen'.contains n = seen.contains n := by
              intro n
              rw [← Array.contains_toList, hs]
              rw [Bool.eq_iff_iff]
              simp
            have htest : (!seen'.isEmpty && !es'.isEmpty && es'.all (fun e => decide (e.born ≥ stepped))) = false := by
              have h1 : seen'.isEmpty = seen.isEmpty := by
                rw [← Array.isEmpty_toList, hs]; cases seen <;> simp
              have h2 : es'.isEmpty = es.isEmpty := by
                rw [← Array.isEmpty_toList]
                have := her.length'
                cases hx : es'.toList <;> cases es <;> simp_all
              have h3 : es'.all (fun e => decide (e.born ≥ stepped)) = es.all fun e => Nat.ble stepped e.2.2 := by
                rw [← Array.all_toList]
                have := her.all (fun n => Nat.ble stepped n)
                rw [this]
                congr 1
                funext e
                rw [Bool.eq_iff_iff]
                simp
              rw [h1, h2, h3]
              cases hx : seen.isEmpty <;> cases hy : es.isEmpty <;> simp [hx, hy] at hc1 ⊢
              exact hc1
            have hleft : ER σ (es.filter fun e => !seen.contains e.2.2) (es'.filter fun e => !seen'.contains e.born).toList := by
              rw [Array.toList_filter]
              have := her.filter (fun n => !seen.contains n)
              simp only [hcont]
              exact this
            have hyoung : ∀ e ∈ (es'.filter fun e => !seen'.contains e.born), e.born < since := by
              intro e he
              have he' := (Array.mem_filter.1 he).1
              have h3 := her.all (fun n => Nat.blt n since)
              rw [hc2] at h3
              have := List.all_eq_true.1 h3.symm e (by simpa using he')
              exact Nat.le_of_ble_eq_true this
            generalize hL' : (es'.filter fun e => !seen'.contains e.born) = left' at hleft hyoung
            generalize hL : (es.filter fun e => !seen.contains e.2.2) = left at hleft e
            have hold : (left'.filter fun e => decide (e.born < since)) = left' := Array.filter_eq_self.2 fun e he => by simpa using hyoung e he
            have hnew : (left'.filter fun e => decide (e.born ≥ since)) = #[] := by
              rw [Array.filter_eq_empty_iff]
              intro e he
              have := hyoung e he
              simp; omega
            have hrun : (Instr.next (.pointer (some ⟨b, 0, none⟩)) false t).run P w = (do
                match ((if left'.isEmpty then #[none] else #[]) ++ left'.map some : Array (Option MapEntry))[← choose (.mapNext ((if left'.isEmpty then #[none] else #[]) ++ left'.map some : Array (Option MapEntry)).size)]? with
                | some (some e) =>
                  setObj b (.mapIter (some mr) since (seen'.push e.born) clock)
                  pure (.tuple #[.bool true, e.key, e.val])
                | some none => pure (.tuple #[.bool false])
                | none => stuck "Next: no such candidate" : Sem Value).run P w := by
              simp only [Instr.next, Sem.run_bind, hget, hget2, Result.andThen_ok, htest, Bool.false_eq_true, if_false, hL', hold, hnew, Array.append_empty, Sem.run_pure]
              rfl
            cases hz : left'.isEmpty with
            | true =>
              have hz' : left' = #[] := by simpa using hz
              subst hz'
              have hle : left = [] := by have := hleft.length'; simpa using this
              subst hle
              obtain ⟨c, w1, hch, hlt, hh, hio⟩ := choose_next (P := P) 1 (by decide) w
              refine ⟨_, _, σ, w1, .tuple #[.bool false], e, (Sim.refl (r.heapR hh)).heapL hh hio, .tup _ #[.bool false] (.cons _ _ _ _ (.bool _) .nil), ?_⟩
              have hc0 : c = 0 := by omega
              subst hc0
              rw [hrun]
              have hsz : ((if (#[] : Array MapEntry).isEmpty then #[none] else #[]) ++ (#[] : Array MapEntry).map some : Array (Option MapEntry)).size = 1 := by simp
              simp only [Sem.run_bind, hsz, hch, Result.andThen_ok]
              have hget3 : ((if (#[] : Array MapEntry).isEmpty then #[none] else #[]) ++ (#[] : Array MapEntry).map some : Array (Option MapEntry))[0]? = some none := by simp
              simp only [hget3, Sem.run_pure]
            | false =>
              have hpos : 0 < left'.size := by
                rcases Nat.eq_zero_or_pos left'.size with c | c
                · have : left' = #[] := Array.eq_empty_of_size_eq_zero c
                  subst this; simp at hz
                · exact c
              obtain ⟨c, w1, hch, hlt, hh, hio⟩ := choose_next (P := P) left'.size hpos w
              have hel : left'[c]? = some left'[c] := Array.getElem?_eq_getElem hlt
              obtain ⟨e0, he0, heq⟩ := hleft.getR c left'[c] (by simp)
              have hall : ∀ e ∈ left, k (.tup [.bool true, e.1, e.2.1]) (h.set i (.miter (some mb) since (e.2.2 :: seen) clock)) := by
                match left, e with
                | [], e => intro e1 h1; cases h1
                | q :: l, e => exact andL_mem e
              have hk := hall e0 (List.mem_of_getElem? he0)
              obtain ⟨q1, q2, q3⟩ := heq
              have r1 := r.heapR hh
              have sim := r1.turnIter (s3 := since) (s4 := clock) (l2 := e0.2.2 :: seen) (l2' := seen'.push left'[c].born) ho hm hm' (by simp [hs, q3])
              refine ⟨_, _, σ, _, .tuple #[.bool true, left'[c].key, left'[c].val], hk, sim.heapL hh hio, .tup _ _ (.cons _ _ _ _ (.bool _) (.cons _ _ _ _ q1 (.cons _ _ _ _ q2 .nil))), ?_⟩
              have hset := run_setObj' (P := P) (w := w1) (x := .mapIter (some mr) since (seen'.push left'[c].born) clock) (by rw [hh]; exact hw) (fun _ _ _ c => by cases c)
              rw [hrun]
              have hsz : ((if (false : Bool) = true then #[none] else #[]) ++ left'.map some : Array (Option MapEntry)).size = left'.size := by simp
              simp only [hz, Sem.run_bind, hsz, hch, Result.andThen_ok]
              have hget3 : ((if (false : Bool) = true then #[none] else #[]) ++ left'.map some : Array (Option MapEntry))[c]? = some (some left'[c]) := by simp [hel]
              simp only [hget3, Sem.run_bind, hset, Result.andThen_ok, Sem.run_pure]
        · exact e.elim
    · exact e.elim
  · exact e.elim

end Go.Proofs.Ab
