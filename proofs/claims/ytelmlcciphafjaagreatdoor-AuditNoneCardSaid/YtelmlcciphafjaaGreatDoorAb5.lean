/- The evaluator's soundness, second part: memory: reading cells, storing cells, new blocks, other objects. -/
import Derived.Test.YtelmlcciphafjaaGreatDoorAb4
namespace Go.Proofs.Ab
open Go

/-! ## Small laws of lists -/
theorem takeV_get : ∀ (n : Nat) (l r : List V), takeV n l = some r → r.length = n ∧ ∀ j, j < n → r[j]? = l[j]?
  | 0, l, r, h => by simp [takeV] at h; subst h; simp
  | n + 1, [], r, h => by simp [takeV] at h
  | n + 1, x :: xs, r, h => by
    simp only [takeV] at h
    cases e : takeV n xs with
    | none => simp [e] at h
    | some q =>
      simp [e] at h; subst h
      obtain ⟨h1, h2⟩ := takeV_get n xs q e
      refine ⟨by simp [h1], fun j hj => ?_⟩
      cases j with
      | zero => simp
      | succ j => simpa using h2 j (by omega)
theorem takeC_get (ver : Nat) : ∀ (n : Nat) (l : List (V × Nat)) (r : List V), takeC ver n l = some r → r.length = n ∧ ∀ j, j < n → ∃ x lo, l[j]? = some (x, lo) ∧ lo ≤ ver ∧ r[j]? = some x
  | 0, l, r, h => by simp [takeC] at h; subst h; simp
  | n + 1, [], r, h => by simp [takeC] at h
  | n + 1, x :: xs, r, h => by
    simp only [takeC] at h
    cases hb : Nat.ble x.2 ver with
    | false => simp [hb] at h
    | true =>
      simp only [hb, cond_true] at h
      cases e : takeC ver n xs with
      | none => simp [e] at h
      | some q =>
        simp [e] at h; subst h
        obtain ⟨h1, h2⟩ := takeC_get ver n xs q e
        refine ⟨by simp [h1], fun j hj => ?_⟩
        cases j with
        | zero => exact ⟨x.1, x.2, by simp, Nat.le_of_ble_eq_true hb, by simp⟩
        | succ j => simpa using h2 j (by omega)
theorem dropL_eq {α : Type} : ∀ (n : Nat) (l : List α), dropL n l = l.drop n
  | 0, l => by simp [dropL]
  | n + 1, [] => by simp [dropL]
  | n + 1, x :: xs => by simp [dropL, dropL_eq n xs]

theorem VRs.length {σ : S} : ∀ {vs : List V} {vs' : List Value}, VRs σ vs vs' → vs.length = vs'.length
  | _, _, .nil => rfl
  | _, _, .cons _ _ _ _ _ h => by simp [h.length]
theorem VRs.get {σ : S} : ∀ {vs : List V} {vs' : List Value}, VRs σ vs vs' → ∀ (j : Nat) x, vs[j]? = some x → ∃ x', vs'[j]? = some x' ∧ VR σ x x'
  | _, _, .nil, j, x, e => by simp at e
  | _, _, .cons v v' vs vs' h hs, j, x, e => by
    cases j with
    | zero => simp at e; subst e; exact ⟨v', by simp, h⟩
    | succ j => simpa using hs.get j x (by simpa using e)
theorem VRs.of_get {σ : S} : ∀ {vs : List V} {vs' : List Value}, vs.length = vs'.length → (∀ (j : Nat) x, vs[j]? = some x → ∃ x', vs'[j]? = some x' ∧ VR σ x x') → VRs σ vs vs'
  | [], [], _, _ => .nil
  | [], _ :: _, h, _ => by simp at h
  | _ :: _, [], h, _ => by simp at h
  | v :: vs, v' :: vs', h, g => by
    obtain ⟨x', e, hx⟩ := g 0 v (by simp)
    simp at e; subst e
    exact .cons v v' vs vs' hx (VRs.of_get (by simpa using h) fun j x e => by simpa using g (j + 1) x (by simpa using e))
theorem VRs.append {σ : S} {a b : List V} {a' b' : List Value} (h : VRs σ a a') (g : VRs σ b b') : VRs σ (a ++ b) (a' ++ b') := by
  induction a generalizing a' with
  | nil => cases h; exact g
  | cons x xs ih => cases h with | cons _ y _ ys h hs => exact .cons _ _ _ _ h (ih hs)
theorem VRs.drop {σ : S} {a : List V} {a' : List Value} (h : VRs σ a a') (n : Nat) : VRs σ (a.drop n) (a'.drop n) := by
  induction n generalizing a a' with
  | zero => simpa using h
  | succ n ih => cases h with
    | nil => simpa using VRs.nil
    | cons x y xs ys h hs => simpa using ih hs
theorem VRs.take {σ : S} {a : List V} {a' : List Value} (h : VRs σ a a') (n : Nat) : VRs σ (a.take n) (a'.take n) := by
  induction n generalizing a a' with
  | zero => simpa using VRs.nil
  | succ n ih => cases h with
    | nil => simpa using VRs.nil
    | cons x y xs ys h hs => simpa using VRs.cons _ _ _ _ h (ih hs)
theorem VRs.takeV {σ : S} {a r : List V} {a' : List Value} {n : Nat} (h : VRs σ a a') (e : takeV n a = some r) : VRs σ r (a'.take n) ∧ n ≤ a'.length := by
  have hl := h.length
  obtain ⟨h1, h2⟩ := takeV_get n a r e
  have hn : n ≤ a.length := by
    cases n with
    | zero => omega
    | succ m =>
      have h3 := h2 m (by omega)
      have h4 : (r[m]?).isSome := by simp [h1]
      rw [h3] at h4
      simp at h4
      omega
  refine ⟨?_, by omega⟩
  have : r = a.take n := by
    apply List.ext_getElem?
    intro j
    by_cases hj : j < n
    · rw [h2 j hj, List.getElem?_take]; simp [hj]
    · rw [List.getElem?_eq_none (by omega), List.getElem?_eq_none (by simp; omega)]
  rw [this]
  exact h.take n

theorem VR.oneCell {σ : S} {v : V} {v' : Value} (h : VR σ v v') (ha : v.atom = true) : v'.oneCell' = true := by
  cases h <;> first | rfl | (simp [V.atom] at ha; done) | (rename_i h; exact h.one)
theorem VR.cells_atom {σ : S} {v : V} {v' : Value} (h : VR σ v v') (ha : v.atom = true) : v.cells = [v] ∧ v'.cells = #[v'] := by
  cases h <;> first | exact ⟨rfl, rfl⟩ | (simp [V.atom] at ha; done) | (rename_i h; exact ⟨rfl, h.cells⟩)
/-- A value's cells, but of a tuple. -/
theorem VR.cells {σ : S} {v : V} {v' : Value} (h : VR σ v v') : VRs σ v.cells v'.cells.toList := by
  cases h with
  | agg cs cs' h => exact h
  | any t v h => rw [h.cells]; exact .cons _ _ _ _ (.any _ _ h) .nil
  | _ => exact .cons _ _ _ _ (by constructor <;> assumption) .nil

theorem allAtoms_get : ∀ {vs : List V}, allAtoms vs = true → ∀ (j : Nat) x, vs[j]? = some x → x.atom = true
  | [], _, j, x, e => by simp at e
  | v :: vs, h, j, x, e => by
    simp only [allAtoms, Bool.and_eq_true] at h
    cases j with
    | zero => simp at e; subst e; exact h.1
    | succ j => exact allAtoms_get h.2 j x (by simpa using e)

/-! ## The world's cells -/
theorem cell?_of {w : World} {b o : Nat} {c : Array Value} {t : TypeId} {fz : Nat × Nat} (h : w.heap[b]? = some (.cells c t fz)) : w.cell? ⟨b, o, none⟩ = c[o]? := by
  simp [World.cell?, h]
theorem add_of (b o n : Nat) : (⟨b, o, none⟩ : Addr).add n = ⟨b, o + n, none⟩ := by
  unfold Addr.add
  by_cases h : n = 0 <;> simp [h]

theorem loadCellsFrom_run {P : Program} {w : World} {b o : Nat} : ∀ (vs : List Value) (i : Nat) (acc : Array Value),
    (∀ (j : Nat) v, vs[j]? = some v → w.cell? ⟨b, o + (i + j), none⟩ = some v) → (loadCellsFrom ⟨b, o, none⟩ i vs.length acc).run P w = .ok (acc ++ vs.toArray) w
  | [], i, acc, h => by simp [loadCellsFrom]
  | v :: vs, i, acc, h => by
    have h0 := h 0 v (by simp)
    have ih := loadCellsFrom_run (P := P) (w := w) (b := b) (o := o) vs (i + 1) (acc.push v) (fun j x e => by
      have := h (j + 1) x (by simpa using e)
      rw [show i + 1 + j = i + (j + 1) by omega]; exact this)
    simp only [List.length_cons, loadCellsFrom, add_of, Sem.run_bind, run_load]
    simp only [Nat.add_zero] at h0
    rw [h0]
    simp only [Result.andThen_ok]
    rw [ih]
    congr 1
    apply Array.ext'
    simp
theorem loadCells_run {P : Program} {w : World} {b o n : Nat} {vs : List Value} (hn : vs.length = n) (h : ∀ (j : Nat) v, vs[j]? = some v → w.cell? ⟨b, o + j, none⟩ = some v) :
    (loadCells ⟨b, o, none⟩ n).run P w = .ok vs.toArray w := by
  subst hn
  unfold loadCells
  rw [loadCellsFrom_run vs 0 #[] (fun j v e => by simpa using h j v e)]
  simp

/-- The cells that the evaluator reads are the world's. -/
theorem Rel.cells {σ : S} {h : H} {w : World} (r : Rel σ h w) {a : A} {a' : Addr} (ha : AR σ a a') {n : Nat} {vs : List V} (e : h.cells a n = some vs) :
    vs.length = n ∧ ∃ b o, a' = ⟨b, o, none⟩ ∧ ∀ j x, vs[j]? = some x → ∃ x', w.cell? ⟨b, o + j, none⟩ = some x' ∧ VR σ x x' ∧ x.atom = true := by
  have known : ∀ (b s : Nat) (cs : List V), a.ver = 0 → a' = ⟨b, s + a.off, none⟩ → (∃ c t fz, w.heap[b]? = some (.cells c t fz) ∧ ∀ (k : Nat) x, cs[k]? = some x → ∃ x', c[s + k]? = some x' ∧ VR σ x x' ∧ x.atom = true) →
      takeV n (dropL a.off cs) = some vs →
      vs.length = n ∧ ∃ b o, a' = ⟨b, o, none⟩ ∧ ∀ j x, vs[j]? = some x → ∃ x', w.cell? ⟨b, o + j, none⟩ = some x' ∧ VR σ x x' ∧ x.atom = true := by
    intro b s cs hv hA ⟨c, t, fz, hc, hg⟩ ht
    obtain ⟨h1, h2⟩ := takeV_get _ _ _ ht
    refine ⟨h1, b, s + a.off, hA, fun j x ex => ?_⟩
    have hj : j < n := by
      rcases Nat.lt_or_ge j n with h' | h'
      · exact h'
      · rw [List.getElem?_eq_none (by omega)] at ex; cases ex
    have h3 := h2 j hj
    rw [ex, dropL_eq, List.getElem?_drop] at h3
    obtain ⟨x', g1, g2, g3⟩ := hg (a.off + j) x h3.symm
    exact ⟨x', by rw [cell?_of hc, Nat.add_assoc]; exact g1, g2, g3⟩
  unfold H.cells at e
  unfold AR at ha
  cases hb : a.blk with
  | base i =>
    simp only [hb] at e ha
    cases hv : Nat.beq a.ver 0 with
    | false => simp [hv] at e
    | true =>
      simp only [hv, cond_true] at e
      cases hc : h.base i with
      | none => simp [hc] at e
      | some cs =>
        simp [hc] at e
        obtain ⟨_, c, t, fz, h1, h2⟩ := r.base i cs hc
        exact known (σ.bs i).1 (σ.bs i).2 cs ha.1 ha.2 ⟨c, t, fz, h1, h2⟩ e
  | glob i =>
    simp only [hb] at e ha
    cases hv : Nat.beq a.ver 0 with
    | false => simp [hv] at e
    | true =>
      simp only [hv, cond_true] at e
      cases hc : h.glob i with
      | none => simp [hc] at e
      | some cs =>
        simp [hc] at e
        obtain ⟨_, c, t, fz, h1, h2⟩ := r.glob i cs hc
        exact known i 0 cs ha.1 (by rw [Nat.zero_add]; exact ha.2) ⟨c, t, fz, h1, by simpa using h2⟩ e
  | own i =>
    simp only [hb] at e ha
    obtain ⟨b, sh, ext, hm, hsh, hA⟩ := ha
    split at e
    · rename_i ver cs ho
      obtain ⟨h1, h2⟩ := takeC_get _ _ _ _ e
      have hO := r.obj i _ _ _ _ _ ho hm
      obtain ⟨_, c, t, fz, hc, _, _, _, _, hg⟩ := hO
      refine ⟨h1, b, a.off - sh, hA, fun j x ex => ?_⟩
      have hj : j < n := by
        rcases Nat.lt_or_ge j n with h' | h'
        · exact h'
        · rw [List.getElem?_eq_none (by omega)] at ex; cases ex
      obtain ⟨y, lo, g1, g2, g3⟩ := h2 j hj
      rw [ex] at g3; cases g3
      rw [dropL_eq, List.getElem?_drop] at g1
      obtain ⟨x', k1, k2, k3⟩ := hg (a.off + j) x lo g1 g2 (by omega)
      refine ⟨x', ?_, k2, k3⟩
      rw [cell?_of hc, ← k1]
      congr 1
      omega
    · cases e

theorem Rel.load {P : Program} {σ : S} {h : H} {w : World} (r : Rel σ h w) {a : A} {a' : Addr} (ha : AR σ a a') {n : Nat} {vs : List V} (e : h.cells a n = some vs) :
    ∃ vs' : Array Value, (loadCells a' n).run P w = .ok vs' w ∧ VRs σ vs vs'.toList ∧ allAtoms vs = true := by
  obtain ⟨h1, b, o, rfl, h2⟩ := r.cells ha e
  have hall : ∀ (vs : List V) (k : Nat), (∀ j x, vs[j]? = some x → ∃ x', w.cell? ⟨b, o + (k + j), none⟩ = some x' ∧ VR σ x x' ∧ x.atom = true) →
      ∃ vs' : List Value, VRs σ vs vs' ∧ (∀ j v, vs'[j]? = some v → w.cell? ⟨b, o + (k + j), none⟩ = some v) ∧ allAtoms vs = true := by
    intro vs
    induction vs with
    | nil => intro k _; exact ⟨[], .nil, fun j v e => by simp at e, rfl⟩
    | cons x xs ih =>
      intro k hh
      obtain ⟨x', g1, g2, g3⟩ := hh 0 x (by simp)
      obtain ⟨vs', k1, k2, k3⟩ := ih (k + 1) (fun j y e => by
        have := hh (j + 1) y (by simpa using e)
        rw [show k + 1 + j = k + (j + 1) by omega]; exact this)
      refine ⟨x' :: vs', .cons _ _ _ _ g2 k1, fun j v e => ?_, by simp [allAtoms, g3, k3]⟩
      cases j with
      | zero => simp at e; subst e; exact g1
      | succ j => rw [show k + (j + 1) = k + 1 + j by omega]; exact k2 j v (by simpa using e)
  obtain ⟨vs', k1, k2, k3⟩ := hall vs 0 (fun j x e => by simpa using h2 j x e)
  refine ⟨vs'.toArray, loadCells_run (by rw [← k1.length, h1]) (fun j v e => by simpa using k2 j v e), by simpa using k1, k3⟩

/-- The relation looks at the heap alone. -/
theorem Rel.heap {σ : S} {h : H} {w w' : World} (r : Rel σ h w) (e : w'.heap = w.heap) : Rel σ h w' where
  low := by rw [e]; exact r.low
  obj := fun i o v b sh ext h1 h2 => by rw [e]; exact r.obj i o v b sh ext h1 h2
  dom := r.dom
  lt := r.lt
  inj := r.inj
  high := fun i v b sh ext h1 => by rw [e]; exact r.high i v b sh ext h1
  base := fun i cs h1 => by rw [e]; exact r.base i cs h1
  glob := fun i cs h1 => by rw [e]; exact r.glob i cs h1
  old := fun b hb => by rw [e]; exact r.old b hb
theorem Sim.heap {σ σ' : S} {h h' : H} {w w' w'' : World} (s : Sim σ h w σ' h' w') (e : w''.heap = w'.heap) (io : w''.os = w'.os ∧ w''.tape = w'.tape ∧ w''.output = w'.output := by exact ⟨rfl, rfl, rfl⟩) : Sim σ h w σ' h' w'' where
  rel := s.rel.heap e
  mono := s.mono
  bs := s.bs
  n0 := s.n0
  unreal := s.unreal
  keep := fun b hb hk => by rw [e]; exact s.keep b hb hk
  next := s.next
  base := s.base
  glob := s.glob
  size := by rw [e]; exact s.size
  h0 := s.h0
  good := s.good
  io := ⟨io.1.trans s.io.1, io.2.1.trans s.io.2.1, io.2.2.trans s.io.2.2⟩

/-! ## A new block -/
def S.bind (σ : S) (i v : Nat) (x : Nat × Nat × Nat) : S := { σ with m := fun j u => if j = i ∧ u = v then some x else σ.m j u }
theorem S.bind_up {σ : S} {i v : Nat} {x : Nat × Nat × Nat} (h : σ.m i v = none) : Up σ (σ.bind i v x) := by
  refine ⟨fun j u y e => ?_, rfl, rfl⟩
  simp only [S.bind]
  by_cases c : j = i ∧ u = v
  · obtain ⟨rfl, rfl⟩ := c; rw [h] at e; cases e
  · rw [if_neg c]; exact e
theorem S.bind_self (σ : S) (i v : Nat) (x : Nat × Nat × Nat) : (σ.bind i v x).m i v = some x := by simp [S.bind]

theorem H.new_get (h : H) (o : O) (i : Nat) : (h.new o).own.get i = if i = h.next then some o else h.own.get i := T.get_set _ _ _ _
theorem H.set_get (h : H) (j : Nat) (o : O) (i : Nat) : (h.set j o).own.get i = if i = j then some o else h.own.get i := T.get_set _ _ _ _

theorem Rel.fresh {σ : S} {h : H} {w : World} (r : Rel σ h w) (v : Nat) : σ.m h.next v = none := by
  cases e : σ.m h.next v with
  | none => rfl
  | some x =>
    obtain ⟨o, ho⟩ := r.dom _ _ _ e
    exact absurd (r.lt _ _ ho) (Nat.lt_irrefl _)

def World.push (w : World) (o : Obj) : World := { w with heap := w.heap.push o }
theorem World.push_get_lt {w : World} {o : Obj} {b : Nat} (h : b < w.heap.size) : (World.push w o).heap[b]? = w.heap[b]? := by
  simp only [World.push, Array.getElem?_push]
  rw [if_neg (by omega)]
theorem World.push_get_eq (w : World) (o : Obj) : (World.push w o).heap[w.heap.size]? = some o := by
  simp [World.push]
theorem World.push_size (w : World) (o : Obj) : (World.push w o).heap.size = w.heap.size + 1 := by simp [World.push]

/-- The names after an allocation. -/
theorem Rel.alloc {σ : S} {h : H} {w : World} (r : Rel σ h w) {o : O} {o' : Obj} {ext : Nat}
    (ho : OR (σ.bind h.next 0 (w.heap.size, 0, ext)) o 0 w.heap.size 0 ext (some o')) :
    Sim σ h w (σ.bind h.next 0 (w.heap.size, 0, ext)) (h.new o) (World.push w o') := by
  have u : Up σ (σ.bind h.next 0 (w.heap.size, 0, ext)) := S.bind_up (r.fresh 0)
  have hs := World.push_size w o'
  have hn := r.low
  have old : ∀ i v x, (σ.bind h.next 0 (w.heap.size, 0, ext)).m i v = some x → (i = h.next ∧ v = 0 ∧ x = (w.heap.size, 0, ext)) ∨ (i ≠ h.next ∧ σ.m i v = some x) := by
    intro i v x e
    simp only [S.bind] at e
    by_cases c : i = h.next ∧ v = 0
    · rw [if_pos c] at e; cases e; exact .inl ⟨c.1, c.2, rfl⟩
    · rw [if_neg c] at e
      refine .inr ⟨fun hi => ?_, e⟩
      subst hi; rw [r.fresh] at e; cases e
  refine ⟨⟨(by show σ.n0 ≤ _; omega), ?_, ?_, ?_, ?_, ?_, ?_, ?_, fun b hb => by rw [World.push_get_lt (Nat.lt_of_lt_of_le hb hn)]; exact r.old b hb⟩, u.mono, rfl, rfl, ?_, ?_, Nat.le_succ _, rfl, rfl, by omega, rfl, rfl, rfl, rfl, rfl⟩
  · intro i q v b sh e1 hq hm
    rw [H.new_get] at hq
    rcases old i v _ hm with ⟨rfl, rfl, hx⟩ | ⟨hi, hm'⟩
    · rw [if_pos rfl] at hq; cases hq; cases hx
      rw [World.push_get_eq]; exact ho
    · rw [if_neg hi] at hq
      have hb := (r.high _ _ _ _ _ hm').2
      rw [World.push_get_lt hb]
      exact (r.obj i q v b sh e1 hq hm').up u
  · intro i v x e
    rw [H.new_get]
    rcases old i v _ e with ⟨rfl, rfl, hx⟩ | ⟨hi, hm'⟩
    · exact ⟨o, by simp⟩
    · rw [if_neg hi]; exact r.dom i v x hm'
  · intro i q hq
    rw [H.new_get] at hq
    by_cases c : i = h.next
    · subst c; exact Nat.lt_succ_self _
    · rw [if_neg c] at hq; exact Nat.lt_succ_of_lt (r.lt i q hq)
  · intro i v j q b sh e1 sh' e2 h1 h2
    rcases old i v _ h1 with ⟨rfl, rfl, hx⟩ | ⟨hi, h1'⟩ <;> rcases old j q _ h2 with ⟨rfl, rfl, hy⟩ | ⟨hj, h2'⟩
    · cases hx; cases hy; exact ⟨rfl, rfl, rfl⟩
    · cases hx; exact absurd (r.high _ _ _ _ _ h2').2 (Nat.lt_irrefl _)
    · cases hy; exact absurd (r.high _ _ _ _ _ h1').2 (Nat.lt_irrefl _)
    · exact r.inj _ _ _ _ _ _ _ _ _ h1' h2'
  · intro i v b sh e1 e
    rw [hs]
    rcases old i v _ e with ⟨rfl, rfl, hx⟩ | ⟨hi, hm'⟩
    · cases hx; exact ⟨hn, by omega⟩
    · obtain ⟨g1, g2⟩ := r.high _ _ _ _ _ hm'; exact ⟨g1, by omega⟩
  · intro i cs e
    obtain ⟨g0, c, t, fz, g1, g2⟩ := r.base i cs e
    have hlt : (σ.bs i).1 < w.heap.size := by
      rcases Nat.lt_or_ge (σ.bs i).1 w.heap.size with h' | h'
      · exact h'
      · rw [Array.getElem?_eq_none h'] at g1; cases g1
    refine ⟨g0, c, t, fz, ?_, fun k x ex => ?_⟩
    · show (World.push w o').heap[(σ.bs i).1]? = _; rw [World.push_get_lt hlt]; exact g1
    · obtain ⟨x', k1, k2, k3⟩ := g2 k x ex; exact ⟨x', k1, k2.up u, k3⟩
  · intro i cs e
    obtain ⟨g0, c, t, fz, g1, g2⟩ := r.glob i cs e
    have hlt : i < w.heap.size := by
      rcases Nat.lt_or_ge i w.heap.size with h' | h'
      · exact h'
      · rw [Array.getElem?_eq_none h'] at g1; cases g1
    refine ⟨g0, c, t, fz, ?_, fun k x ex => ?_⟩
    · rw [World.push_get_lt hlt]; exact g1
    · obtain ⟨x', k1, k2, k3⟩ := g2 k x ex; exact ⟨x', k1, k2.up u, k3⟩
  · intro i hi hm
    have hne : i ≠ h.next := by omega
    refine ⟨fun v => ?_, by rw [H.new_get, if_neg hne]⟩
    simp only [S.bind]
    rw [if_neg (by intro c; exact hne c.1)]; exact hm v
  · intro b hb hm
    refine ⟨World.push_get_lt hb, fun i v x e => ?_⟩
    rcases old i v _ e with ⟨rfl, rfl, hx⟩ | ⟨hi, hm'⟩
    · subst hx; simp; omega
    · exact hm i v x hm'

/-! ## An object turned in its place -/
def World.put (w : World) (b : Nat) (o : Obj) : World := { w with heap := w.heap.setIfInBounds b o }
theorem World.put_get {w : World} {b c : Nat} {o : Obj} (hb : b < w.heap.size) : (World.put w b o).heap[c]? = if c = b then some o else w.heap[c]? := by
  simp only [World.put, Array.getElem?_setIfInBounds]
  by_cases h : b = c
  · subst h; simp [hb]
  · simp [h, Ne.symm h]
theorem World.put_size (w : World) (b : Nat) (o : Obj) : (World.put w b o).heap.size = w.heap.size := by simp [World.put]

/-- Object i turned to o, block b (which only i names) to obj. -/
theorem Rel.turn {σ : S} {h : H} {w : World} (r : Rel σ h w) {i : Nat} {o : O} {b : Nat} {obj : Obj} {v0 : Nat} {x0 : Nat × Nat × Nat} (h0 : σ.m i v0 = some x0) (hb0 : x0.1 = b)
    (ho : ∀ v c sh ext, σ.m i v = some (c, sh, ext) → OR σ o v c sh ext (if c = b then some obj else w.heap[c]?)) :
    Sim σ h w σ (h.set i o) (World.put w b obj) := by
  obtain ⟨b0, sh0, ext0⟩ := x0
  simp only at hb0; subst hb0
  have hb : b0 < w.heap.size := (r.high _ _ _ _ _ h0).2
  have hn0 : σ.n0 ≤ b0 := (r.high _ _ _ _ _ h0).1
  have hs := World.put_size w b0 obj
  have hin : i < h.next := by obtain ⟨q, hq⟩ := r.dom _ _ _ h0; exact r.lt _ _ hq
  refine ⟨⟨(by have := r.low; omega), ?_, ?_, ?_, ?_, ?_, ?_, ?_, fun c hc => by rw [World.put_get hb, if_neg (by omega)]; exact r.old c hc⟩, fun _ _ _ e => e, rfl, rfl, ?_, ?_, Nat.le_refl _, rfl, rfl, by omega, rfl, rfl, rfl, rfl, rfl⟩
  · intro j q v c sh ext hq hm
    rw [H.set_get] at hq
    rw [World.put_get hb]
    by_cases hj : j = i
    · subst hj; rw [if_pos rfl] at hq; cases hq; exact ho v c sh ext hm
    · rw [if_neg hj] at hq
      have : c ≠ b0 := by
        intro e; subst e
        exact hj (r.inj _ _ _ _ _ _ _ _ _ hm h0).1
      rw [if_neg this]; exact r.obj j q v c sh ext hq hm
  · intro j v x e
    rw [H.set_get]
    by_cases hj : j = i
    · exact ⟨o, by simp [hj]⟩
    · rw [if_neg hj]; exact r.dom j v x e
  · intro j q hq
    rw [H.set_get] at hq
    by_cases hj : j = i
    · subst hj; exact hin
    · rw [if_neg hj] at hq; exact r.lt j q hq
  · exact r.inj
  · intro j v c sh ext e
    rw [hs]; exact r.high j v c sh ext e
  · intro j cs e
    obtain ⟨g0, c, t, fz, g1, g2⟩ := r.base j cs e
    refine ⟨g0, c, t, fz, ?_, g2⟩
    rw [World.put_get hb, if_neg (by omega)]; exact g1
  · intro j cs e
    obtain ⟨g0, c, t, fz, g1, g2⟩ := r.glob j cs e
    refine ⟨g0, c, t, fz, ?_, g2⟩
    rw [World.put_get hb, if_neg (by omega)]; exact g1
  · intro j hj hm
    refine ⟨hm, ?_⟩
    rw [H.set_get, if_neg]
    intro e; subst e; rw [hm] at h0; cases h0
  · intro c hc hm
    refine ⟨?_, hm⟩
    rw [World.put_get hb, if_neg]
    intro e; exact hm i v0 _ h0 (by simp [e])

end Go.Proofs.Ab
