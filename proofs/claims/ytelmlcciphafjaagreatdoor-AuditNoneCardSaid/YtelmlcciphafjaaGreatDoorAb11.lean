/- The evaluator's soundness, eighth part: append, copy, clear. -/
import Derived.Test.YtelmlcciphafjaaGreatDoorAb10
namespace Go.Proofs.Ab
open Go

variable {P : Program}

theorem lenOf_run {σ : S} {x : V} {x' : Value} {n : Nat} (h : x.len = some n) (hx : VR σ x x') (w : World) : (Builtin.lenOf x').run P w = .ok n w := by
  cases hx <;> simp [V.len] at h <;> subst h <;> simp [Builtin.lenOf]
  rename_i s b hbs
  rw [← hbs]; rfl

theorem TR.addr {σ : S} {a : A} {a' : Addr} {l s c : Nat} (h : TR σ a a' l s c) (hc : c ≠ 0) : AR σ a a' := by
  unfold TR at h
  unfold AR
  cases hab : a.blk with
  | base i => simp only [hab] at h
  | glob i => simp only [hab] at h
  | own i =>
    simp only [hab] at h ⊢
    obtain ⟨b, sh, ext, hm, hsh, hext, hlc, haddr⟩ := h
    exact ⟨b, sh, ext, hm, hsh, haddr hc⟩
theorem TR.le {σ : S} {a : A} {a' : Addr} {l s c : Nat} (h : TR σ a a' l s c) : l ≤ c := by
  unfold TR at h
  cases hab : a.blk with
  | base i => simp only [hab] at h
  | glob i => simp only [hab] at h
  | own i => simp only [hab] at h; obtain ⟨b, sh, ext, hm, hsh, hext, hlc, haddr⟩ := h; exact hlc

theorem cells_nil {h : H} {a : A} {vs : List V} (e : h.cells a 0 = some vs) : vs = [] := by
  unfold H.cells at e
  cases hb : a.blk with
  | base i =>
    simp only [hb] at e
    cases hv : Nat.beq a.ver 0 with
    | false => simp [hv] at e
    | true =>
      simp only [hv, cond_true] at e
      rw [Option.bind_eq_some_iff] at e; obtain ⟨cs, _, e⟩ := e
      simp [takeV] at e; exact e
  | glob i =>
    simp only [hb] at e
    cases hv : Nat.beq a.ver 0 with
    | false => simp [hv] at e
    | true =>
      simp only [hv, cond_true] at e
      rw [Option.bind_eq_some_iff] at e; obtain ⟨cs, _, e⟩ := e
      simp [takeV] at e; exact e
  | own i =>
    simp only [hb] at e
    split at e
    · simp [takeC] at e; exact e
    · cases e

theorem loadCells_zero (a : Addr) (w : World) : (loadCells a 0).run P w = .ok #[] w := by simp [loadCells, loadCellsFrom]

/-- The cells of a slice that may be at its end. -/
theorem Rel.loadS {σ : S} {h : H} {w : World} (r : Rel σ h w) {a : A} {a' : Addr} {n : Nat} (ha : n = 0 ∨ AR σ a a') {vs : List V} (e : h.cells a n = some vs) :
    ∃ vs' : Array Value, (loadCells a' n).run P w = .ok vs' w ∧ VRs σ vs vs'.toList ∧ allAtoms vs = true ∧ vs.length = n := by
  rcases ha with rfl | ha
  · have := cells_nil e
    subst this
    exact ⟨#[], loadCells_zero a' w, .nil, rfl, rfl⟩
  · obtain ⟨vs', g1, g2, g3⟩ := r.load (P := P) ha e
    exact ⟨vs', g1, g2, g3, (r.cells ha e).1⟩

theorem bytesC_length (s : List UInt8) : (bytesC s).length = s.length := by simp [bytesC]
theorem bytesC_atoms : ∀ (s : List UInt8), allAtoms (bytesC s) = true
  | [] => rfl
  | b :: r => by simp [bytesC, allAtoms, V.atom]; exact bytesC_atoms r
theorem bytesC_rel {σ : S} : ∀ (s : List UInt8), VRs σ (bytesC s) (s.map fun b => Value.int .u8 b.toNat)
  | [] => .nil
  | b :: r => .cons _ _ _ _ (.int _ _) (bytesC_rel r)

theorem firstC_run {σ : S} {h : H} {w : World} (r : Rel σ h w) {x : V} {x' : Value} (hx : VR σ x x') {size n : Nat} {vs : List V} (e : firstC h size n x = some vs) (hn : ∀ m, x.len = some m → n ≤ m) :
    ∃ vs' : Array Value, (Builtin.firstCells size n x').run P w = .ok vs' w ∧ VRs σ vs vs'.toList ∧ allAtoms vs = true ∧ (vs.length = n * size ∨ ∃ s, x = .str s) := by
  unfold firstC at e
  cases x with
  | nilsl =>
    simp only at e
    cases hb : Nat.beq n 0 with
    | false => simp [hb] at e
    | true =>
      obtain rfl := Nat.eq_of_beq_eq_true hb
      simp [hb] at e; subst e
      cases hx
      exact ⟨#[], by simp [Builtin.firstCells], .nil, rfl, .inl (by simp)⟩
  | sl a len cap =>
    simp only at e
    have hnl : n ≤ len := hn len rfl
    have key : ∀ a', (n * size = 0 ∨ AR σ a a') → ∃ vs' : Array Value, (loadCells a' (n * size)).run P w = .ok vs' w ∧ VRs σ vs vs'.toList ∧ allAtoms vs = true ∧ vs.length = n * size := fun a' ha => r.loadS ha e
    cases hx with
    | slk _ a' _ c ha hle =>
      obtain ⟨vs', g1, g2, g3, g4⟩ := key a' (by rcases ha with rfl | ha; · left; rw [show n = 0 by omega]; simp
                                                 · exact .inr ha)
      exact ⟨vs', by simp [Builtin.firstCells, g1], g2, g3, .inl g4⟩
    | slt _ a' _ z c ht =>
      obtain ⟨vs', g1, g2, g3, g4⟩ := key a' (by
        by_cases hc : c = 0
        · left; have := ht.le; rw [show n = 0 by omega]; simp
        · exact .inr (ht.addr hc))
      exact ⟨vs', by simp [Builtin.firstCells, g1], g2, g3, .inl g4⟩
  | str s =>
    simp only [Option.some.injEq] at e
    subst e
    cases hx with
    | str _ b hbs =>
      have hnl : n ≤ s.length := hn _ rfl
      refine ⟨(b.extract 0 n).data.map fun b => .int .u8 b.toNat, by simp [Builtin.firstCells], ?_, bytesC_atoms _, .inr ⟨s, rfl⟩⟩
      have : (b.extract 0 n).data.toList = s.take n := by
        rw [string_extract b 0 n (by omega) (by rw [← hbs] at hnl; exact hnl), hbs]; simp
      rw [Array.toList_map, this]
      exact bytesC_rel _
  | _ => simp at e

/-! ## The room that append asks for -/
theorem fits_iff {need bytes : Nat} (h : fits need bytes = true) : need * bytes ≤ 2 ^ 40 ∧ bytes ≤ 2 ^ 20 ∧ 0 < bytes := by
  simp only [fits, Bool.and_eq_true] at h
  exact ⟨Nat.le_of_ble_eq_true h.1.1, Nat.le_of_ble_eq_true h.1.2, by have := Nat.le_of_ble_eq_true h.2; omega⟩

theorem growBy_le (newLen : Nat) : ∀ (rounds c : Nat), c < newLen → Builtin.growBy newLen rounds c ≤ 2 * newLen + 192
  | 0, c, h => by simp [Builtin.growBy]; omega
  | rounds + 1, c, h => by
    simp only [Builtin.growBy]
    rw [if_neg (by omega)]
    by_cases hc : c + (c + 768) / 4 < newLen
    · exact growBy_le newLen rounds _ hc
    · have : ∀ r, Builtin.growBy newLen r (c + (c + 768) / 4) = c + (c + 768) / 4 := by
        intro r
        cases r with
        | zero => rfl
        | succ r => simp only [Builtin.growBy]; rw [if_pos (by omega)]
      rw [this]; omega
theorem nextcap_le {newLen old : Nat} (h : old < newLen) : Builtin.nextslicecap newLen old ≤ 2 * newLen + 192 := by
  unfold Builtin.nextslicecap
  split
  · omega
  · split
    · omega
    · exact growBy_le newLen 4 old h
theorem room_ok {need old bytes : Nat} (h : fits need bytes = true) (ho : old < need) : ¬ (Builtin.nextslicecap need old * bytes > 2 ^ 48) := by
  obtain ⟨h1, h2, h3⟩ := fits_iff h
  have := nextcap_le ho
  have h4 : Builtin.nextslicecap need old * bytes ≤ (2 * need + 192) * bytes := Nat.mul_le_mul_right _ this
  have h5 : (2 * need + 192) * bytes = 2 * (need * bytes) + 192 * bytes := by rw [Nat.add_mul, Nat.mul_assoc]
  omega
theorem need_small {need bytes : Nat} (h : fits need bytes = true) : need ≤ 2 ^ 40 := by
  obtain ⟨h1, h2, h3⟩ := fits_iff h
  calc need = need * 1 := by omega
    _ ≤ need * bytes := Nat.mul_le_mul_left _ h3
    _ ≤ 2 ^ 40 := h1

/-- How append reads what it appends. -/
inductive NewRun (P : Program) (w : World) (u el size : Nat) (x' : Value) (n : Nat) (new' : Array Value) : Prop
  | plain (d : TypeDesc) : P.underlying u = some d → (∀ k, d ≠ .int k) → (∀ w' : World, (Builtin.lenOf x').run P w' = .ok n w') → (Builtin.firstCells size n x').run P w = .ok new' w → NewRun P w u el size x' n new'
  | made (k : IntKind) (l : Int) (i : TypeInfo) (z : Value) : P.underlying u = some (.int k) → x' = .int .i64 l → 0 ≤ l → l ≤ 2 ^ 40 → n = l.toNat → P.info? el = some i → l * i.bytes ≤ 2 ^ 48 → (∀ w', (zeroValue el).run P w' = .ok z w') →
      new' = (if n * size = 0 then #[] else Builtin.zeroCells z.cells n) → NewRun P w u el size x' n new'

theorem zeroCells_rep {σ : S} {z : List V} {z' : Array Value} (h : VRs σ z z'.toList) (k : Nat) : VRs σ (repV z k) (Builtin.zeroCells z' k).toList := range_rep h k

theorem newV_run {σ : S} {h : H} {w : World} (r : Rel σ h w) {u e size bytes : Nat} {x : V} {n : Nat} {new : List V} (hb : byT P e = some bytes) {d : TypeDesc} (hu : P.underlying u = some d)
    (hn : newV P h e size bytes (intT P (some u)) x = some (n, new)) {x' : Value} (hx : VR σ x x') :
    ∃ new', NewRun P w u e size x' n new' ∧ VRs σ new new'.toList ∧ allAtoms new = true ∧ new.length = n * size := by
  unfold newV at hn
  cases hi : intT P (some u) with
  | true =>
    simp only [hi, cond_true] at hn
    have hk : ∃ k, d = .int k := by
      simp only [intT, hu] at hi
      split at hi
      · rename_i k hd; exact ⟨k, by injection hd⟩
      · cases hi
    obtain ⟨k, rfl⟩ := hk
    split at hn
    · rename_i l
      split at hn
      · rename_i hl
        rw [Option.bind_eq_some_iff] at hn; obtain ⟨z, hz, hn⟩ := hn
        cases hc : (Nat.beq z.cells.length size && Nat.ble (l.toNat * bytes) (2 ^ 40) && allAtoms z.cells) with
        | false => rw [hc] at hn; cases hn
        | true =>
          rw [hc] at hn
          simp only [cond_true, Option.some.injEq, Prod.mk.injEq] at hn
          obtain ⟨rfl, rfl⟩ := hn
          simp only [Bool.and_eq_true] at hc
          have hc1 := Nat.eq_of_beq_eq_true hc.1.1
          have hc2 := Nat.le_of_ble_eq_true hc.1.2
          have hat := hc.2
          obtain ⟨z', hzr, hzrun⟩ := zeroT_run hz σ
          obtain ⟨i, hinf, hib⟩ := byT_info hb
          cases hx
          have hsz : z'.cells.size = size := by rw [hzr.cells_size, hc1]
          refine ⟨_, .made k l i z' hu rfl hl.1 hl.2 rfl hinf (by
            rw [hib]
            have : l * (bytes : Int) = ((l.toNat * bytes : Nat) : Int) := by rw [Int.natCast_mul, Int.toNat_of_nonneg hl.1]
            omega) hzrun rfl, ?_, ?_, by rw [repV_length, hc1]⟩
          · by_cases h0 : l.toNat * size = 0
            · rw [if_pos h0]
              have : repV z.cells l.toNat = [] := List.length_eq_zero_iff.1 (by rw [repV_length, hc1]; exact h0)
              rw [this]; exact .nil
            · rw [if_neg h0]; exact zeroCells_rep hzr.cells _
          · exact repV_atoms (by exact hat) _
      · cases hn
    · cases hn
  | false =>
    simp only [hi, cond_false] at hn
    rw [Option.bind_eq_some_iff] at hn; obtain ⟨m, hm, hn⟩ := hn
    rw [Option.bind_eq_some_iff] at hn; obtain ⟨cs, hcs, hn⟩ := hn
    cases hc : Nat.beq cs.length (m * size) with
    | false => rw [hc] at hn; cases hn
    | true =>
      rw [hc] at hn
      simp only [cond_true, Option.some.injEq, Prod.mk.injEq] at hn
      obtain ⟨rfl, rfl⟩ := hn
      have hc1 := Nat.eq_of_beq_eq_true hc
      obtain ⟨vs', g1, g2, g3, _⟩ := firstC_run (P := P) r hx hcs (fun q hq => by rw [hm] at hq; injection hq with hq; omega)
      refine ⟨vs', .plain d hu ?_ ?_ ?_, g2, g3, hc1⟩
      · intro k hk; subst hk
        simp [intT, hu] at hi
      · exact fun w' => lenOf_run hm hx w'
      · exact g1

/-- append within the capacity. -/
theorem append_in {w : World} {t u ty el size n len cap : Nat} {base : Option Addr} {x' : Value} {new' : Array Value} (ht : P.underlying t = some (.slice el)) (hs : szT P el = some size) (hn : NewRun P w u el size x' n new') (hle : len + n ≤ cap)
    {w1 : World} (hst : ∀ a, base = some a → (storeCells (a.add (len * size)) new'.toList).run P w = .ok () w1) (hb0 : base = none → w1 = w) :
    (Builtin.append_ #[t, u] ty #[.slice base len cap, x']).run P w = .ok (.slice base (len + n) cap) w1 := by
  cases hn with
  | plain d hu hd hlen hf =>
    have hz : (match (generalizing := false) d with | .int _ => true | _ => false) = false := by cases d <;> simp at hd ⊢
    simp only [Builtin.append_, List.getElem?_toArray, List.getElem?_cons_zero, List.getElem?_cons_succ, Sem.run_bind, run_underlying ht, Result.andThen_ok, szT_run hs, run_underlying hu, Sem.run_pure, hz, Bool.false_eq_true, if_false, hlen, Bool.not_false, if_true]
    rw [if_pos hle]
    simp only [Sem.run_bind, hf, Result.andThen_ok]
    cases base with
    | none => simp [hb0 rfl]
    | some a => simp [hst a rfl]
  | made k l i z hu hx h0 h1 hnn hi hb hz hnew =>
    subst hx
    have w1' : IntKind.i64.wrap l = l := by simp [IntKind.wrap, IntKind.bits, IntKind.signed]; omega
    simp only [Builtin.append_, List.getElem?_toArray, List.getElem?_cons_zero, List.getElem?_cons_succ, Sem.run_bind, run_underlying ht, Result.andThen_ok, szT_run hs, run_underlying hu, Sem.run_pure, if_true, asInt, asIntOf, w1', run_typeInfo' hi, Bool.not_true]
    rw [if_neg (by omega)]
    simp only [Sem.run_bind, run_typeInfo' hi, Result.andThen_ok]
    rw [if_neg (by omega)]
    simp only [Sem.run_bind, Sem.run_pure, Result.andThen_ok]
    rw [← hnn]
    rw [if_pos hle]
    simp only [Bool.false_eq_true, if_false]
    subst hnew
    by_cases hc : n * size = 0
    · rw [if_pos hc] at hst
      rw [if_pos hc]
      simp only [Sem.run_bind, Sem.run_pure, Result.andThen_ok]
      cases base with
      | none => simp [hb0 rfl]
      | some a => have := hst a rfl; simp only [Sem.run_bind, Sem.run_pure, this, Result.andThen_ok]
    · rw [if_neg hc] at hst
      rw [if_neg hc]
      simp only [Sem.run_bind, Sem.run_pure, Result.andThen_ok, hz]
      cases base with
      | none => simp [hb0 rfl]
      | some a => have := hst a rfl; simp only [Sem.run_bind, Sem.run_pure, this, Result.andThen_ok]

theorem zeroOk_run {el size : Nat} (h : zeroOk P el size = true) : ∃ z, (∀ w, (zeroValue el).run P w = .ok z w) ∧ z.cells.size = size := by
  unfold zeroOk at h
  cases hi : P.info? el with
  | none => simp [hi] at h
  | some i =>
    simp only [hi] at h
    cases hz : i.zero with
    | none => simp [hz] at h
    | some v => simp only [hz] at h; exact ⟨v, fun w => by simp [zeroValue, run_typeInfo' hi, hz], Nat.eq_of_beq_eq_true h⟩

theorem zeroCells_size (z : Array Value) (n : Nat) : (Builtin.zeroCells z n).size = n * z.size := by simp [Builtin.zeroCells]

def drawn (w : World) : World := { w with drawn := w.drawn + 1 }

/-- append beyond the capacity: a new row. -/
theorem append_out {w : World} {t u ty el size bytes n len cap : Nat} {base : Option Addr} {x' : Value} {old' new' : Array Value} (ht : P.underlying t = some (.slice el)) (hs : szT P el = some size) (hby : byT P el = some bytes)
    (hf : fits (len + n) bytes = true) (hz0 : zeroOk P el size = true) (hn : NewRun P (drawn w) u el size x' n new') (hgt : cap < len + n)
    (hold : (Builtin.firstCells size len (.slice base len cap)).run P (drawn w) = .ok old' (drawn w)) (hos : old'.size = len * size) (hns : new'.size = n * size) :
    ∃ c more, len + n ≤ c ∧ (old' ++ new' ++ more : Array Value).size = c * size ∧
      (Builtin.append_ #[t, u] ty #[.slice base len cap, x']).run P w = .ok (.slice (some ⟨w.heap.size, 0, none⟩) (len + n) c) (World.push (drawn w) (.cells (old' ++ new' ++ more) el)) := by
  obtain ⟨z, hzr, hzs⟩ := zeroOk_run hz0
  obtain ⟨i, hi, hib⟩ := byT_info hby
  obtain ⟨f1, f2, f3⟩ := fits_iff hf
  have hroom := room_ok hf hgt
  have hneed := need_small hf
  obtain ⟨c, hcap, hch⟩ : ∃ c, len + n ≤ c ∧ (choose (Question.appendCap (len + n) cap el)).run P w = .ok c (drawn w) := by
    refine ⟨(Question.appendCap (len + n) cap el).cut (w.tape w.drawn (Question.appendCap (len + n) cap el)), by simp only [Question.cut]; omega, ?_⟩
    simp [run_choose, Question.forced, drawn]
  refine ⟨c, Builtin.zeroCells z.cells (c - (len + n)), hcap, ?_, ?_⟩
  · rw [Array.size_append, Array.size_append, hos, hns, zeroCells_size, hzs, ← Nat.add_mul, ← Nat.add_mul]
    congr 1
    omega
  · have hmax : ¬ (((len + n : Nat) : Int) > IntKind.i64.max) := by simp [IntKind.max, IntKind.bits, IntKind.signed]; omega
    have hsz' : (drawn w).heap.size = w.heap.size := rfl
    cases hn with
    | plain d hu hd hlen hfc =>
      have hz : (match (generalizing := false) d with | .int _ => true | _ => false) = false := by cases d <;> simp at hd ⊢
      simp only [Builtin.append_, List.getElem?_toArray, List.getElem?_cons_zero, List.getElem?_cons_succ, Sem.run_bind, run_underlying ht, Result.andThen_ok, szT_run hs, run_underlying hu, Sem.run_pure, hz, Bool.false_eq_true, if_false, hlen, Bool.not_false, if_true]
      rw [if_neg (by omega)]
      simp only [Sem.run_bind, run_typeInfo' hi, Result.andThen_ok]
      rw [if_neg (fun c => hmax c.1)]
      simp only [Sem.run_bind, run_typeInfo' hi, Result.andThen_ok, hib]
      rw [if_neg hroom]
      simp only [Sem.run_bind, hch, run_typeInfo' hi, Result.andThen_ok, run_askRoom, hold, hfc, hzr, newRow_run, Sem.run_pure, hsz']
    | made k l i2 z2 hu hx h0 h1 hnn hi2 hb hz hnew =>
      subst hx
      have w1' : IntKind.i64.wrap l = l := by simp [IntKind.wrap, IntKind.bits, IntKind.signed]; omega
      simp only [Builtin.append_, List.getElem?_toArray, List.getElem?_cons_zero, List.getElem?_cons_succ, Sem.run_bind, run_underlying ht, Result.andThen_ok, szT_run hs, run_underlying hu, Sem.run_pure, if_true, asInt, asIntOf, w1', run_typeInfo' hi, Bool.not_true]
      rw [if_neg (by omega)]
      rw [hi] at hi2; cases hi2
      simp only [Sem.run_bind, run_typeInfo' hi, Result.andThen_ok]
      rw [if_neg (by omega)]
      simp only [Sem.run_bind, Sem.run_pure, Result.andThen_ok]
      rw [← hnn]
      rw [if_neg (by omega)]
      simp only [Sem.run_bind, run_typeInfo' hi, Result.andThen_ok]
      rw [if_neg (fun c => hmax c.1)]
      simp only [Sem.run_bind, run_typeInfo' hi, Result.andThen_ok, hib]
      rw [if_neg hroom]
      simp only [Sem.run_bind, hch, run_typeInfo' hi, Result.andThen_ok, run_askRoom, hold]
      simp only [Bool.false_eq_true, if_false]
      subst hnew
      by_cases hc : n * size = 0
      · rw [if_pos hc, if_pos hc]
        simp only [Sem.run_bind, Sem.run_pure, Result.andThen_ok, hzr, newRow_run, hsz']
      · rw [if_neg hc, if_neg hc]
        have : z2 = z := by have h1 := hz w; rw [hzr w] at h1; injection h1 with h1; exact h1.symm
        subst this
        simp only [Sem.run_bind, Sem.run_pure, Result.andThen_ok, hzr, newRow_run, hsz']

/-! ## A name's next version -/
theorem joinC_get (ver : Nat) : ∀ (K : Nat) (new : List V) (cs : List (V × Nat)), K ≤ cs.length → (joinC ver K new cs).length = K + new.length ∧ ∀ k, (joinC ver K new cs)[k]? = if k < K then cs[k]? else (new[k - K]?).map (fun v => (v, ver))
  | 0, new, cs, _ => by
    have : joinC ver 0 new cs = new.map fun v => (v, ver) := by cases cs <;> rfl
    rw [this]; simp
  | K + 1, new, [], h => by simp at h
  | K + 1, new, c :: cs, h => by
    simp only [joinC]
    obtain ⟨h1, h2⟩ := joinC_get ver K new cs (by simpa using h)
    refine ⟨by simp [h1]; omega, fun k => ?_⟩
    cases k with
    | zero => simp
    | succ k =>
      simp only [List.getElem?_cons_succ, h2 k]
      by_cases hk : k < K
      · rw [if_pos hk, if_pos (by omega)]
      · rw [if_neg hk, if_neg (by omega), show k + 1 - (K + 1) = k - K by omega]

theorem OR.older {σ : S} {ver K : Nat} {cs : List (V × Nat)} {new : List V} {v b sh ext : Nat} {o : Option Obj} (h : OR σ (.cells ver cs) v b sh ext o) (hK : K ≤ cs.length) (o' : Option Obj)
    (ho : ∀ c t fz, o = some (.cells c t fz) → ∃ c', o' = some (.cells c' t fz) ∧ c'.size = c.size ∧ ∀ k x lo, k < K → cs[k]? = some (x, lo) → sh ≤ k → c'[k - sh]? = c[k - sh]?) :
    OR σ (.cells (ver + 1) (joinC (ver + 1) K new cs)) v b sh ext o' := by
  obtain ⟨h1, c, t, fz, e, h2, h3, h4, h6, h5⟩ := h
  obtain ⟨c', e', s', g'⟩ := ho c t fz e
  obtain ⟨j1, j2⟩ := joinC_get (ver + 1) K new cs hK
  refine ⟨by omega, c', t, fz, e', by omega, by rw [s']; exact h3, ?_, ?_, ?_⟩
  · rw [if_neg (by omega)]; omega
  · intro k x lo hk
    rw [j2] at hk
    by_cases hkK : k < K
    · rw [if_pos hkK] at hk; have := h6 k x lo hk; omega
    · rw [if_neg hkK] at hk
      cases hn : new[k - K]? with
      | none => simp [hn] at hk
      | some y => simp [hn] at hk; omega
  · intro k x lo hk hlo hsh
    rw [j2] at hk
    by_cases hkK : k < K
    · rw [if_pos hkK] at hk
      obtain ⟨x', g1, g2, g3⟩ := h5 k x lo hk hlo hsh
      exact ⟨x', by rw [g' k x lo hkK hk hsh]; exact g1, g2, g3⟩
    · rw [if_neg hkK] at hk
      cases hn : new[k - K]? with
      | none => simp [hn] at hk
      | some y => simp [hn] at hk; omega

theorem Rel.noNext {σ : S} {h : H} {w : World} (r : Rel σ h w) {i ver : Nat} {cs : List (V × Nat)} (ho : h.own.get i = some (.cells ver cs)) : σ.m i (ver + 1) = none := by
  cases e : σ.m i (ver + 1) with
  | none => rfl
  | some x =>
    obtain ⟨b, sh, ext⟩ := x
    have := (r.obj i _ _ _ _ _ ho e).1
    omega

/-- The next version lies in a new block. -/
theorem Rel.bumpNew {σ : S} {h : H} {w : World} (r : Rel σ h w) {i ver K sh' : Nat} {cs : List (V × Nat)} {new : List V} {x0 : Nat × Nat × Nat} {all : Array Value} {el : TypeId} (ho : h.own.get i = some (.cells ver cs)) (hm : σ.m i ver = some x0) (hK : K ≤ cs.length)
    (hsz : K + new.length ≤ sh' + all.size) (hnew : allAtoms new = true)
    (hcell : ∀ k x, (if k < K then (cs[k]?).map (·.1) else new[k - K]?) = some x → sh' ≤ k → ∃ x', all[k - sh']? = some x' ∧ VR σ x x' ∧ x.atom = true) :
    Sim σ h w (σ.bind i (ver + 1) (w.heap.size, sh', all.size)) (h.set i (.cells (ver + 1) (joinC (ver + 1) K new cs))) (World.push w (.cells all el)) := by
  have hnone := r.noNext ho
  have u : Up σ (σ.bind i (ver + 1) (w.heap.size, sh', all.size)) := S.bind_up hnone
  have hs := World.push_size w (.cells all el)
  have hn := r.low
  have hin : i < h.next := r.lt _ _ ho
  obtain ⟨j1, j2⟩ := joinC_get (ver + 1) K new cs hK
  have h60 : ∀ (k : Nat) x lo, cs[k]? = some (x, lo) → lo ≤ ver := by
    obtain ⟨b, sh, ext⟩ := x0
    obtain ⟨_, _, _, _, _, _, _, _, h6, _⟩ := r.obj i _ _ _ _ _ ho hm
    exact h6
  have old : ∀ j v x, (σ.bind i (ver + 1) (w.heap.size, sh', all.size)).m j v = some x → (j = i ∧ v = ver + 1 ∧ x = (w.heap.size, sh', all.size)) ∨ σ.m j v = some x := by
    intro j v x e
    simp only [S.bind] at e
    by_cases c : j = i ∧ v = ver + 1
    · rw [if_pos c] at e; cases e; exact .inl ⟨c.1, c.2, rfl⟩
    · rw [if_neg c] at e; exact .inr e
  refine ⟨⟨(by show σ.n0 ≤ _; omega), ?_, ?_, ?_, ?_, ?_, ?_, ?_, fun b hb => by rw [World.push_get_lt (Nat.lt_of_lt_of_le hb hn)]; exact r.old b hb⟩, u.mono, rfl, rfl, ?_, ?_, Nat.le_refl _, rfl, rfl, by omega, rfl, rfl, rfl, rfl, rfl⟩
  · intro j q v b sh e1 hq hmj
    rw [H.set_get] at hq
    rcases old j v _ hmj with ⟨rfl, rfl, hx⟩ | hm'
    · rw [if_pos rfl] at hq; cases hq; cases hx
      rw [World.push_get_eq]
      refine ⟨Nat.le_refl _, all, el, (0, 0), rfl, rfl, fun k _ c => by simp at c, ?_, ?_, ?_⟩
      · rw [if_pos rfl, j1]; exact hsz
      · intro k x lo hk
        rw [j2] at hk
        by_cases hkK : k < K
        · rw [if_pos hkK] at hk; have := h60 k x lo hk; omega
        · rw [if_neg hkK] at hk
          cases hnn : new[k - K]? with
          | none => simp [hnn] at hk
          | some y => simp [hnn] at hk; omega
      · intro k x lo hk hlo hsh
        rw [j2] at hk
        obtain ⟨x', g1, g2, g3⟩ := hcell k x (by
          by_cases hkK : k < K
          · rw [if_pos hkK] at hk ⊢; rw [hk]; rfl
          · rw [if_neg hkK] at hk ⊢
            cases hnn : new[k - K]? with
            | none => simp [hnn] at hk
            | some y => simp [hnn] at hk; rw [hk.1]) hsh
        exact ⟨x', g1, g2.up u, g3⟩
    · have hb := (r.high _ _ _ _ _ hm').2
      rw [World.push_get_lt hb]
      by_cases hji : j = i
      · subst hji
        rw [if_pos rfl] at hq; cases hq
        refine OR.older ((r.obj j _ _ _ _ _ ho hm').up u) hK _ ?_
        intro c t fz e
        exact ⟨c, e, rfl, fun _ _ _ _ _ _ => rfl⟩
      · rw [if_neg hji] at hq
        exact (r.obj j q v b sh e1 hq hm').up u
  · intro j v x e
    rw [H.set_get]
    by_cases hji : j = i
    · exact ⟨_, if_pos hji⟩
    · rw [if_neg hji]
      rcases old j v _ e with ⟨rfl, _, _⟩ | hm'
      · exact absurd rfl hji
      · exact r.dom j v x hm'
  · intro j q hq
    rw [H.set_get] at hq
    by_cases hji : j = i
    · subst hji; exact hin
    · rw [if_neg hji] at hq; exact r.lt j q hq
  · intro j v l q b sh e1 sh2 e2 h1 h2
    rcases old j v _ h1 with ⟨rfl, rfl, hx⟩ | h1' <;> rcases old l q _ h2 with ⟨rfl, rfl, hy⟩ | h2'
    · cases hx; cases hy; exact ⟨rfl, rfl, rfl⟩
    · cases hx; exact absurd (r.high _ _ _ _ _ h2').2 (Nat.lt_irrefl _)
    · cases hy; exact absurd (r.high _ _ _ _ _ h1').2 (Nat.lt_irrefl _)
    · exact r.inj _ _ _ _ _ _ _ _ _ h1' h2'
  · intro j v b sh e1 e
    rw [hs]
    rcases old j v _ e with ⟨rfl, rfl, hx⟩ | hm'
    · cases hx; exact ⟨hn, by omega⟩
    · obtain ⟨g1, g2⟩ := r.high _ _ _ _ _ hm'; exact ⟨g1, by omega⟩
  · intro j cs2 e
    obtain ⟨g0, c, t, fz, g1, g2⟩ := r.base j cs2 e
    have hlt : (σ.bs j).1 < w.heap.size := by
      rcases Nat.lt_or_ge (σ.bs j).1 w.heap.size with h' | h'
      · exact h'
      · rw [Array.getElem?_eq_none h'] at g1; cases g1
    refine ⟨g0, c, t, fz, ?_, fun k x ex => ?_⟩
    · show (World.push w _).heap[(σ.bs j).1]? = _; rw [World.push_get_lt hlt]; exact g1
    · obtain ⟨x', k1, k2, k3⟩ := g2 k x ex; exact ⟨x', k1, k2.up u, k3⟩
  · intro j cs2 e
    obtain ⟨g0, c, t, fz, g1, g2⟩ := r.glob j cs2 e
    have hlt : j < w.heap.size := by
      rcases Nat.lt_or_ge j w.heap.size with h' | h'
      · exact h'
      · rw [Array.getElem?_eq_none h'] at g1; cases g1
    refine ⟨g0, c, t, fz, ?_, fun k x ex => ?_⟩
    · rw [World.push_get_lt hlt]; exact g1
    · obtain ⟨x', k1, k2, k3⟩ := g2 k x ex; exact ⟨x', k1, k2.up u, k3⟩
  · intro j hj hmj
    have hne : j ≠ i := by intro e; subst e; rw [hmj] at hm; cases hm
    refine ⟨fun v => ?_, by rw [H.set_get, if_neg hne]⟩
    simp only [S.bind]
    rw [if_neg (by intro c; exact hne c.1)]; exact hmj v
  · intro b hb hmb
    refine ⟨World.push_get_lt hb, fun j v x e => ?_⟩
    rcases old j v _ e with ⟨rfl, rfl, hx⟩ | hm'
    · subst hx; simp; omega
    · exact hmb j v x hm'

/-- The next version lies where this one lies. -/
theorem Rel.bumpSame {σ : S} {h : H} {w : World} (r : Rel σ h w) {i ver K b sh ext : Nat} {cs : List (V × Nat)} {new : List V} {c0 : Array Value} {t0 : TypeId} {fz0 : Nat × Nat} {new' : List Value} (ho : h.own.get i = some (.cells ver cs)) (hm : σ.m i ver = some (b, sh, ext)) (hK : K ≤ cs.length) (hshK : sh ≤ K)
    (hw : w.heap[b]? = some (.cells c0 t0 fz0)) (hnew : allAtoms new = true) (hnr : VRs σ new new') (hfit : K - sh + new.length ≤ ext) :
    Sim σ h w (σ.bind i (ver + 1) (b, sh, ext)) (h.set i (.cells (ver + 1) (joinC (ver + 1) K new cs))) (World.put w b (.cells (wr c0 (K - sh) new') t0 fz0)) := by
  have hnone := r.noNext ho
  have u : Up σ (σ.bind i (ver + 1) (b, sh, ext)) := S.bind_up hnone
  have hs := World.put_size w b (.cells (wr c0 (K - sh) new') t0 fz0)
  have hn := r.low
  have hin : i < h.next := r.lt _ _ ho
  obtain ⟨hbn, hb⟩ := r.high _ _ _ _ _ hm
  obtain ⟨j1, j2⟩ := joinC_get (ver + 1) K new cs hK
  obtain ⟨_, c, t, fz, hc, hcs, hfz, hlen, h60, hg0⟩ := r.obj i _ _ _ _ _ ho hm
  rw [hw] at hc; cases hc
  have hnl := hnr.length
  have old : ∀ j v x, (σ.bind i (ver + 1) (b, sh, ext)).m j v = some x → (j = i ∧ v = ver + 1 ∧ x = (b, sh, ext)) ∨ σ.m j v = some x := by
    intro j v x e
    simp only [S.bind] at e
    by_cases c : j = i ∧ v = ver + 1
    · rw [if_pos c] at e; cases e; exact .inl ⟨c.1, c.2, rfl⟩
    · rw [if_neg c] at e; exact .inr e
  refine ⟨⟨(by show σ.n0 ≤ _; omega), ?_, ?_, ?_, ?_, ?_, ?_, ?_, fun c hc => by rw [World.put_get hb, if_neg (by have hc' : c < σ.n0 := hc; omega)]; exact r.old c hc⟩, u.mono, rfl, rfl, ?_, ?_, Nat.le_refl _, rfl, rfl, by omega, rfl, rfl, rfl, rfl, rfl⟩
  · intro j q v b2 sh2 e1 hq hmj
    rw [H.set_get] at hq
    rw [World.put_get hb]
    rcases old j v _ hmj with ⟨rfl, rfl, hx⟩ | hm'
    · rw [if_pos rfl] at hq; cases hq; cases hx
      rw [if_pos rfl]
      refine ⟨Nat.le_refl _, _, t0, fz0, rfl, by rw [wr_size]; exact hcs, by rw [wr_size]; exact hfz, ?_, ?_, ?_⟩
      · rw [if_pos rfl, j1]; omega
      · intro k x lo hk
        rw [j2] at hk
        by_cases hkK : k < K
        · rw [if_pos hkK] at hk; have := h60 k x lo hk; omega
        · rw [if_neg hkK] at hk
          cases hnn : new[k - K]? with
          | none => simp [hnn] at hk
          | some y => simp [hnn] at hk; omega
      · intro k x lo hk hlo hsh
        rw [j2] at hk
        rw [wr_get _ _ _ _ (by omega)]
        by_cases hkK : k < K
        · rw [if_pos hkK] at hk
          have hlo' := h60 k x lo hk
          obtain ⟨x', g1, g2, g3⟩ := hg0 k x lo hk hlo' hsh
          exact ⟨x', by rw [if_neg (by omega)]; exact g1, g2.up u, g3⟩
        · rw [if_neg hkK] at hk
          cases hnn : new[k - K]? with
          | none => simp [hnn] at hk
          | some y =>
            simp [hnn] at hk
            obtain ⟨rfl, rfl⟩ := hk
            obtain ⟨y', g1, g2⟩ := hnr.get _ _ hnn
            have hkl : k - K < new.length := by
              rcases Nat.lt_or_ge (k - K) new.length with h' | h'
              · exact h'
              · rw [List.getElem?_eq_none h'] at hnn; cases hnn
            refine ⟨y', ?_, g2.up u, allAtoms_get hnew _ _ hnn⟩
            rw [if_pos (by omega), ← g1]
            congr 1
            omega
    · by_cases hji : j = i
      · subst hji
        rw [if_pos rfl] at hq; cases hq
        refine OR.older ((r.obj j _ _ _ _ _ ho hm').up u) hK _ ?_
        intro c t fz e
        by_cases hbb : b2 = b
        · subst hbb
          obtain ⟨_, rfl, rfl⟩ := r.inj _ _ _ _ _ _ _ _ _ hm hm'
          rw [hw] at e; cases e
          refine ⟨_, by rw [if_pos rfl], wr_size _ _ _, ?_⟩
          intro k x lo hk _ hsh
          rw [wr_get _ _ _ _ (by omega), if_neg (by omega)]
        · exact ⟨c, by rw [if_neg hbb]; exact e, rfl, fun _ _ _ _ _ _ => rfl⟩
      · rw [if_neg hji] at hq
        have : b2 ≠ b := by intro e; subst e; exact hji (r.inj _ _ _ _ _ _ _ _ _ hm' hm).1
        rw [if_neg this]
        exact (r.obj j q v b2 sh2 e1 hq hm').up u
  · intro j v x e
    rw [H.set_get]
    by_cases hji : j = i
    · exact ⟨_, if_pos hji⟩
    · rw [if_neg hji]
      rcases old j v _ e with ⟨rfl, _, _⟩ | hm'
      · exact absurd rfl hji
      · exact r.dom j v x hm'
  · intro j q hq
    rw [H.set_get] at hq
    by_cases hji : j = i
    · subst hji; exact hin
    · rw [if_neg hji] at hq; exact r.lt j q hq
  · intro j v l q b2 s1 e1 s2 e2 h1 h2
    rcases old j v _ h1 with ⟨rfl, rfl, hx⟩ | h1' <;> rcases old l q _ h2 with ⟨rfl, rfl, hy⟩ | h2'
    · cases hx; cases hy; exact ⟨rfl, rfl, rfl⟩
    · cases hx; exact r.inj _ _ _ _ _ _ _ _ _ hm h2'
    · cases hy; exact r.inj _ _ _ _ _ _ _ _ _ h1' hm
    · exact r.inj _ _ _ _ _ _ _ _ _ h1' h2'
  · intro j v b2 s1 e1 e
    rw [hs]
    rcases old j v _ e with ⟨rfl, rfl, hx⟩ | hm'
    · cases hx; exact ⟨hbn, hb⟩
    · exact r.high _ _ _ _ _ hm'
  · intro j cs2 e
    obtain ⟨g0, c, t, fz, g1, g2⟩ := r.base j cs2 e
    refine ⟨g0, c, t, fz, ?_, fun k x ex => ?_⟩
    · show (World.put w b _).heap[(σ.bs j).1]? = _; rw [World.put_get hb, if_neg (by omega)]; exact g1
    · obtain ⟨x', k1, k2, k3⟩ := g2 k x ex; exact ⟨x', k1, k2.up u, k3⟩
  · intro j cs2 e
    obtain ⟨g0, c, t, fz, g1, g2⟩ := r.glob j cs2 e
    refine ⟨g0, c, t, fz, ?_, fun k x ex => ?_⟩
    · rw [World.put_get hb, if_neg (by omega)]; exact g1
    · obtain ⟨x', k1, k2, k3⟩ := g2 k x ex; exact ⟨x', k1, k2.up u, k3⟩
  · intro j hj hmj
    have hne : j ≠ i := by intro e; subst e; rw [hmj] at hm; cases hm
    refine ⟨fun v => ?_, by rw [H.set_get, if_neg hne]⟩
    simp only [S.bind]
    rw [if_neg (by intro c; exact hne c.1)]; exact hmj v
  · intro b2 hb2 hmb
    have hne : b2 ≠ b := by intro e; exact hmb i ver _ hm e.symm
    refine ⟨by rw [World.put_get hb, if_neg hne], fun j v x e => ?_⟩
    rcases old j v _ e with ⟨rfl, rfl, hx⟩ | hm'
    · subst hx; exact Ne.symm hne
    · exact hmb j v x hm'

theorem Sim.heapL {σ σ' : S} {h h' : H} {w w1 w' : World} (s : Sim σ h w1 σ' h' w') (e : w1.heap = w.heap) (io : w1.os = w.os ∧ w1.tape = w.tape ∧ w1.output = w.output := by exact ⟨rfl, rfl, rfl⟩) : Sim σ h w σ' h' w' where
  rel := s.rel
  mono := s.mono
  bs := s.bs
  n0 := s.n0
  unreal := s.unreal
  keep := fun b hb hk => by rw [← e]; exact s.keep b (by rw [e]; exact hb) hk
  next := s.next
  base := s.base
  glob := s.glob
  size := by rw [← e]; exact s.size
  h0 := s.h0
  good := s.good
  io := ⟨s.io.1.trans io.1, s.io.2.1.trans io.2.1, s.io.2.2.trans io.2.2⟩

end Go.Proofs.Ab
