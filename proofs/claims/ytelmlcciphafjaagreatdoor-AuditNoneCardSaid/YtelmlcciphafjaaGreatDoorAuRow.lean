/- AuditNone: the row and the card. -/
import Derived.Test.YtelmlcciphafjaaGreatDoorAh1
import Derived.Test.YtelmlcciphafjaaGreatDoorAuNone
import Derived.Test.YtelmlcciphafjaaGreatDoorRows
import Derived.Test.YtelmlcciphafjaaGreatDoorCards
import Derived.Test.YtelmlcciphafjaaGreatDoorTie
import Derived.WalkKit
import Derived.ProofKit
import Derived.Lay
import Derived.LaidOnce
import Derived.SevenTiedAt
import Derived.OpenShut
import Derived.Below
import Derived.Carry
import Derived.Handed
namespace Go.Proofs.YtelmlcciphafjaaGreatDoor
open Go Go.ChangeShapes Go.WideShapes Go.ChangeAt Go.RowKit Go.Proofs.Ab
set_option maxRecDepth 100000
theorem own : ownKnob Tryz.prog.godebug = none := by kernel_rfl
theorem laidOut : laidOutB Tryz.prog = true := by kernel_rfl
theorem c30 : Tryz.prog.cellsOf 30 = 15 := by kernel_rfl
theorem c25 : Tryz.prog.cellsOf 25 = 2 := by kernel_rfl
theorem c23 : Tryz.prog.cellsOf 23 = 1 := by kernel_rfl
theorem c26 : Tryz.prog.cellsOf 26 = 1 := by kernel_rfl
theorem c28 : Tryz.prog.cellsOf 28 = 4 := by kernel_rfl
theorem c22 : Tryz.prog.cellsOf 22 = 1 := by kernel_rfl
theorem c3 : Tryz.prog.cellsOf 3 = 1 := by kernel_rfl
theorem c5 : Tryz.prog.cellsOf 5 = 1 := by kernel_rfl
theorem c9 : Tryz.prog.cellsOf 9 = 1 := by kernel_rfl
variable {H : Type} {enc : TypeId × Value → H} {W : World} {glob : Nat → Option (List V)}
theorem prin_read {n : Nat} {a b : Value} {x : DataW H × List MemPlace} (h : DataW.trod enc Tryz.prog W 0 (fun _ => true) true n 25 [a, b] = some x) :
    a.oneCell' = true ∧ b.oneCell' = true ∧ (∃ m, StrSl ⟨.e, 0, baseOf W, glob⟩ (readV W.heap.size a) m) ∧ ∃ s, readV W.heap.size b = .str s := by
  obtain ⟨_, m, hf⟩ := struct_at Tryz.underlying25 h
  obtain ⟨y0, h0⟩ := hf 0 23 0 1 rfl c23
  obtain ⟨y1, h1⟩ := hf 1 9 1 1 rfl c9
  obtain ⟨e1, e2⟩ := strs_read (glob := glob) Tryz.underlying23 Tryz.underlying9 c9 h0
  obtain ⟨s, e3, _⟩ := DataW.trod_string Tryz.underlying9 h1
  simp at e3
  subst e3
  exact ⟨e1, rfl, e2, s.data.toList, rfl⟩
theorem int_read {n t : Nat} {q : IntKind} {a : Value} {x : DataW H × List MemPlace} (ht : Tryz.prog.underlying t = some (.int q)) (h : DataW.trod enc Tryz.prog W 0 (fun _ => true) true n t [a] = some x) : a.oneCell' = true ∧ ∃ m, readV W.heap.size a = .int q m := by
  obtain ⟨m, e, _⟩ := DataW.trod_int ht h
  simp at e
  subst e
  exact ⟨rfl, m, rfl⟩

theorem vrs_read {σ : S} {N : Nat} (hb : σ.bs = bsOf N) : ∀ {cs : List Value}, (∀ c ∈ cs, c.oneCell' = true) → VRs σ (cs.map (readV N)) cs
  | [], _ => .nil
  | c :: cs, h => .cons _ _ _ _ (readV_ok hb (h c (List.mem_cons_self ..))) (vrs_read hb fun d hd => h d (List.mem_cons_of_mem _ hd))

theorem event_read {n : Nat} {cs : List Value} {x : DataW H × List MemPlace} (h : DataW.trod enc Tryz.prog W 0 (fun _ => true) true n 30 cs = some x) :
    (∀ c ∈ cs, c.oneCell' = true) ∧ ∃ (k0 t0 x1 x2 x3 x4 : Int) (cp sp bp se au tr : V) (cr sr br : List UInt8) (n1 n2 n3 n4 n5 n6 : Nat), cs.map (readV W.heap.size) = [.int .i64 k0, .int .i64 t0, cp, .str cr, sp, .str sr, bp, .str br, se, au, .int .i64 x1, .int .i64 x2, .int .i64 x3, .int .i64 x4, tr] ∧
      StrSl ⟨.e, 0, baseOf W, glob⟩ cp n1 ∧ StrSl ⟨.e, 0, baseOf W, glob⟩ sp n2 ∧ StrSl ⟨.e, 0, baseOf W, glob⟩ bp n3 ∧ SlV se n4 ∧ SlV au n5 ∧ StrSl ⟨.e, 0, baseOf W, glob⟩ tr n6 := by
  obtain ⟨hl, m, hf⟩ := struct_at Tryz.underlying30 h
  rw [c30] at hl
  match cs, hl with
  | [a0, a1, a2, a3, a4, a5, a6, a7, a8, a9, a10, a11, a12, a13, a14], _ =>
    obtain ⟨y0, h0⟩ := hf 0 22 0 1 rfl c22
    obtain ⟨y1, h1⟩ := hf 1 3 1 1 rfl c3
    obtain ⟨y2, h2⟩ := hf 2 25 2 2 rfl c25
    obtain ⟨y3, h3⟩ := hf 3 25 4 2 rfl c25
    obtain ⟨y4, h4⟩ := hf 4 25 6 2 rfl c25
    obtain ⟨y5, h5⟩ := hf 5 26 8 1 rfl c26
    obtain ⟨y6, h6⟩ := hf 6 26 9 1 rfl c26
    obtain ⟨y7, h7⟩ := hf 7 28 10 4 rfl c28
    obtain ⟨y8, h8⟩ := hf 8 23 14 1 rfl c23
    obtain ⟨o0, k0, e0⟩ := int_read Tryz.underlying22 h0
    obtain ⟨o1, t0, e1⟩ := int_read Tryz.underlying3 h1
    obtain ⟨o2, o3, ⟨n1, e2⟩, cr, e3⟩ := prin_read (glob := glob) h2
    obtain ⟨o4, o5, ⟨n2, e4⟩, sr, e5⟩ := prin_read (glob := glob) h3
    obtain ⟨o6, o7, ⟨n3, e6⟩, br, e7⟩ := prin_read (glob := glob) h4
    obtain ⟨o8, n4, e8⟩ := ints_read Tryz.underlying26 Tryz.underlying5 c5 h5
    obtain ⟨o9, n5, e9⟩ := ints_read Tryz.underlying26 Tryz.underlying5 c5 h6
    obtain ⟨o14, n6, e14⟩ := strs_read (glob := glob) Tryz.underlying23 Tryz.underlying9 c9 h8
    obtain ⟨_, m7, hf7⟩ := struct_at Tryz.underlying28 h7
    obtain ⟨z0, g0⟩ := hf7 0 3 0 1 rfl c3
    obtain ⟨z1, g1⟩ := hf7 1 3 1 1 rfl c3
    obtain ⟨z2, g2⟩ := hf7 2 3 2 1 rfl c3
    obtain ⟨z3, g3⟩ := hf7 3 3 3 1 rfl c3
    obtain ⟨o10, x1, e10⟩ := int_read Tryz.underlying3 g0
    obtain ⟨o11, x2, e11⟩ := int_read Tryz.underlying3 g1
    obtain ⟨o12, x3, e12⟩ := int_read Tryz.underlying3 g2
    obtain ⟨o13, x4, e13⟩ := int_read Tryz.underlying3 g3
    refine ⟨by simp_all, k0, t0, x1, x2, x3, x4, _, _, _, _, _, _, cr, sr, br, n1, n2, n3, n4, n5, n6, ?_, e2, e4, e6, e8, e9, e14⟩
    simp only [List.map_cons, List.map_nil, e0, e1, e3, e5, e7, e10, e11, e12, e13]

theorem noneCalls {ix : Int} {cs : Array Value} {n : Nat} {x : DataW H × List MemPlace} (h : DataW.trod enc Tryz.prog W 0 (fun _ => true) true n 30 cs.toList = some x) :
    Calls Tryz.prog 3 #[.agg cs, .int .i64 ix] W fun e W' => e = .returned (.bool true) ∧ Below W.heap.size W W' := by
  obtain ⟨ho, k0, t0, x1, x2, x3, x4, cp, sp, bp, se, au, tl, cr, sr, br, n1, n2, n3, n4, n5, n6, e, h1, h2, h3, h4, h5, h6⟩ := event_read (glob := fun _ => none) h
  have r := start_rel (W := W) (glob := fun _ => none) (good := fun _ _ => True) (fun g cs h => by cases h)
  have tr := noneWalk (ix := ix) h1 h2 h3 h4 h5 h6 (k0 := k0) (t0 := t0) (x1 := x1) (x2 := x2) (x3 := x3) (x4 := x4) (cr := cr) (sr := sr) (br := br)
  have hv : VRs (S.start W (bsOf W.heap.size) (fun _ _ => True)) [.agg [.int .i64 k0, .int .i64 t0, cp, .str cr, sp, .str sr, bp, .str br, se, au, .int .i64 x1, .int .i64 x2, .int .i64 x3, .int .i64 x4, tl], .int .i64 ix] #[.agg cs, .int .i64 ix].toList := by
    refine .cons _ _ _ _ (.agg _ _ ?_) (.cons _ _ _ _ (.int _ _) .nil)
    rw [← e]
    exact vrs_read rfl ho
  exact calls_of_tr tr (fun r h' h => h) r hv

def laidN : List (String × DataW Unit) := [("unicode/utf8.acceptRanges", Rows.laid_unicode_utf8_acceptRanges), ("unicode/utf8.first", Rows.laid_unicode_utf8_first)]
theorem lifted (os : Os) (started : os.Started) (H : Type) (enc : TypeId × Value → H) :
    ReturnsInHanded {} Tryz.checked os 3 .any (fun w args => (Rows.auditNoneSpec.pre enc Tryz.prog Tryz.f3 [] false w args ∧ laidMetH Tryz.prog laidN w) ∧ sizedMet enc Tryz.prog Tryz.f3 (OpenSpec.ofChange Rows.auditNoneSpec) false w args)
      (Rows.auditNoneSpec.post enc Tryz.prog Tryz.f3 false true false false) := by
  refine returnsInHanded_of_change_and (C := Tryz.checked) (X := fun w _ => laidMetH Tryz.prog laidN w) (fun _ _ _ hh h => h.of_heap hh) own started (by kernel_rfl) Tryz.func3
    (ChangeSpec.witness_shaped (enc := enc) (C := Tryz.checked) (os := os) (X := fun w _ => laidMetH Tryz.prog laidN w) false (World.laidAll Tryz.prog os laidN)
      #[.agg #[.int .i64 0, .int .i64 0, .slice none 0 0, .string ByteArray.empty, .slice none 0 0, .string ByteArray.empty, .slice none 0 0, .string ByteArray.empty, .slice none 0 0, .slice none 0 0, .int .i64 0, .int .i64 0, .int .i64 0, .int .i64 0, .slice none 0 0], .int .i64 0] 8 (World.laidAll_os _ _ _)
      (World.shaped_of_ZipB (by kernel_rfl) (by kernel_rfl)) (by kernel_rfl) (by kernel_rfl) (by kernel_rfl)
      (by rw [MakeChecks.laidMetH_plain _ _ _ (by kernel_rfl)]; exact laidMet_laidAll _ (by kernel_rfl) (by kernel_rfl))) ?_
  intro W base args ds gs before hval0 hW _ _ _ _
  have hval : ∀ (j : Nat) t v, Tryz.f3.params[j]? = some t → args[j]? = some v → Value.okWide Tryz.prog W .any base t v := hval0
  have hW' := hW
  obtain ⟨p, q, hA0, hV, rfl, _, _⟩ := hW
  have hA : DataW.TrodAll enc Tryz.prog W 0 (fun _ => true) true Tryz.f3.params.toList args.toList ds p := hA0
  rw [Tryz.params3] at hA hval
  obtain ⟨v0, vs0, d0, ds0, p0, q0, hargs, rfl, rfl, h0, r0⟩ := trodAll_cons hA
  obtain ⟨v1, vs1, d1, ds1, p1, q1, rfl, rfl, rfl, h1, r1⟩ := trodAll_cons r0
  obtain ⟨rfl, rfl, rfl⟩ := trodAll_nil r1
  obtain rfl : args = #[v0, v1] := by cases args; simp_all
  obtain ⟨rfl, rfl⟩ := trodVars_none hV
  obtain ⟨cs, rfl, _, _⟩ : ∃ cs, v0 = .agg cs ∧ cs.size = Tryz.prog.cellsOf 30 ∧ Row.okWide Tryz.prog W .any base 30 cs := by
    have := hval 0 30 v0 rfl rfl
    unfold Value.okWide at this
    rw [Tryz.underlying30] at this
    exact this
  have k0 := h0
  have lt0 : ∀ x ∈ p0, x.block < W.heap.size := by obtain ⟨m, hm⟩ := k0; exact DataW.trod_lt m _ _ _ hm
  obtain ⟨fuel, hf⟩ := h0
  obtain ⟨a1, rfl, rfl, rfl, w1⟩ := open_int Tryz.underlying3 (hval 1 3 v1 rfl rfl) h1
  refine (noneCalls (ix := a1) hf).mono fun e W' ⟨he, bel⟩ => ?_
  subst he
  exact ⟨_, rfl, _, _, _, [], _, [], hW', trodAll_mk1 (shut_bool Tryz.underlying4 _), (trodAll_cons_mk (Below.trod laidOut (by kernel_rfl) (of_decide_eq_true (by kernel_rfl)) k0 bel lt0) (trodAll_cons_mk (shut_int Tryz.underlying3 w1) trodAll_mk0)), rfl, bel.frame _, fun h => by cases h⟩

theorem said : Rows.AuditNoneSaid :=
  OpenClaim.holds_of_wide 3 Tryz.f3 rfl rfl rfl rfl rfl rfl rfl ⟨rfl, rfl, rfl, rfl, rfl⟩ rfl rfl rfl rfl rfl (by kernel_rfl) Tryz.func3 (by kernel_rfl)
    (of_decide_eq_true (by kernel_rfl)) (by unfold Func.isWrapper; first | (rw [if_pos (by decide +kernel)]; kernel_rfl) | (rw [if_neg (by decide +kernel)]; exact ⟨rfl, rfl⟩))
    (fun os started H enc _ => lifted os started H enc)

theorem auditNone_holds : Rows.AuditNoneCardSaid :=
  Claim7.holds_tied_plain_at .later [] [.data, .pinned] true (true, "53f14e9779c1740188337dccfb8c7929d5841079e49684191cf7f461b8e63a2e") true said (fun _ h => by cases h) (by kernel_rfl) (fun _ h => by cases h) auditNone_row_tie rfl ⟨rfl, rfl⟩ (by kernel_rfl) rfl
    (fun f fn hf hfn => by
      obtain rfl : f = 3 := Option.some.inj ((show Tryz.prog.funcNamed "watchword/watchwordlaw49.AuditNone" = some 3 by kernel_rfl).symm.trans hf) |>.symm
      obtain rfl : fn = Tryz.f3 := (Option.some.inj (Tryz.func3.symm.trans hfn)).symm
      exact ⟨by kernel_rfl, fun j t ht => by
        rw [Tryz.params3] at ht
        have hm : t ∈ [30, 3] := by simpa using Array.mem_of_getElem? ht
        have hall : ([30, 3].all fun u => !Tryz.prog.wantsStandIn u) = true := by kernel_rfl
        exact (show Tryz.prog.wantsStandIn t = false by simpa using List.all_eq_true.1 hall t hm)⟩)
    (by kernel_rfl)
#print axioms auditNone_holds
end Go.Proofs.YtelmlcciphafjaaGreatDoor
