import Derived.Test.YtelmlcciphafjaaGreatDoorAuBase

namespace Go.Proofs.Ab
open Go Go.RowKit
set_option maxRecDepth 100000
set_option maxHeartbeats 0
/-- A row of strings that was handed in. -/
def StrSl (h : H) (v : V) (n : Nat) : Prop := (v = .nilsl ∧ n = 0) ∨ ∃ a c, v = .sl a n (.kn c) ∧ (∀ i, a.blk ≠ .own i) ∧ ∀ i, i < n → ∃ s, h.cell (a.add i) = some (.str s)
theorem StrSl.new {h : H} {v : V} {n : Nat} (e : StrSl h v n) (o : O) : StrSl (h.new o) v n := by
  rcases e with e | ⟨a, c, e, ha, hc⟩
  · exact .inl e
  · exact .inr ⟨a, c, e, ha, fun i hi => by rw [cell_new o (a := a.add i) (fun j => ha j)]; exact hc i hi⟩

theorem StrSl.slv {h : H} {v : V} {n : Nat} (e : StrSl h v n) : SlV v n := by
  rcases e with e | ⟨a, c, e, _⟩
  · exact .inl e
  · exact .inr ⟨a, _, e⟩

theorem short_tr {X : Ext} (eo : EOk (EE Tryz.prog X)) {pv : V} {m : Nat} {realm : List UInt8} {h : H} {k : Rs → H → Prop} (hp : StrSl h pv m) (hk : ∀ b, k (.cr (.ret (.bool b)) .plain) h) : Tr Tryz.prog (.call 15 [.agg [pv, .str realm]] .plain) h k := by
  refine Tr.clean ?_
  rcases hp with ⟨rfl, rfl⟩ | ⟨a, c, rfl, ha, hc⟩
  · refine tr_call (n := 32) eo Tryz.func15 rfl rfl rfl (fun _ q => q) ?_
    repeat' (first
    | (first
       | refine ops_nil ?_
       | refine seqK_n ?_
       | refine seqK_exit ?_
       | refine seqK_ret ?_
       | refine blockK_n ?_
       | refine blockK_exit rfl ?_
       | refine blockK_ret ?_
       | refine loopK_exit ?_
       | refine loopK_ret ?_
       | refine tr_seq eo ?_
       | refine tr_region eo ?_
       | refine tr_block eo ?_
       | refine tr_condT eo (fun _ q => q) ?_
       | refine tr_condF eo (fun _ q => q) ?_
       | refine tr_skip eo ?_
       | refine tr_exit eo ?_
       | refine tr_ret eo ?_)
    | (first
       | refine ld_new_self rfl ?_
       | refine ld_set_self rfl ?_
       | (apply ld_get; assumption; exact rfl)
       | (apply ld_fact; assumption)
       | refine ld_new_ne (by first | assumption | (simp only [H.new_next, H.set_next]; omega)) ?_
       | refine ld_set_ne (by first | assumption | (simp only [H.new_next, H.set_next]; omega)) ?_
       | refine lds_new_self rfl ?_
       | refine lds_set_self rfl ?_
       | (apply lds_get; assumption; exact rfl)
       | (apply lds_fact; assumption)
       | refine lds_new_ne (by first | assumption | (simp only [H.new_next, H.set_next]; omega)) ?_
       | refine lds_set_ne (by first | assumption | (simp only [H.new_next, H.set_next]; omega)) ?_
       | refine st_new_self rfl rfl ?_
       | refine st_set_self rfl rfl ?_
       | refine set_fin (fun _ q => q) ?_)
    | (first
       | refine ops_mv rfl rfl (fun _ q => q) rfl rfl (fun _ q => q) ?_
       | refine ops_as rfl rfl (fun _ q => q) rfl rfl (fun _ q => q) ?_
       | refine ops_pickT rfl rfl (fun _ q => q) (fun _ q => q) rfl rfl (fun _ q => q) ?_
       | refine ops_pickF rfl rfl (fun _ q => q) (fun _ q => q) rfl rfl (fun _ q => q) ?_
       | refine ops_add rfl rfl (fun _ q => q) (fun _ q => q) (by omega) rfl rfl (fun _ q => q) ?_
       | refine ops_bin (v := .bool true) rfl rfl (fun _ q => q) (fun _ q => q) rfl rfl rfl rfl rfl (fun _ q => q) ?_
       | refine ops_bin (v := .bool false) rfl rfl (fun _ q => q) (fun _ q => q) rfl rfl rfl rfl rfl (fun _ q => q) ?_
       | refine ops_cmpP rfl rfl (fun _ q => q) (fun _ q => q) rfl rfl rfl rfl rfl (fun _ q => q) (fun _ q => q) (fun hp => ?_) (fun hp => ?_)
       | refine ops_cmpN rfl rfl (fun _ q => q) (fun _ q => q) rfl rfl rfl rfl rfl (fun _ q => q) (fun _ q => q) (fun hp => ?_) (fun hp => ?_)
       | refine ops_box rfl rfl (fun _ q => q) (by first | rfl | simp only [allAtoms, cells_agg, atom_int, atom_str, atom_bool, atom_ptr, atom_sl, atom_map, atom_fn, Bool.and_self, *]) (fun _ q => q) rfl rfl (fun _ q => q) ?_
       | refine ops_ld rfl rfl (fun _ q => q) rfl rfl rfl ?_
       | refine ops_lds rfl rfl (fun _ q => q) rfl rfl rfl rfl ?_
       | refine ops_st rfl rfl (fun _ q => q) (fun _ q => q) rfl (fun _ q => q) rfl rfl ?_
       | refine ops_at1 rfl rfl (fun _ q => q) (fun _ q => q) rfl rfl (by omega) rfl rfl (fun _ q => q) ?_
       | refine ops_at rfl rfl (fun _ q => q) (fun _ q => q) rfl rfl (by omega) rfl rfl (fun _ q => q) ?_
       | refine ops_v rfl rfl rfl (fun _ q => q) rfl rfl (fun _ q => q) ?_
       | refine ops_lenS rfl rfl (fun _ q => q) rfl rfl rfl (fun _ q => q) (by assumption) ?_
       | refine ops_un rfl rfl rfl (fun _ q => q) ?_))
    refine tr_loop eo ?_
    repeat' (first
    | (first
       | refine ops_nil ?_
       | refine seqK_n ?_
       | refine seqK_exit ?_
       | refine seqK_ret ?_
       | refine blockK_n ?_
       | refine blockK_exit rfl ?_
       | refine blockK_ret ?_
       | refine loopK_exit ?_
       | refine loopK_ret ?_
       | refine tr_seq eo ?_
       | refine tr_region eo ?_
       | refine tr_block eo ?_
       | refine tr_condT eo (fun _ q => q) ?_
       | refine tr_condF eo (fun _ q => q) ?_
       | refine tr_skip eo ?_
       | refine tr_exit eo ?_
       | refine tr_ret eo ?_)
    | (first
       | refine ld_new_self rfl ?_
       | refine ld_set_self rfl ?_
       | (apply ld_get; assumption; exact rfl)
       | (apply ld_fact; assumption)
       | refine ld_new_ne (by first | assumption | (simp only [H.new_next, H.set_next]; omega)) ?_
       | refine ld_set_ne (by first | assumption | (simp only [H.new_next, H.set_next]; omega)) ?_
       | refine lds_new_self rfl ?_
       | refine lds_set_self rfl ?_
       | (apply lds_get; assumption; exact rfl)
       | (apply lds_fact; assumption)
       | refine lds_new_ne (by first | assumption | (simp only [H.new_next, H.set_next]; omega)) ?_
       | refine lds_set_ne (by first | assumption | (simp only [H.new_next, H.set_next]; omega)) ?_
       | refine st_new_self rfl rfl ?_
       | refine st_set_self rfl rfl ?_
       | refine set_fin (fun _ q => q) ?_)
    | (first
       | refine ops_mv rfl rfl (fun _ q => q) rfl rfl (fun _ q => q) ?_
       | refine ops_as rfl rfl (fun _ q => q) rfl rfl (fun _ q => q) ?_
       | refine ops_pickT rfl rfl (fun _ q => q) (fun _ q => q) rfl rfl (fun _ q => q) ?_
       | refine ops_pickF rfl rfl (fun _ q => q) (fun _ q => q) rfl rfl (fun _ q => q) ?_
       | refine ops_add rfl rfl (fun _ q => q) (fun _ q => q) (by omega) rfl rfl (fun _ q => q) ?_
       | refine ops_bin (v := .bool true) rfl rfl (fun _ q => q) (fun _ q => q) rfl rfl rfl rfl rfl (fun _ q => q) ?_
       | refine ops_bin (v := .bool false) rfl rfl (fun _ q => q) (fun _ q => q) rfl rfl rfl rfl rfl (fun _ q => q) ?_
       | refine ops_cmpP rfl rfl (fun _ q => q) (fun _ q => q) rfl rfl rfl rfl rfl (fun _ q => q) (fun _ q => q) (fun hp => ?_) (fun hp => ?_)
       | refine ops_cmpN rfl rfl (fun _ q => q) (fun _ q => q) rfl rfl rfl rfl rfl (fun _ q => q) (fun _ q => q) (fun hp => ?_) (fun hp => ?_)
       | refine ops_box rfl rfl (fun _ q => q) (by first | rfl | simp only [allAtoms, cells_agg, atom_int, atom_str, atom_bool, atom_ptr, atom_sl, atom_map, atom_fn, Bool.and_self, *]) (fun _ q => q) rfl rfl (fun _ q => q) ?_
       | refine ops_ld rfl rfl (fun _ q => q) rfl rfl rfl ?_
       | refine ops_lds rfl rfl (fun _ q => q) rfl rfl rfl rfl ?_
       | refine ops_st rfl rfl (fun _ q => q) (fun _ q => q) rfl (fun _ q => q) rfl rfl ?_
       | refine ops_at1 rfl rfl (fun _ q => q) (fun _ q => q) rfl rfl (by omega) rfl rfl (fun _ q => q) ?_
       | refine ops_at rfl rfl (fun _ q => q) (fun _ q => q) rfl rfl (by omega) rfl rfl (fun _ q => q) ?_
       | refine ops_v rfl rfl rfl (fun _ q => q) rfl rfl (fun _ q => q) ?_
       | refine ops_lenS rfl rfl (fun _ q => q) rfl rfl rfl (fun _ q => q) (by assumption) ?_
       | refine ops_un rfl rfl rfl (fun _ q => q) ?_))
    all_goals
      refine callK_end eo Tryz.func15 (fun _ q => q) (fun _ q => q) ⟨_, rfl, rfl, fun i hi => ?_, hk _⟩
      exact get_new_ne (by omega)
  · refine tr_call (n := 32) eo Tryz.func15 rfl rfl rfl (fun _ q => q) ?_
    repeat' (first
    | (first
       | refine ops_nil ?_
       | refine seqK_n ?_
       | refine seqK_exit ?_
       | refine seqK_ret ?_
       | refine blockK_n ?_
       | refine blockK_exit rfl ?_
       | refine blockK_ret ?_
       | refine loopK_exit ?_
       | refine loopK_ret ?_
       | refine tr_seq eo ?_
       | refine tr_region eo ?_
       | refine tr_block eo ?_
       | refine tr_condT eo (fun _ q => q) ?_
       | refine tr_condF eo (fun _ q => q) ?_
       | refine tr_skip eo ?_
       | refine tr_exit eo ?_
       | refine tr_ret eo ?_)
    | (first
       | refine ld_new_self rfl ?_
       | refine ld_set_self rfl ?_
       | (apply ld_get; assumption; exact rfl)
       | (apply ld_fact; assumption)
       | refine ld_new_ne (by first | assumption | (simp only [H.new_next, H.set_next]; omega)) ?_
       | refine ld_set_ne (by first | assumption | (simp only [H.new_next, H.set_next]; omega)) ?_
       | refine lds_new_self rfl ?_
       | refine lds_set_self rfl ?_
       | (apply lds_get; assumption; exact rfl)
       | (apply lds_fact; assumption)
       | refine lds_new_ne (by first | assumption | (simp only [H.new_next, H.set_next]; omega)) ?_
       | refine lds_set_ne (by first | assumption | (simp only [H.new_next, H.set_next]; omega)) ?_
       | refine st_new_self rfl rfl ?_
       | refine st_set_self rfl rfl ?_
       | refine set_fin (fun _ q => q) ?_)
    | (first
       | refine ops_mv rfl rfl (fun _ q => q) rfl rfl (fun _ q => q) ?_
       | refine ops_as rfl rfl (fun _ q => q) rfl rfl (fun _ q => q) ?_
       | refine ops_pickT rfl rfl (fun _ q => q) (fun _ q => q) rfl rfl (fun _ q => q) ?_
       | refine ops_pickF rfl rfl (fun _ q => q) (fun _ q => q) rfl rfl (fun _ q => q) ?_
       | refine ops_add rfl rfl (fun _ q => q) (fun _ q => q) (by omega) rfl rfl (fun _ q => q) ?_
       | refine ops_bin (v := .bool true) rfl rfl (fun _ q => q) (fun _ q => q) rfl rfl rfl rfl rfl (fun _ q => q) ?_
       | refine ops_bin (v := .bool false) rfl rfl (fun _ q => q) (fun _ q => q) rfl rfl rfl rfl rfl (fun _ q => q) ?_
       | refine ops_cmpP rfl rfl (fun _ q => q) (fun _ q => q) rfl rfl rfl rfl rfl (fun _ q => q) (fun _ q => q) (fun hp => ?_) (fun hp => ?_)
       | refine ops_cmpN rfl rfl (fun _ q => q) (fun _ q => q) rfl rfl rfl rfl rfl (fun _ q => q) (fun _ q => q) (fun hp => ?_) (fun hp => ?_)
       | refine ops_box rfl rfl (fun _ q => q) (by first | rfl | simp only [allAtoms, cells_agg, atom_int, atom_str, atom_bool, atom_ptr, atom_sl, atom_map, atom_fn, Bool.and_self, *]) (fun _ q => q) rfl rfl (fun _ q => q) ?_
       | refine ops_ld rfl rfl (fun _ q => q) rfl rfl rfl ?_
       | refine ops_lds rfl rfl (fun _ q => q) rfl rfl rfl rfl ?_
       | refine ops_st rfl rfl (fun _ q => q) (fun _ q => q) rfl (fun _ q => q) rfl rfl ?_
       | refine ops_at1 rfl rfl (fun _ q => q) (fun _ q => q) rfl rfl (by omega) rfl rfl (fun _ q => q) ?_
       | refine ops_at rfl rfl (fun _ q => q) (fun _ q => q) rfl rfl (by omega) rfl rfl (fun _ q => q) ?_
       | refine ops_v rfl rfl rfl (fun _ q => q) rfl rfl (fun _ q => q) ?_
       | refine ops_lenS rfl rfl (fun _ q => q) rfl rfl rfl (fun _ q => q) (by assumption) ?_
       | refine ops_un rfl rfl rfl (fun _ q => q) ?_))
    have hc1 : ∀ i, i < m → ∃ s, (h.new (.cells 0 [(.sl a m (.kn c), 0), (.str realm, 0)])).cell (a.add i) = some (.str s) := fun i hi => by rw [cell_new _ (a := a.add i) (fun j => ha j)]; exact hc i hi
    refine tr_loop_inv eo (ι := Int) (fun i g => mkT [g 0, .ptr ⟨.own h.next, 0, 0⟩, .bool false, .int .i64 i, g 4, g 5, g 6, g 7, g 8, g 9, g 10, g 11, g 12, g 13, g 14, g 15, g 16, g 17, g 18, g 19, g 20, g 21, g 22, g 23, g 24, g 25, g 26, g 27, g 28, g 29, g 30, g 31]) (fun i h' => h' = h.new (.cells 0 [(.sl a m (.kn c), 0), (.str realm, 0)]) ∧ 0 ≤ i ∧ i ≤ 7) (fun i => (7 - i).toNat) 0 ⟨rfl, by omega, by omega⟩ rfl ?_
    rintro i _ g ⟨rfl, h1, h2⟩ again
    refine tr_norm (fun _ q => q) ?_
    by_cases hi : i.toNat < m
    · obtain ⟨s, hs⟩ := hc1 i.toNat hi
      repeat' (first
      | (first
         | refine ops_nil ?_
         | refine seqK_n ?_
         | refine seqK_exit ?_
         | refine seqK_ret ?_
         | refine blockK_n ?_
         | refine blockK_exit rfl ?_
         | refine blockK_ret ?_
         | refine loopK_exit ?_
         | refine loopK_ret ?_
         | refine tr_seq eo ?_
         | refine tr_region eo ?_
         | refine tr_block eo ?_
         | refine tr_condT eo (fun _ q => q) ?_
         | refine tr_condF eo (fun _ q => q) ?_
         | refine tr_skip eo ?_
         | refine tr_exit eo ?_
         | refine tr_ret eo ?_)
      | (first
         | refine ld_new_self rfl ?_
         | refine ld_set_self rfl ?_
         | (apply ld_get; assumption; exact rfl)
         | (apply ld_fact; assumption)
         | refine ld_new_ne (by first | assumption | (simp only [H.new_next, H.set_next]; omega)) ?_
         | refine ld_set_ne (by first | assumption | (simp only [H.new_next, H.set_next]; omega)) ?_
         | refine lds_new_self rfl ?_
         | refine lds_set_self rfl ?_
         | (apply lds_get; assumption; exact rfl)
         | (apply lds_fact; assumption)
         | refine lds_new_ne (by first | assumption | (simp only [H.new_next, H.set_next]; omega)) ?_
         | refine lds_set_ne (by first | assumption | (simp only [H.new_next, H.set_next]; omega)) ?_
         | refine st_new_self rfl rfl ?_
         | refine st_set_self rfl rfl ?_
         | refine set_fin (fun _ q => q) ?_)
      | (first
         | refine ops_mv rfl rfl (fun _ q => q) rfl rfl (fun _ q => q) ?_
         | refine ops_as rfl rfl (fun _ q => q) rfl rfl (fun _ q => q) ?_
         | refine ops_pickT rfl rfl (fun _ q => q) (fun _ q => q) rfl rfl (fun _ q => q) ?_
         | refine ops_pickF rfl rfl (fun _ q => q) (fun _ q => q) rfl rfl (fun _ q => q) ?_
         | refine ops_add rfl rfl (fun _ q => q) (fun _ q => q) (by omega) rfl rfl (fun _ q => q) ?_
         | refine ops_bin (v := .bool true) rfl rfl (fun _ q => q) (fun _ q => q) rfl rfl rfl rfl rfl (fun _ q => q) ?_
         | refine ops_bin (v := .bool false) rfl rfl (fun _ q => q) (fun _ q => q) rfl rfl rfl rfl rfl (fun _ q => q) ?_
         | refine ops_cmpP rfl rfl (fun _ q => q) (fun _ q => q) rfl rfl rfl rfl rfl (fun _ q => q) (fun _ q => q) (fun hp => ?_) (fun hp => ?_)
         | refine ops_cmpN rfl rfl (fun _ q => q) (fun _ q => q) rfl rfl rfl rfl rfl (fun _ q => q) (fun _ q => q) (fun hp => ?_) (fun hp => ?_)
         | refine ops_box rfl rfl (fun _ q => q) (by first | rfl | simp only [allAtoms, cells_agg, atom_int, atom_str, atom_bool, atom_ptr, atom_sl, atom_map, atom_fn, Bool.and_self, *]) (fun _ q => q) rfl rfl (fun _ q => q) ?_
         | refine ops_ld rfl rfl (fun _ q => q) rfl rfl rfl ?_
         | refine ops_lds rfl rfl (fun _ q => q) rfl rfl rfl rfl ?_
         | refine ops_st rfl rfl (fun _ q => q) (fun _ q => q) rfl (fun _ q => q) rfl rfl ?_
         | refine ops_at1 rfl rfl (fun _ q => q) (fun _ q => q) rfl rfl (by omega) rfl rfl (fun _ q => q) ?_
         | refine ops_at rfl rfl (fun _ q => q) (fun _ q => q) rfl rfl (by omega) rfl rfl (fun _ q => q) ?_
         | refine ops_v rfl rfl rfl (fun _ q => q) rfl rfl (fun _ q => q) ?_
         | refine ops_lenS rfl rfl (fun _ q => q) rfl rfl rfl (fun _ q => q) (by assumption) ?_
         | refine ops_un rfl rfl rfl (fun _ q => q) ?_))
      all_goals first
        | exact again (i + 1) _ _ ⟨rfl, by omega, by omega⟩ (by omega) rfl
        | (refine callK_end eo Tryz.func15 (fun _ q => q) (fun _ q => q) ⟨_, rfl, rfl, fun i hi => ?_, hk _⟩; exact get_new_ne (by omega))
    · repeat' (first
      | (first
         | refine ops_nil ?_
         | refine seqK_n ?_
         | refine seqK_exit ?_
         | refine seqK_ret ?_
         | refine blockK_n ?_
         | refine blockK_exit rfl ?_
         | refine blockK_ret ?_
         | refine loopK_exit ?_
         | refine loopK_ret ?_
         | refine tr_seq eo ?_
         | refine tr_region eo ?_
         | refine tr_block eo ?_
         | refine tr_condT eo (fun _ q => q) ?_
         | refine tr_condF eo (fun _ q => q) ?_
         | refine tr_skip eo ?_
         | refine tr_exit eo ?_
         | refine tr_ret eo ?_)
      | (first
         | refine ld_new_self rfl ?_
         | refine ld_set_self rfl ?_
         | (apply ld_get; assumption; exact rfl)
         | (apply ld_fact; assumption)
         | refine ld_new_ne (by first | assumption | (simp only [H.new_next, H.set_next]; omega)) ?_
         | refine ld_set_ne (by first | assumption | (simp only [H.new_next, H.set_next]; omega)) ?_
         | refine lds_new_self rfl ?_
         | refine lds_set_self rfl ?_
         | (apply lds_get; assumption; exact rfl)
         | (apply lds_fact; assumption)
         | refine lds_new_ne (by first | assumption | (simp only [H.new_next, H.set_next]; omega)) ?_
         | refine lds_set_ne (by first | assumption | (simp only [H.new_next, H.set_next]; omega)) ?_
         | refine st_new_self rfl rfl ?_
         | refine st_set_self rfl rfl ?_
         | refine set_fin (fun _ q => q) ?_)
      | (first
         | refine ops_mv rfl rfl (fun _ q => q) rfl rfl (fun _ q => q) ?_
         | refine ops_as rfl rfl (fun _ q => q) rfl rfl (fun _ q => q) ?_
         | refine ops_pickT rfl rfl (fun _ q => q) (fun _ q => q) rfl rfl (fun _ q => q) ?_
         | refine ops_pickF rfl rfl (fun _ q => q) (fun _ q => q) rfl rfl (fun _ q => q) ?_
         | refine ops_add rfl rfl (fun _ q => q) (fun _ q => q) (by omega) rfl rfl (fun _ q => q) ?_
         | refine ops_bin (v := .bool true) rfl rfl (fun _ q => q) (fun _ q => q) rfl rfl rfl rfl rfl (fun _ q => q) ?_
         | refine ops_bin (v := .bool false) rfl rfl (fun _ q => q) (fun _ q => q) rfl rfl rfl rfl rfl (fun _ q => q) ?_
         | refine ops_cmpP rfl rfl (fun _ q => q) (fun _ q => q) rfl rfl rfl rfl rfl (fun _ q => q) (fun _ q => q) (fun hp => ?_) (fun hp => ?_)
         | refine ops_cmpN rfl rfl (fun _ q => q) (fun _ q => q) rfl rfl rfl rfl rfl (fun _ q => q) (fun _ q => q) (fun hp => ?_) (fun hp => ?_)
         | refine ops_box rfl rfl (fun _ q => q) (by first | rfl | simp only [allAtoms, cells_agg, atom_int, atom_str, atom_bool, atom_ptr, atom_sl, atom_map, atom_fn, Bool.and_self, *]) (fun _ q => q) rfl rfl (fun _ q => q) ?_
         | refine ops_ld rfl rfl (fun _ q => q) rfl rfl rfl ?_
         | refine ops_lds rfl rfl (fun _ q => q) rfl rfl rfl rfl ?_
         | refine ops_st rfl rfl (fun _ q => q) (fun _ q => q) rfl (fun _ q => q) rfl rfl ?_
         | refine ops_at1 rfl rfl (fun _ q => q) (fun _ q => q) rfl rfl (by omega) rfl rfl (fun _ q => q) ?_
         | refine ops_at rfl rfl (fun _ q => q) (fun _ q => q) rfl rfl (by omega) rfl rfl (fun _ q => q) ?_
         | refine ops_v rfl rfl rfl (fun _ q => q) rfl rfl (fun _ q => q) ?_
         | refine ops_lenS rfl rfl (fun _ q => q) rfl rfl rfl (fun _ q => q) (by assumption) ?_
         | refine ops_un rfl rfl rfl (fun _ q => q) ?_))
      all_goals first
        | (exfalso; omega)
        | (refine callK_end eo Tryz.func15 (fun _ q => q) (fun _ q => q) ⟨_, rfl, rfl, fun i hi => ?_, hk _⟩; exact get_new_ne (by omega))

theorem small_tr {k0 t0 x1 x2 x3 x4 : Int} {cp sp bp se au tr : V} {cr sr br : List UInt8} {n1 n2 n3 n4 n5 n6 : Nat} {h : H} {k : Rs → H → Prop}
    (hcp : StrSl h cp n1) (hsp : StrSl h sp n2) (hbp : StrSl h bp n3) (hse : SlV se n4) (hau : SlV au n5) (htr : StrSl h tr n6) (hk : ∀ b, k (.cr (.ret (.bool b)) .plain) h) :
    Tr Tryz.prog (.call 5 [.agg [.int .i64 k0, .int .i64 t0, cp, .str cr, sp, .str sr, bp, .str br, se, au, .int .i64 x1, .int .i64 x2, .int .i64 x3, .int .i64 x4, tr]] .plain) h k := by
  have eo := eo49
  refine Tr.clean ?_
  have a1 : cp.atom = true := hcp.slv.atom
  have a2 : sp.atom = true := hsp.slv.atom
  have a3 : bp.atom = true := hbp.slv.atom
  have a4 : se.atom = true := hse.atom
  have a5 : au.atom = true := hau.atom
  have a6 : tr.atom = true := htr.slv.atom
  refine tr_call (n := 53) eo Tryz.func5 rfl rfl rfl (fun _ q => q) ?_
  repeat' (first
  | (first
     | refine ops_nil ?_
     | refine seqK_n ?_
     | refine seqK_exit ?_
     | refine seqK_ret ?_
     | refine blockK_n ?_
     | refine blockK_exit rfl ?_
     | refine blockK_ret ?_
     | refine loopK_exit ?_
     | refine loopK_ret ?_
     | refine tr_seq eo ?_
     | refine tr_region eo ?_
     | refine tr_block eo ?_
     | refine tr_condT eo (fun _ q => q) ?_
     | refine tr_condF eo (fun _ q => q) ?_
     | refine tr_skip eo ?_
     | refine tr_exit eo ?_
     | refine tr_ret eo ?_)
  | (first
     | refine ld_new_self rfl ?_
     | refine ld_set_self rfl ?_
     | (apply ld_get; assumption; exact rfl)
     | (apply ld_fact; assumption)
     | refine ld_new_ne (by first | assumption | (simp only [H.new_next, H.set_next]; omega)) ?_
     | refine ld_set_ne (by first | assumption | (simp only [H.new_next, H.set_next]; omega)) ?_
     | refine lds_new_self rfl ?_
     | refine lds_set_self rfl ?_
     | (apply lds_get; assumption; exact rfl)
     | (apply lds_fact; assumption)
     | refine lds_new_ne (by first | assumption | (simp only [H.new_next, H.set_next]; omega)) ?_
     | refine lds_set_ne (by first | assumption | (simp only [H.new_next, H.set_next]; omega)) ?_
     | refine st_new_self rfl rfl ?_
     | refine st_set_self rfl rfl ?_
     | refine set_fin (fun _ q => q) ?_)
  | (first
     | refine ops_mv rfl rfl (fun _ q => q) rfl rfl (fun _ q => q) ?_
     | refine ops_as rfl rfl (fun _ q => q) rfl rfl (fun _ q => q) ?_
     | refine ops_pickT rfl rfl (fun _ q => q) (fun _ q => q) rfl rfl (fun _ q => q) ?_
     | refine ops_pickF rfl rfl (fun _ q => q) (fun _ q => q) rfl rfl (fun _ q => q) ?_
     | refine ops_add rfl rfl (fun _ q => q) (fun _ q => q) (by omega) rfl rfl (fun _ q => q) ?_
     | refine ops_bin (v := .bool true) rfl rfl (fun _ q => q) (fun _ q => q) rfl rfl rfl rfl rfl (fun _ q => q) ?_
     | refine ops_bin (v := .bool false) rfl rfl (fun _ q => q) (fun _ q => q) rfl rfl rfl rfl rfl (fun _ q => q) ?_
     | refine ops_cmpP rfl rfl (fun _ q => q) (fun _ q => q) rfl rfl rfl rfl rfl (fun _ q => q) (fun _ q => q) (fun hp => ?_) (fun hp => ?_)
     | refine ops_cmpN rfl rfl (fun _ q => q) (fun _ q => q) rfl rfl rfl rfl rfl (fun _ q => q) (fun _ q => q) (fun hp => ?_) (fun hp => ?_)
     | refine ops_box rfl rfl (fun _ q => q) (by first | rfl | simp only [allAtoms, cells_agg, atom_int, atom_str, atom_bool, atom_ptr, atom_sl, atom_map, atom_fn, Bool.and_self, *]) (fun _ q => q) rfl rfl (fun _ q => q) ?_
     | refine ops_ld rfl rfl (fun _ q => q) rfl rfl rfl ?_
     | refine ops_lds rfl rfl (fun _ q => q) rfl rfl rfl rfl ?_
     | refine ops_st rfl rfl (fun _ q => q) (fun _ q => q) rfl (fun _ q => q) rfl rfl ?_
     | refine ops_at1 rfl rfl (fun _ q => q) (fun _ q => q) rfl rfl (by omega) rfl rfl (fun _ q => q) ?_
     | refine ops_at rfl rfl (fun _ q => q) (fun _ q => q) rfl rfl (by omega) rfl rfl (fun _ q => q) ?_
     | refine ops_v rfl rfl rfl (fun _ q => q) rfl rfl (fun _ q => q) ?_
     | refine ops_lenS rfl rfl (fun _ q => q) rfl rfl rfl (fun _ q => q) (by assumption) ?_
     | refine ops_un rfl rfl rfl (fun _ q => q) ?_))
  generalize hB : h.new (.cells 0 [(.int .i64 k0, 0), (.int .i64 t0, 0), (cp, 0), (.str cr, 0), (sp, 0), (.str sr, 0), (bp, 0), (.str br, 0), (se, 0), (au, 0), (.int .i64 x1, 0), (.int .i64 x2, 0), (.int .i64 x3, 0), (.int .i64 x4, 0), (tr, 0)]) = h1
  have hg : h1.own.get h.next = some (.cells 0 [(.int .i64 k0, 0), (.int .i64 t0, 0), (cp, 0), (.str cr, 0), (sp, 0), (.str sr, 0), (bp, 0), (.str br, 0), (se, 0), (au, 0), (.int .i64 x1, 0), (.int .i64 x2, 0), (.int .i64 x3, 0), (.int .i64 x4, 0), (tr, 0)]) := by rw [← hB]; exact get_new_self
  have keep : ∀ i, i < h.next → h1.own.get i = h.own.get i := fun i hi => by rw [← hB]; exact get_new_ne (by omega)
  have hcp : StrSl h1 cp n1 := by rw [← hB]; exact hcp.new _
  have hsp : StrSl h1 sp n2 := by rw [← hB]; exact hsp.new _
  have hbp : StrSl h1 bp n3 := by rw [← hB]; exact hbp.new _
  have htr : StrSl h1 tr n6 := by rw [← hB]; exact htr.new _
  have hse' := hse
  have htl := htr.slv
  clear hB
  refine tr_loop_inv eo (ι := Int) (fun i g => mkT [g 0, .ptr ⟨.own h.next, 0, 0⟩, .bool false, .int .i64 i, g 4, g 5, g 6, g 7, g 8, g 9, g 10, g 11, g 12, g 13, g 14, g 15, g 16, g 17, g 18, g 19, g 20, g 21, g 22, g 23, g 24, g 25, g 26, g 27, g 28, g 29, g 30, g 31, g 32, g 33, g 34, g 35, g 36, g 37, g 38, g 39, g 40, g 41, g 42, g 43, g 44, g 45, g 46, g 47, g 48, g 49, g 50, g 51, g 52]) (fun i h' => h' = h1 ∧ 0 ≤ i ∧ i ≤ 21) (fun i => (21 - i).toNat) 0 ⟨rfl, by omega, by omega⟩ rfl ?_
  rintro i h1' g ⟨rfl, g1, g2⟩ again
  refine tr_norm (fun _ q => q) ?_
  have fin : ∀ {n : Nat} {t : T V} {vs : List V} {v : V}, (∀ Q : List V → Prop, Q vs → resQ ⟨n, t, [], .plain⟩ Tryz.f5.results.toList Q) → (∀ Q : V → Prop, Q v → resultQ vs Q) → (∃ b, v = .bool b) → callK Tryz.prog 5 (fun r h' => ∃ v, r = .cr (.ret v) .plain ∧ v.flat = true ∧ (∀ i, i < h.next → h'.own.get i = h.own.get i) ∧ k (.cr (.ret v) .plain) h) (.ex .ret ⟨n, t, [], .plain⟩) h1' := by
    rintro n t vs v q1 q2 ⟨b, rfl⟩
    exact callK_end eo Tryz.func5 q1 q2 ⟨_, rfl, rfl, keep, hk _⟩
  by_cases hi : i.toNat < n6
  · have htr' := htr
    rcases htr' with ⟨_, rfl⟩ | ⟨a, c, rfl, ha, hc⟩
    · exfalso; omega
    · obtain ⟨s, hs⟩ := hc i.toNat hi
      repeat' (first
      | (first
         | refine ops_nil ?_
         | refine seqK_n ?_
         | refine seqK_exit ?_
         | refine seqK_ret ?_
         | refine blockK_n ?_
         | refine blockK_exit rfl ?_
         | refine blockK_ret ?_
         | refine loopK_exit ?_
         | refine loopK_ret ?_
         | refine tr_seq eo ?_
         | refine tr_region eo ?_
         | refine tr_block eo ?_
         | refine tr_condT eo (fun _ q => q) ?_
         | refine tr_condF eo (fun _ q => q) ?_
         | refine tr_skip eo ?_
         | refine tr_exit eo ?_
         | refine tr_ret eo ?_)
      | (first
         | refine ld_new_self rfl ?_
         | refine ld_set_self rfl ?_
         | (apply ld_get; assumption; exact rfl)
         | (apply ld_fact; assumption)
         | refine ld_new_ne (by first | assumption | (simp only [H.new_next, H.set_next]; omega)) ?_
         | refine ld_set_ne (by first | assumption | (simp only [H.new_next, H.set_next]; omega)) ?_
         | refine lds_new_self rfl ?_
         | refine lds_set_self rfl ?_
         | (apply lds_get; assumption; exact rfl)
         | (apply lds_fact; assumption)
         | refine lds_new_ne (by first | assumption | (simp only [H.new_next, H.set_next]; omega)) ?_
         | refine lds_set_ne (by first | assumption | (simp only [H.new_next, H.set_next]; omega)) ?_
         | refine st_new_self rfl rfl ?_
         | refine st_set_self rfl rfl ?_
         | refine set_fin (fun _ q => q) ?_)
      | (first
         | refine ops_mv rfl rfl (fun _ q => q) rfl rfl (fun _ q => q) ?_
         | refine ops_as rfl rfl (fun _ q => q) rfl rfl (fun _ q => q) ?_
         | refine ops_pickT rfl rfl (fun _ q => q) (fun _ q => q) rfl rfl (fun _ q => q) ?_
         | refine ops_pickF rfl rfl (fun _ q => q) (fun _ q => q) rfl rfl (fun _ q => q) ?_
         | refine ops_add rfl rfl (fun _ q => q) (fun _ q => q) (by omega) rfl rfl (fun _ q => q) ?_
         | refine ops_bin (v := .bool true) rfl rfl (fun _ q => q) (fun _ q => q) rfl rfl rfl rfl rfl (fun _ q => q) ?_
         | refine ops_bin (v := .bool false) rfl rfl (fun _ q => q) (fun _ q => q) rfl rfl rfl rfl rfl (fun _ q => q) ?_
         | refine ops_cmpP rfl rfl (fun _ q => q) (fun _ q => q) rfl rfl rfl rfl rfl (fun _ q => q) (fun _ q => q) (fun hp => ?_) (fun hp => ?_)
         | refine ops_cmpN rfl rfl (fun _ q => q) (fun _ q => q) rfl rfl rfl rfl rfl (fun _ q => q) (fun _ q => q) (fun hp => ?_) (fun hp => ?_)
         | refine ops_box rfl rfl (fun _ q => q) (by first | rfl | simp only [allAtoms, cells_agg, atom_int, atom_str, atom_bool, atom_ptr, atom_sl, atom_map, atom_fn, Bool.and_self, *]) (fun _ q => q) rfl rfl (fun _ q => q) ?_
         | refine ops_ld rfl rfl (fun _ q => q) rfl rfl rfl ?_
         | refine ops_lds rfl rfl (fun _ q => q) rfl rfl rfl rfl ?_
         | refine ops_st rfl rfl (fun _ q => q) (fun _ q => q) rfl (fun _ q => q) rfl rfl ?_
         | refine ops_at1 rfl rfl (fun _ q => q) (fun _ q => q) rfl rfl (by omega) rfl rfl (fun _ q => q) ?_
         | refine ops_at rfl rfl (fun _ q => q) (fun _ q => q) rfl rfl (by omega) rfl rfl (fun _ q => q) ?_
         | refine ops_v rfl rfl rfl (fun _ q => q) rfl rfl (fun _ q => q) ?_
         | refine ops_lenS rfl rfl (fun _ q => q) rfl rfl rfl (fun _ q => q) (by assumption) ?_
         | refine ops_un rfl rfl rfl (fun _ q => q) ?_)
      | first | exact again (i + 1) _ _ ⟨rfl, by omega, by omega⟩ (by omega) rfl | exact fin (fun _ q => q) (fun _ q => q) ⟨_, rfl⟩ | (refine ops_call rfl rfl (fun _ q => q) rfl (fun _ q => q) rfl (fun _ q => q) ?_; refine short_tr eo hcp (fun b => ?_); cases b; all_goals refine retK_ret rfl (fun _ q => q) ?_) | (refine ops_call rfl rfl (fun _ q => q) rfl (fun _ q => q) rfl (fun _ q => q) ?_; refine short_tr eo hsp (fun b => ?_); cases b; all_goals refine retK_ret rfl (fun _ q => q) ?_) | (refine ops_call rfl rfl (fun _ q => q) rfl (fun _ q => q) rfl (fun _ q => q) ?_; refine short_tr eo hbp (fun b => ?_); cases b; all_goals refine retK_ret rfl (fun _ q => q) ?_))
  · repeat' (first
    | (first
       | refine ops_nil ?_
       | refine seqK_n ?_
       | refine seqK_exit ?_
       | refine seqK_ret ?_
       | refine blockK_n ?_
       | refine blockK_exit rfl ?_
       | refine blockK_ret ?_
       | refine loopK_exit ?_
       | refine loopK_ret ?_
       | refine tr_seq eo ?_
       | refine tr_region eo ?_
       | refine tr_block eo ?_
       | refine tr_condT eo (fun _ q => q) ?_
       | refine tr_condF eo (fun _ q => q) ?_
       | refine tr_skip eo ?_
       | refine tr_exit eo ?_
       | refine tr_ret eo ?_)
    | (first
       | refine ld_new_self rfl ?_
       | refine ld_set_self rfl ?_
       | (apply ld_get; assumption; exact rfl)
       | (apply ld_fact; assumption)
       | refine ld_new_ne (by first | assumption | (simp only [H.new_next, H.set_next]; omega)) ?_
       | refine ld_set_ne (by first | assumption | (simp only [H.new_next, H.set_next]; omega)) ?_
       | refine lds_new_self rfl ?_
       | refine lds_set_self rfl ?_
       | (apply lds_get; assumption; exact rfl)
       | (apply lds_fact; assumption)
       | refine lds_new_ne (by first | assumption | (simp only [H.new_next, H.set_next]; omega)) ?_
       | refine lds_set_ne (by first | assumption | (simp only [H.new_next, H.set_next]; omega)) ?_
       | refine st_new_self rfl rfl ?_
       | refine st_set_self rfl rfl ?_
       | refine set_fin (fun _ q => q) ?_)
    | (first
       | refine ops_mv rfl rfl (fun _ q => q) rfl rfl (fun _ q => q) ?_
       | refine ops_as rfl rfl (fun _ q => q) rfl rfl (fun _ q => q) ?_
       | refine ops_pickT rfl rfl (fun _ q => q) (fun _ q => q) rfl rfl (fun _ q => q) ?_
       | refine ops_pickF rfl rfl (fun _ q => q) (fun _ q => q) rfl rfl (fun _ q => q) ?_
       | refine ops_add rfl rfl (fun _ q => q) (fun _ q => q) (by omega) rfl rfl (fun _ q => q) ?_
       | refine ops_bin (v := .bool true) rfl rfl (fun _ q => q) (fun _ q => q) rfl rfl rfl rfl rfl (fun _ q => q) ?_
       | refine ops_bin (v := .bool false) rfl rfl (fun _ q => q) (fun _ q => q) rfl rfl rfl rfl rfl (fun _ q => q) ?_
       | refine ops_cmpP rfl rfl (fun _ q => q) (fun _ q => q) rfl rfl rfl rfl rfl (fun _ q => q) (fun _ q => q) (fun hp => ?_) (fun hp => ?_)
       | refine ops_cmpN rfl rfl (fun _ q => q) (fun _ q => q) rfl rfl rfl rfl rfl (fun _ q => q) (fun _ q => q) (fun hp => ?_) (fun hp => ?_)
       | refine ops_box rfl rfl (fun _ q => q) (by first | rfl | simp only [allAtoms, cells_agg, atom_int, atom_str, atom_bool, atom_ptr, atom_sl, atom_map, atom_fn, Bool.and_self, *]) (fun _ q => q) rfl rfl (fun _ q => q) ?_
       | refine ops_ld rfl rfl (fun _ q => q) rfl rfl rfl ?_
       | refine ops_lds rfl rfl (fun _ q => q) rfl rfl rfl rfl ?_
       | refine ops_st rfl rfl (fun _ q => q) (fun _ q => q) rfl (fun _ q => q) rfl rfl ?_
       | refine ops_at1 rfl rfl (fun _ q => q) (fun _ q => q) rfl rfl (by omega) rfl rfl (fun _ q => q) ?_
       | refine ops_at rfl rfl (fun _ q => q) (fun _ q => q) rfl rfl (by omega) rfl rfl (fun _ q => q) ?_
       | refine ops_v rfl rfl rfl (fun _ q => q) rfl rfl (fun _ q => q) ?_
       | refine ops_lenS rfl rfl (fun _ q => q) rfl rfl rfl (fun _ q => q) (by assumption) ?_
       | refine ops_un rfl rfl rfl (fun _ q => q) ?_)
    | first | (exfalso; omega) | exact fin (fun _ q => q) (fun _ q => q) ⟨_, rfl⟩ | (refine ops_call rfl rfl (fun _ q => q) rfl (fun _ q => q) rfl (fun _ q => q) ?_; refine short_tr eo hcp (fun b => ?_); cases b; all_goals refine retK_ret rfl (fun _ q => q) ?_) | (refine ops_call rfl rfl (fun _ q => q) rfl (fun _ q => q) rfl (fun _ q => q) ?_; refine short_tr eo hsp (fun b => ?_); cases b; all_goals refine retK_ret rfl (fun _ q => q) ?_) | (refine ops_call rfl rfl (fun _ q => q) rfl (fun _ q => q) rfl (fun _ q => q) ?_; refine short_tr eo hbp (fun b => ?_); cases b; all_goals refine retK_ret rfl (fun _ q => q) ?_))
end Go.Proofs.Ab
