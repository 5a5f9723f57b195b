/- AuditNone: the walk: whatever the event and the number, it returns true. -/
import Derived.Test.YtelmlcciphafjaaGreatDoorAc8
import Derived.Test.YtelmlcciphafjaaGreatDoorSh1
namespace Go.Proofs.Ab
open Go Go.RowKit
set_option maxRecDepth 100000
set_option maxHeartbeats 0
def knownHook : Hook := fun args h k => match args with
  | [] => k (.ret (.bool true)) h
  | _ => False
noncomputable def E49 : E := { P := Tryz.prog, hk := fun f => bif Nat.beq f 6 then some knownHook else none, ext := X49 }
theorem hmE49 : HkMono E49 := by
  intro f hk h args hh k k' e hkk
  simp only [E49] at h
  cases hb : Nat.beq f 6 with
  | false => rw [hb] at h; cases h
  | true =>
    rw [hb] at h
    simp only [cond_true, Option.some.injEq] at h
    subst h
    simp only [knownHook] at e ⊢
    split at e
    · exact hkk _ _ e
    · exact e.elim
theorem eoE49 : EOk E49 where
  mixed := by kernel_rfl
  hook := fun f hk h => by
    simp only [E49] at h
    cases hb : Nat.beq f 6 with
    | false => rw [hb] at h; cases h
    | true =>
      rw [hb] at h
      simp only [cond_true, Option.some.injEq] at h
      subst h
      obtain rfl := Nat.eq_of_beq_eq_true hb
      obtain ⟨h1, h2⟩ := hookOk (P := Tryz.prog) (f := 6) fun h k hk => known_tr hk
      exact ⟨h1, fun h args k hk => h2 h args k hk⟩
  ext := eo49.ext
def anyEv : V := .agg [.any (.int .i64), .any (.int .i64), .any .val, .any .str, .any .val, .any .str, .any .val, .any .str, .any .val, .any .val, .any (.int .i64), .any (.int .i64), .any (.int .i64), .any (.int .i64), .any .val]
def okRet (r : Rs) : Prop := match r with
  | .ex .ret ⟨_, t, [], .plain⟩ => (match t.get 4 with | some (.bool true) => True | _ => False)
  | _ => False
def sub : Code → List Nat → Code
  | c, [] => c
  | .seq a _, 0 :: p => sub a p
  | .seq _ b, _ :: p => sub b p
  | .block _ b, _ :: p => sub b p
  | .loop b, _ :: p => sub b p
  | .cond _ a _, 0 :: p => sub a p
  | .cond _ _ b, _ :: p => sub b p
  | c, _ => c
theorem rest_eq (base glob : Nat → Option (List V)) : runF E49 100000 (.code 3 none (sub ((Tryz.f3.body).getD .skip) [1, 1]) ⟨79, mkT [anyEv, .any (.int .i64), .ptr ⟨.own 0, 0, 0⟩, .u, .bool false, .u, .u, .u, .u, .u, .u, .u, .u, anyEv, .bool true, .bool false, .u, .u, .u, .u, .u, .u, .u, .u, .u, .u, .u, .u, .u, .u, .u, .u, .u, .u, .u, .u, .u, .u, .u, .u, .u, .u, .u, .u, .u, .u, .u, .u, .u, .u, .u, .u, .u, .u, .u, .u, .u, .u, .u, .u, .u, .u, .u, .u, .u, .u, .u, .u, .u, .u, .u, .u, .u, .u, .u, .u, .u, .u, .u], [], .plain⟩)
    ((⟨.e, 0, base, glob⟩ : H).new (.cells 0 (anyEv.cells.map fun v => (v, 0)))) (fun r _ => okRet r) = True := by kernel_rfl
theorem noneWalk {k0 t0 x1 x2 x3 x4 ix : Int} {cp sp bp se au tr : V} {cr sr br : List UInt8} {n1 n2 n3 n4 n5 n6 : Nat} {base glob : Nat → Option (List V)}
    (hcp : StrSl ⟨.e, 0, base, glob⟩ cp n1) (hsp : StrSl ⟨.e, 0, base, glob⟩ sp n2) (hbp : StrSl ⟨.e, 0, base, glob⟩ bp n3) (hse : SlV se n4) (hau : SlV au n5) (htr : StrSl ⟨.e, 0, base, glob⟩ tr n6) :
    Tr Tryz.prog (.call 3 [.agg [.int .i64 k0, .int .i64 t0, cp, .str cr, sp, .str sr, bp, .str br, se, au, .int .i64 x1, .int .i64 x2, .int .i64 x3, .int .i64 x4, tr], .int .i64 ix] .plain) ⟨.e, 0, base, glob⟩ fun r _ => r = .cr (.ret (.bool true)) .plain := by
  have eo := eo49
  have a1 : cp.atom = true := hcp.slv.atom
  have a2 : sp.atom = true := hsp.slv.atom
  have a3 : bp.atom = true := hbp.slv.atom
  have a4 : se.atom = true := hse.atom
  have a5 : au.atom = true := hau.atom
  have a6 : tr.atom = true := htr.slv.atom
  refine tr_call (n := 79) eo Tryz.func3 rfl rfl rfl (fun _ q => q) ?_
  repeat' (first
  | (first
     | refine ops_nil ?_
     | refine seqK_n ?_
     | refine seqK_exit ?_
     | refine seqK_ret ?_
     | refine blockK_n ?_
     | refine blockK_exit rfl ?_
     | refine blockK_ret ?_
     | refine loopK_exit ?_
     | refine loopK_ret ?_
     | refine tr_seq eo ?_
     | refine tr_region eo ?_
     | refine tr_block eo ?_
     | refine tr_condT eo (fun _ q => q) ?_
     | refine tr_condF eo (fun _ q => q) ?_
     | refine tr_skip eo ?_
     | refine tr_exit eo ?_
     | refine tr_ret eo ?_)
  | (first
     | refine ld_new_self rfl ?_
     | refine ld_set_self rfl ?_
     | (apply ld_get; assumption; exact rfl)
     | (apply ld_fact; assumption)
     | refine ld_new_ne (by first | assumption | (simp only [H.new_next, H.set_next]; omega)) ?_
     | refine ld_set_ne (by first | assumption | (simp only [H.new_next, H.set_next]; omega)) ?_
     | refine lds_new_self rfl ?_
     | refine lds_set_self rfl ?_
     | (apply lds_get; assumption; exact rfl)
     | (apply lds_fact; assumption)
     | refine lds_new_ne (by first | assumption | (simp only [H.new_next, H.set_next]; omega)) ?_
     | refine lds_set_ne (by first | assumption | (simp only [H.new_next, H.set_next]; omega)) ?_
     | refine st_new_self rfl rfl ?_
     | refine st_set_self rfl rfl ?_
     | refine set_fin (fun _ q => q) ?_)
  | (first
     | refine ops_mv rfl rfl (fun _ q => q) rfl rfl (fun _ q => q) ?_
     | refine ops_as rfl rfl (fun _ q => q) rfl rfl (fun _ q => q) ?_
     | refine ops_pickT rfl rfl (fun _ q => q) (fun _ q => q) rfl rfl (fun _ q => q) ?_
     | refine ops_pickF rfl rfl (fun _ q => q) (fun _ q => q) rfl rfl (fun _ q => q) ?_
     | refine ops_add rfl rfl (fun _ q => q) (fun _ q => q) (by omega) rfl rfl (fun _ q => q) ?_
     | refine ops_bin (v := .bool true) rfl rfl (fun _ q => q) (fun _ q => q) rfl rfl rfl rfl rfl (fun _ q => q) ?_
     | refine ops_bin (v := .bool false) rfl rfl (fun _ q => q) (fun _ q => q) rfl rfl rfl rfl rfl (fun _ q => q) ?_
     | refine ops_cmpP rfl rfl (fun _ q => q) (fun _ q => q) rfl rfl rfl rfl rfl (fun _ q => q) (fun _ q => q) (fun hp => ?_) (fun hp => ?_)
     | refine ops_cmpN rfl rfl (fun _ q => q) (fun _ q => q) rfl rfl rfl rfl rfl (fun _ q => q) (fun _ q => q) (fun hp => ?_) (fun hp => ?_)
     | refine ops_box rfl rfl (fun _ q => q) (by first | rfl | simp only [allAtoms, cells_agg, atom_int, atom_str, atom_bool, atom_ptr, atom_sl, atom_map, atom_fn, Bool.and_self, *]) (fun _ q => q) rfl rfl (fun _ q => q) ?_
     | refine ops_ld rfl rfl (fun _ q => q) rfl rfl rfl ?_
     | refine ops_lds rfl rfl (fun _ q => q) rfl rfl rfl rfl ?_
     | refine ops_st rfl rfl (fun _ q => q) (fun _ q => q) rfl (fun _ q => q) rfl rfl ?_
     | refine ops_at1 rfl rfl (fun _ q => q) (fun _ q => q) rfl rfl (by omega) rfl rfl (fun _ q => q) ?_
     | refine ops_at rfl rfl (fun _ q => q) (fun _ q => q) rfl rfl (by omega) rfl rfl (fun _ q => q) ?_
     | refine ops_v rfl rfl rfl (fun _ q => q) rfl rfl (fun _ q => q) ?_
     | refine ops_lenS rfl rfl (fun _ q => q) rfl rfl rfl (fun _ q => q) (by assumption) ?_
     | refine ops_un rfl rfl rfl (fun _ q => q) ?_))
  refine ops_call rfl rfl (fun _ q => q) rfl (fun _ q => q) rfl (fun _ q => q) ?_
  refine small_tr (hcp.new _) (hsp.new _) (hbp.new _) hse hau (htr.new _) (fun b => ?_)
  cases b
  · refine retK_ret rfl (fun _ q => q) ?_
    repeat' (first
    | (first
       | refine ops_nil ?_
       | refine seqK_n ?_
       | refine seqK_exit ?_
       | refine seqK_ret ?_
       | refine blockK_n ?_
       | refine blockK_exit rfl ?_
       | refine blockK_ret ?_
       | refine loopK_exit ?_
       | refine loopK_ret ?_
       | refine tr_seq eo ?_
       | refine tr_region eo ?_
       | refine tr_block eo ?_
       | refine tr_condT eo (fun _ q => q) ?_
       | refine tr_condF eo (fun _ q => q) ?_
       | refine tr_skip eo ?_
       | refine tr_exit eo ?_
       | refine tr_ret eo ?_)
    | (first
       | refine ld_new_self rfl ?_
       | refine ld_set_self rfl ?_
       | (apply ld_get; assumption; exact rfl)
       | (apply ld_fact; assumption)
       | refine ld_new_ne (by first | assumption | (simp only [H.new_next, H.set_next]; omega)) ?_
       | refine ld_set_ne (by first | assumption | (simp only [H.new_next, H.set_next]; omega)) ?_
       | refine lds_new_self rfl ?_
       | refine lds_set_self rfl ?_
       | (apply lds_get; assumption; exact rfl)
       | (apply lds_fact; assumption)
       | refine lds_new_ne (by first | assumption | (simp only [H.new_next, H.set_next]; omega)) ?_
       | refine lds_set_ne (by first | assumption | (simp only [H.new_next, H.set_next]; omega)) ?_
       | refine st_new_self rfl rfl ?_
       | refine st_set_self rfl rfl ?_
       | refine set_fin (fun _ q => q) ?_)
    | (first
       | refine ops_mv rfl rfl (fun _ q => q) rfl rfl (fun _ q => q) ?_
       | refine ops_as rfl rfl (fun _ q => q) rfl rfl (fun _ q => q) ?_
       | refine ops_pickT rfl rfl (fun _ q => q) (fun _ q => q) rfl rfl (fun _ q => q) ?_
       | refine ops_pickF rfl rfl (fun _ q => q) (fun _ q => q) rfl rfl (fun _ q => q) ?_
       | refine ops_add rfl rfl (fun _ q => q) (fun _ q => q) (by omega) rfl rfl (fun _ q => q) ?_
       | refine ops_bin (v := .bool true) rfl rfl (fun _ q => q) (fun _ q => q) rfl rfl rfl rfl rfl (fun _ q => q) ?_
       | refine ops_bin (v := .bool false) rfl rfl (fun _ q => q) (fun _ q => q) rfl rfl rfl rfl rfl (fun _ q => q) ?_
       | refine ops_cmpP rfl rfl (fun _ q => q) (fun _ q => q) rfl rfl rfl rfl rfl (fun _ q => q) (fun _ q => q) (fun hp => ?_) (fun hp => ?_)
       | refine ops_cmpN rfl rfl (fun _ q => q) (fun _ q => q) rfl rfl rfl rfl rfl (fun _ q => q) (fun _ q => q) (fun hp => ?_) (fun hp => ?_)
       | refine ops_box rfl rfl (fun _ q => q) (by first | rfl | simp only [allAtoms, cells_agg, atom_int, atom_str, atom_bool, atom_ptr, atom_sl, atom_map, atom_fn, Bool.and_self, *]) (fun _ q => q) rfl rfl (fun _ q => q) ?_
       | refine ops_ld rfl rfl (fun _ q => q) rfl rfl rfl ?_
       | refine ops_lds rfl rfl (fun _ q => q) rfl rfl rfl rfl ?_
       | refine ops_st rfl rfl (fun _ q => q) (fun _ q => q) rfl (fun _ q => q) rfl rfl ?_
       | refine ops_at1 rfl rfl (fun _ q => q) (fun _ q => q) rfl rfl (by omega) rfl rfl (fun _ q => q) ?_
       | refine ops_at rfl rfl (fun _ q => q) (fun _ q => q) rfl rfl (by omega) rfl rfl (fun _ q => q) ?_
       | refine ops_v rfl rfl rfl (fun _ q => q) rfl rfl (fun _ q => q) ?_
       | refine ops_lenS rfl rfl (fun _ q => q) rfl rfl rfl (fun _ q => q) (by assumption) ?_
       | refine ops_un rfl rfl rfl (fun _ q => q) ?_))
    refine ops_call rfl rfl (fun _ q => q) rfl (fun _ q => q) rfl (fun _ q => q) ?_
    refine known_tr ?_
    refine retK_ret rfl (fun _ q => q) ?_
    repeat' (first
    | (first
       | refine ops_nil ?_
       | refine seqK_n ?_
       | refine seqK_exit ?_
       | refine seqK_ret ?_
       | refine blockK_n ?_
       | refine blockK_exit rfl ?_
       | refine blockK_ret ?_
       | refine loopK_exit ?_
       | refine loopK_ret ?_
       | refine tr_seq eo ?_
       | refine tr_region eo ?_
       | refine tr_block eo ?_
       | refine tr_condT eo (fun _ q => q) ?_
       | refine tr_condF eo (fun _ q => q) ?_
       | refine tr_skip eo ?_
       | refine tr_exit eo ?_
       | refine tr_ret eo ?_)
    | (first
       | refine ld_new_self rfl ?_
       | refine ld_set_self rfl ?_
       | (apply ld_get; assumption; exact rfl)
       | (apply ld_fact; assumption)
       | refine ld_new_ne (by first | assumption | (simp only [H.new_next, H.set_next]; omega)) ?_
       | refine ld_set_ne (by first | assumption | (simp only [H.new_next, H.set_next]; omega)) ?_
       | refine lds_new_self rfl ?_
       | refine lds_set_self rfl ?_
       | (apply lds_get; assumption; exact rfl)
       | (apply lds_fact; assumption)
       | refine lds_new_ne (by first | assumption | (simp only [H.new_next, H.set_next]; omega)) ?_
       | refine lds_set_ne (by first | assumption | (simp only [H.new_next, H.set_next]; omega)) ?_
       | refine st_new_self rfl rfl ?_
       | refine st_set_self rfl rfl ?_
       | refine set_fin (fun _ q => q) ?_)
    | (first
       | refine ops_mv rfl rfl (fun _ q => q) rfl rfl (fun _ q => q) ?_
       | refine ops_as rfl rfl (fun _ q => q) rfl rfl (fun _ q => q) ?_
       | refine ops_pickT rfl rfl (fun _ q => q) (fun _ q => q) rfl rfl (fun _ q => q) ?_
       | refine ops_pickF rfl rfl (fun _ q => q) (fun _ q => q) rfl rfl (fun _ q => q) ?_
       | refine ops_add rfl rfl (fun _ q => q) (fun _ q => q) (by omega) rfl rfl (fun _ q => q) ?_
       | refine ops_bin (v := .bool true) rfl rfl (fun _ q => q) (fun _ q => q) rfl rfl rfl rfl rfl (fun _ q => q) ?_
       | refine ops_bin (v := .bool false) rfl rfl (fun _ q => q) (fun _ q => q) rfl rfl rfl rfl rfl (fun _ q => q) ?_
       | refine ops_cmpP rfl rfl (fun _ q => q) (fun _ q => q) rfl rfl rfl rfl rfl (fun _ q => q) (fun _ q => q) (fun hp => ?_) (fun hp => ?_)
       | refine ops_cmpN rfl rfl (fun _ q => q) (fun _ q => q) rfl rfl rfl rfl rfl (fun _ q => q) (fun _ q => q) (fun hp => ?_) (fun hp => ?_)
       | refine ops_box rfl rfl (fun _ q => q) (by first | rfl | simp only [allAtoms, cells_agg, atom_int, atom_str, atom_bool, atom_ptr, atom_sl, atom_map, atom_fn, Bool.and_self, *]) (fun _ q => q) rfl rfl (fun _ q => q) ?_
       | refine ops_ld rfl rfl (fun _ q => q) rfl rfl rfl ?_
       | refine ops_lds rfl rfl (fun _ q => q) rfl rfl rfl rfl ?_
       | refine ops_st rfl rfl (fun _ q => q) (fun _ q => q) rfl (fun _ q => q) rfl rfl ?_
       | refine ops_at1 rfl rfl (fun _ q => q) (fun _ q => q) rfl rfl (by omega) rfl rfl (fun _ q => q) ?_
       | refine ops_at rfl rfl (fun _ q => q) (fun _ q => q) rfl rfl (by omega) rfl rfl (fun _ q => q) ?_
       | refine ops_v rfl rfl rfl (fun _ q => q) rfl rfl (fun _ q => q) ?_
       | refine ops_lenS rfl rfl (fun _ q => q) rfl rfl rfl (fun _ q => q) (by assumption) ?_
       | refine ops_un rfl rfl rfl (fun _ q => q) ?_))
    exact callK_end eo Tryz.func3 (fun _ q => q) (fun _ q => q) rfl
  · refine retK_ret rfl (fun _ q => q) ?_
    first
    | refine ops_mv rfl rfl (fun _ q => q) rfl rfl (fun _ q => q) ?_
    | refine ops_as rfl rfl (fun _ q => q) rfl rfl (fun _ q => q) ?_
    | refine ops_pickT rfl rfl (fun _ q => q) (fun _ q => q) rfl rfl (fun _ q => q) ?_
    | refine ops_pickF rfl rfl (fun _ q => q) (fun _ q => q) rfl rfl (fun _ q => q) ?_
    | refine ops_add rfl rfl (fun _ q => q) (fun _ q => q) (by omega) rfl rfl (fun _ q => q) ?_
    | refine ops_bin (v := .bool true) rfl rfl (fun _ q => q) (fun _ q => q) rfl rfl rfl rfl rfl (fun _ q => q) ?_
    | refine ops_bin (v := .bool false) rfl rfl (fun _ q => q) (fun _ q => q) rfl rfl rfl rfl rfl (fun _ q => q) ?_
    | refine ops_cmpP rfl rfl (fun _ q => q) (fun _ q => q) rfl rfl rfl rfl rfl (fun _ q => q) (fun _ q => q) (fun hp => ?_) (fun hp => ?_)
    | refine ops_cmpN rfl rfl (fun _ q => q) (fun _ q => q) rfl rfl rfl rfl rfl (fun _ q => q) (fun _ q => q) (fun hp => ?_) (fun hp => ?_)
    | refine ops_box rfl rfl (fun _ q => q) (by first | rfl | simp only [allAtoms, cells_agg, atom_int, atom_str, atom_bool, atom_ptr, atom_sl, atom_map, atom_fn, Bool.and_self, *]) (fun _ q => q) rfl rfl (fun _ q => q) ?_
    | refine ops_ld rfl rfl (fun _ q => q) rfl rfl rfl ?_
    | refine ops_lds rfl rfl (fun _ q => q) rfl rfl rfl rfl ?_
    | refine ops_st rfl rfl (fun _ q => q) (fun _ q => q) rfl (fun _ q => q) rfl rfl ?_
    | refine ops_at1 rfl rfl (fun _ q => q) (fun _ q => q) rfl rfl (by omega) rfl rfl (fun _ q => q) ?_
    | refine ops_at rfl rfl (fun _ q => q) (fun _ q => q) rfl rfl (by omega) rfl rfl (fun _ q => q) ?_
    | refine ops_v rfl rfl rfl (fun _ q => q) rfl rfl (fun _ q => q) ?_
    | refine ops_lenS rfl rfl (fun _ q => q) rfl rfl rfl (fun _ q => q) (by assumption) ?_
    | refine ops_un rfl rfl rfl (fun _ q => q) ?_
    refine ops_nil ?_
    refine seqK_n ?_
    refine tr_condF eo (fun _ q => q) ?_
    refine tr_skip eo ?_
    refine seqK_n ?_
    have wk : ∀ (k n : Int), VW (.int .i64 n) (.any (.int .i64)) := fun _ n => VW.anyInt _ _
    have we : VW (.agg [.int .i64 k0, .int .i64 t0, cp, .str cr, sp, .str sr, bp, .str br, se, au, .int .i64 x1, .int .i64 x2, .int .i64 x3, .int .i64 x4, tr]) anyEv :=
      VW.agg (.cons (VW.anyInt _ _) (.cons (VW.anyInt _ _) (.cons (VW.valSl hcp.slv) (.cons (VW.anyStr _) (.cons (VW.valSl hsp.slv) (.cons (VW.anyStr _) (.cons (VW.valSl hbp.slv) (.cons (VW.anyStr _) (.cons (VW.valSl hse) (.cons (VW.valSl hau) (.cons (VW.anyInt _ _) (.cons (VW.anyInt _ _) (.cons (VW.anyInt _ _) (.cons (VW.anyInt _ _) (.cons (VW.valSl htr.slv) .nil)))))))))))))))
    have wh : HW ((⟨.e, 0, base, glob⟩ : H).new (.cells 0 [(.int .i64 k0, 0), (.int .i64 t0, 0), (cp, 0), (.str cr, 0), (sp, 0), (.str sr, 0), (bp, 0), (.str br, 0), (se, 0), (au, 0), (.int .i64 x1, 0), (.int .i64 x2, 0), (.int .i64 x3, 0), (.int .i64 x4, 0), (tr, 0)])) ((⟨.e, 0, base, glob⟩ : H).new (.cells 0 (anyEv.cells.map fun v => (v, 0)))) :=
      (HW.refl _).new (.inr ⟨0, _, _, rfl, rfl, .cons (VW.anyInt _ _) rfl (.cons (VW.anyInt _ _) rfl (.cons (VW.valSl hcp.slv) rfl (.cons (VW.anyStr _) rfl (.cons (VW.valSl hsp.slv) rfl (.cons (VW.anyStr _) rfl (.cons (VW.valSl hbp.slv) rfl (.cons (VW.anyStr _) rfl (.cons (VW.valSl hse) rfl (.cons (VW.valSl hau) rfl (.cons (VW.anyInt _ _) rfl (.cons (VW.anyInt _ _) rfl (.cons (VW.anyInt _ _) rfl (.cons (VW.anyInt _ _) rfl (.cons (VW.valSl htr.slv) rfl .nil))))))))))))))⟩)
    have rest := runF_ok eoE49 hmE49 _ _ _ _ (fun r _ => okRet r) (rest_eq base glob ▸ trivial) (fun r _ e => e)
    refine Tr.mono (Tr.weaken (FrW.of_tree ?_ rfl) wh rest) ?_
    · repeat' first
        | exact TW.refl _
        | exact we
        | exact VW.anyInt _ _
        | exact VW.refl _
        | refine TW.n ?_ ?_ ?_
    · intro r h' hr
      unfold okRet at hr
      split at hr
      · split at hr
        · rename_i n t ht
          exact callK_ret eo Tryz.func3 (vs := [.bool true]) (by
            have : Tryz.f3.results.toList = [.tmp 4] := rfl
            rw [this]
            simp only [resultsV, Option.bind_some, Fr.get, ht]) rfl rfl
        · exact hr.elim
      · exact hr.elim
#print axioms noneWalk
end Go.Proofs.Ab
