import Derived.Test.YtmnmcbhaabnnfaaT7
namespace Go.Proofs.Ytmnmcbhaabnnfaa.R
open Go Go.R Go.Proofs
set_option linter.unusedSimpArgs false
set_option linter.unusedVariables false
attribute [local irreducible] awp awpOps ACalls Weak Ends contK Again

/-- Events as data. -/
inductive LV where
  | nil
  | mk (es : List Ev) (ex : Bool)
def LV.l : LV → List Ev
  | .nil => []
  | .mk es _ => es
def LV.sv : LV → SV
  | .nil => .nil
  | .mk es ex => .mk (es.map Ev.enc) ex
def LV.dv (x : LV) : DV := x.sv.dv 11
theorem LV.sv_l (x : LV) : x.sv.l = x.l.map Ev.enc := by cases x <;> rfl
theorem LV.getD {x : LV} {j : Nat} {e : Ev} (h : x.l[j]? = some e) : (x.l.map Ev.enc).getD j [] = e.enc := by simp [List.getD, h]

def sameL (xs ys : List Ev) : Bool := xs.length == ys.length && (xs.zip ys).all fun p => sameB p.1 p.2

theorem EqualFunc_calls (x y : LV) (H : List AObj) (hb : x.l.length ≤ 1000000000) : ACalls Try.prog 20 [.d x.dv, .d y.dv, .fn (.func 21) []] H fun v H' => v = .d (.bool (sameL x.l y.l)) ∧ H' = H := by
  refine acalls (rs := [.tmp 6]) Try.func20 rfl Try.ntmps20 rfl (by simp) fun M0 Q hk hl hQ => ?_
  repeat' first
    | exact trivial
    | exact fun h => absurd trivial h
    | exact False.elim
    | (refine awp_seq_keep [0, 1, 2, 6, 7, 8, 9, 14, 15, 16, 17, 18, 30] fun K hK => ?_)
    | (refine awp_region (by decide +kernel) ?_; simp (maxSteps := 10000000) only [awp_nil, awp_move, awp_assign, awp_pick, awp_alloc, awp_box, awp_build, awp_buildSlice, awp_load, awp_store, awp_nilCheck, awp_binOp, awp_unOp, awp_convert, awp_makeFunc, awp_makeSlice, awp_slice, awp_fieldAddr, awp_field, awp_indexAddr, awp_index, awp_extract, awp_builtin, awp_call, awpCall_fn, awp_guard, ↓aguard_undef, ↓aguard_tt, ↓aguard_ff, ↓aguard_tf, ↓aguard_ft, astep_mk, ↓aset_true, ↓aset_false, aset_bool, ↓aset_int, ↓aset_str, ↓aset_snil, ↓aset_sl, ↓aset_junk, ↓aset_ptr, ↓aset_pnil, ↓aset_imm, ↓aset_row, ↓aset_map, ↓aset_mnil, ↓aset_fn, ↓aset_fnil, ↓aset_agg, ↓aset_tup, ↓aset_none, gval, aget, ev, cv, cv1, abin, aint, afit, astr, aun, isShift, apick, aload, astore, aalloc, abox, cellsOf, isCell, afieldAddr, afield, apart, aixA, aindexAddr_sl, aindexAddr_row, aindexAddr_ptr, aindexAddr_imm, aindex, aextract, alen_str, alen_snil, alen_sl, alen_row, aslice, abnd, cut, cutOk, cutLo, cutHi, aconv, amin, amax, amakeFunc, anilCheck, amakeSlice, abuildSlice, abuild, afill, aappend, aapp_str, aapp_snil, aapp_sl, aapp_row, aapp_bv, acontent_snil, acontent_sl, acontent_row, acontent_bv, alen_bv, ↓aset_bv, acopy, abuiltin, splice, aeq, eqL, hcells_app, hcells_app0, hcells_zero, hcells_succ, hget_app, hget_app0, hset_app, hset_app0, hcells_sapp, hcells_sapp0, hget_sapp, hget_sapp0, hset_sapp, hset_sapp0, List.length_set, mkB_take_all, mkB_snoc, mkB_app, not_dec, or_dec, and_dec, List.getElem?_cons_zero, List.getElem?_cons_succ, Option.bind_some, Option.bind_none, Option.map_some, Option.map_none, reduceIte, Nat.reduceEqDiff, Nat.reduceAdd, Nat.reduceMul, Nat.reduceSub, Nat.reduceLT, Nat.reduceLeDiff, List.map_cons, List.map_nil, List.length_cons, List.length_nil, List.length_append, List.drop_succ_cons, List.drop_zero, List.take_succ_cons, List.take_zero, List.cons_append, List.nil_append, List.append_assoc, List.append_nil, List.all_cons, List.all_nil, Bool.and_true, Bool.true_and, Bool.not_true, Bool.not_false, List.getD_cons_zero, List.getD_cons_succ, List.set_cons_zero, List.set_cons_succ, true_and, and_true, initAct, akeep, thenA_normal, thenA_ret, thenA_exit, inBlockA_normal, inBlockA_ret, inBlockA_exit, decide_eq_true_eq, decide_eq_false_iff_not, Nat.zero_add, Nat.add_zero, eq_self, true_or, or_true, false_or, or_false, Bool.false_eq_true, false_implies, implies_true, true_implies, reduceCtorEq, arep_zero, arep_succ, Int.reduceToNat, Int.reducePow, Int.reduceLE, Int.reduceLT, Int.reduceAdd, Int.reduceMul, Int.reduceSub, Int.reduceNeg, Nat.mul_one, Nat.one_mul, Nat.reducePow, IntKind.bits, wrap_byteI, Int.natCast_add, Int.cast_ofNat_Int, mkB_length, ge_iff_le, gt_iff_lt, Nat.le_refl, Int.toNat_natCast, Option.isSome_some, Option.isNone_none, Option.isNone_some, inI64_u8, inI64_u16, inI64_u32, mkB_take_le, Nat.add_assoc, astep_ixbv, awp_s2a, aarrayPtr, List.flatten_cons, List.flatten_nil, alen_sv, ↓aset_sv, astep_ixsv, acontent_sv, not_true_eq_false, not_false_eq_true, ty3, ty4, ty5, ty23, ty29, ty36, ty37, ty42, ty44, ty58, LV.dv, LV.sv_l, List.length_map])
    | (refine awp_cond_t rfl ?_)
    | (refine awp_cond_f rfl ?_)
    | (refine awp_cond rfl (fun hb => ?_) (fun hb => ?_))
    | (refine awp_skip ?_; try simp only [thenA_normal, inBlockA_normal])
    | (refine awp_exit ?_; try simp only [thenA_exit, inBlockA_exit, thenA_normal])
    | (refine awp_ret ?_; try simp only [thenA_ret, inBlockA_ret])
    | (refine awp_block ?_)
    | (refine hK _ ?_; simp only [akeep, aget, List.map_cons, List.map_nil, reduceIte, Nat.reduceEqDiff]; try rfl)
    | (apply hK; clear hK K)
    | (clear hK; clear K; apply hK; clear hK K)
    | (clear hK; clear K; clear hK; clear K; apply hK; clear hK K)
    | omega
    | (refine And.intro ?_ ?_)
    | intro hc
  · refine (fin_self hQ (by simp [aresults, aresult]) ?_).1
    simp [aresults, aresult, akeep, aget, sameL]
    omega
  · have hlen : x.l.length = y.l.length := by omega
    refine awp_loop_at [1, 2, 15, 16, 17] (fun m a H' => ∃ j : Nat, m = x.l.length - j ∧ j ≤ x.l.length ∧ ((x.l.take j).zip (y.l.take j)).all (fun p => sameB p.1 p.2) = true ∧ a = [(1, .d (SV.dv 11 y.sv)), (2, .fn (.func 21) []), (15, .d (SV.dv 11 x.sv)), (16, .d (.int .i64 x.l.length)), (17, .d (.int .i64 j))] ∧ H' = H) x.l.length ⟨0, by omega, by omega, by simp, rfl, rfl⟩ ?_
    rintro m a H' ⟨j, rfl, hj, hall, rfl, hE⟩
    subst hE
    by_cases hlt : j < x.l.length
    · obtain ⟨ex, hx⟩ : ∃ e, x.l[j]? = some e := ⟨_, List.getElem?_eq_getElem hlt⟩
      obtain ⟨ey, hy⟩ : ∃ e, y.l[j]? = some e := ⟨_, List.getElem?_eq_getElem (by omega)⟩
      have hz : ((x.l.take (j + 1)).zip (y.l.take (j + 1))).all (fun p => sameB p.1 p.2) = sameB ex ey := by
        rw [List.take_add_one, List.take_add_one, hx, hy]
        rw [List.zip_append (by simp; omega)]
        simp [hall]
      repeat' first
        | exact trivial
        | exact fun h => absurd trivial h
        | exact False.elim
        | (refine awp_seq_keep [0, 1, 2, 6, 7, 8, 9, 14, 15, 16, 17, 18, 30] fun K hK => ?_)
        | (refine awp_region (by decide +kernel) ?_; simp (maxSteps := 10000000) only [awp_nil, awp_move, awp_assign, awp_pick, awp_alloc, awp_box, awp_build, awp_buildSlice, awp_load, awp_store, awp_nilCheck, awp_binOp, awp_unOp, awp_convert, awp_makeFunc, awp_makeSlice, awp_slice, awp_fieldAddr, awp_field, awp_indexAddr, awp_index, awp_extract, awp_builtin, awp_call, awpCall_fn, awp_guard, ↓aguard_undef, ↓aguard_tt, ↓aguard_ff, ↓aguard_tf, ↓aguard_ft, astep_mk, ↓aset_true, ↓aset_false, aset_bool, ↓aset_int, ↓aset_str, ↓aset_snil, ↓aset_sl, ↓aset_junk, ↓aset_ptr, ↓aset_pnil, ↓aset_imm, ↓aset_row, ↓aset_map, ↓aset_mnil, ↓aset_fn, ↓aset_fnil, ↓aset_agg, ↓aset_tup, ↓aset_none, gval, aget, ev, cv, cv1, abin, aint, afit, astr, aun, isShift, apick, aload, astore, aalloc, abox, cellsOf, isCell, afieldAddr, afield, apart, aixA, aindexAddr_sl, aindexAddr_row, aindexAddr_ptr, aindexAddr_imm, aindex, aextract, alen_str, alen_snil, alen_sl, alen_row, aslice, abnd, cut, cutOk, cutLo, cutHi, aconv, amin, amax, amakeFunc, anilCheck, amakeSlice, abuildSlice, abuild, afill, aappend, aapp_str, aapp_snil, aapp_sl, aapp_row, aapp_bv, acontent_snil, acontent_sl, acontent_row, acontent_bv, alen_bv, ↓aset_bv, acopy, abuiltin, splice, aeq, eqL, hcells_app, hcells_app0, hcells_zero, hcells_succ, hget_app, hget_app0, hset_app, hset_app0, hcells_sapp, hcells_sapp0, hget_sapp, hget_sapp0, hset_sapp, hset_sapp0, List.length_set, mkB_take_all, mkB_snoc, mkB_app, not_dec, or_dec, and_dec, List.getElem?_cons_zero, List.getElem?_cons_succ, Option.bind_some, Option.bind_none, Option.map_some, Option.map_none, reduceIte, Nat.reduceEqDiff, Nat.reduceAdd, Nat.reduceMul, Nat.reduceSub, Nat.reduceLT, Nat.reduceLeDiff, List.map_cons, List.map_nil, List.length_cons, List.length_nil, List.length_append, List.drop_succ_cons, List.drop_zero, List.take_succ_cons, List.take_zero, List.cons_append, List.nil_append, List.append_assoc, List.append_nil, List.all_cons, List.all_nil, Bool.and_true, Bool.true_and, Bool.not_true, Bool.not_false, List.getD_cons_zero, List.getD_cons_succ, List.set_cons_zero, List.set_cons_succ, true_and, and_true, initAct, akeep, thenA_normal, thenA_ret, thenA_exit, inBlockA_normal, inBlockA_ret, inBlockA_exit, decide_eq_true_eq, decide_eq_false_iff_not, Nat.zero_add, Nat.add_zero, eq_self, true_or, or_true, false_or, or_false, Bool.false_eq_true, false_implies, implies_true, true_implies, reduceCtorEq, arep_zero, arep_succ, Int.reduceToNat, Int.reducePow, Int.reduceLE, Int.reduceLT, Int.reduceAdd, Int.reduceMul, Int.reduceSub, Int.reduceNeg, Nat.mul_one, Nat.one_mul, Nat.reducePow, IntKind.bits, wrap_byteI, Int.natCast_add, Int.cast_ofNat_Int, mkB_length, ge_iff_le, gt_iff_lt, Nat.le_refl, Int.toNat_natCast, Option.isSome_some, Option.isNone_none, Option.isNone_some, inI64_u8, inI64_u16, inI64_u32, mkB_take_le, Nat.add_assoc, astep_ixbv, awp_s2a, aarrayPtr, List.flatten_cons, List.flatten_nil, alen_sv, ↓aset_sv, astep_ixsv, acontent_sv, not_true_eq_false, not_false_eq_true, ty3, ty4, ty5, ty23, ty29, ty36, ty37, ty42, ty44, ty58, LV.sv_l, List.length_map, LV.getD hx, LV.getD hy, Ev.enc])
        | (refine awp_cond_t rfl ?_)
        | (refine awp_cond_f rfl ?_)
        | (refine awp_cond rfl (fun hb => ?_) (fun hb => ?_))
        | (refine awp_skip ?_; try simp only [thenA_normal, inBlockA_normal])
        | (refine awp_exit ?_; try simp only [thenA_exit, inBlockA_exit, thenA_normal])
        | (refine awp_ret ?_; try simp only [thenA_ret, inBlockA_ret])
        | (refine awp_block ?_)
        | (refine hK _ ?_; simp only [akeep, aget, List.map_cons, List.map_nil, reduceIte, Nat.reduceEqDiff]; try rfl)
        | (apply hK; clear hK K)
        | (clear hK; clear K; apply hK; clear hK K)
        | (clear hK; clear K; clear hK; clear K; apply hK; clear hK K)
        | (refine ⟨ca21, acall_use (same_calls ex ey _) ?_⟩; rintro _ _ ⟨rfl, hE⟩; have hE := hE.symm; subst hE; simp only [contK_eq, amainK_cons, amainK_nil, mainK_eq, amainT_done, amainT_step, amainT_both, mainT_eq, opAt, List.forall_mem_cons, List.not_mem_nil, false_implies, implies_true, List.mem_cons, forall_eq_or_imp, forall_eq, awp_nil, awp_move, awp_assign, awp_pick, awp_alloc, awp_box, awp_build, awp_buildSlice, awp_load, awp_store, awp_nilCheck, awp_binOp, awp_unOp, awp_convert, awp_makeFunc, awp_makeSlice, awp_slice, awp_fieldAddr, awp_field, awp_indexAddr, awp_index, awp_extract, awp_builtin, awp_call, awpCall_fn, awp_guard, ↓aguard_undef, ↓aguard_tt, ↓aguard_ff, ↓aguard_tf, ↓aguard_ft, astep_mk, ↓aset_true, ↓aset_false, aset_bool, ↓aset_int, ↓aset_str, ↓aset_snil, ↓aset_sl, ↓aset_junk, ↓aset_ptr, ↓aset_pnil, ↓aset_imm, ↓aset_row, ↓aset_map, ↓aset_mnil, ↓aset_fn, ↓aset_fnil, ↓aset_agg, ↓aset_tup, ↓aset_none, gval, aget, ev, cv, cv1, abin, aint, afit, astr, aun, isShift, apick, aload, astore, aalloc, abox, cellsOf, isCell, afieldAddr, afield, apart, aixA, aindexAddr_sl, aindexAddr_row, aindexAddr_ptr, aindexAddr_imm, aindex, aextract, alen_str, alen_snil, alen_sl, alen_row, aslice, abnd, cut, cutOk, cutLo, cutHi, aconv, amin, amax, amakeFunc, anilCheck, amakeSlice, abuildSlice, abuild, afill, aappend, aapp_str, aapp_snil, aapp_sl, aapp_row, aapp_bv, acontent_snil, acontent_sl, acontent_row, acontent_bv, alen_bv, ↓aset_bv, acopy, abuiltin, splice, aeq, eqL, hcells_app, hcells_app0, hcells_zero, hcells_succ, hget_app, hget_app0, hset_app, hset_app0, hcells_sapp, hcells_sapp0, hget_sapp, hget_sapp0, hset_sapp, hset_sapp0, List.length_set, mkB_take_all, mkB_snoc, mkB_app, not_dec, or_dec, and_dec, List.getElem?_cons_zero, List.getElem?_cons_succ, Option.bind_some, Option.bind_none, Option.map_some, Option.map_none, reduceIte, Nat.reduceEqDiff, Nat.reduceAdd, Nat.reduceMul, Nat.reduceSub, Nat.reduceLT, Nat.reduceLeDiff, List.map_cons, List.map_nil, List.length_cons, List.length_nil, List.length_append, List.drop_succ_cons, List.drop_zero, List.take_succ_cons, List.take_zero, List.cons_append, List.nil_append, List.append_assoc, List.append_nil, List.all_cons, List.all_nil, Bool.and_true, Bool.true_and, Bool.not_true, Bool.not_false, List.getD_cons_zero, List.getD_cons_succ, List.set_cons_zero, List.set_cons_succ, true_and, and_true, initAct, akeep, thenA_normal, thenA_ret, thenA_exit, inBlockA_normal, inBlockA_ret, inBlockA_exit, decide_eq_true_eq, decide_eq_false_iff_not, Nat.zero_add, Nat.add_zero, eq_self, true_or, or_true, false_or, or_false, Bool.false_eq_true, false_implies, implies_true, true_implies, reduceCtorEq, arep_zero, arep_succ, Int.reduceToNat, Int.reducePow, Int.reduceLE, Int.reduceLT, Int.reduceAdd, Int.reduceMul, Int.reduceSub, Int.reduceNeg, Nat.mul_one, Nat.one_mul, Nat.reducePow, IntKind.bits, wrap_byteI, Int.natCast_add, Int.cast_ofNat_Int, mkB_length, ge_iff_le, gt_iff_lt, Nat.le_refl, Int.toNat_natCast, Option.isSome_some, Option.isNone_none, Option.isNone_some, inI64_u8, inI64_u16, inI64_u32, mkB_take_le, Nat.add_assoc, astep_ixbv, awp_s2a, aarrayPtr, List.flatten_cons, List.flatten_nil, alen_sv, ↓aset_sv, astep_ixsv, acontent_sv, not_true_eq_false, not_false_eq_true, ty3, ty4, ty5, ty23, ty29, ty36, ty37, ty42, ty44, ty58, LV.sv_l, List.length_map, LV.getD hx, LV.getD hy, Ev.enc])
        | omega
        | (refine And.intro ?_ ?_)
        | intro hc
      · refine Again.drop (x.l.length - (j + 1)) (by omega) (by rw [hk]; exact Nat.le_refl _) rfl hl ⟨j + 1, rfl, by omega, by rw [hz]; exact hc, by simp [akeep, aget], rfl⟩
      · refine (fin_drop hQ hk hl [6] ?_ ?_ ⟨?_, rfl⟩).1
        · rfl
        · simp [aresults, aresult]
        · have : sameL x.l y.l = false := by
            simp only [sameL, hlen, beq_self_eq_true, Bool.true_and]
            rw [List.all_eq_false]
            refine ⟨(ex, ey), ?_, by simp [hc]⟩
            have : (x.l.zip y.l)[j]? = some (ex, ey) := by simp [List.getElem?_zip_eq_some, hx, hy]
            exact List.mem_of_getElem? this
          simp [aresults, aresult, akeep, aget, this]
    · repeat' first
        | exact trivial
        | exact fun h => absurd trivial h
        | exact False.elim
        | (refine awp_seq_keep [0, 1, 2, 6, 7, 8, 9, 14, 15, 16, 17, 18, 30] fun K hK => ?_)
        | (refine awp_region (by decide +kernel) ?_; simp (maxSteps := 10000000) only [awp_nil, awp_move, awp_assign, awp_pick, awp_alloc, awp_box, awp_build, awp_buildSlice, awp_load, awp_store, awp_nilCheck, awp_binOp, awp_unOp, awp_convert, awp_makeFunc, awp_makeSlice, awp_slice, awp_fieldAddr, awp_field, awp_indexAddr, awp_index, awp_extract, awp_builtin, awp_call, awpCall_fn, awp_guard, ↓aguard_undef, ↓aguard_tt, ↓aguard_ff, ↓aguard_tf, ↓aguard_ft, astep_mk, ↓aset_true, ↓aset_false, aset_bool, ↓aset_int, ↓aset_str, ↓aset_snil, ↓aset_sl, ↓aset_junk, ↓aset_ptr, ↓aset_pnil, ↓aset_imm, ↓aset_row, ↓aset_map, ↓aset_mnil, ↓aset_fn, ↓aset_fnil, ↓aset_agg, ↓aset_tup, ↓aset_none, gval, aget, ev, cv, cv1, abin, aint, afit, astr, aun, isShift, apick, aload, astore, aalloc, abox, cellsOf, isCell, afieldAddr, afield, apart, aixA, aindexAddr_sl, aindexAddr_row, aindexAddr_ptr, aindexAddr_imm, aindex, aextract, alen_str, alen_snil, alen_sl, alen_row, aslice, abnd, cut, cutOk, cutLo, cutHi, aconv, amin, amax, amakeFunc, anilCheck, amakeSlice, abuildSlice, abuild, afill, aappend, aapp_str, aapp_snil, aapp_sl, aapp_row, aapp_bv, acontent_snil, acontent_sl, acontent_row, acontent_bv, alen_bv, ↓aset_bv, acopy, abuiltin, splice, aeq, eqL, hcells_app, hcells_app0, hcells_zero, hcells_succ, hget_app, hget_app0, hset_app, hset_app0, hcells_sapp, hcells_sapp0, hget_sapp, hget_sapp0, hset_sapp, hset_sapp0, List.length_set, mkB_take_all, mkB_snoc, mkB_app, not_dec, or_dec, and_dec, List.getElem?_cons_zero, List.getElem?_cons_succ, Option.bind_some, Option.bind_none, Option.map_some, Option.map_none, reduceIte, Nat.reduceEqDiff, Nat.reduceAdd, Nat.reduceMul, Nat.reduceSub, Nat.reduceLT, Nat.reduceLeDiff, List.map_cons, List.map_nil, List.length_cons, List.length_nil, List.length_append, List.drop_succ_cons, List.drop_zero, List.take_succ_cons, List.take_zero, List.cons_append, List.nil_append, List.append_assoc, List.append_nil, List.all_cons, List.all_nil, Bool.and_true, Bool.true_and, Bool.not_true, Bool.not_false, List.getD_cons_zero, List.getD_cons_succ, List.set_cons_zero, List.set_cons_succ, true_and, and_true, initAct, akeep, thenA_normal, thenA_ret, thenA_exit, inBlockA_normal, inBlockA_ret, inBlockA_exit, decide_eq_true_eq, decide_eq_false_iff_not, Nat.zero_add, Nat.add_zero, eq_self, true_or, or_true, false_or, or_false, Bool.false_eq_true, false_implies, implies_true, true_implies, reduceCtorEq, arep_zero, arep_succ, Int.reduceToNat, Int.reducePow, Int.reduceLE, Int.reduceLT, Int.reduceAdd, Int.reduceMul, Int.reduceSub, Int.reduceNeg, Nat.mul_one, Nat.one_mul, Nat.reducePow, IntKind.bits, wrap_byteI, Int.natCast_add, Int.cast_ofNat_Int, mkB_length, ge_iff_le, gt_iff_lt, Nat.le_refl, Int.toNat_natCast, Option.isSome_some, Option.isNone_none, Option.isNone_some, inI64_u8, inI64_u16, inI64_u32, mkB_take_le, Nat.add_assoc, astep_ixbv, awp_s2a, aarrayPtr, List.flatten_cons, List.flatten_nil, alen_sv, ↓aset_sv, astep_ixsv, acontent_sv, not_true_eq_false, not_false_eq_true, ty3, ty4, ty5, ty23, ty29, ty36, ty37, ty42, ty44, ty58, LV.sv_l, List.length_map])
        | (refine awp_cond_t rfl ?_)
        | (refine awp_cond_f rfl ?_)
        | (refine awp_cond rfl (fun hb => ?_) (fun hb => ?_))
        | (refine awp_skip ?_; try simp only [thenA_normal, inBlockA_normal])
        | (refine awp_exit ?_; try simp only [thenA_exit, inBlockA_exit, thenA_normal])
        | (refine awp_ret ?_; try simp only [thenA_ret, inBlockA_ret])
        | (refine awp_block ?_)
        | (refine hK _ ?_; simp only [akeep, aget, List.map_cons, List.map_nil, reduceIte, Nat.reduceEqDiff]; try rfl)
        | (apply hK; clear hK K)
        | (clear hK; clear K; apply hK; clear hK K)
        | (clear hK; clear K; clear hK; clear K; apply hK; clear hK K)
        | omega
        | (refine And.intro ?_ ?_)
        | intro hc
      obtain rfl : j = x.l.length := by omega
      refine (fin_self hQ (by simp [aresults, aresult]) ?_).1
      have : sameL x.l y.l = true := by
        simp only [sameL, hlen, beq_self_eq_true, Bool.true_and]
        rw [List.take_length, hlen, List.take_length] at hall
        exact hall
      simp [aresults, aresult, akeep, aget, this]

theorem Same_calls (x y : LV) (H : List AObj) (hb : x.l.length ≤ 1000000000) : ACalls Try.prog 9 [.d x.dv, .d y.dv] H fun v H' => v = .d (.bool (sameL x.l y.l)) ∧ H' = H := by
  refine acalls (rs := [.tmp 4]) Try.func9 rfl Try.ntmps9 rfl (by simp) fun M0 Q hk hl hQ => ?_
  repeat' first
    | exact trivial
    | exact fun h => absurd trivial h
    | exact False.elim
    | (refine awp_seq_keep [0, 1, 4] fun K hK => ?_)
    | (refine awp_region (by decide +kernel) ?_; simp (maxSteps := 10000000) only [awp_nil, awp_move, awp_assign, awp_pick, awp_alloc, awp_box, awp_build, awp_buildSlice, awp_load, awp_store, awp_nilCheck, awp_binOp, awp_unOp, awp_convert, awp_makeFunc, awp_makeSlice, awp_slice, awp_fieldAddr, awp_field, awp_indexAddr, awp_index, awp_extract, awp_builtin, awp_call, awpCall_fn, awp_guard, ↓aguard_undef, ↓aguard_tt, ↓aguard_ff, ↓aguard_tf, ↓aguard_ft, astep_mk, ↓aset_true, ↓aset_false, aset_bool, ↓aset_int, ↓aset_str, ↓aset_snil, ↓aset_sl, ↓aset_junk, ↓aset_ptr, ↓aset_pnil, ↓aset_imm, ↓aset_row, ↓aset_map, ↓aset_mnil, ↓aset_fn, ↓aset_fnil, ↓aset_agg, ↓aset_tup, ↓aset_none, gval, aget, ev, cv, cv1, abin, aint, afit, astr, aun, isShift, apick, aload, astore, aalloc, abox, cellsOf, isCell, afieldAddr, afield, apart, aixA, aindexAddr_sl, aindexAddr_row, aindexAddr_ptr, aindexAddr_imm, aindex, aextract, alen_str, alen_snil, alen_sl, alen_row, aslice, abnd, cut, cutOk, cutLo, cutHi, aconv, amin, amax, amakeFunc, anilCheck, amakeSlice, abuildSlice, abuild, afill, aappend, aapp_str, aapp_snil, aapp_sl, aapp_row, aapp_bv, acontent_snil, acontent_sl, acontent_row, acontent_bv, alen_bv, ↓aset_bv, acopy, abuiltin, splice, aeq, eqL, hcells_app, hcells_app0, hcells_zero, hcells_succ, hget_app, hget_app0, hset_app, hset_app0, hcells_sapp, hcells_sapp0, hget_sapp, hget_sapp0, hset_sapp, hset_sapp0, List.length_set, mkB_take_all, mkB_snoc, mkB_app, not_dec, or_dec, and_dec, List.getElem?_cons_zero, List.getElem?_cons_succ, Option.bind_some, Option.bind_none, Option.map_some, Option.map_none, reduceIte, Nat.reduceEqDiff, Nat.reduceAdd, Nat.reduceMul, Nat.reduceSub, Nat.reduceLT, Nat.reduceLeDiff, List.map_cons, List.map_nil, List.length_cons, List.length_nil, List.length_append, List.drop_succ_cons, List.drop_zero, List.take_succ_cons, List.take_zero, List.cons_append, List.nil_append, List.append_assoc, List.append_nil, List.all_cons, List.all_nil, Bool.and_true, Bool.true_and, Bool.not_true, Bool.not_false, List.getD_cons_zero, List.getD_cons_succ, List.set_cons_zero, List.set_cons_succ, true_and, and_true, initAct, akeep, thenA_normal, thenA_ret, thenA_exit, inBlockA_normal, inBlockA_ret, inBlockA_exit, decide_eq_true_eq, decide_eq_false_iff_not, Nat.zero_add, Nat.add_zero, eq_self, true_or, or_true, false_or, or_false, Bool.false_eq_true, false_implies, implies_true, true_implies, reduceCtorEq, arep_zero, arep_succ, Int.reduceToNat, Int.reducePow, Int.reduceLE, Int.reduceLT, Int.reduceAdd, Int.reduceMul, Int.reduceSub, Int.reduceNeg, Nat.mul_one, Nat.one_mul, Nat.reducePow, IntKind.bits, wrap_byteI, Int.natCast_add, Int.cast_ofNat_Int, mkB_length, ge_iff_le, gt_iff_lt, Nat.le_refl, Int.toNat_natCast, Option.isSome_some, Option.isNone_none, Option.isNone_some, inI64_u8, inI64_u16, inI64_u32, mkB_take_le, Nat.add_assoc, astep_ixbv, awp_s2a, aarrayPtr, List.flatten_cons, List.flatten_nil, alen_sv, ↓aset_sv, astep_ixsv, acontent_sv, not_true_eq_false, not_false_eq_true, ty3, ty4, ty5, ty23, ty29, ty36, ty37, ty42, ty44, ty58, LV.dv])
    | (refine awp_cond_t rfl ?_)
    | (refine awp_cond_f rfl ?_)
    | (refine awp_cond rfl (fun hb => ?_) (fun hb => ?_))
    | (refine awp_skip ?_; try simp only [thenA_normal, inBlockA_normal])
    | (refine awp_exit ?_; try simp only [thenA_exit, inBlockA_exit, thenA_normal])
    | (refine awp_ret ?_; try simp only [thenA_ret, inBlockA_ret])
    | (refine awp_block ?_)
    | (refine hK _ ?_; simp only [akeep, aget, List.map_cons, List.map_nil, reduceIte, Nat.reduceEqDiff]; try rfl)
    | (apply hK; clear hK K)
    | (clear hK; clear K; apply hK; clear hK K)
    | (clear hK; clear K; clear hK; clear K; apply hK; clear hK K)
    | (refine ⟨ca20, acall_use (EqualFunc_calls _ _ _ hb) ?_⟩; rintro _ _ ⟨rfl, hE⟩; have hE := hE.symm; subst hE; simp only [contK_eq, amainK_cons, amainK_nil, mainK_eq, amainT_done, amainT_step, amainT_both, mainT_eq, opAt, List.forall_mem_cons, List.not_mem_nil, false_implies, implies_true, List.mem_cons, forall_eq_or_imp, forall_eq, awp_nil, awp_move, awp_assign, awp_pick, awp_alloc, awp_box, awp_build, awp_buildSlice, awp_load, awp_store, awp_nilCheck, awp_binOp, awp_unOp, awp_convert, awp_makeFunc, awp_makeSlice, awp_slice, awp_fieldAddr, awp_field, awp_indexAddr, awp_index, awp_extract, awp_builtin, awp_call, awpCall_fn, awp_guard, ↓aguard_undef, ↓aguard_tt, ↓aguard_ff, ↓aguard_tf, ↓aguard_ft, astep_mk, ↓aset_true, ↓aset_false, aset_bool, ↓aset_int, ↓aset_str, ↓aset_snil, ↓aset_sl, ↓aset_junk, ↓aset_ptr, ↓aset_pnil, ↓aset_imm, ↓aset_row, ↓aset_map, ↓aset_mnil, ↓aset_fn, ↓aset_fnil, ↓aset_agg, ↓aset_tup, ↓aset_none, gval, aget, ev, cv, cv1, abin, aint, afit, astr, aun, isShift, apick, aload, astore, aalloc, abox, cellsOf, isCell, afieldAddr, afield, apart, aixA, aindexAddr_sl, aindexAddr_row, aindexAddr_ptr, aindexAddr_imm, aindex, aextract, alen_str, alen_snil, alen_sl, alen_row, aslice, abnd, cut, cutOk, cutLo, cutHi, aconv, amin, amax, amakeFunc, anilCheck, amakeSlice, abuildSlice, abuild, afill, aappend, aapp_str, aapp_snil, aapp_sl, aapp_row, aapp_bv, acontent_snil, acontent_sl, acontent_row, acontent_bv, alen_bv, ↓aset_bv, acopy, abuiltin, splice, aeq, eqL, hcells_app, hcells_app0, hcells_zero, hcells_succ, hget_app, hget_app0, hset_app, hset_app0, hcells_sapp, hcells_sapp0, hget_sapp, hget_sapp0, hset_sapp, hset_sapp0, List.length_set, mkB_take_all, mkB_snoc, mkB_app, not_dec, or_dec, and_dec, List.getElem?_cons_zero, List.getElem?_cons_succ, Option.bind_some, Option.bind_none, Option.map_some, Option.map_none, reduceIte, Nat.reduceEqDiff, Nat.reduceAdd, Nat.reduceMul, Nat.reduceSub, Nat.reduceLT, Nat.reduceLeDiff, List.map_cons, List.map_nil, List.length_cons, List.length_nil, List.length_append, List.drop_succ_cons, List.drop_zero, List.take_succ_cons, List.take_zero, List.cons_append, List.nil_append, List.append_assoc, List.append_nil, List.all_cons, List.all_nil, Bool.and_true, Bool.true_and, Bool.not_true, Bool.not_false, List.getD_cons_zero, List.getD_cons_succ, List.set_cons_zero, List.set_cons_succ, true_and, and_true, initAct, akeep, thenA_normal, thenA_ret, thenA_exit, inBlockA_normal, inBlockA_ret, inBlockA_exit, decide_eq_true_eq, decide_eq_false_iff_not, Nat.zero_add, Nat.add_zero, eq_self, true_or, or_true, false_or, or_false, Bool.false_eq_true, false_implies, implies_true, true_implies, reduceCtorEq, arep_zero, arep_succ, Int.reduceToNat, Int.reducePow, Int.reduceLE, Int.reduceLT, Int.reduceAdd, Int.reduceMul, Int.reduceSub, Int.reduceNeg, Nat.mul_one, Nat.one_mul, Nat.reducePow, IntKind.bits, wrap_byteI, Int.natCast_add, Int.cast_ofNat_Int, mkB_length, ge_iff_le, gt_iff_lt, Nat.le_refl, Int.toNat_natCast, Option.isSome_some, Option.isNone_none, Option.isNone_some, inI64_u8, inI64_u16, inI64_u32, mkB_take_le, Nat.add_assoc, astep_ixbv, awp_s2a, aarrayPtr, List.flatten_cons, List.flatten_nil, alen_sv, ↓aset_sv, astep_ixsv, acontent_sv, not_true_eq_false, not_false_eq_true, ty3, ty4, ty5, ty23, ty29, ty36, ty37, ty42, ty44, ty58, LV.dv])
    | omega
    | (refine And.intro ?_ ?_)
    | intro hc
  all_goals
    refine (fin_self hQ (by simp [aresults, aresult]) ?_).1
    simp [aresults, aresult, akeep, aget, hc]
end Go.Proofs.Ytmnmcbhaabnnfaa.R
