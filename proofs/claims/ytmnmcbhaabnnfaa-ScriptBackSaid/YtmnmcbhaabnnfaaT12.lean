import Derived.Test.YtmnmcbhaabnnfaaT11
import Derived.Test.YtmnmcbhaabnnfaaRv
namespace Go.Proofs.Ytmnmcbhaabnnfaa.R
open Go Go.R Go.Proofs
set_option linter.unusedSimpArgs false
set_option linter.unusedVariables false
attribute [local irreducible] awp awpOps ACalls Weak Ends contK Again

theorem Quiet_calls (x : Ev) (h1 : x.kind = 1) (hm : x.mask = 0) (H : List AObj) : ACalls Try.prog 11 [.agg x.av] H fun v H' => v = .d (.bool true) ∧ H' = H := by
  have hm0 : (x.mask.toNat : Int) = 0 := by rw [hm]; rfl
  refine acalls (rs := [.tmp 2]) Try.func11 rfl Try.ntmps11 rfl (by simp) fun M0 Q hk hl hQ => ?_
  repeat' first
    | exact trivial
    | exact fun h => absurd trivial h
    | exact False.elim
    | (refine awp_seq_keep [0, 1, 2] fun K hK => ?_)
    | (refine awp_region (by decide +kernel) ?_; simp (maxSteps := 10000000) only [awp_nil, awp_move, awp_assign, awp_pick, awp_alloc, awp_box, awp_build, awp_buildSlice, awp_load, awp_store, awp_nilCheck, awp_binOp, awp_unOp, awp_convert, awp_makeFunc, awp_makeSlice, awp_slice, awp_fieldAddr, awp_field, awp_indexAddr, awp_index, awp_extract, awp_builtin, awp_call, awpCall_fn, awp_guard, ↓aguard_undef, ↓aguard_tt, ↓aguard_ff, ↓aguard_tf, ↓aguard_ft, astep_mk, ↓aset_true, ↓aset_false, aset_bool, ↓aset_int, ↓aset_str, ↓aset_snil, ↓aset_sl, ↓aset_junk, ↓aset_ptr, ↓aset_pnil, ↓aset_imm, ↓aset_row, ↓aset_map, ↓aset_mnil, ↓aset_fn, ↓aset_fnil, ↓aset_agg, ↓aset_tup, ↓aset_none, gval, aget, ev, cv, cv1, abin, aint, afit, astr, aun, isShift, apick, aload, astore, aalloc, abox, cellsOf, isCell, afieldAddr, afield, apart, aixA, aindexAddr_sl, aindexAddr_row, aindexAddr_ptr, aindexAddr_imm, aindex, aextract, alen_str, alen_snil, alen_sl, alen_row, aslice, abnd, cut, cutOk, cutLo, cutHi, aconv, amin, amax, amakeFunc, anilCheck, amakeSlice, abuildSlice, abuild, afill, aappend, aapp_str, aapp_snil, aapp_sl, aapp_row, aapp_bv, acontent_snil, acontent_sl, acontent_row, acontent_bv, alen_bv, ↓aset_bv, acopy, abuiltin, splice, aeq, eqL, hcells_app, hcells_app0, hcells_zero, hcells_succ, hget_app, hget_app0, hset_app, hset_app0, hcells_sapp, hcells_sapp0, hget_sapp, hget_sapp0, hset_sapp, hset_sapp0, List.length_set, mkB_take_all, mkB_snoc, mkB_app, not_dec, or_dec, and_dec, List.getElem?_cons_zero, List.getElem?_cons_succ, Option.bind_some, Option.bind_none, Option.map_some, Option.map_none, reduceIte, Nat.reduceEqDiff, Nat.reduceAdd, Nat.reduceMul, Nat.reduceSub, Nat.reduceLT, Nat.reduceLeDiff, List.map_cons, List.map_nil, List.length_cons, List.length_nil, List.length_append, List.drop_succ_cons, List.drop_zero, List.take_succ_cons, List.take_zero, List.cons_append, List.nil_append, List.append_assoc, List.append_nil, List.all_cons, List.all_nil, Bool.and_true, Bool.true_and, Bool.not_true, Bool.not_false, List.getD_cons_zero, List.getD_cons_succ, List.set_cons_zero, List.set_cons_succ, true_and, and_true, initAct, akeep, thenA_normal, thenA_ret, thenA_exit, inBlockA_normal, inBlockA_ret, inBlockA_exit, decide_eq_true_eq, decide_eq_false_iff_not, Nat.zero_add, Nat.add_zero, eq_self, true_or, or_true, false_or, or_false, Bool.false_eq_true, false_implies, implies_true, true_implies, reduceCtorEq, arep_zero, arep_succ, Int.reduceToNat, Int.reducePow, Int.reduceLE, Int.reduceLT, Int.reduceAdd, Int.reduceMul, Int.reduceSub, Int.reduceNeg, Nat.mul_one, Nat.one_mul, Nat.reducePow, IntKind.bits, wrap_byteI, Int.natCast_add, Int.cast_ofNat_Int, mkB_length, ge_iff_le, gt_iff_lt, Nat.le_refl, Int.toNat_natCast, Option.isSome_some, Option.isNone_none, Option.isNone_some, inI64_u8, inI64_u16, inI64_u32, mkB_take_le, Nat.add_assoc, astep_ixbv, awp_s2a, aarrayPtr, List.flatten_cons, List.flatten_nil, alen_sv, ↓aset_sv, astep_ixsv, acontent_sv, not_true_eq_false, not_false_eq_true, ty3, ty4, ty5, ty23, ty36, ty37, ty42, ty44, Ev.av, h1, hm0])
    | (refine awp_cond_t rfl ?_)
    | (refine awp_cond_f rfl ?_)
    | (refine awp_cond rfl (fun hb => ?_) (fun hb => ?_))
    | (refine awp_skip ?_; try simp only [thenA_normal, inBlockA_normal])
    | (refine awp_exit ?_; try simp only [thenA_exit, inBlockA_exit, thenA_normal])
    | (refine awp_ret ?_; try simp only [thenA_ret, inBlockA_ret])
    | (refine awp_block ?_)
    | (refine hK _ ?_; simp only [akeep, aget, List.map_cons, List.map_nil, reduceIte, Nat.reduceEqDiff]; try rfl)
    | (apply hK; clear hK K)
    | (clear hK; clear K; apply hK; clear hK K)
    | (clear hK; clear K; clear hK; clear K; apply hK; clear hK K)
    | (refine ⟨ca22, acall_use (within_calls _ _ _ _) ?_⟩; rintro _ _ ⟨rfl, hE⟩; have hE := hE.symm; subst hE; simp only [contK_eq, amainK_cons, amainK_nil, mainK_eq, amainT_done, amainT_step, amainT_both, mainT_eq, opAt, List.forall_mem_cons, List.not_mem_nil, false_implies, implies_true, List.mem_cons, forall_eq_or_imp, forall_eq, awp_nil, awp_move, awp_assign, awp_pick, awp_alloc, awp_box, awp_build, awp_buildSlice, awp_load, awp_store, awp_nilCheck, awp_binOp, awp_unOp, awp_convert, awp_makeFunc, awp_makeSlice, awp_slice, awp_fieldAddr, awp_field, awp_indexAddr, awp_index, awp_extract, awp_builtin, awp_call, awpCall_fn, awp_guard, ↓aguard_undef, ↓aguard_tt, ↓aguard_ff, ↓aguard_tf, ↓aguard_ft, astep_mk, ↓aset_true, ↓aset_false, aset_bool, ↓aset_int, ↓aset_str, ↓aset_snil, ↓aset_sl, ↓aset_junk, ↓aset_ptr, ↓aset_pnil, ↓aset_imm, ↓aset_row, ↓aset_map, ↓aset_mnil, ↓aset_fn, ↓aset_fnil, ↓aset_agg, ↓aset_tup, ↓aset_none, gval, aget, ev, cv, cv1, abin, aint, afit, astr, aun, isShift, apick, aload, astore, aalloc, abox, cellsOf, isCell, afieldAddr, afield, apart, aixA, aindexAddr_sl, aindexAddr_row, aindexAddr_ptr, aindexAddr_imm, aindex, aextract, alen_str, alen_snil, alen_sl, alen_row, aslice, abnd, cut, cutOk, cutLo, cutHi, aconv, amin, amax, amakeFunc, anilCheck, amakeSlice, abuildSlice, abuild, afill, aappend, aapp_str, aapp_snil, aapp_sl, aapp_row, aapp_bv, acontent_snil, acontent_sl, acontent_row, acontent_bv, alen_bv, ↓aset_bv, acopy, abuiltin, splice, aeq, eqL, hcells_app, hcells_app0, hcells_zero, hcells_succ, hget_app, hget_app0, hset_app, hset_app0, hcells_sapp, hcells_sapp0, hget_sapp, hget_sapp0, hset_sapp, hset_sapp0, List.length_set, mkB_take_all, mkB_snoc, mkB_app, not_dec, or_dec, and_dec, List.getElem?_cons_zero, List.getElem?_cons_succ, Option.bind_some, Option.bind_none, Option.map_some, Option.map_none, reduceIte, Nat.reduceEqDiff, Nat.reduceAdd, Nat.reduceMul, Nat.reduceSub, Nat.reduceLT, Nat.reduceLeDiff, List.map_cons, List.map_nil, List.length_cons, List.length_nil, List.length_append, List.drop_succ_cons, List.drop_zero, List.take_succ_cons, List.take_zero, List.cons_append, List.nil_append, List.append_assoc, List.append_nil, List.all_cons, List.all_nil, Bool.and_true, Bool.true_and, Bool.not_true, Bool.not_false, List.getD_cons_zero, List.getD_cons_succ, List.set_cons_zero, List.set_cons_succ, true_and, and_true, initAct, akeep, thenA_normal, thenA_ret, thenA_exit, inBlockA_normal, inBlockA_ret, inBlockA_exit, decide_eq_true_eq, decide_eq_false_iff_not, Nat.zero_add, Nat.add_zero, eq_self, true_or, or_true, false_or, or_false, Bool.false_eq_true, false_implies, implies_true, true_implies, reduceCtorEq, arep_zero, arep_succ, Int.reduceToNat, Int.reducePow, Int.reduceLE, Int.reduceLT, Int.reduceAdd, Int.reduceMul, Int.reduceSub, Int.reduceNeg, Nat.mul_one, Nat.one_mul, Nat.reducePow, IntKind.bits, wrap_byteI, Int.natCast_add, Int.cast_ofNat_Int, mkB_length, ge_iff_le, gt_iff_lt, Nat.le_refl, Int.toNat_natCast, Option.isSome_some, Option.isNone_none, Option.isNone_some, inI64_u8, inI64_u16, inI64_u32, mkB_take_le, Nat.add_assoc, astep_ixbv, awp_s2a, aarrayPtr, List.flatten_cons, List.flatten_nil, alen_sv, ↓aset_sv, astep_ixsv, acontent_sv, not_true_eq_false, not_false_eq_true, ty3, ty4, ty5, ty23, ty36, ty37, ty42, ty44, Ev.av, h1, hm0])
    | omega
    | (refine And.intro ?_ ?_)
    | intro hc
  refine (fin_drop hQ hk hl [2] ?_ ?_ ⟨?_, rfl⟩).1
  · rfl
  · simp [aresults, aresult]
  · simp [aresults, aresult, akeep, aget]

def zs (l : List Int) : List AV := l.map fun n => .d (.int .i64 n)

theorem Counts_calls (x : Ev) (h1 : x.kind = 1) (H : List AObj) : ACalls Try.prog 12 [.d (lvOf [x]).dv] H fun v H' => v = .agg (zs [0, 1, 0, 0, 0, 0, 0, 0, 0]) ∧ H' = H := by
  refine ACalls.drop ?_
  refine acalls (rs := [.cell 2 46]) Try.func12 rfl Try.ntmps12 rfl (by simp) fun M0 Q hk hl hQ => ?_
  repeat' first
    | exact trivial
    | exact fun h => absurd trivial h
    | exact False.elim
    | (refine awp_seq_keep [0, 2, 3, 5, 6, 7, 8, 9, 14] fun K hK => ?_)
    | (refine awp_region (by decide +kernel) ?_; simp (maxSteps := 10000000) only [awp_nil, awp_move, awp_assign, awp_pick, awp_alloc, awp_box, awp_build, awp_buildSlice, awp_load, awp_store, awp_nilCheck, awp_binOp, awp_unOp, awp_convert, awp_makeFunc, awp_makeSlice, awp_slice, awp_fieldAddr, awp_field, awp_indexAddr, awp_index, awp_extract, awp_builtin, awp_call, awpCall_fn, awp_guard, ↓aguard_undef, ↓aguard_tt, ↓aguard_ff, ↓aguard_tf, ↓aguard_ft, astep_mk, ↓aset_true, ↓aset_false, aset_bool, ↓aset_int, ↓aset_str, ↓aset_snil, ↓aset_sl, ↓aset_junk, ↓aset_ptr, ↓aset_pnil, ↓aset_imm, ↓aset_row, ↓aset_map, ↓aset_mnil, ↓aset_fn, ↓aset_fnil, ↓aset_agg, ↓aset_tup, ↓aset_none, gval, aget, ev, cv, cv1, abin, aint, afit, astr, aun, isShift, apick, aload, astore, aalloc, abox, cellsOf, isCell, afieldAddr, afield, apart, aixA, aindexAddr_sl, aindexAddr_row, aindexAddr_ptr, aindexAddr_imm, aindex, aextract, alen_str, alen_snil, alen_sl, alen_row, aslice, abnd, cut, cutOk, cutLo, cutHi, aconv, amin, amax, amakeFunc, anilCheck, amakeSlice, abuildSlice, abuild, afill, aappend, aapp_str, aapp_snil, aapp_sl, aapp_row, aapp_bv, acontent_snil, acontent_sl, acontent_row, acontent_bv, alen_bv, ↓aset_bv, acopy, abuiltin, splice, aeq, eqL, hcells_app, hcells_app0, hcells_zero, hcells_succ, hget_app, hget_app0, hset_app, hset_app0, hcells_sapp, hcells_sapp0, hget_sapp, hget_sapp0, hset_sapp, hset_sapp0, List.length_set, mkB_take_all, mkB_snoc, mkB_app, not_dec, or_dec, and_dec, List.getElem?_cons_zero, List.getElem?_cons_succ, Option.bind_some, Option.bind_none, Option.map_some, Option.map_none, reduceIte, Nat.reduceEqDiff, Nat.reduceAdd, Nat.reduceMul, Nat.reduceSub, Nat.reduceLT, Nat.reduceLeDiff, List.map_cons, List.map_nil, List.length_cons, List.length_nil, List.length_append, List.drop_succ_cons, List.drop_zero, List.take_succ_cons, List.take_zero, List.cons_append, List.nil_append, List.append_assoc, List.append_nil, List.all_cons, List.all_nil, Bool.and_true, Bool.true_and, Bool.not_true, Bool.not_false, List.getD_cons_zero, List.getD_cons_succ, List.set_cons_zero, List.set_cons_succ, true_and, and_true, initAct, akeep, thenA_normal, thenA_ret, thenA_exit, inBlockA_normal, inBlockA_ret, inBlockA_exit, decide_eq_true_eq, decide_eq_false_iff_not, Nat.zero_add, Nat.add_zero, eq_self, true_or, or_true, false_or, or_false, Bool.false_eq_true, false_implies, implies_true, true_implies, reduceCtorEq, arep_zero, arep_succ, Int.reduceToNat, Int.reducePow, Int.reduceLE, Int.reduceLT, Int.reduceAdd, Int.reduceMul, Int.reduceSub, Int.reduceNeg, Nat.mul_one, Nat.one_mul, Nat.reducePow, IntKind.bits, wrap_byteI, Int.natCast_add, Int.cast_ofNat_Int, mkB_length, ge_iff_le, gt_iff_lt, Nat.le_refl, Int.toNat_natCast, Option.isSome_some, Option.isNone_none, Option.isNone_some, inI64_u8, inI64_u16, inI64_u32, mkB_take_le, Nat.add_assoc, astep_ixbv, awp_s2a, aarrayPtr, List.flatten_cons, List.flatten_nil, alen_sv, ↓aset_sv, astep_ixsv, acontent_sv, not_true_eq_false, not_false_eq_true, ty3, ty4, ty5, ty23, ty29, ty36, ty37, ty42, ty44, ty46, lvOf, LV.dv, LV.sv, SV.dv])
    | (refine awp_cond_t rfl ?_)
    | (refine awp_cond_f rfl ?_)
    | (refine awp_cond rfl (fun hb => ?_) (fun hb => ?_))
    | (refine awp_skip ?_; try simp only [thenA_normal, inBlockA_normal])
    | (refine awp_exit ?_; try simp only [thenA_exit, inBlockA_exit, thenA_normal])
    | (refine awp_ret ?_; try simp only [thenA_ret, inBlockA_ret])
    | (refine awp_block ?_)
    | (refine hK _ ?_; simp only [akeep, aget, List.map_cons, List.map_nil, reduceIte, Nat.reduceEqDiff]; try rfl)
    | (apply hK; clear hK K)
    | (clear hK; clear K; apply hK; clear hK K)
    | (clear hK; clear K; clear hK; clear K; apply hK; clear hK K)
    | omega
    | (refine And.intro ?_ ?_)
    | intro hc
  refine awp_loop_at [2, 3, 6, 7, 8] (fun m a H' => (m = 1 ∧ a = [(2, .ptr H.length 0), (3, .ptr (H.length + 1) 0), (6, .d (.sl 11 [x.enc] false)), (7, .d (.int .i64 1)), (8, .d (.int .i64 0))] ∧ H' = H ++ [.cells false (zs [0, 0, 0, 0, 0, 0, 0, 0, 0]), .cells false (zs [0, 0, 0, 0, 0, 0, 0, 0, 0])]) ∨
    (m = 0 ∧ a = [(2, .ptr H.length 0), (3, .ptr (H.length + 1) 0), (6, .d (.sl 11 [x.enc] false)), (7, .d (.int .i64 1)), (8, .d (.int .i64 1))] ∧ H' = H ++ [.cells false (zs [0, 0, 0, 0, 0, 0, 0, 0, 0]), .cells false (zs [0, 1, 0, 0, 0, 0, 0, 0, 0]), .cells false x.av])) 1 (.inl ⟨rfl, rfl, rfl⟩) ?_
  rintro m a H' (⟨rfl, rfl, rfl⟩ | ⟨rfl, rfl, rfl⟩)
  · repeat' first
      | exact trivial
      | exact fun h => absurd trivial h
      | exact False.elim
      | (refine awp_seq_keep [0, 2, 3, 5, 6, 7, 8, 9, 14] fun K hK => ?_)
      | (refine awp_region (by decide +kernel) ?_; simp (maxSteps := 10000000) only [awp_nil, awp_move, awp_assign, awp_pick, awp_alloc, awp_box, awp_build, awp_buildSlice, awp_load, awp_store, awp_nilCheck, awp_binOp, awp_unOp, awp_convert, awp_makeFunc, awp_makeSlice, awp_slice, awp_fieldAddr, awp_field, awp_indexAddr, awp_index, awp_extract, awp_builtin, awp_call, awpCall_fn, awp_guard, ↓aguard_undef, ↓aguard_tt, ↓aguard_ff, ↓aguard_tf, ↓aguard_ft, astep_mk, ↓aset_true, ↓aset_false, aset_bool, ↓aset_int, ↓aset_str, ↓aset_snil, ↓aset_sl, ↓aset_junk, ↓aset_ptr, ↓aset_pnil, ↓aset_imm, ↓aset_row, ↓aset_map, ↓aset_mnil, ↓aset_fn, ↓aset_fnil, ↓aset_agg, ↓aset_tup, ↓aset_none, gval, aget, ev, cv, cv1, abin, aint, afit, astr, aun, isShift, apick, aload, astore, aalloc, abox, cellsOf, isCell, afieldAddr, afield, apart, aixA, aindexAddr_sl, aindexAddr_row, aindexAddr_ptr, aindexAddr_imm, aindex, aextract, alen_str, alen_snil, alen_sl, alen_row, aslice, abnd, cut, cutOk, cutLo, cutHi, aconv, amin, amax, amakeFunc, anilCheck, amakeSlice, abuildSlice, abuild, afill, aappend, aapp_str, aapp_snil, aapp_sl, aapp_row, aapp_bv, acontent_snil, acontent_sl, acontent_row, acontent_bv, alen_bv, ↓aset_bv, acopy, abuiltin, splice, aeq, eqL, hcells_app, hcells_app0, hcells_zero, hcells_succ, hget_app, hget_app0, hset_app, hset_app0, hcells_sapp, hcells_sapp0, hget_sapp, hget_sapp0, hset_sapp, hset_sapp0, List.length_set, mkB_take_all, mkB_snoc, mkB_app, not_dec, or_dec, and_dec, List.getElem?_cons_zero, List.getElem?_cons_succ, Option.bind_some, Option.bind_none, Option.map_some, Option.map_none, reduceIte, Nat.reduceEqDiff, Nat.reduceAdd, Nat.reduceMul, Nat.reduceSub, Nat.reduceLT, Nat.reduceLeDiff, List.map_cons, List.map_nil, List.length_cons, List.length_nil, List.length_append, List.drop_succ_cons, List.drop_zero, List.take_succ_cons, List.take_zero, List.cons_append, List.nil_append, List.append_assoc, List.append_nil, List.all_cons, List.all_nil, Bool.and_true, Bool.true_and, Bool.not_true, Bool.not_false, List.getD_cons_zero, List.getD_cons_succ, List.set_cons_zero, List.set_cons_succ, true_and, and_true, initAct, akeep, thenA_normal, thenA_ret, thenA_exit, inBlockA_normal, inBlockA_ret, inBlockA_exit, decide_eq_true_eq, decide_eq_false_iff_not, Nat.zero_add, Nat.add_zero, eq_self, true_or, or_true, false_or, or_false, Bool.false_eq_true, false_implies, implies_true, true_implies, reduceCtorEq, arep_zero, arep_succ, Int.reduceToNat, Int.reducePow, Int.reduceLE, Int.reduceLT, Int.reduceAdd, Int.reduceMul, Int.reduceSub, Int.reduceNeg, Nat.mul_one, Nat.one_mul, Nat.reducePow, IntKind.bits, wrap_byteI, Int.natCast_add, Int.cast_ofNat_Int, mkB_length, ge_iff_le, gt_iff_lt, Nat.le_refl, Int.toNat_natCast, Option.isSome_some, Option.isNone_none, Option.isNone_some, inI64_u8, inI64_u16, inI64_u32, mkB_take_le, Nat.add_assoc, astep_ixbv, awp_s2a, aarrayPtr, List.flatten_cons, List.flatten_nil, alen_sv, ↓aset_sv, astep_ixsv, acontent_sv, not_true_eq_false, not_false_eq_true, ty3, ty4, ty5, ty23, ty29, ty36, ty37, ty42, ty44, ty46, zs, Ev.enc, Ev.av, h1])
      | (refine awp_cond_t rfl ?_)
      | (refine awp_cond_f rfl ?_)
      | (refine awp_cond rfl (fun hb => ?_) (fun hb => ?_))
      | (refine awp_skip ?_; try simp only [thenA_normal, inBlockA_normal])
      | (refine awp_exit ?_; try simp only [thenA_exit, inBlockA_exit, thenA_normal])
      | (refine awp_ret ?_; try simp only [thenA_ret, inBlockA_ret])
      | (refine awp_block ?_)
      | (refine hK _ ?_; simp only [akeep, aget, List.map_cons, List.map_nil, reduceIte, Nat.reduceEqDiff]; try rfl)
      | (apply hK; clear hK K)
      | (clear hK; clear K; apply hK; clear hK K)
      | (clear hK; clear K; clear hK; clear K; apply hK; clear hK K)
      | (refine ⟨ca22, acall_use (within_calls _ _ _ _) ?_⟩; rintro _ _ ⟨rfl, hE⟩; have hE := hE.symm; subst hE; simp only [contK_eq, amainK_cons, amainK_nil, mainK_eq, amainT_done, amainT_step, amainT_both, mainT_eq, opAt, List.forall_mem_cons, List.not_mem_nil, false_implies, implies_true, List.mem_cons, forall_eq_or_imp, forall_eq, awp_nil, awp_move, awp_assign, awp_pick, awp_alloc, awp_box, awp_build, awp_buildSlice, awp_load, awp_store, awp_nilCheck, awp_binOp, awp_unOp, awp_convert, awp_makeFunc, awp_makeSlice, awp_slice, awp_fieldAddr, awp_field, awp_indexAddr, awp_index, awp_extract, awp_builtin, awp_call, awpCall_fn, awp_guard, ↓aguard_undef, ↓aguard_tt, ↓aguard_ff, ↓aguard_tf, ↓aguard_ft, astep_mk, ↓aset_true, ↓aset_false, aset_bool, ↓aset_int, ↓aset_str, ↓aset_snil, ↓aset_sl, ↓aset_junk, ↓aset_ptr, ↓aset_pnil, ↓aset_imm, ↓aset_row, ↓aset_map, ↓aset_mnil, ↓aset_fn, ↓aset_fnil, ↓aset_agg, ↓aset_tup, ↓aset_none, gval, aget, ev, cv, cv1, abin, aint, afit, astr, aun, isShift, apick, aload, astore, aalloc, abox, cellsOf, isCell, afieldAddr, afield, apart, aixA, aindexAddr_sl, aindexAddr_row, aindexAddr_ptr, aindexAddr_imm, aindex, aextract, alen_str, alen_snil, alen_sl, alen_row, aslice, abnd, cut, cutOk, cutLo, cutHi, aconv, amin, amax, amakeFunc, anilCheck, amakeSlice, abuildSlice, abuild, afill, aappend, aapp_str, aapp_snil, aapp_sl, aapp_row, aapp_bv, acontent_snil, acontent_sl, acontent_row, acontent_bv, alen_bv, ↓aset_bv, acopy, abuiltin, splice, aeq, eqL, hcells_app, hcells_app0, hcells_zero, hcells_succ, hget_app, hget_app0, hset_app, hset_app0, hcells_sapp, hcells_sapp0, hget_sapp, hget_sapp0, hset_sapp, hset_sapp0, List.length_set, mkB_take_all, mkB_snoc, mkB_app, not_dec, or_dec, and_dec, List.getElem?_cons_zero, List.getElem?_cons_succ, Option.bind_some, Option.bind_none, Option.map_some, Option.map_none, reduceIte, Nat.reduceEqDiff, Nat.reduceAdd, Nat.reduceMul, Nat.reduceSub, Nat.reduceLT, Nat.reduceLeDiff, List.map_cons, List.map_nil, List.length_cons, List.length_nil, List.length_append, List.drop_succ_cons, List.drop_zero, List.take_succ_cons, List.take_zero, List.cons_append, List.nil_append, List.append_assoc, List.append_nil, List.all_cons, List.all_nil, Bool.and_true, Bool.true_and, Bool.not_true, Bool.not_false, List.getD_cons_zero, List.getD_cons_succ, List.set_cons_zero, List.set_cons_succ, true_and, and_true, initAct, akeep, thenA_normal, thenA_ret, thenA_exit, inBlockA_normal, inBlockA_ret, inBlockA_exit, decide_eq_true_eq, decide_eq_false_iff_not, Nat.zero_add, Nat.add_zero, eq_self, true_or, or_true, false_or, or_false, Bool.false_eq_true, false_implies, implies_true, true_implies, reduceCtorEq, arep_zero, arep_succ, Int.reduceToNat, Int.reducePow, Int.reduceLE, Int.reduceLT, Int.reduceAdd, Int.reduceMul, Int.reduceSub, Int.reduceNeg, Nat.mul_one, Nat.one_mul, Nat.reducePow, IntKind.bits, wrap_byteI, Int.natCast_add, Int.cast_ofNat_Int, mkB_length, ge_iff_le, gt_iff_lt, Nat.le_refl, Int.toNat_natCast, Option.isSome_some, Option.isNone_none, Option.isNone_some, inI64_u8, inI64_u16, inI64_u32, mkB_take_le, Nat.add_assoc, astep_ixbv, awp_s2a, aarrayPtr, List.flatten_cons, List.flatten_nil, alen_sv, ↓aset_sv, astep_ixsv, acontent_sv, not_true_eq_false, not_false_eq_true, ty3, ty4, ty5, ty23, ty29, ty36, ty37, ty42, ty44, ty46, zs, Ev.enc, Ev.av, h1])
      | omega
      | (refine And.intro ?_ ?_)
      | intro hc
    exact Again.same 0 (by omega) (.inr ⟨rfl, rfl, rfl⟩)
  · repeat' first
      | exact trivial
      | exact fun h => absurd trivial h
      | exact False.elim
      | (refine awp_seq_keep [0, 2, 3, 5, 6, 7, 8, 9, 14] fun K hK => ?_)
      | (refine awp_region (by decide +kernel) ?_; simp (maxSteps := 10000000) only [awp_nil, awp_move, awp_assign, awp_pick, awp_alloc, awp_box, awp_build, awp_buildSlice, awp_load, awp_store, awp_nilCheck, awp_binOp, awp_unOp, awp_convert, awp_makeFunc, awp_makeSlice, awp_slice, awp_fieldAddr, awp_field, awp_indexAddr, awp_index, awp_extract, awp_builtin, awp_call, awpCall_fn, awp_guard, ↓aguard_undef, ↓aguard_tt, ↓aguard_ff, ↓aguard_tf, ↓aguard_ft, astep_mk, ↓aset_true, ↓aset_false, aset_bool, ↓aset_int, ↓aset_str, ↓aset_snil, ↓aset_sl, ↓aset_junk, ↓aset_ptr, ↓aset_pnil, ↓aset_imm, ↓aset_row, ↓aset_map, ↓aset_mnil, ↓aset_fn, ↓aset_fnil, ↓aset_agg, ↓aset_tup, ↓aset_none, gval, aget, ev, cv, cv1, abin, aint, afit, astr, aun, isShift, apick, aload, astore, aalloc, abox, cellsOf, isCell, afieldAddr, afield, apart, aixA, aindexAddr_sl, aindexAddr_row, aindexAddr_ptr, aindexAddr_imm, aindex, aextract, alen_str, alen_snil, alen_sl, alen_row, aslice, abnd, cut, cutOk, cutLo, cutHi, aconv, amin, amax, amakeFunc, anilCheck, amakeSlice, abuildSlice, abuild, afill, aappend, aapp_str, aapp_snil, aapp_sl, aapp_row, aapp_bv, acontent_snil, acontent_sl, acontent_row, acontent_bv, alen_bv, ↓aset_bv, acopy, abuiltin, splice, aeq, eqL, hcells_app, hcells_app0, hcells_zero, hcells_succ, hget_app, hget_app0, hset_app, hset_app0, hcells_sapp, hcells_sapp0, hget_sapp, hget_sapp0, hset_sapp, hset_sapp0, List.length_set, mkB_take_all, mkB_snoc, mkB_app, not_dec, or_dec, and_dec, List.getElem?_cons_zero, List.getElem?_cons_succ, Option.bind_some, Option.bind_none, Option.map_some, Option.map_none, reduceIte, Nat.reduceEqDiff, Nat.reduceAdd, Nat.reduceMul, Nat.reduceSub, Nat.reduceLT, Nat.reduceLeDiff, List.map_cons, List.map_nil, List.length_cons, List.length_nil, List.length_append, List.drop_succ_cons, List.drop_zero, List.take_succ_cons, List.take_zero, List.cons_append, List.nil_append, List.append_assoc, List.append_nil, List.all_cons, List.all_nil, Bool.and_true, Bool.true_and, Bool.not_true, Bool.not_false, List.getD_cons_zero, List.getD_cons_succ, List.set_cons_zero, List.set_cons_succ, true_and, and_true, initAct, akeep, thenA_normal, thenA_ret, thenA_exit, inBlockA_normal, inBlockA_ret, inBlockA_exit, decide_eq_true_eq, decide_eq_false_iff_not, Nat.zero_add, Nat.add_zero, eq_self, true_or, or_true, false_or, or_false, Bool.false_eq_true, false_implies, implies_true, true_implies, reduceCtorEq, arep_zero, arep_succ, Int.reduceToNat, Int.reducePow, Int.reduceLE, Int.reduceLT, Int.reduceAdd, Int.reduceMul, Int.reduceSub, Int.reduceNeg, Nat.mul_one, Nat.one_mul, Nat.reducePow, IntKind.bits, wrap_byteI, Int.natCast_add, Int.cast_ofNat_Int, mkB_length, ge_iff_le, gt_iff_lt, Nat.le_refl, Int.toNat_natCast, Option.isSome_some, Option.isNone_none, Option.isNone_some, inI64_u8, inI64_u16, inI64_u32, mkB_take_le, Nat.add_assoc, astep_ixbv, awp_s2a, aarrayPtr, List.flatten_cons, List.flatten_nil, alen_sv, ↓aset_sv, astep_ixsv, acontent_sv, not_true_eq_false, not_false_eq_true, ty3, ty4, ty5, ty23, ty29, ty36, ty37, ty42, ty44, ty46, zs, Ev.av])
      | (refine awp_cond_t rfl ?_)
      | (refine awp_cond_f rfl ?_)
      | (refine awp_cond rfl (fun hb => ?_) (fun hb => ?_))
      | (refine awp_skip ?_; try simp only [thenA_normal, inBlockA_normal])
      | (refine awp_exit ?_; try simp only [thenA_exit, inBlockA_exit, thenA_normal])
      | (refine awp_ret ?_; try simp only [thenA_ret, inBlockA_ret])
      | (refine awp_block ?_)
      | (refine hK _ ?_; simp only [akeep, aget, List.map_cons, List.map_nil, reduceIte, Nat.reduceEqDiff]; try rfl)
      | (apply hK; clear hK K)
      | (clear hK; clear K; apply hK; clear hK K)
      | (clear hK; clear K; clear hK; clear K; apply hK; clear hK K)
      | omega
      | (refine And.intro ?_ ?_)
      | intro hc
    refine (fin_self hQ ?_ ?_).1
    · simp [aresults, aresult, akeep, aget, hcells_app, hcells_app0, hcells_zero, hcells_succ, aload, cellsOf, ty46]
    · simp [aresults, aresult, akeep, aget, hcells_app, hcells_app0, hcells_zero, hcells_succ, aload, cellsOf, ty46, zs, AV.lt, AV.ltL]

/-- Whether events are too much for the law. -/
def farL (es : List Ev) : Bool := (es.take 3100).any (fun e => decide (500 < e.data.l.length)) || (decide (30 < es.length) && decide (es.length ≤ 3000)) || decide (3100 < es.length)

theorem farL_true {es : List Ev} {j : Nat} {e : Ev} (hj : j < es.length) (h3 : j < 3100) (he : es[j]? = some e) (hd : (500 : Int) < e.data.l.length) : farL es = true := by
  have : (es.take 3100).any (fun e => decide (500 < e.data.l.length)) = true := by
    rw [List.any_eq_true]
    refine ⟨e, ?_, by simp; omega⟩
    have : (es.take 3100)[j]? = some e := by rw [List.getElem?_take_of_lt h3]; exact he
    exact List.mem_of_getElem? this
  simp [farL, this]

theorem farL_rest {es : List Ev} (h : ∀ e ∈ es.take 3100, ¬ (500 : Int) < e.data.l.length) : farL es = ((decide (30 < es.length) && decide (es.length ≤ 3000)) || decide (3100 < es.length)) := by
  have : (es.take 3100).any (fun e => decide (500 < e.data.l.length)) = false := by
    rw [List.any_eq_false]
    intro e he
    have := h e he
    simp; omega
  simp [farL, this]

theorem far_fin {es : List Ev} {n : Nat} (hn : n = es.length) : ((decide (30 < es.length) && decide (es.length ≤ 3000)) || decide (3100 < es.length)) = ((decide ((30 : Int) < n) && decide ((n : Int) ≤ 3000)) || decide ((3100 : Int) < n)) := by
  subst hn
  congr 1
  · congr 1 <;> apply decide_eq_decide.2 <;> omega
  · apply decide_eq_decide.2; omega

theorem far_calls (x : LV) (H : List AObj) (hb : x.l.length ≤ 140737488355328) : ACalls Try.prog 4 [.d x.dv] H fun v H' => v = .d (.bool (farL x.l)) ∧ H' = H := by
  cases x with
  | nil =>
    refine acalls (rs := [.tmp 2]) Try.func4 rfl Try.ntmps4 rfl (by simp) fun M0 Q hk hl hQ => ?_
    repeat' first
      | exact trivial
      | exact fun h => absurd trivial h
      | exact False.elim
      | (refine awp_seq_keep [0, 2, 4, 9, 10, 11, 12, 18] fun K hK => ?_)
      | (refine awp_region (by decide +kernel) ?_; simp (maxSteps := 10000000) only [awp_nil, awp_move, awp_assign, awp_pick, awp_alloc, awp_box, awp_build, awp_buildSlice, awp_load, awp_store, awp_nilCheck, awp_binOp, awp_unOp, awp_convert, awp_makeFunc, awp_makeSlice, awp_slice, awp_fieldAddr, awp_field, awp_indexAddr, awp_index, awp_extract, awp_builtin, awp_call, awpCall_fn, awp_guard, ↓aguard_undef, ↓aguard_tt, ↓aguard_ff, ↓aguard_tf, ↓aguard_ft, astep_mk, ↓aset_true, ↓aset_false, aset_bool, ↓aset_int, ↓aset_str, ↓aset_snil, ↓aset_sl, ↓aset_junk, ↓aset_ptr, ↓aset_pnil, ↓aset_imm, ↓aset_row, ↓aset_map, ↓aset_mnil, ↓aset_fn, ↓aset_fnil, ↓aset_agg, ↓aset_tup, ↓aset_none, gval, aget, ev, cv, cv1, abin, aint, afit, astr, aun, isShift, apick, aload, astore, aalloc, abox, cellsOf, isCell, afieldAddr, afield, apart, aixA, aindexAddr_sl, aindexAddr_row, aindexAddr_ptr, aindexAddr_imm, aindex, aextract, alen_str, alen_snil, alen_sl, alen_row, aslice, abnd, cut, cutOk, cutLo, cutHi, aconv, amin, amax, amakeFunc, anilCheck, amakeSlice, abuildSlice, abuild, afill, aappend, aapp_str, aapp_snil, aapp_sl, aapp_row, aapp_bv, acontent_snil, acontent_sl, acontent_row, acontent_bv, alen_bv, ↓aset_bv, acopy, abuiltin, splice, aeq, eqL, hcells_app, hcells_app0, hcells_zero, hcells_succ, hget_app, hget_app0, hset_app, hset_app0, hcells_sapp, hcells_sapp0, hget_sapp, hget_sapp0, hset_sapp, hset_sapp0, List.length_set, mkB_take_all, mkB_snoc, mkB_app, not_dec, or_dec, and_dec, List.getElem?_cons_zero, List.getElem?_cons_succ, Option.bind_some, Option.bind_none, Option.map_some, Option.map_none, reduceIte, Nat.reduceEqDiff, Nat.reduceAdd, Nat.reduceMul, Nat.reduceSub, Nat.reduceLT, Nat.reduceLeDiff, List.map_cons, List.map_nil, List.length_cons, List.length_nil, List.length_append, List.drop_succ_cons, List.drop_zero, List.take_succ_cons, List.take_zero, List.cons_append, List.nil_append, List.append_assoc, List.append_nil, List.all_cons, List.all_nil, Bool.and_true, Bool.true_and, Bool.not_true, Bool.not_false, List.getD_cons_zero, List.getD_cons_succ, List.set_cons_zero, List.set_cons_succ, true_and, and_true, initAct, akeep, thenA_normal, thenA_ret, thenA_exit, inBlockA_normal, inBlockA_ret, inBlockA_exit, decide_eq_true_eq, decide_eq_false_iff_not, Nat.zero_add, Nat.add_zero, eq_self, true_or, or_true, false_or, or_false, Bool.false_eq_true, false_implies, implies_true, true_implies, reduceCtorEq, arep_zero, arep_succ, Int.reduceToNat, Int.reducePow, Int.reduceLE, Int.reduceLT, Int.reduceAdd, Int.reduceMul, Int.reduceSub, Int.reduceNeg, Nat.mul_one, Nat.one_mul, Nat.reducePow, IntKind.bits, wrap_byteI, Int.natCast_add, Int.cast_ofNat_Int, mkB_length, ge_iff_le, gt_iff_lt, Nat.le_refl, Int.toNat_natCast, Option.isSome_some, Option.isNone_none, Option.isNone_some, inI64_u8, inI64_u16, inI64_u32, mkB_take_le, Nat.add_assoc, astep_ixbv, awp_s2a, aarrayPtr, List.flatten_cons, List.flatten_nil, alen_sv, ↓aset_sv, astep_ixsv, acontent_sv, not_true_eq_false, not_false_eq_true, ty3, ty4, ty5, ty22, ty23, ty36, ty37, ty39, ty41, LV.dv, LV.sv, SV.dv])
      | (refine awp_cond_t rfl ?_)
      | (refine awp_cond_f rfl ?_)
      | (refine awp_cond rfl (fun hb => ?_) (fun hb => ?_))
      | (refine awp_skip ?_; try simp only [thenA_normal, inBlockA_normal])
      | (refine awp_exit ?_; try simp only [thenA_exit, inBlockA_exit, thenA_normal])
      | (refine awp_ret ?_; try simp only [thenA_ret, inBlockA_ret])
      | (refine awp_block ?_)
      | (refine hK _ ?_; simp only [akeep, aget, List.map_cons, List.map_nil, reduceIte, Nat.reduceEqDiff]; try rfl)
      | (apply hK; clear hK K)
      | (clear hK; clear K; apply hK; clear hK K)
      | (clear hK; clear K; clear hK; clear K; apply hK; clear hK K)
      | omega
      | (refine And.intro ?_ ?_)
      | intro hc
    refine awp_loop_at [0, 9, 10, 11] (fun m a H' => a = [(0, .d .snil), (9, .d .snil), (10, .d (.int .i64 0)), (11, .d (.int .i64 0))] ∧ H' = H) 0 ⟨rfl, rfl⟩ ?_
    rintro m a H' ⟨rfl, hE⟩
    have hE := hE.symm
    subst hE
    repeat' first
      | exact trivial
      | exact fun h => absurd trivial h
      | exact False.elim
      | (refine awp_seq_keep [0, 2, 4, 9, 10, 11, 12, 18] fun K hK => ?_)
      | (refine awp_region (by decide +kernel) ?_; simp (maxSteps := 10000000) only [awp_nil, awp_move, awp_assign, awp_pick, awp_alloc, awp_box, awp_build, awp_buildSlice, awp_load, awp_store, awp_nilCheck, awp_binOp, awp_unOp, awp_convert, awp_makeFunc, awp_makeSlice, awp_slice, awp_fieldAddr, awp_field, awp_indexAddr, awp_index, awp_extract, awp_builtin, awp_call, awpCall_fn, awp_guard, ↓aguard_undef, ↓aguard_tt, ↓aguard_ff, ↓aguard_tf, ↓aguard_ft, astep_mk, ↓aset_true, ↓aset_false, aset_bool, ↓aset_int, ↓aset_str, ↓aset_snil, ↓aset_sl, ↓aset_junk, ↓aset_ptr, ↓aset_pnil, ↓aset_imm, ↓aset_row, ↓aset_map, ↓aset_mnil, ↓aset_fn, ↓aset_fnil, ↓aset_agg, ↓aset_tup, ↓aset_none, gval, aget, ev, cv, cv1, abin, aint, afit, astr, aun, isShift, apick, aload, astore, aalloc, abox, cellsOf, isCell, afieldAddr, afield, apart, aixA, aindexAddr_sl, aindexAddr_row, aindexAddr_ptr, aindexAddr_imm, aindex, aextract, alen_str, alen_snil, alen_sl, alen_row, aslice, abnd, cut, cutOk, cutLo, cutHi, aconv, amin, amax, amakeFunc, anilCheck, amakeSlice, abuildSlice, abuild, afill, aappend, aapp_str, aapp_snil, aapp_sl, aapp_row, aapp_bv, acontent_snil, acontent_sl, acontent_row, acontent_bv, alen_bv, ↓aset_bv, acopy, abuiltin, splice, aeq, eqL, hcells_app, hcells_app0, hcells_zero, hcells_succ, hget_app, hget_app0, hset_app, hset_app0, hcells_sapp, hcells_sapp0, hget_sapp, hget_sapp0, hset_sapp, hset_sapp0, List.length_set, mkB_take_all, mkB_snoc, mkB_app, not_dec, or_dec, and_dec, List.getElem?_cons_zero, List.getElem?_cons_succ, Option.bind_some, Option.bind_none, Option.map_some, Option.map_none, reduceIte, Nat.reduceEqDiff, Nat.reduceAdd, Nat.reduceMul, Nat.reduceSub, Nat.reduceLT, Nat.reduceLeDiff, List.map_cons, List.map_nil, List.length_cons, List.length_nil, List.length_append, List.drop_succ_cons, List.drop_zero, List.take_succ_cons, List.take_zero, List.cons_append, List.nil_append, List.append_assoc, List.append_nil, List.all_cons, List.all_nil, Bool.and_true, Bool.true_and, Bool.not_true, Bool.not_false, List.getD_cons_zero, List.getD_cons_succ, List.set_cons_zero, List.set_cons_succ, true_and, and_true, initAct, akeep, thenA_normal, thenA_ret, thenA_exit, inBlockA_normal, inBlockA_ret, inBlockA_exit, decide_eq_true_eq, decide_eq_false_iff_not, Nat.zero_add, Nat.add_zero, eq_self, true_or, or_true, false_or, or_false, Bool.false_eq_true, false_implies, implies_true, true_implies, reduceCtorEq, arep_zero, arep_succ, Int.reduceToNat, Int.reducePow, Int.reduceLE, Int.reduceLT, Int.reduceAdd, Int.reduceMul, Int.reduceSub, Int.reduceNeg, Nat.mul_one, Nat.one_mul, Nat.reducePow, IntKind.bits, wrap_byteI, Int.natCast_add, Int.cast_ofNat_Int, mkB_length, ge_iff_le, gt_iff_lt, Nat.le_refl, Int.toNat_natCast, Option.isSome_some, Option.isNone_none, Option.isNone_some, inI64_u8, inI64_u16, inI64_u32, mkB_take_le, Nat.add_assoc, astep_ixbv, awp_s2a, aarrayPtr, List.flatten_cons, List.flatten_nil, alen_sv, ↓aset_sv, astep_ixsv, acontent_sv, not_true_eq_false, not_false_eq_true, ty3, ty4, ty5, ty22, ty23, ty36, ty37, ty39, ty41])
      | (refine awp_cond_t rfl ?_)
      | (refine awp_cond_f rfl ?_)
      | (refine awp_cond rfl (fun hb => ?_) (fun hb => ?_))
      | (refine awp_skip ?_; try simp only [thenA_normal, inBlockA_normal])
      | (refine awp_exit ?_; try simp only [thenA_exit, inBlockA_exit, thenA_normal])
      | (refine awp_ret ?_; try simp only [thenA_ret, inBlockA_ret])
      | (refine awp_block ?_)
      | (refine hK _ ?_; simp only [akeep, aget, List.map_cons, List.map_nil, reduceIte, Nat.reduceEqDiff]; try rfl)
      | (apply hK; clear hK K)
      | (clear hK; clear K; apply hK; clear hK K)
      | (clear hK; clear K; clear hK; clear K; apply hK; clear hK K)
      | omega
      | (refine And.intro ?_ ?_)
      | intro hc
    refine (fin_self hQ (by simp [aresults, aresult]) ?_).1
    simp [aresults, aresult, akeep, aget, farL, LV.l]
  | mk es ex =>
    simp only [LV.l] at hb ⊢
    have hmin : (min (es.length : Int) 3100).toNat = min es.length 3100 := by omega
    have ht3 : es.take 3100 = es.take (min es.length 3100) := by
      rcases Nat.le_total es.length 3100 with h | h
      · rw [Nat.min_eq_left h, List.take_length, List.take_of_length_le h]
      · rw [Nat.min_eq_right h]
    obtain ⟨ts, hts⟩ : ∃ ts, ts = es.take (min es.length 3100) := ⟨_, rfl⟩
    have htl : ts.length = min es.length 3100 := by rw [hts, List.length_take]; omega
    refine acalls (rs := [.tmp 2]) Try.func4 rfl Try.ntmps4 rfl (by simp) fun M0 Q hk hl hQ => ?_
    repeat' first
      | exact trivial
      | exact fun h => absurd trivial h
      | exact False.elim
      | (refine awp_seq_keep [0, 2, 4, 9, 10, 11, 12, 18] fun K hK => ?_)
      | (refine awp_region (by decide +kernel) ?_; simp (maxSteps := 10000000) only [awp_nil, awp_move, awp_assign, awp_pick, awp_alloc, awp_box, awp_build, awp_buildSlice, awp_load, awp_store, awp_nilCheck, awp_binOp, awp_unOp, awp_convert, awp_makeFunc, awp_makeSlice, awp_slice, awp_fieldAddr, awp_field, awp_indexAddr, awp_index, awp_extract, awp_builtin, awp_call, awpCall_fn, awp_guard, ↓aguard_undef, ↓aguard_tt, ↓aguard_ff, ↓aguard_tf, ↓aguard_ft, astep_mk, ↓aset_true, ↓aset_false, aset_bool, ↓aset_int, ↓aset_str, ↓aset_snil, ↓aset_sl, ↓aset_junk, ↓aset_ptr, ↓aset_pnil, ↓aset_imm, ↓aset_row, ↓aset_map, ↓aset_mnil, ↓aset_fn, ↓aset_fnil, ↓aset_agg, ↓aset_tup, ↓aset_none, gval, aget, ev, cv, cv1, abin, aint, afit, astr, aun, isShift, apick, aload, astore, aalloc, abox, cellsOf, isCell, afieldAddr, afield, apart, aixA, aindexAddr_sl, aindexAddr_row, aindexAddr_ptr, aindexAddr_imm, aindex, aextract, alen_str, alen_snil, alen_sl, alen_row, aslice, abnd, cut, cutOk, cutLo, cutHi, aconv, amin, amax, amakeFunc, anilCheck, amakeSlice, abuildSlice, abuild, afill, aappend, aapp_str, aapp_snil, aapp_sl, aapp_row, aapp_bv, acontent_snil, acontent_sl, acontent_row, acontent_bv, alen_bv, ↓aset_bv, acopy, abuiltin, splice, aeq, eqL, hcells_app, hcells_app0, hcells_zero, hcells_succ, hget_app, hget_app0, hset_app, hset_app0, hcells_sapp, hcells_sapp0, hget_sapp, hget_sapp0, hset_sapp, hset_sapp0, List.length_set, mkB_take_all, mkB_snoc, mkB_app, not_dec, or_dec, and_dec, List.getElem?_cons_zero, List.getElem?_cons_succ, Option.bind_some, Option.bind_none, Option.map_some, Option.map_none, reduceIte, Nat.reduceEqDiff, Nat.reduceAdd, Nat.reduceMul, Nat.reduceSub, Nat.reduceLT, Nat.reduceLeDiff, List.map_cons, List.map_nil, List.length_cons, List.length_nil, List.length_append, List.drop_succ_cons, List.drop_zero, List.take_succ_cons, List.take_zero, List.cons_append, List.nil_append, List.append_assoc, List.append_nil, List.all_cons, List.all_nil, Bool.and_true, Bool.true_and, Bool.not_true, Bool.not_false, List.getD_cons_zero, List.getD_cons_succ, List.set_cons_zero, List.set_cons_succ, true_and, and_true, initAct, akeep, thenA_normal, thenA_ret, thenA_exit, inBlockA_normal, inBlockA_ret, inBlockA_exit, decide_eq_true_eq, decide_eq_false_iff_not, Nat.zero_add, Nat.add_zero, eq_self, true_or, or_true, false_or, or_false, Bool.false_eq_true, false_implies, implies_true, true_implies, reduceCtorEq, arep_zero, arep_succ, Int.reduceToNat, Int.reducePow, Int.reduceLE, Int.reduceLT, Int.reduceAdd, Int.reduceMul, Int.reduceSub, Int.reduceNeg, Nat.mul_one, Nat.one_mul, Nat.reducePow, IntKind.bits, wrap_byteI, Int.natCast_add, Int.cast_ofNat_Int, mkB_length, ge_iff_le, gt_iff_lt, Nat.le_refl, Int.toNat_natCast, Option.isSome_some, Option.isNone_none, Option.isNone_some, inI64_u8, inI64_u16, inI64_u32, mkB_take_le, Nat.add_assoc, astep_ixbv, awp_s2a, aarrayPtr, List.flatten_cons, List.flatten_nil, alen_sv, ↓aset_sv, astep_ixsv, acontent_sv, not_true_eq_false, not_false_eq_true, ty3, ty4, ty5, ty22, ty23, ty36, ty37, ty39, ty41, LV.dv, LV.sv, SV.dv, List.length_map, ← List.map_take, hmin, ← hts])
      | (refine awp_cond_t rfl ?_)
      | (refine awp_cond_f rfl ?_)
      | (refine awp_cond rfl (fun hb => ?_) (fun hb => ?_))
      | (refine awp_skip ?_; try simp only [thenA_normal, inBlockA_normal])
      | (refine awp_exit ?_; try simp only [thenA_exit, inBlockA_exit, thenA_normal])
      | (refine awp_ret ?_; try simp only [thenA_ret, inBlockA_ret])
      | (refine awp_block ?_)
      | (refine hK _ ?_; simp only [akeep, aget, List.map_cons, List.map_nil, reduceIte, Nat.reduceEqDiff]; try rfl)
      | (apply hK; clear hK K)
      | (clear hK; clear K; apply hK; clear hK K)
      | (clear hK; clear K; clear hK; clear K; apply hK; clear hK K)
      | omega
      | (refine And.intro ?_ ?_)
      | intro hc
    refine awp_loop_at [0, 9, 10, 11] (fun m a H' => ∃ j : Nat, m = ts.length - j ∧ j ≤ ts.length ∧ (∀ e ∈ ts.take j, ¬ (500 : Int) < e.data.l.length) ∧ a = [(0, .d (.sl 11 (es.map Ev.enc) ex)), (9, .d (.sl 11 (ts.map Ev.enc) (ex && false))), (10, .d (.int .i64 ts.length)), (11, .d (.int .i64 j))] ∧ H' = H) ts.length ⟨0, by omega, by omega, by simp, rfl, rfl⟩ ?_
    rintro m a H' ⟨j, rfl, hj, hall, rfl, hE⟩
    have hE := hE.symm
    subst hE
    by_cases hlt : j < ts.length
    · obtain ⟨e, hx⟩ : ∃ e, ts[j]? = some e := ⟨_, List.getElem?_eq_getElem hlt⟩
      have gx : (ts.map Ev.enc).getD j [] = e.enc := by simp [List.getD, hx]
      have he : es[j]? = some e := by
        rw [hts, List.getElem?_take_of_lt (by omega)] at hx
        exact hx
      have hd := farL_true (es := es) (j := j) (e := e) (by omega) (by omega) he
      repeat' first
        | exact trivial
        | exact fun h => absurd trivial h
        | exact False.elim
        | (refine awp_seq_keep [0, 2, 4, 9, 10, 11, 12, 18] fun K hK => ?_)
        | (refine awp_region (by decide +kernel) ?_; simp (maxSteps := 10000000) only [awp_nil, awp_move, awp_assign, awp_pick, awp_alloc, awp_box, awp_build, awp_buildSlice, awp_load, awp_store, awp_nilCheck, awp_binOp, awp_unOp, awp_convert, awp_makeFunc, awp_makeSlice, awp_slice, awp_fieldAddr, awp_field, awp_indexAddr, awp_index, awp_extract, awp_builtin, awp_call, awpCall_fn, awp_guard, ↓aguard_undef, ↓aguard_tt, ↓aguard_ff, ↓aguard_tf, ↓aguard_ft, astep_mk, ↓aset_true, ↓aset_false, aset_bool, ↓aset_int, ↓aset_str, ↓aset_snil, ↓aset_sl, ↓aset_junk, ↓aset_ptr, ↓aset_pnil, ↓aset_imm, ↓aset_row, ↓aset_map, ↓aset_mnil, ↓aset_fn, ↓aset_fnil, ↓aset_agg, ↓aset_tup, ↓aset_none, gval, aget, ev, cv, cv1, abin, aint, afit, astr, aun, isShift, apick, aload, astore, aalloc, abox, cellsOf, isCell, afieldAddr, afield, apart, aixA, aindexAddr_sl, aindexAddr_row, aindexAddr_ptr, aindexAddr_imm, aindex, aextract, alen_str, alen_snil, alen_sl, alen_row, aslice, abnd, cut, cutOk, cutLo, cutHi, aconv, amin, amax, amakeFunc, anilCheck, amakeSlice, abuildSlice, abuild, afill, aappend, aapp_str, aapp_snil, aapp_sl, aapp_row, aapp_bv, acontent_snil, acontent_sl, acontent_row, acontent_bv, alen_bv, ↓aset_bv, acopy, abuiltin, splice, aeq, eqL, hcells_app, hcells_app0, hcells_zero, hcells_succ, hget_app, hget_app0, hset_app, hset_app0, hcells_sapp, hcells_sapp0, hget_sapp, hget_sapp0, hset_sapp, hset_sapp0, List.length_set, mkB_take_all, mkB_snoc, mkB_app, not_dec, or_dec, and_dec, List.getElem?_cons_zero, List.getElem?_cons_succ, Option.bind_some, Option.bind_none, Option.map_some, Option.map_none, reduceIte, Nat.reduceEqDiff, Nat.reduceAdd, Nat.reduceMul, Nat.reduceSub, Nat.reduceLT, Nat.reduceLeDiff, List.map_cons, List.map_nil, List.length_cons, List.length_nil, List.length_append, List.drop_succ_cons, List.drop_zero, List.take_succ_cons, List.take_zero, List.cons_append, List.nil_append, List.append_assoc, List.append_nil, List.all_cons, List.all_nil, Bool.and_true, Bool.true_and, Bool.not_true, Bool.not_false, List.getD_cons_zero, List.getD_cons_succ, List.set_cons_zero, List.set_cons_succ, true_and, and_true, initAct, akeep, thenA_normal, thenA_ret, thenA_exit, inBlockA_normal, inBlockA_ret, inBlockA_exit, decide_eq_true_eq, decide_eq_false_iff_not, Nat.zero_add, Nat.add_zero, eq_self, true_or, or_true, false_or, or_false, Bool.false_eq_true, false_implies, implies_true, true_implies, reduceCtorEq, arep_zero, arep_succ, Int.reduceToNat, Int.reducePow, Int.reduceLE, Int.reduceLT, Int.reduceAdd, Int.reduceMul, Int.reduceSub, Int.reduceNeg, Nat.mul_one, Nat.one_mul, Nat.reducePow, IntKind.bits, wrap_byteI, Int.natCast_add, Int.cast_ofNat_Int, mkB_length, ge_iff_le, gt_iff_lt, Nat.le_refl, Int.toNat_natCast, Option.isSome_some, Option.isNone_none, Option.isNone_some, inI64_u8, inI64_u16, inI64_u32, mkB_take_le, Nat.add_assoc, astep_ixbv, awp_s2a, aarrayPtr, List.flatten_cons, List.flatten_nil, alen_sv, ↓aset_sv, astep_ixsv, acontent_sv, not_true_eq_false, not_false_eq_true, ty3, ty4, ty5, ty22, ty23, ty36, ty37, ty39, ty41, List.length_map, gx, Ev.enc])
        | (refine awp_cond_t rfl ?_)
        | (refine awp_cond_f rfl ?_)
        | (refine awp_cond rfl (fun hb => ?_) (fun hb => ?_))
        | (refine awp_skip ?_; try simp only [thenA_normal, inBlockA_normal])
        | (refine awp_exit ?_; try simp only [thenA_exit, inBlockA_exit, thenA_normal])
        | (refine awp_ret ?_; try simp only [thenA_ret, inBlockA_ret])
        | (refine awp_block ?_)
        | (refine hK _ ?_; simp only [akeep, aget, List.map_cons, List.map_nil, reduceIte, Nat.reduceEqDiff]; try rfl)
        | (apply hK; clear hK K)
        | (clear hK; clear K; apply hK; clear hK K)
        | (clear hK; clear K; clear hK; clear K; apply hK; clear hK K)
        | omega
        | (refine And.intro ?_ ?_)
        | intro hc
      · refine (fin_drop hQ hk hl [2] ?_ ?_ ⟨?_, rfl⟩).1
        · rfl
        · simp [aresults, aresult]
        · have := hd (by omega)
          simp [aresults, aresult, akeep, aget, this]
      · refine Again.drop (ts.length - (j + 1)) (by omega) (by rw [hk]; exact Nat.le_refl _) rfl hl ⟨j + 1, rfl, by omega, ?_, by simp [akeep, aget], rfl⟩
        intro e' he'
        rw [List.take_add_one, hx] at he'
        simp at he'
        rcases he' with he' | rfl
        · exact hall e' he'
        · omega
    · obtain rfl : j = ts.length := by omega
      rw [List.take_length] at hall
      have hf := farL_rest (es := es) (by rw [ht3, ← hts]; exact hall)
      rw [far_fin rfl] at hf
      repeat' first
        | exact trivial
        | exact fun h => absurd trivial h
        | exact False.elim
        | (refine awp_seq_keep [0, 2, 4, 9, 10, 11, 12, 18] fun K hK => ?_)
        | (refine awp_region (by decide +kernel) ?_; simp (maxSteps := 10000000) only [awp_nil, awp_move, awp_assign, awp_pick, awp_alloc, awp_box, awp_build, awp_buildSlice, awp_load, awp_store, awp_nilCheck, awp_binOp, awp_unOp, awp_convert, awp_makeFunc, awp_makeSlice, awp_slice, awp_fieldAddr, awp_field, awp_indexAddr, awp_index, awp_extract, awp_builtin, awp_call, awpCall_fn, awp_guard, ↓aguard_undef, ↓aguard_tt, ↓aguard_ff, ↓aguard_tf, ↓aguard_ft, astep_mk, ↓aset_true, ↓aset_false, aset_bool, ↓aset_int, ↓aset_str, ↓aset_snil, ↓aset_sl, ↓aset_junk, ↓aset_ptr, ↓aset_pnil, ↓aset_imm, ↓aset_row, ↓aset_map, ↓aset_mnil, ↓aset_fn, ↓aset_fnil, ↓aset_agg, ↓aset_tup, ↓aset_none, gval, aget, ev, cv, cv1, abin, aint, afit, astr, aun, isShift, apick, aload, astore, aalloc, abox, cellsOf, isCell, afieldAddr, afield, apart, aixA, aindexAddr_sl, aindexAddr_row, aindexAddr_ptr, aindexAddr_imm, aindex, aextract, alen_str, alen_snil, alen_sl, alen_row, aslice, abnd, cut, cutOk, cutLo, cutHi, aconv, amin, amax, amakeFunc, anilCheck, amakeSlice, abuildSlice, abuild, afill, aappend, aapp_str, aapp_snil, aapp_sl, aapp_row, aapp_bv, acontent_snil, acontent_sl, acontent_row, acontent_bv, alen_bv, ↓aset_bv, acopy, abuiltin, splice, aeq, eqL, hcells_app, hcells_app0, hcells_zero, hcells_succ, hget_app, hget_app0, hset_app, hset_app0, hcells_sapp, hcells_sapp0, hget_sapp, hget_sapp0, hset_sapp, hset_sapp0, List.length_set, mkB_take_all, mkB_snoc, mkB_app, not_dec, or_dec, and_dec, List.getElem?_cons_zero, List.getElem?_cons_succ, Option.bind_some, Option.bind_none, Option.map_some, Option.map_none, reduceIte, Nat.reduceEqDiff, Nat.reduceAdd, Nat.reduceMul, Nat.reduceSub, Nat.reduceLT, Nat.reduceLeDiff, List.map_cons, List.map_nil, List.length_cons, List.length_nil, List.length_append, List.drop_succ_cons, List.drop_zero, List.take_succ_cons, List.take_zero, List.cons_append, List.nil_append, List.append_assoc, List.append_nil, List.all_cons, List.all_nil, Bool.and_true, Bool.true_and, Bool.not_true, Bool.not_false, List.getD_cons_zero, List.getD_cons_succ, List.set_cons_zero, List.set_cons_succ, true_and, and_true, initAct, akeep, thenA_normal, thenA_ret, thenA_exit, inBlockA_normal, inBlockA_ret, inBlockA_exit, decide_eq_true_eq, decide_eq_false_iff_not, Nat.zero_add, Nat.add_zero, eq_self, true_or, or_true, false_or, or_false, Bool.false_eq_true, false_implies, implies_true, true_implies, reduceCtorEq, arep_zero, arep_succ, Int.reduceToNat, Int.reducePow, Int.reduceLE, Int.reduceLT, Int.reduceAdd, Int.reduceMul, Int.reduceSub, Int.reduceNeg, Nat.mul_one, Nat.one_mul, Nat.reducePow, IntKind.bits, wrap_byteI, Int.natCast_add, Int.cast_ofNat_Int, mkB_length, ge_iff_le, gt_iff_lt, Nat.le_refl, Int.toNat_natCast, Option.isSome_some, Option.isNone_none, Option.isNone_some, inI64_u8, inI64_u16, inI64_u32, mkB_take_le, Nat.add_assoc, astep_ixbv, awp_s2a, aarrayPtr, List.flatten_cons, List.flatten_nil, alen_sv, ↓aset_sv, astep_ixsv, acontent_sv, not_true_eq_false, not_false_eq_true, ty3, ty4, ty5, ty22, ty23, ty36, ty37, ty39, ty41, List.length_map])
        | (refine awp_cond_t rfl ?_)
        | (refine awp_cond_f rfl ?_)
        | (refine awp_cond rfl (fun hb => ?_) (fun hb => ?_))
        | (refine awp_skip ?_; try simp only [thenA_normal, inBlockA_normal])
        | (refine awp_exit ?_; try simp only [thenA_exit, inBlockA_exit, thenA_normal])
        | (refine awp_ret ?_; try simp only [thenA_ret, inBlockA_ret])
        | (refine awp_block ?_)
        | (refine hK _ ?_; simp only [akeep, aget, List.map_cons, List.map_nil, reduceIte, Nat.reduceEqDiff]; try rfl)
        | (apply hK; clear hK K)
        | (clear hK; clear K; apply hK; clear hK K)
        | (clear hK; clear K; clear hK; clear K; apply hK; clear hK K)
        | omega
        | (refine And.intro ?_ ?_)
        | intro hc
      all_goals
        refine (fin_self hQ (by simp [aresults, aresult]) ?_).1
        rw [hf]
        simp [aresults, aresult, akeep, aget, *]
end Go.Proofs.Ytmnmcbhaabnnfaa.R
