import Derived.Test.YtmnmcbhaabnnfaaRt
import Derived.Test.YtmnmcbhaabnnfaaRs
namespace Go.Proofs.Ytmnmcbhaabnnfaa.R
open Go Go.R Go.Proofs
set_option linter.unusedSimpArgs false
set_option linter.unusedVariables false
attribute [local irreducible] awp awpOps ACalls Weak Ends contK

theorem within_calls (n low high : Int) (H : List AObj) : ACalls Try.prog 22 [.d (.int .i64 n), .d (.int .i64 low), .d (.int .i64 high)] H fun v H' => v = .d (.bool (decide (low ≤ n ∧ n ≤ high))) ∧ H' = H := by
  refine acalls (rs := [.tmp 6]) Try.func22 rfl Try.ntmps22 rfl (by simp) fun M0 Q hk hl hQ => ?_
  repeat' first
    | exact trivial
    | exact fun h => absurd trivial h
    | exact False.elim
    | (refine awp_seq_keep [0, 1, 2, 6] fun K hK => ?_)
    | (refine awp_region (by decide +kernel) ?_; simp (maxSteps := 10000000) only [awp_nil, awp_move, awp_assign, awp_pick, awp_alloc, awp_box, awp_build, awp_buildSlice, awp_load, awp_store, awp_nilCheck, awp_binOp, awp_unOp, awp_convert, awp_makeFunc, awp_makeSlice, awp_slice, awp_fieldAddr, awp_field, awp_indexAddr, awp_index, awp_extract, awp_builtin, awp_call, awpCall_fn, awp_guard, ↓aguard_undef, ↓aguard_tt, ↓aguard_ff, ↓aguard_tf, ↓aguard_ft, astep_mk, ↓aset_true, ↓aset_false, aset_bool, ↓aset_int, ↓aset_str, ↓aset_snil, ↓aset_sl, ↓aset_junk, ↓aset_ptr, ↓aset_pnil, ↓aset_imm, ↓aset_row, ↓aset_map, ↓aset_mnil, ↓aset_fn, ↓aset_fnil, ↓aset_agg, ↓aset_tup, ↓aset_none, gval, aget, ev, cv, cv1, abin, aint, afit, astr, aun, isShift, apick, aload, astore, aalloc, abox, cellsOf, isCell, afieldAddr, afield, apart, aixA, aindexAddr_sl, aindexAddr_row, aindexAddr_ptr, aindexAddr_imm, aindex, aextract, alen_str, alen_snil, alen_sl, alen_row, aslice, abnd, cut, cutOk, cutLo, cutHi, aconv, amin, amax, amakeFunc, anilCheck, amakeSlice, abuildSlice, abuild, afill, aappend, aapp_str, aapp_snil, aapp_sl, aapp_row, aapp_bv, acontent_snil, acontent_sl, acontent_row, acontent_bv, alen_bv, ↓aset_bv, acopy, abuiltin, splice, aeq, eqL, hcells_app, hcells_app0, hcells_zero, hcells_succ, hget_app, hget_app0, hset_app, hset_app0, hcells_sapp, hcells_sapp0, hget_sapp, hget_sapp0, hset_sapp, hset_sapp0, List.length_set, mkB_take_all, mkB_snoc, mkB_app, not_dec, or_dec, and_dec, List.getElem?_cons_zero, List.getElem?_cons_succ, Option.bind_some, Option.bind_none, Option.map_some, Option.map_none, reduceIte, Nat.reduceEqDiff, Nat.reduceAdd, Nat.reduceMul, Nat.reduceSub, Nat.reduceLT, Nat.reduceLeDiff, List.map_cons, List.map_nil, List.length_cons, List.length_nil, List.length_append, List.drop_succ_cons, List.drop_zero, List.take_succ_cons, List.take_zero, List.cons_append, List.nil_append, List.append_assoc, List.append_nil, List.all_cons, List.all_nil, Bool.and_true, Bool.true_and, Bool.not_true, Bool.not_false, List.getD_cons_zero, List.getD_cons_succ, List.set_cons_zero, List.set_cons_succ, true_and, and_true, initAct, akeep, thenA_normal, thenA_ret, thenA_exit, inBlockA_normal, inBlockA_ret, inBlockA_exit, decide_eq_true_eq, decide_eq_false_iff_not, Nat.zero_add, Nat.add_zero, eq_self, true_or, or_true, false_or, or_false, Bool.false_eq_true, false_implies, implies_true, true_implies, reduceCtorEq, arep_zero, arep_succ, Int.reduceToNat, Int.reducePow, Int.reduceLE, Int.reduceLT, Int.reduceAdd, Int.reduceMul, Int.reduceSub, Int.reduceNeg, Nat.mul_one, Nat.one_mul, Nat.reducePow, IntKind.bits, wrap_byteI, Int.natCast_add, Int.cast_ofNat_Int, mkB_length, ge_iff_le, gt_iff_lt, Nat.le_refl, Int.toNat_natCast, Option.isSome_some, Option.isNone_none, Option.isNone_some, inI64_u8, inI64_u16, inI64_u32, mkB_take_le, Nat.add_assoc, astep_ixbv, awp_s2a, aarrayPtr, List.flatten_cons, List.flatten_nil, alen_sv, ↓aset_sv, astep_ixsv, acontent_sv, not_true_eq_false, not_false_eq_true, ty3, ty4])
    | (refine awp_cond_t rfl ?_)
    | (refine awp_cond_f rfl ?_)
    | (refine awp_cond rfl (fun hb => ?_) (fun hb => ?_))
    | (refine awp_skip ?_; try simp only [thenA_normal, inBlockA_normal])
    | (refine awp_exit ?_; try simp only [thenA_exit, inBlockA_exit, thenA_normal])
    | (refine awp_ret ?_; try simp only [thenA_ret, inBlockA_ret])
    | (refine awp_block ?_)
    | (refine hK _ ?_; simp only [akeep, aget, List.map_cons, List.map_nil, reduceIte, Nat.reduceEqDiff]; try rfl)
    | (apply hK; clear hK K)
    | (clear hK; clear K; apply hK; clear hK K)
    | (clear hK; clear K; clear hK; clear K; apply hK; clear hK K)
    | omega
    | (refine And.intro ?_ ?_)
    | intro hc
  all_goals
    refine (fin_self hQ (by simp [aresults, aresult]) ?_).1
    simp [aresults, aresult, akeep, aget]
    omega

end Go.Proofs.Ytmnmcbhaabnnfaa.R
