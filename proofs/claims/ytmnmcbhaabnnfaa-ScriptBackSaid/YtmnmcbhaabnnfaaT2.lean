import Derived.Test.YtmnmcbhaabnnfaaT1
namespace Go.Proofs.Ytmnmcbhaabnnfaa.R
open Go Go.R Go.Proofs
set_option linter.unusedSimpArgs false
set_option linter.unusedVariables false
attribute [local irreducible] awp awpOps ACalls Weak Ends contK

structure Ev where
  kind : Int
  keep : Int
  torn : Int
  mask : UInt8
  fk : Int
  fat : UInt16
  b0 : UInt8
  b1 : UInt8
  b2 : UInt8
  b3 : UInt8
  data : BV

def Ev.enc (x : Ev) : List DV := [.int .i64 x.kind, .int .i64 x.keep, .int .i64 x.torn, .int .u8 x.mask.toNat, .int .i64 x.fk, .int .u16 x.fat.toNat, .int .u8 x.b0.toNat, .int .u8 x.b1.toNat, .int .u8 x.b2.toNat, .int .u8 x.b3.toNat, x.data.dv]
def Ev.av (x : Ev) : List AV := [.d (.int .i64 x.kind), .d (.int .i64 x.keep), .d (.int .i64 x.torn), .d (.int .u8 x.mask.toNat), .d (.int .i64 x.fk), .d (.int .u16 x.fat.toNat), .d (.int .u8 x.b0.toNat), .d (.int .u8 x.b1.toNat), .d (.int .u8 x.b2.toNat), .d (.int .u8 x.b3.toNat), .d x.data.dv]

def mayF (x : Ev) : Int :=
  if ¬ (1 ≤ x.kind ∧ x.kind ≤ 8) then 11
  else if ¬ (-32768 ≤ x.keep ∧ x.keep ≤ 32767) ∨ ¬ (-32768 ≤ x.torn ∧ x.torn ≤ 32767) ∨ ¬ (0 ≤ x.fk ∧ x.fk ≤ 255) ∨ (400 : Int) < x.data.l.length then 10 else 0

theorem May_calls (x : Ev) (H : List AObj) : ACalls Try.prog 13 [.agg x.av] H fun v H' => v = .d (.int .i64 (mayF x)) ∧ H' = H := by
  refine acalls (rs := [.tmp 2]) Try.func13 rfl Try.ntmps13 rfl (by simp) fun M0 Q hk hl hQ => ?_
  repeat' first
    | exact trivial
    | exact fun h => absurd trivial h
    | exact False.elim
    | (refine awp_seq_keep [0, 1, 2, 3, 8] fun K hK => ?_)
    | (refine awp_region (by decide +kernel) ?_; simp (maxSteps := 10000000) only [awp_nil, awp_move, awp_assign, awp_pick, awp_alloc, awp_box, awp_build, awp_buildSlice, awp_load, awp_store, awp_nilCheck, awp_binOp, awp_unOp, awp_convert, awp_makeFunc, awp_makeSlice, awp_slice, awp_fieldAddr, awp_field, awp_indexAddr, awp_index, awp_extract, awp_builtin, awp_call, awpCall_fn, awp_guard, ↓aguard_undef, ↓aguard_tt, ↓aguard_ff, ↓aguard_tf, ↓aguard_ft, astep_mk, ↓aset_true, ↓aset_false, aset_bool, ↓aset_int, ↓aset_str, ↓aset_snil, ↓aset_sl, ↓aset_junk, ↓aset_ptr, ↓aset_pnil, ↓aset_imm, ↓aset_row, ↓aset_map, ↓aset_mnil, ↓aset_fn, ↓aset_fnil, ↓aset_agg, ↓aset_tup, ↓aset_none, gval, aget, ev, cv, cv1, abin, aint, afit, astr, aun, isShift, apick, aload, astore, aalloc, abox, cellsOf, isCell, afieldAddr, afield, apart, aixA, aindexAddr_sl, aindexAddr_row, aindexAddr_ptr, aindexAddr_imm, aindex, aextract, alen_str, alen_snil, alen_sl, alen_row, aslice, abnd, cut, cutOk, cutLo, cutHi, aconv, amin, amax, amakeFunc, anilCheck, amakeSlice, abuildSlice, abuild, afill, aappend, aapp_str, aapp_snil, aapp_sl, aapp_row, aapp_bv, acontent_snil, acontent_sl, acontent_row, acontent_bv, alen_bv, ↓aset_bv, acopy, abuiltin, splice, aeq, eqL, hcells_app, hcells_app0, hcells_zero, hcells_succ, hget_app, hget_app0, hset_app, hset_app0, hcells_sapp, hcells_sapp0, hget_sapp, hget_sapp0, hset_sapp, hset_sapp0, List.length_set, mkB_take_all, mkB_snoc, mkB_app, not_dec, or_dec, and_dec, List.getElem?_cons_zero, List.getElem?_cons_succ, Option.bind_some, Option.bind_none, Option.map_some, Option.map_none, reduceIte, Nat.reduceEqDiff, Nat.reduceAdd, Nat.reduceMul, Nat.reduceSub, Nat.reduceLT, Nat.reduceLeDiff, List.map_cons, List.map_nil, List.length_cons, List.length_nil, List.length_append, List.drop_succ_cons, List.drop_zero, List.take_succ_cons, List.take_zero, List.cons_append, List.nil_append, List.append_assoc, List.append_nil, List.all_cons, List.all_nil, Bool.and_true, Bool.true_and, Bool.not_true, Bool.not_false, List.getD_cons_zero, List.getD_cons_succ, List.set_cons_zero, List.set_cons_succ, true_and, and_true, initAct, akeep, thenA_normal, thenA_ret, thenA_exit, inBlockA_normal, inBlockA_ret, inBlockA_exit, decide_eq_true_eq, decide_eq_false_iff_not, Nat.zero_add, Nat.add_zero, eq_self, true_or, or_true, false_or, or_false, Bool.false_eq_true, false_implies, implies_true, true_implies, reduceCtorEq, arep_zero, arep_succ, Int.reduceToNat, Int.reducePow, Int.reduceLE, Int.reduceLT, Int.reduceAdd, Int.reduceMul, Int.reduceSub, Int.reduceNeg, Nat.mul_one, Nat.one_mul, Nat.reducePow, IntKind.bits, wrap_byteI, Int.natCast_add, Int.cast_ofNat_Int, mkB_length, ge_iff_le, gt_iff_lt, Nat.le_refl, Int.toNat_natCast, Option.isSome_some, Option.isNone_none, Option.isNone_some, inI64_u8, inI64_u16, inI64_u32, mkB_take_le, Nat.add_assoc, astep_ixbv, awp_s2a, aarrayPtr, List.flatten_cons, List.flatten_nil, alen_sv, ↓aset_sv, astep_ixsv, acontent_sv, not_true_eq_false, not_false_eq_true, ty3, ty4, ty5, ty23, ty26, ty36, ty37, ty42, ty44, Ev.av, alen_bv, ↓aset_bv])
    | (refine awp_cond_t rfl ?_)
    | (refine awp_cond_f rfl ?_)
    | (refine awp_cond rfl (fun hb => ?_) (fun hb => ?_))
    | (refine awp_skip ?_; try simp only [thenA_normal, inBlockA_normal])
    | (refine awp_exit ?_; try simp only [thenA_exit, inBlockA_exit, thenA_normal])
    | (refine awp_ret ?_; try simp only [thenA_ret, inBlockA_ret])
    | (refine awp_block ?_)
    | (refine hK _ ?_; simp only [akeep, aget, List.map_cons, List.map_nil, reduceIte, Nat.reduceEqDiff]; try rfl)
    | (apply hK; clear hK K)
    | (clear hK; clear K; apply hK; clear hK K)
    | (clear hK; clear K; clear hK; clear K; apply hK; clear hK K)
    | (refine ⟨ca22, acall_use (within_calls _ _ _ _) ?_⟩; rintro _ _ ⟨rfl, hE⟩; have hE := hE.symm; subst hE; simp only [contK_eq, amainK_cons, amainK_nil, mainK_eq, amainT_done, amainT_step, amainT_both, mainT_eq, opAt, List.forall_mem_cons, List.not_mem_nil, false_implies, implies_true, List.mem_cons, forall_eq_or_imp, forall_eq, awp_nil, awp_move, awp_assign, awp_pick, awp_alloc, awp_box, awp_build, awp_buildSlice, awp_load, awp_store, awp_nilCheck, awp_binOp, awp_unOp, awp_convert, awp_makeFunc, awp_makeSlice, awp_slice, awp_fieldAddr, awp_field, awp_indexAddr, awp_index, awp_extract, awp_builtin, awp_call, awpCall_fn, awp_guard, ↓aguard_undef, ↓aguard_tt, ↓aguard_ff, ↓aguard_tf, ↓aguard_ft, astep_mk, ↓aset_true, ↓aset_false, aset_bool, ↓aset_int, ↓aset_str, ↓aset_snil, ↓aset_sl, ↓aset_junk, ↓aset_ptr, ↓aset_pnil, ↓aset_imm, ↓aset_row, ↓aset_map, ↓aset_mnil, ↓aset_fn, ↓aset_fnil, ↓aset_agg, ↓aset_tup, ↓aset_none, gval, aget, ev, cv, cv1, abin, aint, afit, astr, aun, isShift, apick, aload, astore, aalloc, abox, cellsOf, isCell, afieldAddr, afield, apart, aixA, aindexAddr_sl, aindexAddr_row, aindexAddr_ptr, aindexAddr_imm, aindex, aextract, alen_str, alen_snil, alen_sl, alen_row, aslice, abnd, cut, cutOk, cutLo, cutHi, aconv, amin, amax, amakeFunc, anilCheck, amakeSlice, abuildSlice, abuild, afill, aappend, aapp_str, aapp_snil, aapp_sl, aapp_row, aapp_bv, acontent_snil, acontent_sl, acontent_row, acontent_bv, alen_bv, ↓aset_bv, acopy, abuiltin, splice, aeq, eqL, hcells_app, hcells_app0, hcells_zero, hcells_succ, hget_app, hget_app0, hset_app, hset_app0, hcells_sapp, hcells_sapp0, hget_sapp, hget_sapp0, hset_sapp, hset_sapp0, List.length_set, mkB_take_all, mkB_snoc, mkB_app, not_dec, or_dec, and_dec, List.getElem?_cons_zero, List.getElem?_cons_succ, Option.bind_some, Option.bind_none, Option.map_some, Option.map_none, reduceIte, Nat.reduceEqDiff, Nat.reduceAdd, Nat.reduceMul, Nat.reduceSub, Nat.reduceLT, Nat.reduceLeDiff, List.map_cons, List.map_nil, List.length_cons, List.length_nil, List.length_append, List.drop_succ_cons, List.drop_zero, List.take_succ_cons, List.take_zero, List.cons_append, List.nil_append, List.append_assoc, List.append_nil, List.all_cons, List.all_nil, Bool.and_true, Bool.true_and, Bool.not_true, Bool.not_false, List.getD_cons_zero, List.getD_cons_succ, List.set_cons_zero, List.set_cons_succ, true_and, and_true, initAct, akeep, thenA_normal, thenA_ret, thenA_exit, inBlockA_normal, inBlockA_ret, inBlockA_exit, decide_eq_true_eq, decide_eq_false_iff_not, Nat.zero_add, Nat.add_zero, eq_self, true_or, or_true, false_or, or_false, Bool.false_eq_true, false_implies, implies_true, true_implies, reduceCtorEq, arep_zero, arep_succ, Int.reduceToNat, Int.reducePow, Int.reduceLE, Int.reduceLT, Int.reduceAdd, Int.reduceMul, Int.reduceSub, Int.reduceNeg, Nat.mul_one, Nat.one_mul, Nat.reducePow, IntKind.bits, wrap_byteI, Int.natCast_add, Int.cast_ofNat_Int, mkB_length, ge_iff_le, gt_iff_lt, Nat.le_refl, Int.toNat_natCast, Option.isSome_some, Option.isNone_none, Option.isNone_some, inI64_u8, inI64_u16, inI64_u32, mkB_take_le, Nat.add_assoc, astep_ixbv, awp_s2a, aarrayPtr, List.flatten_cons, List.flatten_nil, alen_sv, ↓aset_sv, astep_ixsv, acontent_sv, not_true_eq_false, not_false_eq_true, ty3, ty4, ty5, ty23, ty26, ty36, ty37, ty42, ty44, Ev.av, alen_bv, ↓aset_bv])
    | omega
    | (refine And.intro ?_ ?_)
    | intro hc
  all_goals
    refine (fin_drop hQ hk hl [2] ?_ ?_ ⟨?_, rfl⟩).1
    · rfl
    · simp [aresults, aresult]
    · simp [aresults, aresult, akeep, aget, mayF, *]
end Go.Proofs.Ytmnmcbhaabnnfaa.R
