/-
  The abstract layer, part 13: rules by which a region is run.
-/
import Derived.Test.YtikgnakhciklaaaGreatDoorRm
namespace Go.R
set_option linter.unusedSectionVars false
variable [Syms]
set_option linter.unusedSimpArgs false
set_option linter.unusedVariables false

section
variable {P : Program} {l : List Oper} {q : AAct → List AObj → Prop} {rest : List Oper} {a : AAct} {H : List AObj} {d : Option Tmp} {ty : TypeId} {pos : String} {after : Array Edge}

/-- What stands behind an operation: its value is put in its place. -/
def aset (P : Program) (l : List Oper) (q : AAct → List AObj → Prop) (rest : List Oper) (d : Option Tmp) (a : AAct) (v : AV) (H : List AObj) : Prop := awpOps P l q rest (aput d v a) H

def astep (P : Program) (l : List Oper) (q : AAct → List AObj → Prop) (rest : List Oper) (d : Option Tmp) (a : AAct) (r : ARes) : Prop := r.ok ∧ aset P l q rest d a r.v r.h

theorem astep_mk {c : Prop} {v : AV} : astep P l q rest d a ⟨c, v, H⟩ = (c ∧ aset P l q rest d a v H) := rfl
theorem aset_some {d : Tmp} {v : AV} : aset P l q rest (some d) a v H = awpOps P l q rest ((d, v) :: a) H := rfl
theorem aset_none {v : AV} : aset P l q rest none a v H = awpOps P l q rest a H := rfl

theorem aset_true {d : Tmp} : aset P l q rest (some d) a (.d (.bool true)) H = awpOps P l q rest ((d, .d (.bool true)) :: a) H := rfl
theorem aset_false {d : Tmp} : aset P l q rest (some d) a (.d (.bool false)) H = awpOps P l q rest ((d, .d (.bool false)) :: a) H := rfl
theorem aset_bool {d : Tmp} {b : Bool} : aset P l q rest (some d) a (.d (.bool b)) H = ((b = true → aset P l q rest (some d) a (.d (.bool true)) H) ∧ (b = false → aset P l q rest (some d) a (.d (.bool false)) H)) := by
  cases b <;> simp
theorem aset_int {d : Tmp} {k : IntKind} {n : Int} : aset P l q rest (some d) a (.d (.int k n)) H = awpOps P l q rest ((d, .d (.int k n)) :: a) H := rfl
theorem aset_str {d : Tmp} {s : List UInt8} : aset P l q rest (some d) a (.d (.str s)) H = awpOps P l q rest ((d, .d (.str s)) :: a) H := rfl
theorem aset_snil {d : Tmp} : aset P l q rest (some d) a (.d .snil) H = awpOps P l q rest ((d, .d .snil) :: a) H := rfl
theorem aset_sl {d : Tmp} {z : Nat} {es : List (List DV)} {ex : Bool} : aset P l q rest (some d) a (.d (.sl z es ex)) H = awpOps P l q rest ((d, .d (.sl z es ex)) :: a) H := rfl
theorem aset_junk {d : Tmp} : aset P l q rest (some d) a .junk H = awpOps P l q rest ((d, .junk) :: a) H := rfl
theorem aset_ptr {d : Tmp} {i o : Nat} : aset P l q rest (some d) a (.ptr i o) H = awpOps P l q rest ((d, .ptr i o) :: a) H := rfl
theorem aset_pnil {d : Tmp} : aset P l q rest (some d) a .pnil H = awpOps P l q rest ((d, .pnil) :: a) H := rfl
theorem aset_imm {d : Tmp} {c : List DV} : aset P l q rest (some d) a (.imm c) H = awpOps P l q rest ((d, .imm c) :: a) H := rfl
theorem aset_row {d : Tmp} {i z o n : Nat} : aset P l q rest (some d) a (.row i z o n) H = awpOps P l q rest ((d, .row i z o n) :: a) H := rfl
theorem aset_map {d : Tmp} {i : Nat} : aset P l q rest (some d) a (.map i) H = awpOps P l q rest ((d, .map i) :: a) H := rfl
theorem aset_mnil {d : Tmp} : aset P l q rest (some d) a .mnil H = awpOps P l q rest ((d, .mnil) :: a) H := rfl
theorem aset_bfn {d : Tmp} {g : FuncId} {c : List AV} : aset P l q rest (some d) a (.bfn g c) H = awpOps P l q rest ((d, .bfn g c) :: a) H := rfl
theorem aset_sym {d : Tmp} {n : Nat} : aset P l q rest (some d) a (.sym n) H = awpOps P l q rest ((d, .sym n) :: a) H := rfl
theorem aset_fn {d : Tmp} {f : Fn} {c : List AV} : aset P l q rest (some d) a (.fn f c) H = awpOps P l q rest ((d, .fn f c) :: a) H := rfl
theorem aset_fnil {d : Tmp} : aset P l q rest (some d) a .fnil H = awpOps P l q rest ((d, .fnil) :: a) H := rfl
theorem aset_agg {d : Tmp} {c : List AV} : aset P l q rest (some d) a (.agg c) H = awpOps P l q rest ((d, .agg c) :: a) H := rfl
theorem aset_tup {d : Tmp} {c : List AV} : aset P l q rest (some d) a (.tup c) H = awpOps P l q rest ((d, .tup c) :: a) H := rfl

theorem awp_nil : awpOps P l q [] a H = q a H := rfl

/-- What stands behind a call. -/
def contK (P : Program) (l : List Oper) (q : AAct → List AObj → Prop) (rest : List Oper) (d : Option Tmp) (a : AAct) (v : AV) (H : List AObj) : Prop := aset P l q rest d a v H

theorem contK_eq {v : AV} : contK P l q rest d a v H = aset P l q rest d a v H := rfl

theorem awp_call {f : Operand} {args : List Operand} {tys : Array TypeId} : awpOps P l q (⟨d, .call ⟨.value f, args.toArray, tys⟩, ty, pos, after, none⟩ :: rest) a H = awpCall P (ev a f) (args.map (ev a)) H (contK P l q rest d a) := rfl
theorem awpCall_fn {g : FuncId} {caps args : List AV} {K : AV → List AObj → Prop} : awpCall P (.fn (.func g) caps) args H K = awpGo P g (args ++ caps) H K := rfl
theorem awpCall_bfn {g : FuncId} {bs args : List AV} {K : AV → List AObj → Prop} : awpCall P (.bfn g bs) args H K = awpGo P g (bs ++ args) H K := rfl
theorem awpCall_yld {i : Nat} {args : List AV} {K : AV → List AObj → Prop} : awpCall P (.yld i) args H K = AYields P i args H K := rfl
theorem go_body {g : FuncId} {args : List AV} {K : AV → List AObj → Prop} (hc : callable P g = true) (h : ACalls P g args H K) : awpGo P g args H K := .inl ⟨hc, h⟩
/-- A library function's value goes on. -/
def extK (r : ARes) (K : AV → List AObj → Prop) : Prop := r.ok ∧ K r.v r.h
theorem extK_mk {c : Prop} {v : AV} {K : AV → List AObj → Prop} : extK ⟨c, v, H⟩ K = (c ∧ K v H) := rfl
theorem go_ext {g : FuncId} {args : List AV} {K : AV → List AObj → Prop} (k : XK) (hx : ExtOk P g k) (h : extK (aextern H k args) K) : awpGo P g args H K := .inr ⟨k, hx, h⟩
theorem awp_makeMap {t : TypeId} {r : Option Operand} : awpOps P l q (⟨d, .makeMap t r, ty, pos, after, none⟩ :: rest) a H = astep P l q rest d a (amakeMap P H t (r.map (ev a))) := rfl
theorem awp_lookup {t : TypeId} {x y : Operand} {c : Bool} : awpOps P l q (⟨d, .lookup t x y c, ty, pos, after, none⟩ :: rest) a H = astep P l q rest d a (alookup P H t (ev a x) (ev a y) c) := rfl
theorem awp_mapUpdate {t : TypeId} {x y z : Operand} : awpOps P l q (⟨d, .mapUpdate t x y z, ty, pos, after, none⟩ :: rest) a H = astep P l q rest d a (amapUpdate P H t (ev a x) (ev a y) (ev a z)) := rfl
theorem awp_insert {t : TypeId} {x y z : Operand} : awpOps P l q (⟨d, .insert t x y z, ty, pos, after, none⟩ :: rest) a H = astep P l q rest d a (amapUpdate P H t (ev a x) (ev a y) (ev a z)) := rfl
theorem awp_range {t : TypeId} {x : Operand} : awpOps P l q (⟨d, .range t x, ty, pos, after, none⟩ :: rest) a H = astep P l q rest d a (arange P H t (ev a x)) := rfl
theorem awp_nextS {x : Operand} : awpOps P l q (⟨d, .next x true, ty, pos, after, none⟩ :: rest) a H = astep P l q rest d a (anextS H (ev a x)) := rfl
theorem awp_entry {x : Operand} : awpOps P l q (⟨d, .entry x, ty, pos, after, none⟩ :: rest) a H = astep P l q rest d a (aentry H (ev a x)) := rfl
theorem awp_nextM {x : Operand} : awpOps P l q (⟨d, .next x false, ty, pos, after, none⟩ :: rest) a H = anextM H (ev a x) (contK P l q rest d a) := rfl
theorem aset_yld {d : Tmp} {i : Nat} : aset P l q rest (some d) a (.yld i) H = awpOps P l q rest ((d, .yld i) :: a) H := rfl

theorem awp_move {x : Operand} : awpOps P l q (⟨d, .move x, ty, pos, after, none⟩ :: rest) a H = aset P l q rest d a (ev a x) H := by simp [awpOps, arun, aop, aset]
theorem awp_assign {x : Operand} : awpOps P l q (⟨d, .assign x, ty, pos, after, none⟩ :: rest) a H = aset P l q rest d a (ev a x) H := by simp [awpOps, arun, aop, aset]
theorem awp_pick {c x y : Operand} : awpOps P l q (⟨d, .pick c x y, ty, pos, after, none⟩ :: rest) a H = astep P l q rest d a (apick H (ev a c) (ev a x) (ev a y)) := rfl
theorem awp_alloc {t : TypeId} : awpOps P l q (⟨d, .alloc t, ty, pos, after, none⟩ :: rest) a H = astep P l q rest d a (aalloc P H t) := rfl
theorem awp_box {t : TypeId} {x : Operand} : awpOps P l q (⟨d, .box t x, ty, pos, after, none⟩ :: rest) a H = astep P l q rest d a (abox H (ev a x)) := rfl
theorem awp_build {t : TypeId} {ps : List (Nat × Operand)} : awpOps P l q (⟨d, .build t ps.toArray, ty, pos, after, none⟩ :: rest) a H = astep P l q rest d a (abuild P H t (ps.map fun p => (p.1, ev a p.2))) := rfl
theorem awp_buildSlice {t : TypeId} {n : Nat} {ps : List (Nat × Operand)} : awpOps P l q (⟨d, .buildSlice t n ps.toArray, ty, pos, after, none⟩ :: rest) a H = astep P l q rest d a (abuildSlice P H t n (ps.map fun p => (p.1, ev a p.2))) := rfl
theorem awp_load {t : TypeId} {x : Operand} : awpOps P l q (⟨d, .load t x, ty, pos, after, none⟩ :: rest) a H = astep P l q rest d a (aload P H t (ev a x)) := rfl
theorem awp_store {t : TypeId} {x y : Operand} : awpOps P l q (⟨d, .store t x y, ty, pos, after, none⟩ :: rest) a H = astep P l q rest d a (astore P H t (ev a x) (ev a y)) := rfl
theorem awp_nilCheck {x : Operand} : awpOps P l q (⟨d, .nilCheck x, ty, pos, after, none⟩ :: rest) a H = astep P l q rest d a (anilCheck H (ev a x)) := rfl
theorem awp_binOp {op : BinOp} {t u : TypeId} {x y : Operand} : awpOps P l q (⟨d, .binOp op t x y u, ty, pos, after, none⟩ :: rest) a H = astep P l q rest d a (abin P H op t (ev a x) (ev a y)) := rfl
theorem awp_unOp {op : UnOp} {t : TypeId} {x : Operand} : awpOps P l q (⟨d, .unOp op t x, ty, pos, after, none⟩ :: rest) a H = astep P l q rest d a (aun H op (ev a x)) := rfl
theorem awp_convert {t u : TypeId} {x : Operand} : awpOps P l q (⟨d, .convert t u x, ty, pos, after, none⟩ :: rest) a H = astep P l q rest d a (aconv P H t u (ev a x)) := rfl
theorem awp_makeFunc {f : Fn} {first caps : List Operand} : awpOps P l q (⟨d, .makeFunc f first.toArray caps.toArray, ty, pos, after, none⟩ :: rest) a H = astep P l q rest d a (amakeFunc H f (first.map (ev a)) (caps.map (ev a))) := rfl
theorem awp_makeSlice {t : TypeId} {x y : Operand} : awpOps P l q (⟨d, .makeSlice t x y, ty, pos, after, none⟩ :: rest) a H = astep P l q rest d a (amakeSlice P H t (ev a x) (ev a y)) := rfl
theorem awp_slice {t : TypeId} {x : Operand} {lo hi mx : Option Operand} : awpOps P l q (⟨d, .slice t x lo hi mx, ty, pos, after, none⟩ :: rest) a H = astep P l q rest d a (aslice P H t (ev a x) (lo.map (ev a)) (hi.map (ev a)) (mx.map (ev a))) := rfl
theorem awp_fieldAddr {t : TypeId} {x : Operand} {f : Nat} : awpOps P l q (⟨d, .fieldAddr t x f, ty, pos, after, none⟩ :: rest) a H = astep P l q rest d a (afieldAddr P H t (ev a x) f) := rfl
theorem awp_field {t : TypeId} {x : Operand} {f : Nat} : awpOps P l q (⟨d, .field t x f, ty, pos, after, none⟩ :: rest) a H = astep P l q rest d a (afield P H t (ev a x) f) := rfl
theorem awp_indexAddr {t : TypeId} {x y : Operand} : awpOps P l q (⟨d, .indexAddr t x y, ty, pos, after, none⟩ :: rest) a H = astep P l q rest d a (aindexAddr P H t (ev a x) (ev a y)) := rfl
theorem awp_index {t : TypeId} {x y : Operand} : awpOps P l q (⟨d, .index t x y, ty, pos, after, none⟩ :: rest) a H = astep P l q rest d a (aindex P H t (ev a x) (ev a y)) := rfl
theorem awp_extract {x : Operand} {i : Nat} : awpOps P l q (⟨d, .extract x i, ty, pos, after, none⟩ :: rest) a H = astep P l q rest d a (aextract H (ev a x) i) := rfl
theorem awp_s2a {t : TypeId} {x : Operand} : awpOps P l q (⟨d, .sliceToArrayPointer t x, ty, pos, after, none⟩ :: rest) a H = astep P l q rest d a (aarrayPtr P H t (ev a x)) := rfl
theorem awp_builtin {b : Builtin} {args : List Operand} {tys : List TypeId} : awpOps P l q (⟨d, .call ⟨.builtin b, args.toArray, tys.toArray⟩, ty, pos, after, none⟩ :: rest) a H = astep P l q rest d a (abuiltin P H b tys (args.map (ev a))) := rfl

def aguard (P : Program) (l : List Oper) (q : AAct → List AObj → Prop) (o : Oper) (rest : List Oper) (a : AAct) (H : List AObj) (want : Bool) (g : Option (Option Bool)) : Prop :=
  match g with
  | some (some b) => (b = want → awpOps P l q ({ o with guard := none } :: rest) a H) ∧ (b ≠ want → awpOps P l q rest (aput o.dst (.tup []) a) H)
  | some none => awpOps P l q rest (aput o.dst (.tup []) a) H
  | none => False

theorem awp_guard {op : Op} {j : Nat} {want : Bool} : awpOps P l q (⟨d, op, ty, pos, after, some (j, want)⟩ :: rest) a H = aguard P l q ⟨d, op, ty, pos, after, none⟩ rest a H want (gval l a j) := by
  unfold awpOps aguard
  simp only
  cases gval l a j with
  | none => rfl
  | some r => cases r <;> rfl

theorem aguard_undef {op : Op} {want : Bool} : aguard P l q ⟨d, op, ty, pos, after, none⟩ rest a H want (some none) = aset P l q rest d a (.tup []) H := rfl
theorem aguard_tt {op : Op} : aguard P l q ⟨d, op, ty, pos, after, none⟩ rest a H true (some (some true)) = awpOps P l q (⟨d, op, ty, pos, after, none⟩ :: rest) a H := by simp [aguard]
theorem aguard_ff {op : Op} : aguard P l q ⟨d, op, ty, pos, after, none⟩ rest a H false (some (some false)) = awpOps P l q (⟨d, op, ty, pos, after, none⟩ :: rest) a H := by simp [aguard]
theorem aguard_tf {op : Op} : aguard P l q ⟨d, op, ty, pos, after, none⟩ rest a H true (some (some false)) = aset P l q rest d a (.tup []) H := by simp [aguard, aset]
theorem aguard_ft {op : Op} : aguard P l q ⟨d, op, ty, pos, after, none⟩ rest a H false (some (some true)) = aset P l q rest d a (.tup []) H := by simp [aguard, aset]

end

theorem thenA_normal {K : AAct → List AObj → Prop} {Q : Exit → AAct → List AObj → Prop} : thenA K Q .normal = K := rfl
theorem thenA_ret {K : AAct → List AObj → Prop} {Q : Exit → AAct → List AObj → Prop} : thenA K Q .ret = Q .ret := rfl
theorem thenA_exit {K : AAct → List AObj → Prop} {Q : Exit → AAct → List AObj → Prop} {i : Nat} : thenA K Q (.exit i) = Q (.exit i) := rfl
theorem thenA_goto {K : AAct → List AObj → Prop} {Q : Exit → AAct → List AObj → Prop} {i : Nat} : thenA K Q (.goto i) = Q (.goto i) := rfl
theorem inBlockA_normal {id : Nat} {Q : Exit → AAct → List AObj → Prop} : inBlockA id Q .normal = Q .normal := rfl
theorem inBlockA_ret {id : Nat} {Q : Exit → AAct → List AObj → Prop} : inBlockA id Q .ret = Q .ret := rfl
theorem inBlockA_exit {id : Nat} {Q : Exit → AAct → List AObj → Prop} : inBlockA id Q (.exit id) = Q .normal := by funext a H; simp [inBlockA]
theorem inBlockA_exit_ne {id i : Nat} {Q : Exit → AAct → List AObj → Prop} (h : i ≠ id) : inBlockA id Q (.exit i) = Q (.exit i) := by funext a H; simp [inBlockA, h]

/-! ### Memory by its places -/
section
variable {H l : List AObj}
theorem hcells_app {i : Nat} : hcells (H ++ l) (H.length + i) = hcells l i := by
  unfold hcells; rw [List.getElem?_append_right (by omega), Nat.add_sub_cancel_left]
theorem hcells_app0 : hcells (H ++ l) H.length = hcells l 0 := hcells_app (i := 0)
theorem hcells_zero {fr : Bool} {vs : List AV} : hcells (.cells fr vs :: l) 0 = some vs := rfl
theorem hcells_succ {o : AObj} {i : Nat} : hcells (o :: l) (i + 1) = hcells l i := rfl
theorem hget_app {i : Nat} : (H ++ l)[H.length + i]? = l[i]? := by rw [List.getElem?_append_right (by omega), Nat.add_sub_cancel_left]
theorem hget_app0 : (H ++ l)[H.length]? = l[0]? := hget_app (i := 0)
theorem hset_app {i : Nat} {o : AObj} : (H ++ l).set (H.length + i) o = H ++ l.set i o := by rw [List.set_append_right _ _ (by omega), Nat.add_sub_cancel_left]
theorem hset_app0 {o : AObj} : (H ++ l).set H.length o = H ++ l.set 0 o := hset_app (i := 0)
theorem hcells_sapp {j i : Nat} {o : AObj} : hcells (H.set j o ++ l) (H.length + i) = hcells l i := by
  have := hcells_app (H := H.set j o) (l := l) (i := i); rwa [List.length_set] at this
theorem hcells_sapp0 {j : Nat} {o : AObj} : hcells (H.set j o ++ l) H.length = hcells l 0 := hcells_sapp (i := 0)
theorem hget_sapp {j i : Nat} {o : AObj} : (H.set j o ++ l)[H.length + i]? = l[i]? := by
  have := hget_app (H := H.set j o) (l := l) (i := i); rwa [List.length_set] at this
theorem hget_sapp0 {j : Nat} {o : AObj} : (H.set j o ++ l)[H.length]? = l[0]? := hget_sapp (i := 0)
theorem hset_sapp {j i : Nat} {o o' : AObj} : (H.set j o ++ l).set (H.length + i) o' = H.set j o ++ l.set i o' := by
  have := hset_app (H := H.set j o) (l := l) (i := i) (o := o'); rwa [List.length_set] at this
theorem hset_sapp0 {j : Nat} {o o' : AObj} : (H.set j o ++ l).set H.length o' = H.set j o ++ l.set 0 o' := hset_sapp (i := 0)
end

def isStr (P : Program) (t : TypeId) : Bool := match P.underlying t with | some .string => true | _ => false

section
variable {P : Program} {H : List AObj} {t : TypeId}
theorem alen_str {s : List UInt8} (h : isStr P t = true) : alen P H t (.d (.str s)) = ⟨True, .d (.int .i64 s.length), H⟩ := by
  unfold isStr at h; split at h
  · rename_i e; simp [alen, e]
  · simp at h
theorem alen_snil (h : isSl P t = true) : alen P H t (.d .snil) = ⟨True, .d (.int .i64 0), H⟩ := by
  obtain ⟨e, h⟩ := of_isSl h; simp [alen, h]
theorem alen_sl {z : Nat} {es : List (List DV)} {ex : Bool} (h : isSl P t = true) : alen P H t (.d (.sl z es ex)) = ⟨True, .d (.int .i64 es.length), H⟩ := by
  obtain ⟨e, h⟩ := of_isSl h; simp [alen, h]
theorem alen_row {i z o n : Nat} (h : isSl P t = true) : alen P H t (.row i z o n) = ⟨True, .d (.int .i64 n), H⟩ := by
  obtain ⟨e, h⟩ := of_isSl h; simp [alen, h]
end

theorem not_dec (p : Prop) [Decidable p] : (!decide p) = decide (¬p) := by simp
theorem or_dec (p q : Prop) [Decidable p] [Decidable q] : (decide p || decide q) = decide (p ∨ q) := by simp
theorem and_dec (p q : Prop) [Decidable p] [Decidable q] : (decide p && decide q) = decide (p ∧ q) := by simp

/-! ### How a function's proof goes -/
section
variable {P : Program} {n : Nat} {M0 : Mem} {rd : Option Nat} {Q : Exit → AAct → List AObj → Prop} {a : AAct} {H : List AObj}

/-- A sequence; between its parts the temporaries V alone are kept. -/
theorem awp_seq_keep (V : List Nat) {x y : Code} (h : ∀ K : AAct → List AObj → Prop, (∀ a H, awp P n M0 rd y Q (akeep V a) H → K a H) → awp P n M0 rd x (thenA K Q) a H) : awp P n M0 rd (.seq x y) Q a H :=
  awp_seq fun K hK => h K fun a H hy => hK a H (awp_weak (Weak.tmps (Weaker.keep V a)) hy)

theorem awp_region_to {id : Nat} {l : List Oper} {q : AAct → List AObj → Prop} (hd : dstsOk n l = true) (hq : q = Q .normal) (h : awpOps P l q l a H) : awp P n M0 rd (.region id l.toArray false) Q a H :=
  awp_region hd (hq ▸ h)

theorem awp_cond_t {c : Operand} {x y : Code} (hc : ev a c = .d (.bool true)) (h : awp P n M0 rd x Q a H) : awp P n M0 rd (.cond c x y) Q a H := awp_cond hc (fun _ => h) (fun e => by cases e)
theorem awp_cond_f {c : Operand} {x y : Code} (hc : ev a c = .d (.bool false)) (h : awp P n M0 rd y Q a H) : awp P n M0 rd (.cond c x y) Q a H := awp_cond hc (fun e => by cases e) (fun _ => h)

/-- The call's contract is used. -/
theorem acall_use {f : FuncId} {args : List AV} {R K : AV → List AObj → Prop} (h : ACalls P f args H R) (hk : ∀ v H', R v H' → K v H') : ACalls P f args H K := h.mono hk

end

/-- What a function's end owes. -/
def Ends (P : Program) (n : Nat) (M0 : Mem) (Q : Exit → AAct → List AObj → Prop) (rs : List ResultVar) (R : AV → List AObj → Prop) : Prop :=
  ∀ a H1 a' H', Weak n M0 a H1 a' H' → (aresults P a' H' rs).1 → R (aresults P a' H' rs).2 H' → Q .ret a H1 ∧ Q .normal a H1

/-- A function out of its body, its results written out. -/
theorem acalls {P : Program} {f : FuncId} {fn : Func} {c : Code} {n : Nat} {rs : List ResultVar} {args : List AV} {H : List AObj} {R : AV → List AObj → Prop} (hf : P.funcs[f]? = some fn) (hb : fn.body = some c) (hn : fn.ntmps = n) (hrs : fn.results.toList = rs) (ha : args.length ≤ n)
    (h : ∀ (M0 : Mem) (Q : Exit → AAct → List AObj → Prop), M0.k = H.length → ltH H.length H = true →
      Ends P n M0 Q rs R →
      awp P n M0 none c Q (initAct 0 args) H) : ACalls P f args H R := by
  subst hn; subst hrs
  exact acalls_of hf hb ha h

section
variable {P : Program} {n : Nat} {M0 : Mem} {Q : Exit → AAct → List AObj → Prop} {H : List AObj} {rs : List ResultVar} {R : AV → List AObj → Prop}

/-- The end: memory as it was. -/
theorem fin_self (hQ : Ends P n M0 Q rs R) {a : AAct} {H1 : List AObj}
    (h1 : (aresults P a H1 rs).1) (h2 : R (aresults P a H1 rs).2 H1) : Q .ret a H1 ∧ Q .normal a H1 := hQ a H1 a H1 Weak.refl h1 h2

/-- The end: what the function made is given up. -/
theorem fin_drop (hQ : Ends P n M0 Q rs R) (hk : M0.k = H.length) (hl : ltH H.length H = true) {a : AAct} {J : List AObj}
    (ts : List Nat) (ht : ltA H.length (akeep ts a) = true) (h1 : (aresults P (akeep ts a) H rs).1) (h2 : R (aresults P (akeep ts a) H rs).2 H) : Q .ret a (H ++ J) ∧ Q .normal a (H ++ J) :=
  hQ _ _ _ _ ((Weak.tmps (Weaker.keep ts a)).trans (Weak.drop (by rw [hk]; exact Nat.le_refl _) ht hl)) h1 h2

/-- The end: one row that the function made is kept. -/
theorem fin_keep1 (hQ : Ends P n M0 Q rs R) (hk : M0.k = H.length) (hl : ltH H.length H = true) {a : AAct} {J : List AObj}
    (t j size off m : Nat) (ts : List Nat) {x : AObj} (hj : J[j]? = some x) (hx : x.lt H.length = true) (hat : aget a t = .row (H.length + j) size off m) (ht : ltA H.length (akeep ts a) = true)
    (h1 : (aresults P ((t, .row H.length size off m) :: akeep ts a) (H ++ [x]) rs).1) (h2 : R (aresults P ((t, .row H.length size off m) :: akeep ts a) (H ++ [x]) rs).2 (H ++ [x])) : Q .ret a (H ++ J) ∧ Q .normal a (H ++ J) := by
  refine hQ _ _ ((t, .row H.length size off m) :: akeep ts a) (H ++ [x]) (Weak.keep1 (q := H.length + j) (x := x) (by rw [hk]; exact Nat.le_refl _) (fun i hi => List.getElem?_append_left hi) (by rw [hget_app]; exact hj) (by omega) hx hl fun u => ?_) h1 h2
  simp only [aget]
  by_cases hu : u = t
  · subst hu
    rw [if_pos rfl]
    exact .inr (.inr ⟨size, off, m, hat, rfl⟩)
  · rw [if_neg hu]
    rcases aget_akeep ts a u with h | h
    · exact .inr (.inl h)
    · exact .inl ⟨h, h ▸ aget_lt ht u⟩

end

end Go.R
