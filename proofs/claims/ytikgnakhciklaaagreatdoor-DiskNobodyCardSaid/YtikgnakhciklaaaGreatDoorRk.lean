/-
  The abstract layer, part 10: an operation, a region, code, calls.
-/
import Derived.Test.YtikgnakhciklaaaGreatDoorRx
import Derived.Deep.LoopGhost
import Derived.Sort.LoopGhostIn
import Derived.RangeFuncLeaves
import Derived.TacticsIn
import Derived.Scope
import Derived.ScopeJumps
namespace Go.R
set_option linter.unusedSectionVars false
variable [Syms]
set_option linter.unusedSimpArgs false

/-! ### One operation -/

def abuiltin (P : Program) (H : List AObj) (b : Builtin) (tys : List TypeId) (l : List AV) : ARes :=
  match b, tys, l with
  | .len, [t], [x] => alen P H t x
  | .append, [t, u], [s, x] => aappend P H t u s x
  | .copy, [t, _], [d, s] => acopy P H t d s
  | .delete, [t, _], [m, k] => adelete P H t m k
  | .min, _, l => amin H l
  | .max, _, l => amax H l
  | _, _, _ => fail H

def apick (H : List AObj) (c x y : AV) : ARes :=
  match c with
  | .d (.bool b) => ⟨True, if b = true then x else y, H⟩
  | _ => fail H

def aop (P : Program) (a : AAct) (H : List AObj) : Op → ARes
  | .move x => ⟨True, ev a x, H⟩
  | .assign x => ⟨True, ev a x, H⟩
  | .pick c x y => apick H (ev a c) (ev a x) (ev a y)
  | .alloc t => aalloc P H t
  | .box _ x => abox H (ev a x)
  | .build t parts => abuild P H t (parts.toList.map fun p => (p.1, ev a p.2))
  | .buildSlice t len parts => abuildSlice P H t len (parts.toList.map fun p => (p.1, ev a p.2))
  | .load t x => aload P H t (ev a x)
  | .store t p v => astore P H t (ev a p) (ev a v)
  | .nilCheck x => anilCheck H (ev a x)
  | .binOp op t x y _ => abin P H op t (ev a x) (ev a y)
  | .unOp op _ x => aun H op (ev a x)
  | .convert s d x => aconv P H s d (ev a x)
  | .makeFunc f first caps => amakeFunc H f (first.toList.map (ev a)) (caps.toList.map (ev a))
  | .makeSlice t l c => amakeSlice P H t (ev a l) (ev a c)
  | .slice t x lo hi mx => aslice P H t (ev a x) (lo.map (ev a)) (hi.map (ev a)) (mx.map (ev a))
  | .fieldAddr s x f => afieldAddr P H s (ev a x) f
  | .field t x f => afield P H t (ev a x) f
  | .indexAddr t x i => aindexAddr P H t (ev a x) (ev a i)
  | .index t x i => aindex P H t (ev a x) (ev a i)
  | .extract t i => aextract H (ev a t) i
  | .sliceToArrayPointer t x => aarrayPtr P H t (ev a x)
  | .makeMap t r => amakeMap P H t (r.map (ev a))
  | .lookup t x i ok => alookup P H t (ev a x) (ev a i) ok
  | .mapUpdate t m k v => amapUpdate P H t (ev a m) (ev a k) (ev a v)
  | .insert t m k v => amapUpdate P H t (ev a m) (ev a k) (ev a v)
  | .range t x => arange P H t (ev a x)
  | .next x true => anextS H (ev a x)
  | .entry x => aentry H (ev a x)
  | .call ⟨.builtin b, args, tys⟩ => abuiltin P H b tys.toList (args.toList.map (ev a))
  | _ => fail H

theorem evs_rel {M : Mem} {B n : Nat} {a : AAct} {ca : Act} (h : RelAct B M n a ca) (xs : List Operand) : RelL M (xs.map (ev a)) (xs.map ca.eval) :=
  ⟨by simp, fun j h1 h2 => by simpa using h.ev _⟩

theorem parts_rel {M : Mem} {B n : Nat} {a : AAct} {ca : Act} (h : RelAct B M n a ca) (parts : Array (Nat × Operand)) :
    ∀ (j : Nat) (p : Nat × AV) (c : Nat × Value), (parts.toList.map fun p => (p.1, ev a p.2))[j]? = some p → (parts.map fun (i, x) => (i, ca.eval x)).toList[j]? = some c → p.1 = c.1 ∧ RelA M p.2 c.2 := by
  intro j p c hp hc
  rw [List.getElem?_map] at hp
  simp only [Array.toList_map, List.getElem?_map] at hc
  cases hq : parts.toList[j]? with
  | none => simp [hq] at hp
  | some q =>
    simp [hq] at hp hc
    subst hp; subst hc
    exact ⟨rfl, h.ev _⟩

theorem relOpt_map {M : Mem} {B n : Nat} {a : AAct} {ca : Act} (h : RelAct B M n a ca) (x : Option Operand) : RelOpt M (x.map (ev a)) (x.map ca.eval) := by
  cases x with
  | none => exact .none
  | some x => exact .some (h.ev x)

theorem sound_nilCheck {P : Program} {M : Mem} {H : List AObj} {B n : Nat} {a : AAct} {ca : Act} (hs : St M H) (h : RelAct B M n a ca) (x : Operand) (o : Oper) (ho : o.op = .nilCheck x) :
    Sound P (execOp ca.eval o) M (anilCheck H (ev a x)) := by
  have hx := h.ev x
  unfold anilCheck
  split
  · rename_i i off e
    rw [e] at hx
    obtain ⟨e1, _⟩ := hx.ptr_inv
    exact .pure hs rfl fun _ => ⟨.value (ca.eval x), _, by simp [execOp, ho, e1], rfl, hx⟩
  · rename_i c e
    rw [e] at hx
    obtain ⟨A, e1, _⟩ := hx.imm_inv
    exact .pure hs rfl fun _ => ⟨.value (ca.eval x), _, by simp [execOp, ho, e1], rfl, hx⟩
  · rename_i f caps e
    rw [e] at hx
    obtain ⟨vs, e1, _⟩ := hx.fn_inv
    exact .pure hs rfl fun _ => ⟨.value (ca.eval x), _, by simp [execOp, ho, e1], rfl, hx⟩
  · exact .fail

theorem toArray2 {α : Type} {l : Array α} {x y : α} (h : l.toList = [x, y]) : l = #[x, y] := by
  cases l; simp at h; subst h; rfl
theorem toArray1 {α : Type} {l : Array α} {x : α} (h : l.toList = [x]) : l = #[x] := by
  cases l; simp at h; subst h; rfl

theorem sound_builtin {P : Program} {M : Mem} {H : List AObj} (hs : St M H) (b : Builtin) (tys : Array TypeId) (ty : TypeId) (consts : Array Bool) {l : List AV} {cs : Array Value} (h : RelL M l cs.toList) :
    Sound P (builtin b tys ty consts cs) M (abuiltin P H b tys.toList l) := by
  unfold abuiltin
  split
  · rename_i t x ht
    obtain rfl := toArray1 ht
    obtain ⟨c, _, e, h1, h⟩ := h.head
    have := h.nil_inv; subst this
    obtain rfl := toArray1 e
    exact (sound_len hs t ty h1).sound
  · rename_i t u s x ht
    obtain rfl := toArray2 ht
    obtain ⟨c, _, e, h1, h⟩ := h.head
    obtain ⟨d, _, e2, h2, h⟩ := h.head
    have := h.nil_inv; subst this; subst e2
    obtain rfl := toArray2 e
    exact (sound_append hs t u ty h1 h2).sound
  · rename_i t u d s ht
    obtain rfl := toArray2 ht
    obtain ⟨c, _, e, h1, h⟩ := h.head
    obtain ⟨x, _, e2, h2, h⟩ := h.head
    have := h.nil_inv; subst this; subst e2
    obtain rfl := toArray2 e
    exact (sound_copy hs t u ty h1 h2).sound
  · rename_i t u m k ht
    obtain rfl := toArray2 ht
    obtain ⟨c, _, e, h1, h⟩ := h.head
    obtain ⟨x, _, e2, h2, h⟩ := h.head
    have := h.nil_inv; subst this; subst e2
    obtain rfl := toArray2 e
    exact (sound_delete hs t u ty h1 h2).sound
  · exact (sound_min hs tys ty h).sound
  · exact (sound_max hs tys ty h).sound
  · exact .fail

theorem sound_op {P : Program} {M : Mem} {H : List AObj} {B n : Nat} {a : AAct} {ca : Act} (hs : St M H) (h : RelAct B M n a ca) (o : Oper) : Sound P (execOp ca.eval o) M (aop P a H o.op) := by
  obtain ⟨dst, op, type, pos, after, guard⟩ := o
  cases op
  case move x => exact .pure hs rfl fun _ => ⟨_, _, rfl, rfl, h.ev x⟩
  case assign x => exact .pure hs rfl fun _ => ⟨_, _, rfl, rfl, h.ev x⟩
  case pick c x y =>
    have hc := h.ev c
    simp only [aop, apick]
    split
    · rename_i b e
      rw [e] at hc
      have hb := hc.bool_inv
      refine .pure hs rfl fun _ => ⟨.value (if b = true then ca.eval x else ca.eval y), _, by simp [execOp, hb, asBool], rfl, ?_⟩
      cases b
      · exact h.ev y
      · exact h.ev x
    · exact .fail
  case alloc t => exact (sound_alloc hs t).sound
  case box t x => exact (sound_box hs t (h.ev x)).sound
  case build t parts => exact (sound_build hs t (by simp) (parts_rel h parts)).sound
  case buildSlice t len parts => exact (sound_buildSlice hs t len (by simp) (parts_rel h parts)).sound
  case load t x => exact (sound_load hs t (h.ev x)).sound
  case store t p v => exact sound_store hs t (h.ev p) (h.ev v)
  case nilCheck x => exact sound_nilCheck hs h x _ rfl
  case binOp op t x y yt => exact (sound_bin hs op t x y (h.ev x) (h.ev y)).sound
  case unOp op t x => exact (sound_un hs op (h.ev x)).sound
  case convert s d x => exact (sound_conv hs s d (h.ev x)).sound
  case makeFunc f first caps =>
    have := (sound_makeFunc (P := P) hs f (fs := first.map ca.eval) (cs := caps.map ca.eval) (by simpa using evs_rel h first.toList) (by simpa using evs_rel h caps.toList)).sound
    simpa [aop, execOp] using this
  case makeSlice t l c => exact (sound_makeSlice hs t (h.ev l) (h.ev c)).sound
  case slice t x lo hi mx => exact (sound_slice hs t (h.ev x) (relOpt_map h lo) (relOpt_map h hi) (relOpt_map h mx)).sound
  case fieldAddr s x f => exact (sound_fieldAddr hs s f (h.ev x)).sound
  case field t x f => exact (sound_field hs t f (h.ev x)).sound
  case indexAddr t x i => exact (sound_indexAddr hs t (h.ev x) (h.ev i)).sound
  case index t x i => exact (sound_index hs t (h.ev x) (h.ev i)).sound
  case extract t i => exact (sound_extract hs i (h.ev t)).sound
  case sliceToArrayPointer t x => exact (sound_arrayPtr hs t (h.ev x)).sound
  case makeMap t r => exact (sound_makeMap hs t (relOpt_map h r)).sound
  case lookup t x i ok => exact (sound_lookup hs t ok (h.ev x) (h.ev i)).sound
  case mapUpdate t m k v => exact sound_mapUpdate hs t (h.ev m) (h.ev k) (h.ev v)
  case insert t m k v => exact sound_mapUpdate hs t (h.ev m) (h.ev k) (h.ev v)
  case range t x => exact (sound_range hs t (h.ev x)).sound
  case entry x => exact (sound_entry hs (h.ev x)).sound
  case next x s =>
    cases s
    · exact .fail
    · exact (sound_nextS hs type (h.ev x)).sound
  case call c =>
    obtain ⟨callee, args, tys⟩ := c
    cases callee with
    | value f => exact .fail
    | invoke r m => exact .fail
    | builtin b =>
      have e : ∃ consts, (execOp ca.eval ⟨dst, .call ⟨.builtin b, args, tys⟩, type, pos, after, guard⟩).run P M.w = (builtin b tys type consts (args.map ca.eval)).run P M.w := ⟨_, rfl⟩
      obtain ⟨consts, e⟩ := e
      intro hok
      obtain ⟨nx, cvv, M', h1, h2⟩ := sound_builtin (P := P) hs b tys type consts (cs := args.map ca.eval) (by simpa using evs_rel h args.toList) hok
      exact ⟨nx, cvv, M', e.trans h1, h2⟩
  all_goals exact .fail

end Go.R
