/-
  The abstract layer, part 22: a machine that runs: what it comes to is what the abstract layer says.
-/
import Derived.Test.YtikgnakhciklaaaGreatDoorRv
namespace Go.R
set_option linter.unusedSectionVars false
variable [Syms]
set_option linter.unusedSimpArgs false
set_option linter.unusedVariables false

/-! ### What an operation asks, decided -/

theorem dec_ok {p : Prop} {i : Decidable p} (h : @decide p i = true) : p := of_decide_eq_true h

section
variable (P : Program) (H : List AObj)

def decInI64 (x : Int) : Decidable (inI64 x) := by unfold inI64; infer_instance
def decAfit : (k : IntKind) → (x : Int) → Decidable (afit k x).1
  | .i64, x => decInI64 x
  | .i8, _ => isTrue trivial
  | .i16, _ => isTrue trivial
  | .i32, _ => isTrue trivial
  | .u8, _ => isTrue trivial
  | .u16, _ => isTrue trivial
  | .u32, _ => isTrue trivial
  | .u64, _ => isTrue trivial
def decAint (op : BinOp) (k : IntKind) (a b : Int) : Decidable (aint op k a b).1 := by
  cases op <;> dsimp only [aint] <;> first | exact decAfit _ _ | infer_instance
def decAstr (op : BinOp) (s t : List UInt8) : Decidable (astr op s t).1 := by
  cases op <;> dsimp only [astr] <;> infer_instance
def decLoad (t : TypeId) (p : AV) : Decidable (aload P H t p).ok := by
  unfold aload; (repeat' split) <;> dsimp only [fail] <;> infer_instance
def decStore (t : TypeId) (p v : AV) : Decidable (astore P H t p v).ok := by
  unfold astore; (repeat' split) <;> dsimp only [fail] <;> infer_instance
def decAlloc (t : TypeId) : Decidable (aalloc P H t).ok := by
  unfold aalloc; (repeat' split) <;> dsimp only [fail] <;> infer_instance
def decBox (v : AV) : Decidable (abox H v).ok := by
  unfold abox; (repeat' split) <;> dsimp only [fail] <;> infer_instance
def decFill (place : Nat → Option (Nat × Nat)) : (cells : List AV) → (ps : List (Nat × AV)) → Decidable (afill place cells ps).1
  | _, [] => isTrue trivial
  | cells, (i, v) :: rest => by
    simp only [afill]
    split
    · rename_i off size us h1 h2
      have := decFill place (splice cells off us) rest
      dsimp only
      infer_instance
    · exact isFalse id
def decBuild (t : TypeId) (ps : List (Nat × AV)) : Decidable (abuild P H t ps).ok := by
  unfold abuild
  split
  · exact decFill _ _ _
  · exact isFalse id
def decBuildSlice (t : TypeId) (n : Nat) (ps : List (Nat × AV)) : Decidable (abuildSlice P H t n ps).ok := by
  unfold abuildSlice
  split
  · split
    · rename_i z size _ _
      have := decFill (fun i => some (i * size, size)) (arep n z) ps
      dsimp only
      infer_instance
    · exact isFalse id
  · exact isFalse id
def decFieldAddr (s : TypeId) (p : AV) (f : Nat) : Decidable (afieldAddr P H s p f).ok := by
  unfold afieldAddr; (repeat' split) <;> dsimp only [fail] <;> infer_instance
def decPart (t : TypeId) (cs : List AV) (off : Nat) : Decidable (apart P t cs off H).ok := by
  unfold apart; (repeat' split) <;> dsimp only [fail] <;> infer_instance
def decField (t : TypeId) (x : AV) (f : Nat) : Decidable (afield P H t x f).ok := by
  unfold afield
  split
  · exact decPart P H _ _ _
  · exact isFalse id
def decIndexAddr (t : TypeId) (x i : AV) : Decidable (aindexAddr P H t x i).ok := by
  unfold aindexAddr; (repeat' split) <;> dsimp only [fail] <;> infer_instance
def decIndex (t : TypeId) (x i : AV) : Decidable (aindex P H t x i).ok := by
  unfold aindex
  (repeat' split) <;> dsimp only [fail] <;> first | infer_instance | skip
  rename_i size _
  exact @instDecidableAnd _ _ inferInstance (@instDecidableAnd _ _ inferInstance (decPart P H _ _ _))
def decExtract (t : AV) (i : Nat) : Decidable (aextract H t i).ok := by
  unfold aextract; (repeat' split) <;> dsimp only [fail] <;> infer_instance
def decLen (t : TypeId) (x : AV) : Decidable (alen P H t x).ok := by
  unfold alen; (repeat' split) <;> dsimp only [fail] <;> infer_instance
def decContent (size : Nat) (x : AV) : Decidable (acontent H size x).1 := by
  unfold acontent; (repeat' split) <;> infer_instance
def isStrT (u : TypeId) : Bool := match P.underlying u with | some .string => true | _ => false
theorem isStrT_iff (u : TypeId) : isStrT P u = true ↔ P.underlying u = some .string := by
  unfold isStrT; split <;> simp_all
def decApp (size : Nat) (u : TypeId) (x : AV) : Decidable (aapp P H size u x).1 := by
  unfold aapp
  split
  · have : Decidable (P.underlying u = some .string) := decidable_of_iff _ (isStrT_iff P u)
    dsimp only
    infer_instance
  · have := decContent H size x
    dsimp only
    infer_instance
def decAppend (t u : TypeId) (s x : AV) : Decidable (aappend P H t u s x).ok := by
  unfold aappend
  split
  · split
    · rename_i size bytes _ _ _
      have := decApp P H size u x
      dsimp only
      (repeat' split) <;> dsimp only [fail] <;> infer_instance
    · exact isFalse id
  · exact isFalse id
def decCopy (t : TypeId) (d s : AV) : Decidable (acopy P H t d s).ok := by
  unfold acopy
  split
  · rename_i size _ _ _ _ _
    have := decContent H size s
    (repeat' split) <;> dsimp only [fail] <;> infer_instance
  · exact isFalse id
def decConv (s d : TypeId) (x : AV) : Decidable (aconv P H s d x).ok := by
  have : ∀ s x, Decidable (acontent H s x).1 := fun s x => decContent H s x
  have : ∀ k n, Decidable (afit k n).1 := fun k n => decAfit k n
  unfold aconv
  (repeat' split) <;> dsimp only [fail] <;> infer_instance
def decMin (l : List AV) : Decidable (amin H l).ok := by
  unfold amin; (repeat' split) <;> dsimp only [fail] <;> infer_instance
def decMax (l : List AV) : Decidable (amax H l).ok := by
  unfold amax; (repeat' split) <;> dsimp only [fail] <;> infer_instance
def decCut (n : Nat) (lo hi : Option Int) : Decidable (cutOk n lo hi) := by
  unfold cutOk; (repeat' split) <;> infer_instance
def decSlice (t : TypeId) (x : AV) (lo hi mx : Option AV) : Decidable (aslice P H t x lo hi mx).ok := by
  have := decCut
  unfold aslice
  (repeat' split) <;> dsimp only [fail] <;> infer_instance
def decMakeSlice (t : TypeId) (l c : AV) : Decidable (amakeSlice P H t l c).ok := by
  unfold amakeSlice; (repeat' split) <;> dsimp only [fail] <;> infer_instance
def decArrayPtr (t : TypeId) (x : AV) : Decidable (aarrayPtr P H t x).ok := by
  unfold aarrayPtr; (repeat' split) <;> dsimp only [fail] <;> infer_instance
def decNil (x : AV) : Decidable (anilCheck H x).ok := by
  unfold anilCheck; (repeat' split) <;> dsimp only [fail] <;> infer_instance
def decUn (op : UnOp) (x : AV) : Decidable (aun H op x).ok := by
  unfold aun
  (repeat' split) <;> dsimp only [fail] <;> first | exact decAfit _ _ | infer_instance
def decPick (c x y : AV) : Decidable (apick H c x y).ok := by
  unfold apick; (repeat' split) <;> dsimp only [fail] <;> infer_instance

def ptrEq (t : TypeId) (i j : Nat) : Bool :=
  match tPtr P t with
  | some e =>
    match tSize P e, H[i]?, H[j]? with
    | some (_ + 1), some (.cells false _), some (.cells false _) => true
    | _, _, _ => false
  | none => false
theorem ptrEq_ok {P : Program} {H : List AObj} {t : TypeId} {i j : Nat} (h : ptrEq P H t i j = true) : ∃ e n vs us, tPtr P t = some e ∧ tSize P e = some (n + 1) ∧ H[i]? = some (.cells false vs) ∧ H[j]? = some (.cells false us) := by
  unfold ptrEq at h
  split at h
  · split at h
    · exact ⟨_, _, _, _, by assumption, by assumption, by assumption, by assumption⟩
    · simp at h
  · simp at h

/-- Whether two values may be held against each other. -/
def eqB (t : TypeId) (x y : AV) : Bool :=
  match x, y with
  | .ptr i _, .ptr j _ => ptrEq P H t i j
  | .d (.bool _), .d (.bool _) => isBool P t
  | .pnil, .pnil => isPtr P t
  | .pnil, .ptr _ _ => isPtr P t
  | .ptr _ _, .pnil => isPtr P t
  | .pnil, .imm _ => isPtr P t
  | .imm _, .pnil => isPtr P t
  | .d .snil, .d .snil => isSl P t
  | .d .snil, .d (.sl _ _ _) => isSl P t
  | .d (.sl _ _ _), .d .snil => isSl P t
  | .d .snil, .row _ _ _ _ => isSl P t
  | .row _ _ _ _, .d .snil => isSl P t
  | .mnil, .mnil => isMap P t
  | .mnil, .map _ => isMap P t
  | .map _, .mnil => isMap P t
  | .fnil, .fnil => isFn P t
  | .fnil, .fn _ _ => isFn P t
  | .fn _ _, .fnil => isFn P t
  | _, _ => false
theorem eqB_ok {P : Program} {H : List AObj} {t : TypeId} {x y : AV} (h : eqB P H t x y = true) : (aeq P H t x y).1 := by
  unfold eqB at h
  split at h <;> first | exact ptrEq_ok h | exact h | simp at h

def isEqOp : BinOp → Bool
  | .eql | .neq => true
  | _ => false

def binB (op : BinOp) (t : TypeId) (x y : AV) : Bool :=
  match x, y with
  | .d (.int k a), .d (.int k' b) => (isShift op || k == k') && @decide _ (decAint op k a b)
  | .d (.str a), .d (.str b) => @decide _ (decAstr op a b)
  | .agg xs, .agg ys => isEqOp op && !P.eqGuardType P.depth t && (eqA P 8 t (.agg xs) (.agg ys) == some (eqL xs ys))
  | x, y => isEqOp op && eqB P H t x y
theorem binB_ok {P : Program} {H : List AObj} {op : BinOp} {t : TypeId} {x y : AV} (h : binB P H op t x y = true) : (abin P H op t x y).ok := by
  unfold binB at h
  unfold abin
  split at h
  · simp only [Bool.and_eq_true, Bool.or_eq_true, beq_iff_eq] at h
    exact ⟨h.1, dec_ok h.2⟩
  · exact dec_ok h
  · simp only [Bool.and_eq_true, Bool.not_eq_true', beq_iff_eq] at h
    obtain ⟨⟨h1, h2⟩, h3⟩ := h
    cases op <;> simp [isEqOp] at h1
    · exact EqAgg_of 8 (by decide) h2 h3
    · exact EqAgg_of 8 (by decide) h2 h3
  · rename_i h1 h2 h3
    simp only [Bool.and_eq_true] at h
    obtain ⟨g1, g2⟩ := h
    split
    · rename_i k a k' b; exact absurd rfl (h1 _ _ _ _ rfl)
    · rename_i a b; exact absurd rfl (h2 _ _ rfl)
    · rename_i a b; exact absurd rfl (h3 _ _ rfl)
    · cases op <;> simp [isEqOp] at g1
      · exact eqB_ok g2
      · exact eqB_ok g2

def keqB (kt : TypeId) (x y : AV) : Bool :=
  match P.underlying kt, x, y with
  | some (.int _), .d (.int j _), .d (.int k _) => j == k
  | some .string, .d (.str _), .d (.str _) => true
  | some (.pointer _), .ptr i a, .ptr j b => eqB P H kt (.ptr i a) (.ptr j b)
  | _, _, _ => false
theorem keqB_ok {P : Program} {H : List AObj} {kt : TypeId} {x y : AV} (h : keqB P H kt x y = true) : (akeq P H kt x y).1 := by
  unfold keqB at h
  unfold akeq
  split at h
  · rename_i h1; rw [h1]; exact beq_iff_eq.1 h
  · rename_i h1; rw [h1]; trivial
  · rename_i h1; rw [h1]; exact eqB_ok h
  · simp at h

def findB (kt : TypeId) (k : AV) : List (Nat × AV × AV) → Bool
  | [] => true
  | (_, k', _) :: es => keqB P H kt k k' && ((akeq P H kt k k').2 || findB kt k es)
theorem findB_ok {P : Program} {H : List AObj} {kt : TypeId} {k : AV} : ∀ {es : List (Nat × AV × AV)} {i : Nat}, findB P H kt k es = true → (afind P H kt k es i).1
  | [], _, _ => trivial
  | (b, k', v) :: es, i, h => by
    simp only [findB, Bool.and_eq_true, Bool.or_eq_true] at h
    unfold afind
    split
    · exact keqB_ok h.1
    · rename_i hne
      exact ⟨keqB_ok h.1, findB_ok (h.2.resolve_left hne)⟩

def lookupB (t : TypeId) (m k : AV) : Bool :=
  match tMap P t, hmap H m with
  | some (kt, et), some es => keyT P kt && findB P H kt k es && (((afind P H kt k es 0).2).isSome || (azero P et).isSome)
  | _, _ => false
theorem lookupB_ok {P : Program} {H : List AObj} {t : TypeId} {m k : AV} {c : Bool} (h : lookupB P H t m k = true) : (alookup P H t m k c).ok := by
  unfold lookupB at h
  unfold alookup
  split at h
  · rename_i kt et es h1 h2
    simp only [Bool.and_eq_true, Bool.or_eq_true] at h
    obtain ⟨⟨g1, g2⟩, g3⟩ := h
    rw [h1, h2]
    simp only
    split
    · exact ⟨g1, findB_ok g2⟩
    · exact ⟨g1, findB_ok g2⟩
    · rename_i e1 e2
      rw [e1, e2] at g3
      simp at g3
  · simp at h
def updB (t : TypeId) (m k : AV) : Bool :=
  match tMap P t, m with
  | some (kt, _), .map i =>
    match H[i]? with
    | some (.map es _) => keyT P kt && findB P H kt k es
    | _ => false
  | _, _ => false
theorem updB_ok {P : Program} {H : List AObj} {t : TypeId} {m k v : AV} (h : updB P H t m k = true) : (amapUpdate P H t m k v).ok := by
  unfold updB at h
  unfold amapUpdate
  split at h
  · rename_i kt et i h1
    split at h
    · rename_i es clock h2
      simp only [Bool.and_eq_true] at h
      rw [h1]
      simp only [h2]
      split
      · exact ⟨h.1, findB_ok h.2⟩
      · exact ⟨h.1, findB_ok h.2⟩
    · simp at h
  · simp at h
def delB (t : TypeId) (m k : AV) : Bool :=
  match tMap P t, m with
  | some (kt, _), .mnil => keyT P kt
  | some (kt, _), .map i =>
    match H[i]? with
    | some (.map es _) => keyT P kt && findB P H kt k es
    | _ => false
  | _, _ => false
theorem delB_ok {P : Program} {H : List AObj} {t : TypeId} {m k : AV} (h : delB P H t m k = true) : (adelete P H t m k).ok := by
  unfold delB at h
  unfold adelete
  split at h
  · rename_i kt et h1
    rw [h1]; exact h
  · rename_i kt et i h1
    split at h
    · rename_i es clock h2
      simp only [Bool.and_eq_true] at h
      rw [h1]
      simp only [h2]
      split
      · exact ⟨h.1, findB_ok h.2⟩
      · exact ⟨h.1, findB_ok h.2⟩
    · simp at h
  · simp at h
def decMakeMap (t : TypeId) (r : Option AV) : Decidable (amakeMap P H t r).ok := by
  unfold amakeMap; (repeat' split) <;> dsimp only [fail] <;> infer_instance
def decRange (t : TypeId) (x : AV) : Decidable (arange P H t x).ok := by
  unfold arange; (repeat' split) <;> dsimp only [fail] <;> infer_instance
def decNextS (x : AV) : Decidable (anextS H x).ok := by
  unfold anextS; (repeat' split) <;> dsimp only [fail] <;> infer_instance

def decEntry (x : AV) : Decidable (aentry H x).ok := by
  unfold aentry; (repeat' split) <;> dsimp only [fail] <;> infer_instance

def builtinB (b : Builtin) (tys : List TypeId) (l : List AV) : Bool :=
  match b, tys, l with
  | .len, [t], [x] => @decide _ (decLen P H t x)
  | .append, [t, u], [s, x] => @decide _ (decAppend P H t u s x)
  | .copy, [t, _], [d, s] => @decide _ (decCopy P H t d s)
  | .delete, [t, _], [m, k] => delB P H t m k
  | .min, _, l => @decide _ (decMin H l)
  | .max, _, l => @decide _ (decMax H l)
  | _, _, _ => false
theorem builtinB_ok {P : Program} {H : List AObj} {b : Builtin} {tys : List TypeId} {l : List AV} (h : builtinB P H b tys l = true) : (abuiltin P H b tys l).ok := by
  unfold builtinB at h
  split at h
  · exact (dec_ok h : (alen P H _ _).ok)
  · exact (dec_ok h : (aappend P H _ _ _ _).ok)
  · exact (dec_ok h : (acopy P H _ _ _).ok)
  · exact (delB_ok h : (adelete P H _ _ _).ok)
  · exact (dec_ok h : (amin H _).ok)
  · exact (dec_ok h : (amax H _).ok)
  · simp at h

def makeFuncB (f : Fn) (bs caps : List Operand) : Bool :=
  match bs with
  | [] => true
  | _ :: _ => match f, caps with
    | .func _, [] => true
    | _, _ => false

theorem makeFuncB_ok {H : List AObj} {a : AAct} {f : Fn} {bs caps : List Operand} (h : makeFuncB f bs caps = true) : (amakeFunc H f (bs.map (ev a)) (caps.map (ev a))).ok := by
  unfold makeFuncB at h
  split at h
  · trivial
  · split at h
    · trivial
    · simp at h

def okB (a : AAct) : Op → Bool
  | .move _ | .assign _ => true
  | .pick c x y => @decide _ (decPick H (ev a c) (ev a x) (ev a y))
  | .alloc t => @decide _ (decAlloc P H t)
  | .box _ x => @decide _ (decBox H (ev a x))
  | .build t ps => @decide _ (decBuild P H t (ps.toList.map fun p => (p.1, ev a p.2)))
  | .buildSlice t n ps => @decide _ (decBuildSlice P H t n (ps.toList.map fun p => (p.1, ev a p.2)))
  | .load t x => @decide _ (decLoad P H t (ev a x))
  | .store t p v => @decide _ (decStore P H t (ev a p) (ev a v))
  | .nilCheck x => @decide _ (decNil H (ev a x))
  | .binOp op t x y _ => binB P H op t (ev a x) (ev a y)
  | .unOp op _ x => @decide _ (decUn H op (ev a x))
  | .convert s d x => @decide _ (decConv P H s d (ev a x))
  | .makeFunc f first caps => makeFuncB f first.toList caps.toList
  | .makeSlice t l c => @decide _ (decMakeSlice P H t (ev a l) (ev a c))
  | .slice t x lo hi mx => @decide _ (decSlice P H t (ev a x) (lo.map (ev a)) (hi.map (ev a)) (mx.map (ev a)))
  | .fieldAddr s x f => @decide _ (decFieldAddr P H s (ev a x) f)
  | .field t x f => @decide _ (decField P H t (ev a x) f)
  | .indexAddr t x i => @decide _ (decIndexAddr P H t (ev a x) (ev a i))
  | .index t x i => @decide _ (decIndex P H t (ev a x) (ev a i))
  | .extract t i => @decide _ (decExtract H (ev a t) i)
  | .sliceToArrayPointer t x => @decide _ (decArrayPtr P H t (ev a x))
  | .makeMap t r => @decide _ (decMakeMap P H t (r.map (ev a)))
  | .lookup t x i _ => lookupB P H t (ev a x) (ev a i)
  | .mapUpdate t m k _ => updB P H t (ev a m) (ev a k)
  | .insert t m k _ => updB P H t (ev a m) (ev a k)
  | .range t x => @decide _ (decRange P H t (ev a x))
  | .next x true => @decide _ (decNextS H (ev a x))
  | .entry x => @decide _ (decEntry H (ev a x))
  | .call ⟨.builtin b, args, tys⟩ => builtinB P H b tys.toList (args.toList.map (ev a))
  | _ => false

theorem okB_ok {P : Program} {H : List AObj} {a : AAct} {op : Op} (h : okB P H a op = true) : (aop P a H op).ok := by
  unfold okB at h
  split at h <;> first | trivial | exact dec_ok h | exact binB_ok h | exact lookupB_ok h | exact updB_ok h | exact builtinB_ok h | exact makeFuncB_ok h | simp at h
end

end Go.R
