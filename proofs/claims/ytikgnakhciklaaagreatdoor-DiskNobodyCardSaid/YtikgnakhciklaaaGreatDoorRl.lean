/-
  The abstract layer, part 11: regions, code, calls, rounds.
-/
import Derived.Test.YtikgnakhciklaaaGreatDoorRk
import Derived.Laws.StandIn
import Derived.Lib.Bytealg
import Derived.Lib.Builder
import Derived.RangeFuncNested
namespace Go.R
set_option linter.unusedSectionVars false
variable [Syms]
set_option linter.unusedSimpArgs false
set_option linter.unusedVariables false

/-- A function's call, at whatever memory that is as H says: it returns, and R holds of the result and of what H has become. -/
def ACalls (P : Program) (f : FuncId) (args : List AV) (H : List AObj) (R : AV → List AObj → Prop) : Prop :=
  ∀ (M : Mem) (cargs : Array Value), St M H → RelL M args cargs.toList →
    Calls P f cargs M.w fun e w' => ∃ (cv : Value) (M' : Mem) (v : AV) (H' : List AObj), e = .returned cv ∧ M'.w = w' ∧ Ext M M' ∧ St M' H' ∧ RelA M' v cv ∧ R v H'

theorem ACalls.mono {P : Program} {f : FuncId} {args : List AV} {H : List AObj} {R R' : AV → List AObj → Prop} (h : ACalls P f args H R) (hr : ∀ v H', R v H' → R' v H') : ACalls P f args H R' :=
  fun M cargs hs ha => (h M cargs hs ha).mono fun e w' ⟨cv, M', v, H', h1, h2, h3, h4, h5, h6⟩ => ⟨cv, M', v, H', h1, h2, h3, h4, h5, hr _ _ h6⟩

def callable (P : Program) (g : FuncId) : Bool :=
  match P.funcs[g]? with
  | some fn => fn.name != "runtime.NumGoroutine" && fn.body.isSome
  | none => false

/-- The fence of a function's own code, and that of a round. -/
def Fw (rd : Option Nat) : Fence := { Fence.wide with round := rd }
theorem Fw_none : Fw none = Fence.wide := rfl
theorem Fw_round (rd : Option Nat) : (Fw rd).round = rd := rfl
theorem Fw_in (rd : Option Nat) (l : Nat) : (Fw rd).inRound l = Fw (some l) := rfl
theorem Fw_fn (rd : Option Nat) (f : FuncId) : (Fw rd).fn f := trivial
theorem Fw_depth (rd : Option Nat) {p : Prop} : (Fw rd).depth.isSome = true → p := fun h => by simp [Fw, Fence.wide] at h
theorem callsIn_Fw {rd : Option Nat} {n : Nat} {P : Program} {f : FuncId} {args : Array Value} {w : World} {R : Ending → World → Prop} (h : Calls P f args w R) : CallsIn (Fw rd) n P f args w R := (callsIn_wide (n := n)).2 h

/-- What is left of an end in the model: the abstract end. -/
def Post (n : Nat) (M0 : Mem) (Q : Exit → AAct → List AObj → Prop) : Exit → Act → World → Prop :=
  fun e ca w => ∃ (M : Mem) (a : AAct) (H : List AObj), M.w = w ∧ Ext M0 M ∧ St M H ∧ RelAct M0.w.heap.size M n a ca ∧ Q e a H

/-- Code, in a function's frame (rd: none), or in that of a round of the range whose record is the object rd. -/
def awp (P : Program) (n : Nat) (M0 : Mem) (rd : Option Nat) (c : Code) (Q : Exit → AAct → List AObj → Prop) (a : AAct) (H : List AObj) : Prop :=
  ∀ (M : Mem) (ca : Act), Ext M0 M → St M H → RelAct M0.w.heap.size M n a ca → c.wpIn (Fw (rd.map M0.r)) 0 P (Post n M0 Q) ca M.w

/-! ### Calls -/

def aputs (params : List Tmp) (args : List AV) (a : AAct) : AAct := ((params.zip args).map fun p => (p.1, p.2)).reverse ++ a

/-- How a round's body may be left, and what yield tells then. -/
def yieldPost (i : Nat) (K : AV → List AObj → Prop) : Exit → AAct → List AObj → Prop
  | .normal, _, H => ∃ r, H[i]? = some (.loop r) ∧ K (.d (.bool true)) (H.set i (.loop { r with st := .ready, pend := none }))
  | .ret, _, H => ∃ r, H[i]? = some (.loop r) ∧ K (.d (.bool false)) (H.set i (.loop { r with st := .done, pend := some .ret }))
  | .exit id, _, H => ∃ r, H[i]? = some (.loop r) ∧ K (.d (.bool false)) (H.set i (.loop { r with st := .done, pend := some (.exit id) }))
  | .goto t, _, H => ∃ r, H[i]? = some (.loop r) ∧ K (.d (.bool false)) (H.set i (.loop { r with st := .done, pend := some (.goto t) }))
  | _, _, _ => False

/-- A round begins: its assignment has come to its end. -/
def beginPost (P : Program) (n : Nat) (M0 : Mem) (i : Nat) (body : Code) (K : AV → List AObj → Prop) : Exit → AAct → List AObj → Prop
  | .normal, a, H => ∃ r, H[i]? = some (.loop r) ∧ r.st = .ready ∧ awp P n M0 (some i) body (yieldPost i K) a (H.set i (.loop { r with st := .busy }))
  | _, _, _ => False

/-- A call of yield: a round of the range whose record is the object i. -/
def AYields (P : Program) (i : Nat) (args : List AV) (H : List AObj) (K : AV → List AObj → Prop) : Prop :=
  ∃ r, H[i]? = some (.loop r) ∧ r.params.size = args.length ∧ (∀ p ∈ r.params.toList, p < r.n) ∧ r.params.toList.Nodup ∧
    ∀ M0 : Mem, M0.k = H.length → awp P r.n M0 (some i) r.assign (beginPost P r.n M0 i r.body K) (aputs r.params.toList args r.a) H

/-- Library functions without a body. -/
inductive XK where
  | idxB
  | cntB
  | noEsc
  deriving DecidableEq

noncomputable def XK.fn : XK → (Array Value → Sem Value)
  | .idxB => Extern.BytealgIndexByte.indexByte
  | .cntB => Extern.BytealgCount.count
  | .noEsc => Extern.AbiNoEscape.same

/-- A function of the program is such a one. -/
def ExtOk (P : Program) (g : FuncId) (k : XK) : Prop :=
  ∃ fn, P.funcs[g]? = some fn ∧ (fn.name == "runtime.NumGoroutine") = false ∧ fn.body.isNone = true ∧ Extern.findNext fn = none ∧ Extern.find fn = some k.fn

/-- What such a function does. -/
def aextern (H : List AObj) : XK → List AV → ARes
  | .idxB, [.d (.str s), .d (.int .u8 c)] => ⟨True, .d (.int .i64 (Lib.indexByte s c.toNat.toUInt8)), H⟩
  | .cntB, [.d (.str s), .d (.int .u8 c)] => ⟨True, .d (.int .i64 (Lib.countByte s c.toNat.toUInt8 : Nat)), H⟩
  | .noEsc, [x] => ⟨True, x, H⟩
  | _, _ => fail H

theorem sound_extern {P : Program} {M : Mem} {H : List AObj} (hs : St M H) (k : XK) {l : List AV} {cs : Array Value} (h : RelL M l cs.toList) : SoundV P (k.fn cs) M (aextern H k l) := by
  unfold aextern
  split
  · rename_i s c
    obtain ⟨x, _, e, h1, h⟩ := h.head
    obtain ⟨y, _, e2, h2, h⟩ := h.head
    have := h.nil_inv; subst this; subst e2
    obtain rfl := toArray2 e
    obtain ⟨b, rfl, rfl⟩ := h1.str_inv
    obtain rfl := h2.int_inv
    exact .pure hs rfl fun _ => ⟨_, Lib.run_indexByteString b c M.w, .d _ _ (.int _ _)⟩
  · rename_i s c
    obtain ⟨x, _, e, h1, h⟩ := h.head
    obtain ⟨y, _, e2, h2, h⟩ := h.head
    have := h.nil_inv; subst this; subst e2
    obtain rfl := toArray2 e
    obtain ⟨b, rfl, rfl⟩ := h1.str_inv
    obtain rfl := h2.int_inv
    exact .pure hs rfl fun _ => ⟨_, Lib.run_countString b c M.w, .d _ _ (.int _ _)⟩
  · rename_i x
    obtain ⟨c, _, e, h1, h⟩ := h.head
    have := h.nil_inv; subst this
    obtain rfl := toArray1 e
    exact .pure hs rfl fun _ => ⟨c, rfl, h1⟩
  · exact .fail

/-- A function's call by its number: one with a body, or a library function without one. -/
def awpGo (P : Program) (g : FuncId) (args : List AV) (H : List AObj) (K : AV → List AObj → Prop) : Prop :=
  (callable P g = true ∧ ACalls P g args H K) ∨ (∃ k, ExtOk P g k ∧ (aextern H k args).ok ∧ K (aextern H k args).v (aextern H k args).h)

def awpCall (P : Program) (fv : AV) (args : List AV) (H : List AObj) (K : AV → List AObj → Prop) : Prop :=
  match fv with
  | .fn (.func g) caps => awpGo P g (args ++ caps) H K
  | .bfn g bs => awpGo P g (bs ++ args) H K
  | .yld i => AYields P i args H K
  | _ => False

def arun (P : Program) (o : Oper) (a : AAct) (H : List AObj) (K : AAct → List AObj → Prop) : Prop :=
  match o.op with
  | .call ⟨.value f, args, _⟩ => awpCall P (ev a f) (args.toList.map (ev a)) H fun v H' => K (aput o.dst v a) H'
  | .next x false => anextM H (ev a x) fun v H' => K (aput o.dst v a) H'
  | op => (aop P a H op).ok ∧ K (aput o.dst (aop P a H op).v a) (aop P a H op).h

def gval (l : List Oper) (a : AAct) (j : Nat) : Option (Option Bool) :=
  match (l[j]?).bind (·.dst) with
  | none => some none
  | some d =>
    match aget a d with
    | .d (.bool b) => some (some b)
    | .tup [] => some none
    | _ => none

def awpOps (P : Program) (l : List Oper) (q : AAct → List AObj → Prop) : List Oper → AAct → List AObj → Prop
  | [], a, H => q a H
  | o :: rest, a, H =>
    match o.guard with
    | none => arun P o a H (awpOps P l q rest)
    | some (j, want) =>
      match gval l a j with
      | some (some b) => (b = want → arun P o a H (awpOps P l q rest)) ∧ (b ≠ want → awpOps P l q rest (aput o.dst (.tup []) a) H)
      | some none => awpOps P l q rest (aput o.dst (.tup []) a) H
      | none => False

theorem gval_sound {M : Mem} {B n : Nat} {a : AAct} {ca : Act} (h : RelAct B M n a ca) (l : List Oper) (j : Nat) {r : Option Bool} (hg : gval l a j = some r) : yielded l.toArray ca.tmps j = r := by
  unfold gval at hg
  unfold yielded
  simp only [List.getElem?_toArray]
  cases hd : (l[j]?).bind (·.dst) with
  | none => simp [hd] at hg; subst hg; simp
  | some d =>
    simp only [hd] at hg
    have hv := h.get d
    rw [Array.getD_eq_getD_getElem?] at hv
    simp only [Option.bind_some]
    split at hg
    · rename_i b e
      simp at hg; subst hg
      rw [e] at hv
      have := hv.bool_inv
      cases ht : ca.tmps[d]? with
      | none => rw [ht] at this; simp [undef] at this
      | some v =>
        rw [ht] at this
        simp at this
        subst this
        rfl
    · rename_i e
      simp at hg; subst hg
      rw [e] at hv
      obtain ⟨vs, e2, _⟩ := RelL.of_tup hv
      cases ht : ca.tmps[d]? with
      | none => rfl
      | some v =>
        rw [ht] at e2
        simp at e2
        subst e2
        rfl
    · simp at hg

theorem undef_rel (M : Mem) : RelA M (.tup []) undef := .tup [] #[] rfl (fun j h => absurd h (by simp))

theorem run_callv {P : Program} {w : World} {ρ : Operand → Value} {dst : Option Tmp} {f : Operand} {args : Array Operand} {tys : Array TypeId} {type : TypeId} {pos : String} {after : Array Edge} {guard : Option (Nat × Bool)}
    {g : FuncId} {caps : Array Value} (hf : ρ f = .func (.func g) #[] caps) (hc : callable P g = true) :
    (execOp ρ ⟨dst, .call ⟨.value f, args, tys⟩, type, pos, after, guard⟩).run P w = .ok (.enter g (args.map ρ ++ caps)) w := by
  unfold callable at hc
  cases hfn : P.funcs[g]? with
  | none => simp [hfn] at hc
  | some fn =>
    simp [hfn] at hc
    obtain ⟨h1, h2⟩ := hc
    have h3 : fn.body.isNone = false := by cases hb : fn.body <;> simp_all
    simp [execOp, resolve, Deferred.ofValue, hf, invoke, callFunc, hfn, h1, h3]
    intro hb
    simp [hb] at h2

theorem run_callx {P : Program} {w : World} {ρ : Operand → Value} {dst : Option Tmp} {f : Operand} {args : Array Operand} {tys : Array TypeId} {type : TypeId} {pos : String} {after : Array Edge} {guard : Option (Nat × Bool)}
    {g : FuncId} {caps : Array Value} {k : XK} (hf : ρ f = .func (.func g) #[] caps) (hx : ExtOk P g k) :
    (execOp ρ ⟨dst, .call ⟨.value f, args, tys⟩, type, pos, after, guard⟩).run P w = ((k.fn (args.map ρ ++ caps)).run P w).andThen fun v w' => .ok (.value v) w' := by
  obtain ⟨fn, h1, h2, h3, h4, h5⟩ := hx
  have := run_callFunc_standIn h1 h2 h3 h4 h5 (args.map ρ ++ caps) w
  simp only [execOp, resolve, Deferred.ofValue, hf, invoke, Sem.run_bind, Sem.run_pure, Result.andThen_ok]
  simpa using this

theorem run_callvb {P : Program} {w : World} {ρ : Operand → Value} {dst : Option Tmp} {f : Operand} {args : Array Operand} {tys : Array TypeId} {type : TypeId} {pos : String} {after : Array Edge} {guard : Option (Nat × Bool)}
    {g : FuncId} {caps : Array Value} (hf : ρ f = .func (.func g) caps #[]) (hc : callable P g = true) :
    (execOp ρ ⟨dst, .call ⟨.value f, args, tys⟩, type, pos, after, guard⟩).run P w = .ok (.enter g (caps ++ args.map ρ)) w := by
  unfold callable at hc
  cases hfn : P.funcs[g]? with
  | none => simp [hfn] at hc
  | some fn =>
    simp [hfn] at hc
    obtain ⟨h1, h2⟩ := hc
    have h3 : fn.body.isNone = false := by cases hb : fn.body <;> simp_all
    simp [execOp, resolve, Deferred.ofValue, hf, invoke, callFunc, hfn, h1, h3]
    intro hb
    simp [hb] at h2

theorem run_callxb {P : Program} {w : World} {ρ : Operand → Value} {dst : Option Tmp} {f : Operand} {args : Array Operand} {tys : Array TypeId} {type : TypeId} {pos : String} {after : Array Edge} {guard : Option (Nat × Bool)}
    {g : FuncId} {caps : Array Value} {k : XK} (hf : ρ f = .func (.func g) caps #[]) (hx : ExtOk P g k) :
    (execOp ρ ⟨dst, .call ⟨.value f, args, tys⟩, type, pos, after, guard⟩).run P w = ((k.fn (caps ++ args.map ρ)).run P w).andThen fun v w' => .ok (.value v) w' := by
  obtain ⟨fn, h1, h2, h3, h4, h5⟩ := hx
  have := run_callFunc_standIn h1 h2 h3 h4 h5 (caps ++ args.map ρ) w
  simp only [execOp, resolve, Deferred.ofValue, hf, invoke, Sem.run_bind, Sem.run_pure, Result.andThen_ok]
  simpa using this

/-! ### A round -/

theorem aputs_rel {M : Mem} : ∀ (params : List Tmp) (args : List AV) (cargs : List Value) (a : AAct) (tm : Array Value), RelL M args cargs → params.length = args.length → params.Nodup → (∀ p ∈ params, p < tm.size) → (∀ t, RelA M (aget a t) (tm.getD t undef)) →
    ∀ t, RelA M (aget (((params.zip args).map fun p => (p.1, p.2)).reverse ++ a) t) (((params.zip cargs).foldl (fun tm (x : Tmp × Value) => tm.setIfInBounds x.1 x.2) tm).getD t undef)
  | [], args, cargs, a, tm, hr, hl, hn, hp, h => by simpa using h
  | p :: ps, [], cargs, a, tm, hr, hl, hn, hp, h => by simp at hl
  | p :: ps, v :: vs, cargs, a, tm, hr, hl, hn, hp, h => by
    obtain ⟨c, cs, rfl, h1, h2⟩ := hr.head
    have h0 : ∀ t, RelA M (aget ((p, v) :: a) t) ((tm.setIfInBounds p c).getD t undef) := by
      intro t
      simp only [aget, Array.getD_eq_getD_getElem?]
      by_cases e : t = p
      · subst e
        rw [if_pos rfl, Array.getElem?_setIfInBounds_self_of_lt (hp t (by simp))]
        exact h1
      · rw [if_neg e, Array.getElem?_setIfInBounds_ne (fun x => e x.symm)]
        have := h t
        rwa [Array.getD_eq_getD_getElem?] at this
    have := aputs_rel ps vs cs ((p, v) :: a) (tm.setIfInBounds p c) h2 (by simpa using hl) (by simp at hn; exact hn.2) (fun q hq => by simpa using hp q (by simp [hq])) h0
    simpa using this

theorem foldl_size : ∀ (l : List (Tmp × Value)) (tm : Array Value), (l.foldl (fun tm (x : Tmp × Value) => tm.setIfInBounds x.1 x.2) tm).size = tm.size
  | [], tm => rfl
  | x :: l, tm => by simp only [List.foldl_cons]; rw [foldl_size l]; simp

/-- What a round makes of the model's world. -/
theorem sound_yield {P : Program} {M : Mem} {H : List AObj} (hs : St M H) {i : Nat} {args : List AV} {cargs : Array Value} (ha : RelL M args cargs.toList) {K : AV → List AObj → Prop} (rd : Option Nat) (hy : AYields P i args H K) :
    ∃ (f : FuncId) (tmps : Array Value) (assign body : Code), (Instr.yield (M.r i) cargs).run P M.w = .ok (.round (M.r i) f tmps assign body) M.w ∧
      RoundIn (Fw rd) 0 P (M.r i) f tmps assign body M.w fun e w' => ∃ (cv : Value) (M' : Mem) (v : AV) (H' : List AObj), e = .returned cv ∧ M'.w = w' ∧ Ext M M' ∧ St M' H' ∧ RelA M' v cv ∧ K v H' := by
  obtain ⟨r, hi, hz, hp, hnd, hb⟩ := hy
  obtain ⟨tm, D, fn0, g1, g2, g3⟩ := hs.obj i _ hi
  have hk : i < M.k := by rw [hs.k]; exact get_lt hi
  have hlen := ha.1
  rw [Array.length_toList] at hlen
  have hyd := run_yield (P := P) (args := cargs) g1 (by simpa [hz] using hlen.symm)
  refine ⟨_, _, _, _, hyd, ?_⟩
  have hw := hb M hs.k
  refine roundIn_of_wpIn (F := Fw rd) trivial ?_
  rw [Fw_in]
  have hact : RelAct M.w.heap.size M r.n (aputs r.params.toList args r.a) { tmps := (r.params.zip cargs).foldl (fun tmps (x : Tmp × Value) => tmps.setIfInBounds x.1 x.2) tm, defers := [] } := by
    have e : (r.params.zip cargs).foldl (fun tmps (x : Tmp × Value) => tmps.setIfInBounds x.1 x.2) tm = (r.params.toList.zip cargs.toList).foldl (fun tmps (x : Tmp × Value) => tmps.setIfInBounds x.1 x.2) tm := by
      rw [← Array.foldl_toList, Array.toList_zip]
    refine ⟨Marks.nil _ _, ?_, ?_⟩
    · simp only [e, foldl_size, g2]
    · rw [e]
      exact aputs_rel r.params.toList args cargs.toList r.a tm ha (by simpa using hz) hnd (fun p h => by rw [g2]; exact hp p h) g3
  refine wpIn_mono (hw M _ (Ext.refl M) hs hact) ?_
  rintro e ca' w' ⟨M1, a1, H1, rfl, h1, h2, h3, h4⟩
  cases e <;> try exact h4.elim
  obtain ⟨r1, k1, k2, k3⟩ := h4
  have hr1 : M1.r i = M.r i := h1.r i hk
  obtain ⟨tm1, D1, fn1, j1, j2, j3⟩ := h2.obj i _ k1
  have hbeg := run_beginRound (P := P) j1 k2
  rw [hr1] at hbeg
  obtain ⟨x1, s1⟩ := h2.putObj k1 trivial j1 rfl (.loop { state := .busy, pending := r1.pend, fn := fn1, tmps := tm1, params := r1.params, assign := r1.assign, body := r1.body, defers := D1 }) (.loop { r1 with st := .busy })
    (fun x1 hb => ⟨tm1, D1, fn1, hb, j2, fun t => (j3 t).ext x1⟩)
  refine ⟨_, hbeg, ?_⟩
  have e1 := h1.trans x1
  have hB : M1.w.heap.size = M1.w.heap.size := rfl
  rw [hr1] at x1 s1 e1
  refine wpIn_mono (k3 _ ca' e1 s1 (h3.ext x1)) ?_
  rintro e ca2 w2 ⟨M2, a2, H2, rfl, l1, l2, l3, l4⟩
  have hr2 : M2.r i = M.r i := l1.r i hk
  have fin : ∀ (r2 : ALoop) (jump : Option Code), H2[i]? = some (.loop r2) → K (.d (.bool jump.isNone)) (H2.set i (.loop { r2 with st := if jump.isNone then .ready else .done, pend := jump })) →
      ∃ v w', (Instr.endRound (M.r i) jump).run P M2.w = .ok v w' ∧ ∃ (cv : Value) (M' : Mem) (v_1 : AV) (H' : List AObj), Ending.returned v = Ending.returned cv ∧ M'.w = w' ∧ Ext M M' ∧ St M' H' ∧ RelA M' v_1 cv ∧ K v_1 H' := by
    intro r2 jump q1 q2
    obtain ⟨tm2, D2, fn2, p1, p2, p3⟩ := l2.obj i _ q1
    have hend := run_endRound (P := P) jump p1
    rw [hr2] at hend
    obtain ⟨x2, s2⟩ := l2.putObj q1 trivial p1 rfl (.loop { state := if jump.isNone then .ready else .done, pending := jump, fn := fn2, tmps := tm2, params := r2.params, assign := r2.assign, body := r2.body, defers := D2 }) (.loop { r2 with st := if jump.isNone then .ready else .done, pend := jump })
      (fun x2 hb => ⟨tm2, D2, fn2, hb, p2, fun t => (p3 t).ext x2⟩)
    rw [hr2] at x2 s2
    exact ⟨_, _, hend, _, _, _, _, rfl, rfl, l1.trans x2, s2, .d _ _ (.bool _), q2⟩
  cases e <;> try exact l4.elim
  · obtain ⟨r2, q1, q2⟩ := l4
    exact fin r2 none q1 q2
  · obtain ⟨r2, q1, q2⟩ := l4
    exact fin r2 (some (.exit _)) q1 q2
  · obtain ⟨r2, q1, q2⟩ := l4
    exact fin r2 (some (.goto _)) q1 q2
  · obtain ⟨r2, q1, q2⟩ := l4
    exact fin r2 (some .ret) q1 q2

theorem run_cally {P : Program} {w : World} {ρ : Operand → Value} {dst : Option Tmp} {f : Operand} {args : Array Operand} {tys : Array TypeId} {type : TypeId} {pos : String} {after : Array Edge} {guard : Option (Nat × Bool)}
    {l : Nat} {caps : Array Value} (hf : ρ f = .func (.yield l) #[] caps) :
    (execOp ρ ⟨dst, .call ⟨.value f, args, tys⟩, type, pos, after, guard⟩).run P w = (Instr.yield l (args.map ρ)).run P w := by
  simp [execOp, resolve, Deferred.ofValue, hf, invoke]

theorem noDefer_about {P : Program} {rd : Option Nat} (o : Oper) (w : World) (ρ : Operand → Value) : ∀ f, o.about P w ρ = some f → (Fw rd).fn f := fun _ _ => trivial

theorem sound_run {P : Program} {n : Nat} {M0 M : Mem} {H : List AObj} {a : AAct} {ca : Act} {rd : Option Nat} (he : Ext M0 M) (hs : St M H) (h : RelAct M0.w.heap.size M n a ca) (o : Oper) (hd : ∀ d, o.dst = some d → d < n)
    {K : AAct → List AObj → Prop} {next : Act → World → Prop} {Q : Exit → Act → World → Prop}
    (hnext : ∀ (M' : Mem) (a' : AAct) (H' : List AObj) (ca' : Act), Ext M0 M' → St M' H' → RelAct M0.w.heap.size M' n a' ca' → K a' H' → next ca' M'.w) (hr : arun P o a H K) : o.wpIn (Fw rd) 0 P ca M.w next Q := by
  refine ⟨noDefer_about o _ _, ?_⟩
  unfold arun at hr
  split at hr
  · rename_i f args tys hop
    have hsem : o.semAt (Fw rd).round ca.eval = execOp ca.eval o := Oper.semAt_eq _ _ _ (fun c e => by rw [hop] at e; cases e)
    rw [hsem]
    unfold awpCall at hr
    split at hr
    · rename_i g caps hfv
      have hf := h.ev f
      rw [hfv] at hf
      obtain ⟨vs, e, hcap⟩ := hf.fn_inv
      obtain ⟨dst, op, type, pos, after, guard⟩ := o
      simp only at hop
      subst hop
      have hargs : RelL M (args.toList.map (ev a) ++ caps) (args.map ca.eval ++ vs).toList := by
        rw [Array.toList_append, Array.toList_map]
        exact (evs_rel h args.toList).append hcap
      rcases hr with ⟨hc, hcall⟩ | ⟨k, hx, hok, hk⟩
      · rw [run_callv e hc, Oper.uponIn_enter]
        refine ⟨Fw_depth rd, callsIn_Fw ?_⟩
        refine (hcall M (args.map ca.eval ++ vs) hs hargs).mono ?_
        rintro e w' ⟨cvv, M', v, H', rfl, rfl, he', hs', hv, hk⟩
        exact hnext M' _ H' _ (he.trans he') hs' ((h.ext he').put hd hv) hk
      · obtain ⟨cvv, M', h1, h3, h4, h5⟩ := sound_extern (P := P) hs k hargs hok
        rw [run_callx e hx, h1, Result.andThen_ok, Oper.uponIn_value]
        exact hnext M' _ _ _ (he.trans h3) h4 ((h.ext h3).put hd h5) hk
    · rename_i g bs hfv
      have hf := h.ev f
      rw [hfv] at hf
      obtain ⟨vs, e, hcap⟩ := hf.bfn_inv
      obtain ⟨dst, op, type, pos, after, guard⟩ := o
      simp only at hop
      subst hop
      have hargs : RelL M (bs ++ args.toList.map (ev a)) (vs ++ args.map ca.eval).toList := by
        rw [Array.toList_append, Array.toList_map]
        exact hcap.append (evs_rel h args.toList)
      rcases hr with ⟨hc, hcall⟩ | ⟨k, hx, hok, hk⟩
      · rw [run_callvb e hc, Oper.uponIn_enter]
        refine ⟨Fw_depth rd, callsIn_Fw ?_⟩
        refine (hcall M (vs ++ args.map ca.eval) hs hargs).mono ?_
        rintro e w' ⟨cvv, M', v, H', rfl, rfl, he', hs', hv, hk⟩
        exact hnext M' _ H' _ (he.trans he') hs' ((h.ext he').put hd hv) hk
      · obtain ⟨cvv, M', h1, h3, h4, h5⟩ := sound_extern (P := P) hs k hargs hok
        rw [run_callxb e hx, h1, Result.andThen_ok, Oper.uponIn_value]
        exact hnext M' _ _ _ (he.trans h3) h4 ((h.ext h3).put hd h5) hk
    · rename_i i hfv
      have hf := h.ev f
      rw [hfv] at hf
      obtain ⟨dst, op, type, pos, after, guard⟩ := o
      simp only at hop
      subst hop
      have e : ca.eval f = .func (.yield (M.r i)) #[] #[] := by
        generalize ca.eval f = c at hf
        cases hf; rfl
      have hargs : RelL M (args.toList.map (ev a)) (args.map ca.eval).toList := by
        rw [Array.toList_map]
        exact evs_rel h args.toList
      obtain ⟨f', tmps, assign, body, h1, h2⟩ := sound_yield hs hargs rd hr
      rw [run_cally e, h1, Oper.uponIn_round]
      refine ⟨Fw_depth rd, h2.mono ?_⟩
      rintro e w' ⟨cvv, M', v, H', rfl, rfl, he', hs', hv, hk⟩
      exact hnext M' _ H' _ (he.trans he') hs' ((h.ext he').put hd hv) hk
    · exact hr.elim
  · rename_i x hop
    have hsem : o.semAt (Fw rd).round ca.eval = execOp ca.eval o := Oper.semAt_eq _ _ _ (fun c e => by rw [hop] at e; cases e)
    rw [hsem]
    obtain ⟨dst, op, type, pos, after, guard⟩ := o
    simp only at hop
    subst hop
    obtain ⟨cvv, M', v, H', h1, h2, h3, h4, h5⟩ := sound_nextM (P := P) hs type (h.ev x) hr
    have : (execOp ca.eval ⟨dst, .next x false, type, pos, after, guard⟩).run P M.w = .ok (.value cvv) M'.w := by
      simp only [execOp, Sem.run_bind, h1, Result.andThen_ok, Sem.run_pure]
    rw [this, Oper.uponIn_value]
    exact hnext M' _ _ _ (he.trans h2) h3 ((h.ext h2).put hd h4) h5
  · obtain ⟨hok, hk⟩ := hr
    have hnd : ∀ c, o.op ≠ .defer c := fun c e => by rw [e] at hok; exact hok
    have hsem : o.semAt (Fw rd).round ca.eval = execOp ca.eval o := Oper.semAt_eq _ _ _ hnd
    rw [hsem]
    obtain ⟨nx, cvv, M', h1, h2, h3, h4, h5⟩ := sound_op (P := P) hs h o hok
    rw [h1]
    cases nx <;> simp [Next.val] at h2
    · subst h2
      rw [Oper.uponIn_value]
      exact hnext M' _ _ _ (he.trans h3) h4 ((h.ext h3).put hd h5) hk
    · subst h2
      rw [Oper.uponIn_skip]
      exact hnext M' _ _ _ (he.trans h3) h4 ((h.ext h3).put hd h5) hk

def dstsOk (n : Nat) (l : List Oper) : Bool := l.all fun o => match o.dst with | some d => decide (d < n) | none => true


theorem awpOps_sound {P : Program} {n : Nat} {M0 : Mem} {rd : Option Nat} {l : List Oper} {q : AAct → List AObj → Prop} {Q : Exit → Act → World → Prop}
    (hq : ∀ (M : Mem) (a : AAct) (H : List AObj) (ca : Act), Ext M0 M → St M H → RelAct M0.w.heap.size M n a ca → q a H → Q .normal ca M.w) :
    ∀ (rest : List Oper), dstsOk n rest = true → ∀ (M : Mem) (a : AAct) (H : List AObj) (ca : Act), Ext M0 M → St M H → RelAct M0.w.heap.size M n a ca → awpOps P l q rest a H → wpListIn (Fw rd) 0 P l.toArray Q rest ca M.w
  | [], _, M, a, H, ca, he, hs, h, hw => hq M a H ca he hs h hw
  | o :: rest, hd, M, a, H, ca, he, hs, h, hw => by
    simp only [dstsOk, List.all_cons, Bool.and_eq_true] at hd
    obtain ⟨hd1, hd2⟩ := hd
    have hd1' : ∀ d, o.dst = some d → d < n := fun d e => by simpa [e] using hd1
    have ih := fun (M' : Mem) (a' : AAct) (H' : List AObj) (ca' : Act) => awpOps_sound (P := P) (l := l) (rd := rd) hq rest hd2 M' a' H' ca'
    unfold wpListIn
    unfold awpOps at hw
    split at hw
    · rename_i hg
      rw [if_pos (by simp [Region.wanted, hg])]
      exact sound_run he hs h o hd1' ih hw
    · rename_i j want hg
      split at hw
      · rename_i b hgv
        have hy := gval_sound h l j hgv
        by_cases hb : b = want
        · rw [if_pos (by simp [Region.wanted, hg, hy, hb])]
          exact sound_run he hs h o hd1' ih (hw.1 hb)
        · rw [if_neg (by simp [Region.wanted, hg, hy, hb])]
          exact ⟨noDefer_about o _ _, ih M _ H _ he hs (h.put hd1' (undef_rel M)) (hw.2 hb)⟩
      · rename_i hgv
        have hy := gval_sound h l j hgv
        rw [if_neg (by simp [Region.wanted, hg, hy])]
        exact ⟨noDefer_about o _ _, ih M _ H _ he hs (h.put hd1' (undef_rel M)) hw⟩
      · exact hw.elim

/-! ### Code -/

def thenA (K : AAct → List AObj → Prop) (Q : Exit → AAct → List AObj → Prop) : Exit → AAct → List AObj → Prop
  | .normal => K
  | e => Q e

section
variable {P : Program} {n : Nat} {M0 : Mem} {rd : Option Nat} {Q : Exit → AAct → List AObj → Prop} {a : AAct} {H : List AObj}

theorem awp_mono {c : Code} {Q' : Exit → AAct → List AObj → Prop} (h : awp P n M0 rd c Q a H) (hq : ∀ e a H, Q e a H → Q' e a H) : awp P n M0 rd c Q' a H :=
  fun M ca he hs hr => wpIn_mono (h M ca he hs hr) fun e ca' w' ⟨M', a', H', h1, h2, h3, h4, h5⟩ => ⟨M', a', H', h1, h2, h3, h4, hq _ _ _ h5⟩

theorem awp_seq {x y : Code} (h : ∀ K : AAct → List AObj → Prop, (∀ a H, awp P n M0 rd y Q a H → K a H) → awp P n M0 rd x (thenA K Q) a H) : awp P n M0 rd (.seq x y) Q a H := by
  intro M ca he hs hr
  refine wpIn_seq (wpIn_mono (h _ (fun _ _ h => h) M ca he hs hr) ?_)
  rintro e ca' w' ⟨M', a', H', rfl, h2, h3, h4, h5⟩
  cases e <;> first | exact h5 M' ca' h2 h3 h4 | exact ⟨M', a', H', rfl, h2, h3, h4, h5⟩

theorem awp_skip (h : Q .normal a H) : awp P n M0 rd .skip Q a H := fun M ca he hs hr => wpIn_skip ⟨M, a, H, rfl, he, hs, hr, h⟩
theorem awp_label {l : Nat} (h : Q .normal a H) : awp P n M0 rd (.label l) Q a H := fun M ca he hs hr => wpIn_label ⟨M, a, H, rfl, he, hs, hr, h⟩
theorem awp_exit {id : Nat} (h : Q (.exit id) a H) : awp P n M0 rd (.exit id) Q a H := fun M ca he hs hr => wpIn_exit ⟨M, a, H, rfl, he, hs, hr, h⟩
theorem awp_goto {id : Nat} (h : Q (.goto id) a H) : awp P n M0 rd (.goto id) Q a H := fun M ca he hs hr => wpIn_goto ⟨M, a, H, rfl, he, hs, hr, h⟩
theorem awp_ret (h : Q .ret a H) : awp P n M0 rd .ret Q a H := fun M ca he hs hr => wpIn_ret ⟨M, a, H, rfl, he, hs, hr, h⟩

theorem awp_cond {c : Operand} {x y : Code} {b : Bool} (hc : ev a c = .d (.bool b)) (ht : b = true → awp P n M0 rd x Q a H) (hf : b = false → awp P n M0 rd y Q a H) : awp P n M0 rd (.cond c x y) Q a H := by
  intro M ca he hs hr
  have hv := hr.ev c
  rw [hc] at hv
  exact wpIn_cond_split hv.bool_inv (fun h => ht h M ca he hs hr) (fun h => hf h M ca he hs hr)

def inBlockA (id : Nat) (Q : Exit → AAct → List AObj → Prop) : Exit → AAct → List AObj → Prop
  | .exit id' => fun a H => if id' = id then Q .normal a H else Q (.exit id') a H
  | e => Q e

theorem awp_block {id : Nat} {c : Code} (h : awp P n M0 rd c (inBlockA id Q) a H) : awp P n M0 rd (.block id c) Q a H := by
  intro M ca he hs hr
  refine wpIn_block (wpIn_mono (h M ca he hs hr) ?_)
  rintro e ca' w' ⟨M', a', H', h1, h2, h3, h4, h5⟩
  cases e <;> first | exact ⟨M', a', H', h1, h2, h3, h4, h5⟩ | skip
  simp only [Exit.inBlock]
  simp only [inBlockA] at h5
  split
  · rename_i e; rw [if_pos e] at h5; exact ⟨M', a', H', h1, h2, h3, h4, h5⟩
  · rename_i e; rw [if_neg e] at h5; exact ⟨M', a', H', h1, h2, h3, h4, h5⟩

theorem awp_region {id : Nat} {l : List Oper} (hd : dstsOk n l = true) (h : awpOps P l (Q .normal) l a H) : awp P n M0 rd (.region id l.toArray false) Q a H := by
  intro M ca he hs hr
  exact wpIn_region_lit (awpOps_sound (fun M a H ca he hs hr hq => ⟨M, a, H, rfl, he, hs, hr, hq⟩) l hd M a H ca he hs hr h)

/-! ### Saying less -/

/-- What is known may be said as less. -/
def Weak (n : Nat) (M0 : Mem) (a : AAct) (H : List AObj) (a' : AAct) (H' : List AObj) : Prop :=
  ∀ (M : Mem) (ca : Act), Ext M0 M → St M H → RelAct M0.w.heap.size M n a ca → ∃ M' : Mem, M'.w = M.w ∧ Ext M0 M' ∧ St M' H' ∧ RelAct M0.w.heap.size M' n a' ca

theorem Weak.refl : Weak n M0 a H a H := fun M _ he hs hr => ⟨M, rfl, he, hs, hr⟩
theorem Weak.trans {a' a'' : AAct} {H' H'' : List AObj} (h : Weak n M0 a H a' H') (g : Weak n M0 a' H' a'' H'') : Weak n M0 a H a'' H'' := fun M ca he hs hr => by
  obtain ⟨M', e1, h1, h2, h3⟩ := h M ca he hs hr
  obtain ⟨M'', e2, g1, g2, g3⟩ := g M' ca h1 h2 h3
  exact ⟨M'', e2.trans e1, g1, g2, g3⟩
theorem Weak.tmps {a' : AAct} (h : Weaker a a') : Weak n M0 a H a' H := fun M _ he hs hr => ⟨M, rfl, he, hs, hr.weaken h⟩

theorem awp_weak {c : Code} {a' : AAct} {H' : List AObj} (hw : Weak n M0 a H a' H') (h : awp P n M0 rd c Q a' H') : awp P n M0 rd c Q a H := fun M ca he hs hr => by
  obtain ⟨M', e, h1, h2, h3⟩ := hw M ca he hs hr
  rw [← e]
  exact h M' ca h1 h2 h3

/-- A loop: what holds at each round's head, with a number that each round lowers. -/
theorem awp_loop {c : Code} (I : Nat → AAct → List AObj → Prop) (n₀ : Nat) (h₀ : ∃ a' H', Weak n M0 a H a' H' ∧ I n₀ a' H')
    (round : ∀ m a H, I m a H → awp P n M0 rd c (thenA (fun a' H' => ∃ m' a'' H'', m' < m ∧ Weak n M0 a' H' a'' H'' ∧ I m' a'' H'') Q) a H) : awp P n M0 rd (.loop c) Q a H := by
  intro M ca he hs hr
  refine wpIn_loop_ghost (fun m ca w => ∃ (M : Mem) (a : AAct) (H : List AObj), M.w = w ∧ Ext M0 M ∧ St M H ∧ RelAct M0.w.heap.size M n a ca ∧ I m a H) n₀ ?_ ?_
  · obtain ⟨a', H', hw, hi⟩ := h₀
    obtain ⟨M', e, h1, h2, h3⟩ := hw M ca he hs hr
    exact ⟨M', a', H', e, h1, h2, h3, hi⟩
  · rintro m ca w ⟨M, a, H, rfl, h1, h2, h3, hi⟩
    refine wpIn_mono (round m a H hi M ca h1 h2 h3) ?_
    rintro e ca' w' ⟨M', a', H', rfl, g1, g2, g3, g4⟩
    cases e <;> first | exact ⟨M', a', H', rfl, g1, g2, g3, g4⟩ | skip
    obtain ⟨m', a'', H'', hlt, hw, hi'⟩ := g4
    obtain ⟨M'', e, k1, k2, k3⟩ := hw M' ca' g1 g2 g3
    exact ⟨m', hlt, M'', a'', H'', e, k1, k2, k3, hi'⟩

/-- What follows when the function that was ranged over has returned. -/
def rangeEnd (P : Program) (n : Nat) (M0 : Mem) (rd : Option Nat) (l : Nat) (Q : Exit → AAct → List AObj → Prop) (a : AAct) (H : List AObj) : Prop :=
  ∃ r, H[l]? = some (.loop r) ∧ r.st ≠ .busy ∧ (match r.pend with
    | none => Q .normal a (H.set l (.loop { r with st := .exhausted }))
    | some c => awp P n M0 rd c Q a (H.set l (.loop { r with st := .exhausted })))

/-- Is the frame a function's own, or that of a round whose record is there? -/
def inLoop (rd : Option Nat) (M0 : Mem) (H : List AObj) : Prop :=
  match rd with
  | none => True
  | some i => i < M0.k ∧ ∃ r, H[i]? = some (.loop r)

theorem awp_rangeFunc {f : Operand} {ps : Array Tmp} {assign body : Code} {g : FuncId} {caps : List AV} (hf : ev a f = .fn (.func g) caps) (hc : callable P g = true) (hl : inLoop rd M0 H)
    (h : ACalls P g (.yld H.length :: caps) (H ++ [.loop { st := .ready, pend := none, n := n, a := a, params := ps, assign := assign, body := body }]) fun _ H' => rangeEnd P n M0 rd H.length Q a H') :
    awp P n M0 rd (.rangeFunc f ps assign body) Q a H := by
  intro M ca he hs hr
  refine wpIn_rangeFunc ?_
  intro fn _
  -- the world with the record
  have core : ∀ (M1 : Mem) (D : Nat) (mark' : List Deferred), Ext M0 M1 → St M1 H → RelAct M0.w.heap.size M1 n a { ca with defers := mark' ++ ca.defers } → M1.k = M.k → M1.r = M.r →
      ∃ (d : Deferred) (w₁' : World) (f' : FuncId) (args : Array Value) (w₂ : World),
        (resolve ca.eval (rangeCall f M1.w.heap.size) 0).run P (M1.w.alloc (.loop { state := .ready, pending := none, fn := fn, tmps := ca.tmps, params := ps, assign := assign, body := body, defers := D })) = .ok d w₁' ∧
        (∀ f'', Target.leads P w₁' d.target d.args = some f'' → (Fw (rd.map M0.r)).fn f'') ∧ (invoke d.target d.args).run P w₁' = .ok (.enter f' args) w₂ ∧ ((Fw (rd.map M0.r)).depth.isSome = true → 1 ≤ 0) ∧
        CallsIn (Fw (rd.map M0.r)) (0 - 1) P f' args w₂ (rangePost (Fw (rd.map M0.r)) 0 P M1.w.heap.size (Post n M0 Q) { ca with defers := mark' ++ ca.defers }) := by
    intro M1 D mark' e1 s1 r1 hk hrr
    obtain ⟨ob, hob⟩ : ∃ ob : Obj, ob = .loop { state := .ready, pending := none, fn := fn, tmps := ca.tmps, params := ps, assign := assign, body := body, defers := D } := ⟨_, rfl⟩
    rw [← hob]
    have hx := s1.ext_push ob
    have hst : St (M1.push ob) (H ++ [.loop { st := .ready, pend := none, n := n, a := a, params := ps, assign := assign, body := body }]) :=
      s1.push _ _ ⟨ca.tmps, D, fn, by rw [push_at s1, hob], r1.size, fun t => (r1.get t).ext hx⟩
    have hfe := r1.ev f
    rw [hf] at hfe
    obtain ⟨vs, hev, hcap⟩ := hfe.fn_inv
    have hev' : ca.eval f = .func (.func g) #[] vs := hev
    have hrl : (M1.push ob).r H.length = M1.w.heap.size := by simp [Mem.push, s1.k]
    have hargs : RelL (M1.push ob) (.yld H.length :: caps) (#[Value.func (.yield M1.w.heap.size) #[] #[]] ++ vs).toList := by
      rw [Array.toList_append]
      refine RelL.cons ?_ (hcap.ext hx)
      have := RelA.yld (M := M1.push ob) H.length (by simp [Mem.push, s1.k])
      rwa [hrl] at this
    refine ⟨{ target := .fn (.func g) vs, args := #[.func (.yield M1.w.heap.size) #[] #[]] }, (M1.push ob).w, g, #[.func (.yield M1.w.heap.size) #[] #[]] ++ vs, (M1.push ob).w, ?_, fun _ _ => trivial, ?_, Fw_depth _, ?_⟩
    · have hcv : ca.eval (.const (.func (.yield M1.w.heap.size) #[] #[])) = .func (.yield M1.w.heap.size) #[] #[] := rfl
      simp [resolve, rangeCall, hev', hcv, Deferred.ofValue, Mem.push]
    · unfold callable at hc
      cases hfn : P.funcs[g]? with
      | none => simp [hfn] at hc
      | some fn' =>
        simp [hfn] at hc
        obtain ⟨h1, h2⟩ := hc
        have h3 : fn'.body.isNone = false := by cases hb : fn'.body <;> simp_all
        simp [invoke, callFunc, hfn, h1, h3]
        intro hb
        simp [hb] at h2
    · refine callsIn_Fw ((h (M1.push ob) _ hst hargs).mono ?_)
      rintro e w' ⟨cvv, M', v, H', rfl, rfl, he', hs', hv, r, hl1, hl2, hl3⟩
      have hrl' : M'.r H.length = M1.w.heap.size := by rw [he'.r H.length (by simp [Mem.push, s1.k])]; exact hrl
      obtain ⟨tm, D', fn3, k1, k2, k3⟩ := hs'.obj _ _ hl1
      have hend := run_endLoop (P := P) k1 hl2
      rw [hrl'] at hend
      obtain ⟨x2, s2⟩ := hs'.putObj hl1 trivial k1 rfl (.loop { state := .exhausted, pending := r.pend, fn := fn3, tmps := tm, params := r.params, assign := r.assign, body := r.body, defers := D' }) (.loop { r with st := .exhausted })
        (fun x2 hb => ⟨tm, D', fn3, hb, k2, fun t => (k3 t).ext x2⟩)
      rw [hrl'] at x2 s2
      have e2 := ((e1.trans hx).trans he').trans x2
      have r2 := ((r1.ext hx).ext he').ext x2
      refine ⟨r.pend, _, hend, ?_⟩
      cases hp : r.pend with
      | none =>
        simp only [hp] at hl3 ⊢
        rw [hp] at e2 r2 s2
        exact ⟨_, _, _, rfl, e2, s2, r2, hl3⟩
      | some c =>
        simp only [hp] at hl3 ⊢
        rw [hp] at e2 r2 s2
        exact hl3 _ _ e2 s2 r2
  cases rd with
  | none =>
    obtain ⟨M1, hM1⟩ : ∃ M1 : Mem, M1 = M.withW (M.w.alloc (.deferred (some []))) := ⟨_, rfl⟩
    have x1 : Ext M M1 := by
      rw [hM1]
      exact ⟨fun _ h => h, fun b hb => heap_alloc_old _ _ (hs.bound b hb), fun _ _ => rfl, fun _ _ => rfl, Nat.le_refl _, fun b cs t fz hb => ⟨cs, fz, (heap_alloc_old _ _ (some_lt hb)).trans hb, rfl⟩,
        by show _ ≤ (M.w.heap.push _).size; simp, fun b hb => (heap_alloc_old _ _ (some_lt hb)).trans hb, rfl, rfl, rfl⟩
    have s1 : St M1 H := by
      rw [hM1] at x1 ⊢
      refine ⟨hs.k, hs.inj, hs.fresh, fun b hb => Nat.lt_of_lt_of_le (hs.bound b hb) x1.size, fun i o hi => ?_⟩
      exact (hs.obj i o hi).ext x1 (by rw [hs.k]; exact get_lt hi) fun hl => heap_alloc_old _ _ (hs.rbound hi hl)
    have hD : M1.w.heap[M.w.heap.size]? = some (.deferred (some [])) := by rw [hM1]; exact heap_alloc_at _ _
    have r1 : RelAct M0.w.heap.size M1 n a { ca with defers := [mark M.w.heap.size] ++ ca.defers } := by
      have := hr.ext x1
      refine ⟨?_, this.size, this.get⟩
      obtain ⟨Ds, d1, d2, d3⟩ := hr.defers
      refine ⟨M.w.heap.size :: Ds, by simp [d1], List.nodup_cons.2 ⟨fun hm => ?_, d2⟩, fun D hDm => ?_⟩
      · have := some_lt (d3 _ hm).2
        omega
      · rcases List.mem_cons.1 hDm with rfl | hDm
        · exact ⟨he.size, hD⟩
        · exact ⟨(d3 D hDm).1, x1.defs D (d3 D hDm).2⟩
    obtain ⟨d, w₁', f', args, w₂, c1, c2, c3, c4, c5⟩ := core M1 M.w.heap.size [mark M.w.heap.size] (he.trans x1) s1 r1 (by rw [hM1]; rfl) (by rw [hM1]; rfl)
    have hsz : M1.w.heap.size = M.w.heap.size + 1 := by rw [hM1]; show (M.w.heap.push _).size = _; simp
    rw [hsz] at c1 c5
    refine ⟨M.w.heap.size + 1, [mark M.w.heap.size], _, d, w₁', f', args, w₂, ?_, c1, c2, c3, c4, c5⟩
    have := run_enterLoop_outer (P := P) (w := M.w) fn ca.tmps ps assign body
    rw [hM1]
    exact this
  | some i =>
    obtain ⟨hk, r, hi⟩ := hl
    obtain ⟨tm, D, fn0, k1, k2, k3⟩ := hs.obj i _ hi
    rw [he.r i hk] at k1
    obtain ⟨d, w₁', f', args, w₂, c1, c2, c3, c4, c5⟩ := core M D [] he hs (by simpa using hr) rfl rfl
    refine ⟨M.w.heap.size, [], _, d, w₁', f', args, w₂, ?_, c1, c2, c3, c4, c5⟩
    exact run_enterLoop_inner (P := P) k1 fn ca.tmps ps assign body

end

/-! ### A function out of its body -/

def initAct : Nat → List AV → AAct
  | _, [] => []
  | i, v :: vs => (i, v) :: initAct (i + 1) vs

theorem aget_init : ∀ (vs : List AV) (i t : Nat), aget (initAct i vs) t = if i ≤ t then vs.getD (t - i) .junk else .junk
  | [], i, t => by simp [initAct, aget]
  | v :: vs, i, t => by
    simp only [initAct, aget, aget_init vs (i + 1) t]
    by_cases h : t = i
    · subst h; simp
    · rw [if_neg h]
      by_cases h2 : i ≤ t
      · rw [if_pos h2, if_pos (by omega)]
        have : t - i = (t - (i + 1)) + 1 := by omega
        rw [this]; rfl
      · rw [if_neg h2, if_neg (by omega)]

def aresult (P : Program) (a : AAct) (H : List AObj) : ResultVar → ARes
  | .tmp t => ⟨True, aget a t, H⟩
  | .cell t ty => aload P H ty (aget a t)

def aresults (P : Program) (a : AAct) (H : List AObj) (rs : List ResultVar) : Prop × AV :=
  ((∀ r ∈ rs, (aresult P a H r).ok), match rs with | [r] => (aresult P a H r).v | rs => .tup (rs.map fun r => (aresult P a H r).v))

def resOne (tmps : Array Value) : ResultVar → Sem Value
  | .tmp t => pure (tmps.getD t undef)
  | .cell a t => do loadVar t (← asAddr (tmps.getD a undef))

theorem results_eq (fn : Func) (tmps : Array Value) : results fn tmps = (do
    let vs ← fn.results.mapM (resOne tmps)
    pure (if h : vs.size = 1 then vs[0] else .tuple vs)) := by
  have e : resOne tmps = (fun | .tmp t => pure (tmps.getD t undef) | .cell a t => do loadVar t (← asAddr (tmps.getD a undef)) : ResultVar → Sem Value) := by
    funext r; cases r <;> rfl
  rw [e]
  rfl

theorem run_aresult {P : Program} {M : Mem} {H : List AObj} {B n : Nat} {a : AAct} {ca : Act} (hs : St M H) (h : RelAct B M n a ca) (r : ResultVar) (hok : (aresult P a H r).ok) :
    ∃ c, (resOne ca.tmps r).run P M.w = .ok c M.w ∧ RelA M (aresult P a H r).v c := by
  cases r with
  | tmp t => exact ⟨_, rfl, h.get t⟩
  | cell x t =>
    have hx := h.get x
    simp only [aresult] at hok ⊢
    obtain ⟨c, h1, h4⟩ := pure_load (P := P) hs t hx hok
    have hp : ∃ A : Addr, ca.tmps.getD x undef = .pointer (some A) := by
      unfold aload at hok
      split at hok
      · rename_i e _ _; rw [e] at hx; exact ⟨_, hx.ptr_inv.1⟩
      · rename_i e _; rw [e] at hx; exact ⟨_, hx.ptr_inv.1⟩
      · rename_i e _ _; rw [e] at hx; obtain ⟨A, e, _⟩ := hx.imm_inv; exact ⟨A, e⟩
      · rename_i e _; rw [e] at hx; obtain ⟨A, e, _⟩ := hx.imm_inv; exact ⟨A, e⟩
      · exact hok.elim
    obtain ⟨A, e⟩ := hp
    rw [e, run_loadAt] at h1
    exact ⟨c, by simp [resOne, e, asAddr, h1], h4⟩

end Go.R
