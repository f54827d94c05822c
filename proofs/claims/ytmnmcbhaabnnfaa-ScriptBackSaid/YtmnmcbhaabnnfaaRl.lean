/-
  The abstract layer, part 11: regions, code, calls.
-/
import Derived.Test.YtmnmcbhaabnnfaaRk
namespace Go.R
set_option linter.unusedSimpArgs false
set_option linter.unusedVariables false

/-- A function's call, at whatever memory that is as H says: it returns, and R holds of the result and of what H has become. -/
def ACalls (P : Program) (f : FuncId) (args : List AV) (H : List AObj) (R : AV → List AObj → Prop) : Prop :=
  ∀ (M : Mem) (cargs : Array Value), St M H → RelL M args cargs.toList →
    Calls P f cargs M.w fun e w' => ∃ (cv : Value) (M' : Mem) (v : AV) (H' : List AObj), e = .returned cv ∧ M'.w = w' ∧ Ext M M' ∧ St M' H' ∧ RelA M' v cv ∧ R v H'

theorem ACalls.mono {P : Program} {f : FuncId} {args : List AV} {H : List AObj} {R R' : AV → List AObj → Prop} (h : ACalls P f args H R) (hr : ∀ v H', R v H' → R' v H') : ACalls P f args H R' :=
  fun M cargs hs ha => (h M cargs hs ha).mono fun e w' ⟨cv, M', v, H', h1, h2, h3, h4, h5, h6⟩ => ⟨cv, M', v, H', h1, h2, h3, h4, h5, hr _ _ h6⟩

def callable (P : Program) (g : FuncId) : Bool :=
  match P.funcs[g]? with
  | some fn => fn.name != "runtime.NumGoroutine" && fn.body.isSome
  | none => false

def awpCall (P : Program) (fv : AV) (args : List AV) (H : List AObj) (K : AV → List AObj → Prop) : Prop :=
  match fv with
  | .fn (.func g) caps => callable P g = true ∧ ACalls P g (args ++ caps) H K
  | _ => False

def arun (P : Program) (o : Oper) (a : AAct) (H : List AObj) (K : AAct → List AObj → Prop) : Prop :=
  match o.op with
  | .call ⟨.value f, args, _⟩ => awpCall P (ev a f) (args.toList.map (ev a)) H fun v H' => K (aput o.dst v a) H'
  | op => (aop P a H op).ok ∧ K (aput o.dst (aop P a H op).v a) (aop P a H op).h

def gval (l : List Oper) (a : AAct) (j : Nat) : Option (Option Bool) :=
  match (l[j]?).bind (·.dst) with
  | none => some none
  | some d =>
    match aget a d with
    | .d (.bool b) => some (some b)
    | .tup [] => some none
    | _ => none

def awpOps (P : Program) (l : List Oper) (q : AAct → List AObj → Prop) : List Oper → AAct → List AObj → Prop
  | [], a, H => q a H
  | o :: rest, a, H =>
    match o.guard with
    | none => arun P o a H (awpOps P l q rest)
    | some (j, want) =>
      match gval l a j with
      | some (some b) => (b = want → arun P o a H (awpOps P l q rest)) ∧ (b ≠ want → awpOps P l q rest (aput o.dst (.tup []) a) H)
      | some none => awpOps P l q rest (aput o.dst (.tup []) a) H
      | none => False

/-- What is left of an end in the model: the abstract end. -/
def Post (n : Nat) (M0 : Mem) (Q : Exit → AAct → List AObj → Prop) : Exit → Act → World → Prop :=
  fun e ca w => ∃ (M : Mem) (a : AAct) (H : List AObj), M.w = w ∧ Ext M0 M ∧ St M H ∧ RelAct M n a ca ∧ Q e a H

theorem gval_sound {M : Mem} {n : Nat} {a : AAct} {ca : Act} (h : RelAct M n a ca) (l : List Oper) (j : Nat) {r : Option Bool} (hg : gval l a j = some r) : yielded l.toArray ca.tmps j = r := by
  unfold gval at hg
  unfold yielded
  simp only [List.getElem?_toArray]
  cases hd : (l[j]?).bind (·.dst) with
  | none => simp [hd] at hg; subst hg; simp
  | some d =>
    simp only [hd] at hg
    have hv := h.get d
    rw [Array.getD_eq_getD_getElem?] at hv
    simp only [Option.bind_some]
    split at hg
    · rename_i b e
      simp at hg; subst hg
      rw [e] at hv
      have := hv.bool_inv
      cases ht : ca.tmps[d]? with
      | none => rw [ht] at this; simp [undef] at this
      | some v =>
        rw [ht] at this
        simp at this
        subst this
        rfl
    · rename_i e
      simp at hg; subst hg
      rw [e] at hv
      obtain ⟨vs, e2, _⟩ := RelL.of_tup hv
      cases ht : ca.tmps[d]? with
      | none => rfl
      | some v =>
        rw [ht] at e2
        simp at e2
        subst e2
        rfl
    · simp at hg

theorem undef_rel (M : Mem) : RelA M (.tup []) undef := .tup [] #[] rfl (fun j h => absurd h (by simp))

theorem run_callv {P : Program} {w : World} {ρ : Operand → Value} {dst : Option Tmp} {f : Operand} {args : Array Operand} {tys : Array TypeId} {type : TypeId} {pos : String} {after : Array Edge} {guard : Option (Nat × Bool)}
    {g : FuncId} {caps : Array Value} (hf : ρ f = .func (.func g) #[] caps) (hc : callable P g = true) :
    (execOp ρ ⟨dst, .call ⟨.value f, args, tys⟩, type, pos, after, guard⟩).run P w = .ok (.enter g (args.map ρ ++ caps)) w := by
  unfold callable at hc
  cases hfn : P.funcs[g]? with
  | none => simp [hfn] at hc
  | some fn =>
    simp [hfn] at hc
    obtain ⟨h1, h2⟩ := hc
    have h3 : fn.body.isNone = false := by cases hb : fn.body <;> simp_all
    simp [execOp, resolve, Deferred.ofValue, hf, invoke, callFunc, hfn, h1, h3]
    intro hb
    simp [hb] at h2

theorem sound_run {P : Program} {n : Nat} {M0 M : Mem} {H : List AObj} {a : AAct} {ca : Act} (he : Ext M0 M) (hs : St M H) (h : RelAct M n a ca) (o : Oper) (hd : ∀ d, o.dst = some d → d < n)
    {K : AAct → List AObj → Prop} {next : Act → World → Prop} {Q : Exit → Act → World → Prop}
    (hnext : ∀ (M' : Mem) (a' : AAct) (H' : List AObj) (ca' : Act), Ext M0 M' → St M' H' → RelAct M' n a' ca' → K a' H' → next ca' M'.w) (hr : arun P o a H K) : o.wp P ca M.w next Q := by
  unfold arun at hr
  split at hr
  · rename_i f args tys hop
    unfold awpCall at hr
    split at hr
    · rename_i g caps hfv
      obtain ⟨hc, hcall⟩ := hr
      have hf := h.ev f
      rw [hfv] at hf
      obtain ⟨vs, e, hcap⟩ := hf.fn_inv
      obtain ⟨dst, op, type, pos, after, guard⟩ := o
      simp only at hop
      subst hop
      unfold Oper.wp
      rw [run_callv e hc, Oper.upon_enter]
      refine (hcall M (args.map ca.eval ++ vs) hs ?_).mono ?_
      · rw [Array.toList_append, Array.toList_map]
        exact (evs_rel h args.toList).append hcap
      · rintro e w' ⟨cvv, M', v, H', rfl, rfl, he', hs', hv, hk⟩
        exact hnext M' _ H' _ (he.trans he') hs' ((h.ext he').put hd hv) hk
    · exact hr.elim
  · obtain ⟨hok, hk⟩ := hr
    obtain ⟨nx, cvv, M', h1, h2, h3, h4, h5⟩ := sound_op (P := P) hs h o hok
    unfold Oper.wp
    rw [h1]
    cases nx <;> simp [Next.val] at h2
    · subst h2
      rw [Oper.upon_value]
      exact hnext M' _ _ _ (he.trans h3) h4 ((h.ext h3).put hd h5) hk
    · subst h2
      rw [Oper.upon_skip]
      exact hnext M' _ _ _ (he.trans h3) h4 ((h.ext h3).put hd h5) hk

def dstsOk (n : Nat) (l : List Oper) : Bool := l.all fun o => match o.dst with | some d => decide (d < n) | none => true

theorem awpOps_sound {P : Program} {n : Nat} {M0 : Mem} {l : List Oper} {q : AAct → List AObj → Prop} {Q : Exit → Act → World → Prop}
    (hq : ∀ (M : Mem) (a : AAct) (H : List AObj) (ca : Act), Ext M0 M → St M H → RelAct M n a ca → q a H → Q .normal ca M.w) :
    ∀ (rest : List Oper), dstsOk n rest = true → ∀ (M : Mem) (a : AAct) (H : List AObj) (ca : Act), Ext M0 M → St M H → RelAct M n a ca → awpOps P l q rest a H → wpList P l.toArray Q rest ca M.w
  | [], _, M, a, H, ca, he, hs, h, hw => hq M a H ca he hs h hw
  | o :: rest, hd, M, a, H, ca, he, hs, h, hw => by
    simp only [dstsOk, List.all_cons, Bool.and_eq_true] at hd
    obtain ⟨hd1, hd2⟩ := hd
    have hd1' : ∀ d, o.dst = some d → d < n := fun d e => by simpa [e] using hd1
    have ih := fun (M' : Mem) (a' : AAct) (H' : List AObj) (ca' : Act) => awpOps_sound (P := P) (l := l) hq rest hd2 M' a' H' ca'
    unfold wpList
    unfold awpOps at hw
    split at hw
    · rename_i hg
      rw [if_pos (by simp [Region.wanted, hg])]
      exact .inl (sound_run he hs h o hd1' ih hw)
    · rename_i j want hg
      split at hw
      · rename_i b hgv
        have hy := gval_sound h l j hgv
        by_cases hb : b = want
        · rw [if_pos (by simp [Region.wanted, hg, hy, hb])]
          exact .inl (sound_run he hs h o hd1' ih (hw.1 hb))
        · rw [if_neg (by simp [Region.wanted, hg, hy, hb])]
          exact ih M _ H _ he hs (h.put hd1' (undef_rel M)) (hw.2 hb)
      · rename_i hgv
        have hy := gval_sound h l j hgv
        rw [if_neg (by simp [Region.wanted, hg, hy])]
        exact ih M _ H _ he hs (h.put hd1' (undef_rel M)) hw
      · exact hw.elim

/-! ### Code -/

def awp (P : Program) (n : Nat) (M0 : Mem) (c : Code) (Q : Exit → AAct → List AObj → Prop) (a : AAct) (H : List AObj) : Prop :=
  ∀ (M : Mem) (ca : Act), Ext M0 M → St M H → RelAct M n a ca → c.wp P (Post n M0 Q) ca M.w

def thenA (K : AAct → List AObj → Prop) (Q : Exit → AAct → List AObj → Prop) : Exit → AAct → List AObj → Prop
  | .normal => K
  | e => Q e

section
variable {P : Program} {n : Nat} {M0 : Mem} {Q : Exit → AAct → List AObj → Prop} {a : AAct} {H : List AObj}

theorem awp_mono {c : Code} {Q' : Exit → AAct → List AObj → Prop} (h : awp P n M0 c Q a H) (hq : ∀ e a H, Q e a H → Q' e a H) : awp P n M0 c Q' a H :=
  fun M ca he hs hr => wp_mono (h M ca he hs hr) fun e ca' w' ⟨M', a', H', h1, h2, h3, h4, h5⟩ => ⟨M', a', H', h1, h2, h3, h4, hq _ _ _ h5⟩

theorem awp_seq {x y : Code} (h : ∀ K : AAct → List AObj → Prop, (∀ a H, awp P n M0 y Q a H → K a H) → awp P n M0 x (thenA K Q) a H) : awp P n M0 (.seq x y) Q a H := by
  intro M ca he hs hr
  refine wp_seq (wp_mono (h _ (fun _ _ h => h) M ca he hs hr) ?_)
  rintro e ca' w' ⟨M', a', H', rfl, h2, h3, h4, h5⟩
  cases e <;> first | exact h5 M' ca' h2 h3 h4 | exact ⟨M', a', H', rfl, h2, h3, h4, h5⟩

theorem awp_skip (h : Q .normal a H) : awp P n M0 .skip Q a H := fun M ca he hs hr => wp_skip ⟨M, a, H, rfl, he, hs, hr, h⟩
theorem awp_label {l : Nat} (h : Q .normal a H) : awp P n M0 (.label l) Q a H := fun M ca he hs hr => wp_label ⟨M, a, H, rfl, he, hs, hr, h⟩
theorem awp_exit {id : Nat} (h : Q (.exit id) a H) : awp P n M0 (.exit id) Q a H := fun M ca he hs hr => wp_exit ⟨M, a, H, rfl, he, hs, hr, h⟩
theorem awp_goto {id : Nat} (h : Q (.goto id) a H) : awp P n M0 (.goto id) Q a H := fun M ca he hs hr => wp_goto ⟨M, a, H, rfl, he, hs, hr, h⟩
theorem awp_ret (h : Q .ret a H) : awp P n M0 .ret Q a H := fun M ca he hs hr => wp_ret ⟨M, a, H, rfl, he, hs, hr, h⟩

theorem awp_cond {c : Operand} {x y : Code} {b : Bool} (hc : ev a c = .d (.bool b)) (ht : b = true → awp P n M0 x Q a H) (hf : b = false → awp P n M0 y Q a H) : awp P n M0 (.cond c x y) Q a H := by
  intro M ca he hs hr
  have hv := hr.ev c
  rw [hc] at hv
  exact wp_cond_split hv.bool_inv (fun h => ht h M ca he hs hr) (fun h => hf h M ca he hs hr)

def inBlockA (id : Nat) (Q : Exit → AAct → List AObj → Prop) : Exit → AAct → List AObj → Prop
  | .exit id' => fun a H => if id' = id then Q .normal a H else Q (.exit id') a H
  | e => Q e

theorem awp_block {id : Nat} {c : Code} (h : awp P n M0 c (inBlockA id Q) a H) : awp P n M0 (.block id c) Q a H := by
  intro M ca he hs hr
  refine wp_block (wp_mono (h M ca he hs hr) ?_)
  rintro e ca' w' ⟨M', a', H', h1, h2, h3, h4, h5⟩
  cases e <;> first | exact ⟨M', a', H', h1, h2, h3, h4, h5⟩ | skip
  simp only [Exit.inBlock]
  simp only [inBlockA] at h5
  split
  · rename_i e; rw [if_pos e] at h5; exact ⟨M', a', H', h1, h2, h3, h4, h5⟩
  · rename_i e; rw [if_neg e] at h5; exact ⟨M', a', H', h1, h2, h3, h4, h5⟩

theorem awp_region {id : Nat} {l : List Oper} (hd : dstsOk n l = true) (h : awpOps P l (Q .normal) l a H) : awp P n M0 (.region id l.toArray false) Q a H := by
  intro M ca he hs hr
  exact wp_region_lit (awpOps_sound (fun M a H ca he hs hr hq => ⟨M, a, H, rfl, he, hs, hr, hq⟩) l hd M a H ca he hs hr h)

/-! ### Saying less -/

/-- What is known may be said as less. -/
def Weak (n : Nat) (M0 : Mem) (a : AAct) (H : List AObj) (a' : AAct) (H' : List AObj) : Prop :=
  ∀ (M : Mem) (ca : Act), Ext M0 M → St M H → RelAct M n a ca → ∃ M' : Mem, M'.w = M.w ∧ Ext M0 M' ∧ St M' H' ∧ RelAct M' n a' ca

theorem Weak.refl : Weak n M0 a H a H := fun M _ he hs hr => ⟨M, rfl, he, hs, hr⟩
theorem Weak.trans {a' a'' : AAct} {H' H'' : List AObj} (h : Weak n M0 a H a' H') (g : Weak n M0 a' H' a'' H'') : Weak n M0 a H a'' H'' := fun M ca he hs hr => by
  obtain ⟨M', e1, h1, h2, h3⟩ := h M ca he hs hr
  obtain ⟨M'', e2, g1, g2, g3⟩ := g M' ca h1 h2 h3
  exact ⟨M'', e2.trans e1, g1, g2, g3⟩
theorem Weak.tmps {a' : AAct} (h : Weaker a a') : Weak n M0 a H a' H := fun M _ he hs hr => ⟨M, rfl, he, hs, hr.weaken h⟩

theorem awp_weak {c : Code} {a' : AAct} {H' : List AObj} (hw : Weak n M0 a H a' H') (h : awp P n M0 c Q a' H') : awp P n M0 c Q a H := fun M ca he hs hr => by
  obtain ⟨M', e, h1, h2, h3⟩ := hw M ca he hs hr
  rw [← e]
  exact h M' ca h1 h2 h3

/-- A loop: what holds at each round's head, with a number that each round lowers. -/
theorem awp_loop {c : Code} (I : Nat → AAct → List AObj → Prop) (n₀ : Nat) (h₀ : ∃ a' H', Weak n M0 a H a' H' ∧ I n₀ a' H')
    (round : ∀ m a H, I m a H → awp P n M0 c (thenA (fun a' H' => ∃ m' a'' H'', m' < m ∧ Weak n M0 a' H' a'' H'' ∧ I m' a'' H'') Q) a H) : awp P n M0 (.loop c) Q a H := by
  intro M ca he hs hr
  refine wp_loop_ghost (fun m ca w => ∃ (M : Mem) (a : AAct) (H : List AObj), M.w = w ∧ Ext M0 M ∧ St M H ∧ RelAct M n a ca ∧ I m a H) n₀ ?_ ?_
  · obtain ⟨a', H', hw, hi⟩ := h₀
    obtain ⟨M', e, h1, h2, h3⟩ := hw M ca he hs hr
    exact ⟨M', a', H', e, h1, h2, h3, hi⟩
  · rintro m ca w ⟨M, a, H, rfl, h1, h2, h3, hi⟩
    refine wp_mono (round m a H hi M ca h1 h2 h3) ?_
    rintro e ca' w' ⟨M', a', H', rfl, g1, g2, g3, g4⟩
    cases e <;> first | exact ⟨M', a', H', rfl, g1, g2, g3, g4⟩ | skip
    obtain ⟨m', a'', H'', hlt, hw, hi'⟩ := g4
    obtain ⟨M'', e, k1, k2, k3⟩ := hw M' ca' g1 g2 g3
    exact ⟨m', hlt, M'', a'', H'', e, k1, k2, k3, hi'⟩

end

/-! ### A function out of its body -/

def initAct : Nat → List AV → AAct
  | _, [] => []
  | i, v :: vs => (i, v) :: initAct (i + 1) vs

theorem aget_init : ∀ (vs : List AV) (i t : Nat), aget (initAct i vs) t = if i ≤ t then vs.getD (t - i) .junk else .junk
  | [], i, t => by simp [initAct, aget]
  | v :: vs, i, t => by
    simp only [initAct, aget, aget_init vs (i + 1) t]
    by_cases h : t = i
    · subst h; simp
    · rw [if_neg h]
      by_cases h2 : i ≤ t
      · rw [if_pos h2, if_pos (by omega)]
        have : t - i = (t - (i + 1)) + 1 := by omega
        rw [this]; rfl
      · rw [if_neg h2, if_neg (by omega)]

def aresult (P : Program) (a : AAct) (H : List AObj) : ResultVar → ARes
  | .tmp t => ⟨True, aget a t, H⟩
  | .cell t ty => aload P H ty (aget a t)

def aresults (P : Program) (a : AAct) (H : List AObj) (rs : List ResultVar) : Prop × AV :=
  ((∀ r ∈ rs, (aresult P a H r).ok), match rs with | [r] => (aresult P a H r).v | rs => .tup (rs.map fun r => (aresult P a H r).v))

def resOne (tmps : Array Value) : ResultVar → Sem Value
  | .tmp t => pure (tmps.getD t undef)
  | .cell a t => do loadVar t (← asAddr (tmps.getD a undef))

theorem results_eq (fn : Func) (tmps : Array Value) : results fn tmps = (do
    let vs ← fn.results.mapM (resOne tmps)
    pure (if h : vs.size = 1 then vs[0] else .tuple vs)) := by
  have e : resOne tmps = (fun | .tmp t => pure (tmps.getD t undef) | .cell a t => do loadVar t (← asAddr (tmps.getD a undef)) : ResultVar → Sem Value) := by
    funext r; cases r <;> rfl
  rw [e]
  rfl

theorem run_aresult {P : Program} {M : Mem} {H : List AObj} {n : Nat} {a : AAct} {ca : Act} (hs : St M H) (h : RelAct M n a ca) (r : ResultVar) (hok : (aresult P a H r).ok) :
    ∃ c, (resOne ca.tmps r).run P M.w = .ok c M.w ∧ RelA M (aresult P a H r).v c := by
  cases r with
  | tmp t => exact ⟨_, rfl, h.get t⟩
  | cell x t =>
    have hx := h.get x
    simp only [aresult] at hok ⊢
    obtain ⟨c, h1, h4⟩ := pure_load (P := P) hs t hx hok
    have hp : ∃ A : Addr, ca.tmps.getD x undef = .pointer (some A) := by
      unfold aload at hok
      split at hok
      · rename_i e _ _; rw [e] at hx; exact ⟨_, hx.ptr_inv.1⟩
      · rename_i e _; rw [e] at hx; exact ⟨_, hx.ptr_inv.1⟩
      · rename_i e _ _; rw [e] at hx; obtain ⟨A, e, _⟩ := hx.imm_inv; exact ⟨A, e⟩
      · rename_i e _; rw [e] at hx; obtain ⟨A, e, _⟩ := hx.imm_inv; exact ⟨A, e⟩
      · exact hok.elim
    obtain ⟨A, e⟩ := hp
    rw [e, run_loadAt] at h1
    exact ⟨c, by simp [resOne, e, asAddr, h1], h4⟩

end Go.R
