/-
  The abstract layer, part 15: a region that draws its order: its quiet operations ahead, the others in their own order.
-/
import Derived.Test.YtikgnakhciklaaaGreatDoorRo
namespace Go.R
set_option linter.unusedSectionVars false
variable [Syms]
set_option linter.unusedSimpArgs false
set_option linter.unusedVariables false

def always (e : Edge) : Bool :=
  match e.ground with
  | .textOnly _ | .gcOnly _ => false
  | _ => true

theorem always_binds {m : Region.Mode} {e : Edge} (h : always e = true) : Region.binds m e = true := by
  unfold always at h
  unfold Region.binds
  split at h <;> simp_all

/-- An order in which the operations that are left may come. -/
inductive Sched (l : List Oper) : (Nat → Bool) → List Nat → Prop
  | nil {done : Nat → Bool} (h : ∀ i, i < l.length → done i = true) : Sched l done []
  | cons {done : Nat → Bool} {i : Nat} {rest : List Nat} (hn : done i = false) (hi : i < l.length) (hr : ∀ o, l[i]? = some o → ∀ e ∈ o.after.toList, always e = true → done e.on = true)
      (h : Sched l (fun j => if j = i then true else done j) rest) : Sched l done (i :: rest)

/-- An order in which the operations may come, in a mode (the greedy one). -/
def greedy (m : Region.Mode) (l : List Oper) : Nat → List Nat → List Nat
  | 0, acc => acc
  | n + 1, acc =>
    match (List.range l.length).find? fun i => !acc.contains i && ((l[i]?).map fun o => o.after.toList.all fun e => !Region.binds m e || acc.contains e.on).getD false with
    | some i => greedy m l n (acc ++ [i])
    | none => acc

/-- Every edge that binds leads to an operation that is earlier in an order. -/
def rankOk (m : Region.Mode) (l : List Oper) (r : List Nat) : Bool := l.zipIdx.all fun (o, i) => o.after.toList.all fun e => !Region.binds m e || (decide (e.on < l.length) && decide (r.idxOf e.on < r.idxOf i))

def backEdges (l : List Oper) : Bool := rankOk .text l (greedy .text l l.length []) && rankOk .gc l (greedy .gc l l.length []) && rankOk .any l (greedy .any l l.length [])

theorem of_rankOk {m : Region.Mode} {l : List Oper} {r : List Nat} (h : rankOk m l r = true) {i : Nat} {o : Oper} (hi : l[i]? = some o) {e : Edge} (he : e ∈ o.after.toList) (hb : Region.binds m e = true) : e.on < l.length ∧ r.idxOf e.on < r.idxOf i := by
  unfold rankOk at h
  rw [List.all_eq_true] at h
  have := h (o, i) (by rw [List.mem_iff_getElem?]; exact ⟨i, by simp [List.getElem?_zipIdx, hi]⟩)
  simp only at this
  rw [List.all_eq_true] at this
  simpa [hb] using this e he

theorem of_backEdges {l : List Oper} (h : backEdges l = true) (m : Region.Mode) : ∃ r, rankOk m l r = true := by
  unfold backEdges at h
  simp only [Bool.and_eq_true] at h
  cases m
  · exact ⟨_, h.1.1⟩
  · exact ⟨_, h.1.2⟩
  · exact ⟨_, h.2⟩

theorem go_sched {m : Region.Mode} {l : List Oper} {r : List Nat} (hb : rankOk m l r = true) : ∀ (fuel t : Nat) (listed : Array Bool) (acc : List Nat), listed.size = l.length → ((List.range l.length).filter fun i => !listed.getD i false).length = fuel →
    ∃ rest, Region.linearise.go m l.toArray fuel t listed acc = acc.reverse ++ rest ∧ Sched l (fun i => listed.getD i false) rest
  | 0, t, listed, acc, hs, hf => by
    refine ⟨[], by simp [Region.linearise.go], .nil fun i hi => ?_⟩
    have h0 : (List.range l.length).filter (fun i => !listed.getD i false) = [] := List.eq_nil_of_length_eq_zero hf
    rw [List.filter_eq_nil_iff] at h0
    have := h0 i (by simpa using hi)
    simpa using this
  | fuel + 1, t, listed, acc, hs, hf => by
    -- those that may come next
    have hready : ∀ i, i ∈ ((List.range l.length).filter fun i => !listed.getD i true && ((l.toArray[i]?).map (·.after.all fun e => !Region.binds m e || listed.getD e.on false)).getD false) →
        i < l.length ∧ listed.getD i false = false ∧ ∀ o, l[i]? = some o → ∀ e ∈ o.after.toList, always e = true → listed.getD e.on false = true := by
      intro i hi
      simp only [List.mem_filter, List.mem_range, Bool.and_eq_true, Bool.not_eq_true'] at hi
      obtain ⟨h1, h2, h3⟩ := hi
      refine ⟨h1, ?_, fun o ho e he ha => ?_⟩
      · rw [Array.getD_eq_getD_getElem?] at h2 ⊢
        rw [Array.getElem?_eq_getElem (by omega)] at h2 ⊢
        simpa using h2
      · simp only [List.getElem?_toArray, ho, Option.map_some, Option.getD_some, Array.all_eq_true_iff_forall_mem] at h3
        have := h3 e (by simpa using he)
        rw [always_binds ha] at this
        simpa using this
    -- there is one
    have hne : ((List.range l.length).filter fun i => !listed.getD i false) ≠ [] := fun h => by rw [h] at hf; simp at hf
    have hmin : ∃ i, i < l.length ∧ listed.getD i false = false ∧ ∀ j, j < l.length → listed.getD j false = false → r.idxOf i ≤ r.idxOf j := by
      obtain ⟨x, hx⟩ := List.exists_mem_of_ne_nil _ hne
      simp only [List.mem_filter, List.mem_range, Bool.not_eq_true'] at hx
      have : ∃ n, (∃ i, i < l.length ∧ listed.getD i false = false ∧ r.idxOf i = n) ∧ ∀ k, (∃ i, i < l.length ∧ listed.getD i false = false ∧ r.idxOf i = k) → n ≤ k := exists_least ⟨r.idxOf x, x, hx.1, hx.2, rfl⟩
      obtain ⟨n, ⟨i, h1, h2, rfl⟩, h3⟩ := this
      exact ⟨i, h1, h2, fun j hj hl => h3 _ ⟨j, hj, hl, rfl⟩⟩
    obtain ⟨i0, k1, k2, k3⟩ := hmin
    have hmem : i0 ∈ ((List.range l.length).filter fun i => !listed.getD i true && ((l.toArray[i]?).map (·.after.all fun e => !Region.binds m e || listed.getD e.on false)).getD false) := by
      simp only [List.mem_filter, List.mem_range, Bool.and_eq_true, Bool.not_eq_true']
      refine ⟨k1, ?_, ?_⟩
      · rw [Array.getD_eq_getD_getElem?] at k2 ⊢
        rw [Array.getElem?_eq_getElem (by omega)] at k2 ⊢
        simpa using k2
      · simp only [List.getElem?_toArray, List.getElem?_eq_getElem k1, Option.map_some, Option.getD_some, Array.all_eq_true_iff_forall_mem]
        intro e he
        by_cases hbe : Region.binds m e = true
        · obtain ⟨q1, q2⟩ := of_rankOk hb (List.getElem?_eq_getElem k1) (by simpa using he) hbe
          have : listed.getD e.on false = true := by
            cases hv : listed.getD e.on false with
            | true => rfl
            | false => have := k3 e.on q1 hv; omega
          rw [this]; simp
        · rw [Bool.not_eq_true] at hbe
          rw [hbe]; simp
    simp only [Region.linearise.go, List.size_toArray]
    generalize hrs : ((List.range l.length).filter fun i => !listed.getD i true && ((l.toArray[i]?).map (·.after.all fun e => !Region.binds m e || listed.getD e.on false)).getD false) = rs at hready hmem
    have hlt : t % rs.length < rs.length := Nat.mod_lt _ (List.length_pos_of_mem hmem)
    rw [List.getElem?_eq_getElem hlt]
    simp only
    obtain ⟨g1, g2, g3⟩ := hready _ (List.getElem_mem hlt)
    generalize rs[t % rs.length] = i at g1 g2 g3
    have hupd : ∀ j, (listed.setIfInBounds i true).getD j false = if j = i then true else listed.getD j false := by
      intro j
      simp only [Array.getD_eq_getD_getElem?]
      by_cases e : j = i
      · subst e; rw [if_pos rfl, Array.getElem?_setIfInBounds_self_of_lt (by omega)]; rfl
      · rw [if_neg e, Array.getElem?_setIfInBounds_ne (fun h => e h.symm)]
    have hf' : ((List.range l.length).filter fun j => !(listed.setIfInBounds i true).getD j false).length = fuel := by
      have hp : ((List.range l.length).filter fun j => !listed.getD j false).length = ((List.range l.length).filter fun j => !(listed.setIfInBounds i true).getD j false).length + 1 := by
        have hnd : (List.range l.length).Nodup := List.nodup_range
        have hin : i ∈ List.range l.length := by simpa using g1
        generalize List.range l.length = rg at hnd hin
        induction rg with
        | nil => simp at hin
        | cons x xs ih =>
          simp only [List.nodup_cons] at hnd
          by_cases hxi : x = i
          · subst hxi
            have hrest : xs.filter (fun j => !(listed.setIfInBounds x true).getD j false) = xs.filter (fun j => !listed.getD j false) := by
              apply List.filter_congr
              intro j hj
              rw [hupd, if_neg (fun (e : j = x) => hnd.1 (e ▸ hj))]
            rw [List.filter_cons_of_pos (by simp [g2]), List.filter_cons_of_neg (by simp [hupd]), hrest]
            simp
          · have hin' : i ∈ xs := by
              rcases List.mem_cons.1 hin with h | h
              · exact absurd h.symm hxi
              · exact h
            have := ih hnd.2 hin'
            have e : (listed.setIfInBounds i true).getD x false = listed.getD x false := by rw [hupd, if_neg hxi]
            by_cases hv : listed.getD x false = true
            · rw [List.filter_cons_of_neg (by simp [hv]), List.filter_cons_of_neg (by simp [e, hv])]; exact this
            · rw [List.filter_cons_of_pos (by simpa using hv), List.filter_cons_of_pos (by simpa [e] using hv)]
              simp only [List.length_cons]; omega
      omega
    obtain ⟨rest, r1, r2⟩ := go_sched hb fuel (t / rs.length) (listed.setIfInBounds i true) (i :: acc) (by simpa using hs) hf'
    refine ⟨i :: rest, by rw [r1]; simp, .cons g2 g1 g3 ?_⟩
    have : (fun j => (listed.setIfInBounds i true).getD j false) = fun j => if j = i then true else listed.getD j false := funext hupd
    rw [← this]; exact r2

theorem schedule_sched {l : List Oper} (hb : backEdges l = true) (mixed : Bool) (t : Nat) : Sched l (fun _ => false) (Region.schedule mixed l.toArray t) := by
  have lin : ∀ (m : Region.Mode) (t : Nat), Sched l (fun _ => false) (Region.linearise m l.toArray t) := by
    intro m t
    have h0 : ∀ i, (Array.replicate l.length false).getD i false = false := fun i => by
      simp only [Array.getD_eq_getD_getElem?, Array.getElem?_replicate]
      split <;> rfl
    obtain ⟨r, hr⟩ := of_backEdges hb m
    obtain ⟨rest, h1, h2⟩ := go_sched (m := m) hr l.length t (Array.replicate l.length false) [] (by simp) (by
      have : (List.range l.length).filter (fun i => !(Array.replicate l.length false).getD i false) = List.range l.length := List.filter_eq_self.2 (fun i _ => by rw [h0]; rfl)
      rw [this]; simp)
    have e : (fun i => (Array.replicate l.length false).getD i false) = fun _ => false := funext h0
    rw [e] at h2
    unfold Region.linearise
    rw [List.size_toArray, h1]
    simpa using h2
  unfold Region.schedule
  split
  · exact lin _ _
  · exact lin _ _

/-! ### What an operation reads -/

def opTmps (o : Op) : List Nat := o.operands.toList.filterMap fun | .tmp t => some t | _ => none

theorem ev_congr {a a' : AAct} {op : Op} (h : ∀ t ∈ opTmps op, aget a t = aget a' t) : ∀ x ∈ op.operands.toList, ev a x = ev a' x := by
  intro x hx
  cases x with
  | tmp t =>
    refine h t ?_
    unfold opTmps
    rw [List.mem_filterMap]
    exact ⟨_, hx, rfl⟩
  | const v => rfl
  | global g => rfl
  | func f => rfl

theorem map_congr' {a a' : AAct} {l : List Operand} (h : ∀ x ∈ l, ev a x = ev a' x) : l.map (ev a) = l.map (ev a') := List.map_congr_left h

theorem opt_congr {a a' : AAct} {x : Option Operand} (h : ∀ y ∈ x.toArray.toList, ev a y = ev a' y) : x.map (ev a) = x.map (ev a') := by
  cases x with
  | none => rfl
  | some x => simp at h; simp [h]

theorem parts_congr {a a' : AAct} {ps : Array (Nat × Operand)} (h : ∀ x ∈ (ps.toList.map (·.2)).toArray.toList, ev a x = ev a' x) : (ps.toList.map fun p => (p.1, ev a p.2)) = ps.toList.map fun p => (p.1, ev a' p.2) := by
  apply List.map_congr_left
  intro p hp
  rw [h p.2 (by simp only [List.toList_toArray, List.mem_map]; exact ⟨p, hp, rfl⟩)]

theorem aop_congr {P : Program} {a a' : AAct} {H : List AObj} {op : Op} (h : ∀ t ∈ opTmps op, aget a t = aget a' t) : aop P a H op = aop P a' H op := by
  have he := ev_congr h
  cases op <;> simp only [aop, Op.operands] at he ⊢
  case move x => rw [he x (by simp)]
  case assign x => rw [he x (by simp)]
  case pick c x y => rw [he c (by simp), he x (by simp), he y (by simp)]
  case box t x => rw [he x (by simp)]
  case build t ps => rw [parts_congr he]
  case buildSlice t n ps => rw [parts_congr he]
  case load t x => rw [he x (by simp)]
  case store t x y => rw [he x (by simp), he y (by simp)]
  case nilCheck x => rw [he x (by simp)]
  case binOp op t x y u => rw [he x (by simp), he y (by simp)]
  case unOp op t x => rw [he x (by simp)]
  case convert t u x => rw [he x (by simp)]
  case makeFunc f first caps => rw [map_congr' (l := first.toList) fun x hx => he x (by simp at hx ⊢; exact .inl hx), map_congr' (l := caps.toList) fun x hx => he x (by simp at hx ⊢; exact .inr hx)]
  case makeSlice t x y => rw [he x (by simp), he y (by simp)]
  case slice t x lo hi mx =>
    rw [he x (by simp), opt_congr (x := lo) fun y hy => he y (by simp at hy ⊢; simp [hy]), opt_congr (x := hi) fun y hy => he y (by simp at hy ⊢; simp [hy]), opt_congr (x := mx) fun y hy => he y (by simp at hy ⊢; simp [hy])]
  case fieldAddr t x f => rw [he x (by simp)]
  case field t x f => rw [he x (by simp)]
  case indexAddr t x y => rw [he x (by simp), he y (by simp)]
  case index t x y => rw [he x (by simp), he y (by simp)]
  case extract x i => rw [he x (by simp)]
  case sliceToArrayPointer t x => rw [he x (by simp)]
  case makeMap t r => rw [opt_congr he]
  case lookup t x y c => rw [he x (by simp), he y (by simp)]
  case mapUpdate t x y z => rw [he x (by simp), he y (by simp), he z (by simp)]
  case insert t x y z => rw [he x (by simp), he y (by simp), he z (by simp)]
  case range t x => rw [he x (by simp)]
  case entry x => rw [he x (by simp)]
  case next x s =>
    cases s
    · rfl
    · simp only; rw [he x (by simp)]
  case call c =>
    obtain ⟨callee, args, tys⟩ := c
    cases callee with
    | value f => rfl
    | invoke r m => rfl
    | builtin b =>
      simp only [Call.operands] at he
      simp only
      rw [map_congr' fun x hx => he x (by simpa using hx)]

theorem anextM_mono {H : List AObj} {it : AV} {K K' : AV → List AObj → Prop} (hk : ∀ v H', K' v H' → K v H') (h : anextM H it K') : anextM H it K := by
  unfold anextM at *
  split at h
  · split at h
    · exact hk _ _ h
    · split at h
      · refine ⟨h.1, fun c hc => ?_⟩
        have := h.2 c hc
        split at this
        · exact hk _ _ this
        · exact hk _ _ this
      · exact h
    · exact h
  · exact h

theorem AYields.mono {P : Program} {i : Nat} {args : List AV} {H : List AObj} {K K' : AV → List AObj → Prop} (hk : ∀ v H', K' v H' → K v H') (h : AYields P i args H K') : AYields P i args H K := by
  obtain ⟨r, h1, h2, h3, h4, h5⟩ := h
  refine ⟨r, h1, h2, h3, h4, fun M0 hM => awp_mono (h5 M0 hM) fun e a H hq => ?_⟩
  cases e <;> try exact hq
  obtain ⟨r', g1, g2, g3⟩ := hq
  refine ⟨r', g1, g2, awp_mono g3 fun e a H hq => ?_⟩
  cases e <;> try exact hq
  all_goals
    obtain ⟨r2, k1, k2⟩ := hq
    exact ⟨r2, k1, hk _ _ k2⟩

theorem awpCall_mono {P : Program} {fv : AV} {args : List AV} {H : List AObj} {K K' : AV → List AObj → Prop} (hk : ∀ v H', K' v H' → K v H') (h : awpCall P fv args H K') : awpCall P fv args H K := by
  unfold awpCall at *
  split at h
  · rcases h with ⟨h1, h2⟩ | ⟨k, h1, h2, h3⟩
    · exact .inl ⟨h1, h2.mono hk⟩
    · exact .inr ⟨k, h1, h2, hk _ _ h3⟩
  · rcases h with ⟨h1, h2⟩ | ⟨k, h1, h2, h3⟩
    · exact .inl ⟨h1, h2.mono hk⟩
    · exact .inr ⟨k, h1, h2, hk _ _ h3⟩
  · exact h.mono hk
  · exact h

theorem arun_congr {P : Program} {o : Oper} {a a' : AAct} {H : List AObj} {K K' : AAct → List AObj → Prop} (h : ∀ t ∈ opTmps o.op, aget a t = aget a' t) (hk : ∀ v H', K' (aput o.dst v a') H' → K (aput o.dst v a) H')
    (hr : arun P o a' H K') : arun P o a H K := by
  unfold arun at *
  split
  · rename_i f args tys hop
    rw [hop] at hr h
    simp only at hr
    have he := ev_congr h
    simp only [Op.operands, Call.operands] at he
    rw [he f (by simp), map_congr' fun x hx => he x (by simp at hx ⊢; exact .inr hx)]
    exact awpCall_mono hk hr
  · rename_i x hop
    rw [hop] at hr h
    simp only at hr
    have he := ev_congr h
    simp only [Op.operands] at he
    rw [he x (by simp)]
    exact anextM_mono hk hr
  · rename_i hop1 hop2
    split at hr
    · rename_i f args tys hop'
      exact absurd hop' (hop1 f args tys)
    · rename_i x hop'
      exact absurd hop' (hop2 x)
    · obtain ⟨h1, h2⟩ := hr
      rw [aop_congr h]
      exact ⟨h1, hk _ _ h2⟩

/-! ### The rule -/

/-- The others, one behind the other; J holds behind each. -/
def amainK (P : Program) (l : List Oper) (J : List AObj → Prop) (q : AAct → List AObj → Prop) : List Oper → AAct → List AObj → Prop
  | [], a, H => q a H
  | o :: rest, a, H => awpOps P l (fun a' H' => J H' ∧ amainK P l J q rest a' H') [o] a H

def sideOk (P : Program) (a : AAct) (H : List AObj) : List Oper → Prop
  | [] => True
  | o :: rest => ((aop P a H o.op).ok ∧ (match o.dst with | some d => (aop P a H o.op).v = aget a d | none => False) ∧ (aop P a H o.op).h = H) ∧ sideOk P a H rest

/-- Of each operation, which ones are ahead of it on every order (a bit each). -/
def befores : List Oper → List Nat → List Nat
  | [], acc => acc
  | o :: rest, acc => befores rest (acc ++ [o.after.toList.foldl (fun s e => if always e then s ||| 2 ^ e.on ||| acc.getD e.on 0 else s) 0])

def anc (l : List Oper) (i j : Nat) : Bool := ((befores l []).getD i 0).testBit j

theorem fold_bit (acc : List Nat) (j : Nat) : ∀ (es : List Edge) (s0 : Nat), (es.foldl (fun s e => if always e then s ||| 2 ^ e.on ||| acc.getD e.on 0 else s) s0).testBit j = true →
    s0.testBit j = true ∨ ∃ e ∈ es, always e = true ∧ (j = e.on ∨ (acc.getD e.on 0).testBit j = true)
  | [], s0, h => .inl h
  | e :: es, s0, h => by
    simp only [List.foldl_cons] at h
    rcases fold_bit acc j es _ h with h | ⟨e', he', h1, h2⟩
    · split at h
      · rename_i ha
        simp only [Nat.testBit_or, Bool.or_eq_true] at h
        rcases h with (h | h) | h
        · exact .inl h
        · rw [Nat.testBit_two_pow] at h
          exact .inr ⟨e, by simp, ha, .inl (by simpa using h.symm : e.on = j).symm⟩
        · exact .inr ⟨e, by simp, ha, .inr h⟩
      · exact .inl h
    · exact .inr ⟨e', by simp [he'], h1, h2⟩

def GoodB (l : List Oper) (acc : List Nat) : Prop :=
  ∀ i, i < acc.length → ∀ j, (acc.getD i 0).testBit j = true → ∃ o e, l[i]? = some o ∧ e ∈ o.after.toList ∧ always e = true ∧ (j = e.on ∨ (e.on < i ∧ (acc.getD e.on 0).testBit j = true))

theorem befores_good (l : List Oper) : ∀ (rest : List Oper) (acc : List Nat), l.drop acc.length = rest → GoodB l acc → GoodB l (befores rest acc)
  | [], acc, _, h => h
  | o :: rest, acc, hd, h => by
    have ho : l[acc.length]? = some o := by
      have : (l.drop acc.length)[0]? = some o := by rw [hd]; rfl
      simpa using this
    refine befores_good l rest _ ?_ ?_
    · have : l.drop (acc.length + 1) = rest := by rw [← List.drop_drop, hd]; rfl
      simpa using this
    · intro i hi j hj
      have old : ∀ k, k < acc.length → (acc ++ [o.after.toList.foldl (fun s e => if always e then s ||| 2 ^ e.on ||| acc.getD e.on 0 else s) 0]).getD k 0 = acc.getD k 0 := fun k hk => by
        simp [List.getD, List.getElem?_append_left hk]
      by_cases hlt : i < acc.length
      · rw [old i hlt] at hj
        obtain ⟨o', e, h1, h2, h3, h4⟩ := h i hlt j hj
        refine ⟨o', e, h1, h2, h3, ?_⟩
        rcases h4 with h4 | ⟨h4, h5⟩
        · exact .inl h4
        · exact .inr ⟨h4, by rw [old _ (by omega)]; exact h5⟩
      · have hie : i = acc.length := by simp at hi; omega
        subst hie
        have e0 : (acc ++ [o.after.toList.foldl (fun s e => if always e then s ||| 2 ^ e.on ||| acc.getD e.on 0 else s) 0]).getD acc.length 0 = o.after.toList.foldl (fun s e => if always e then s ||| 2 ^ e.on ||| acc.getD e.on 0 else s) 0 := by
          simp [List.getD]
        rw [e0] at hj
        rcases fold_bit acc j _ 0 hj with h0 | ⟨e, he, h1, h2⟩
        · simp at h0
        · refine ⟨o, e, ho, he, h1, ?_⟩
          rcases h2 with h2 | h2
          · exact .inl h2
          · have hlt : e.on < acc.length := by
              rcases Nat.lt_or_ge e.on acc.length with h | h
              · exact h
              · simp [List.getD, List.getElem?_eq_none h] at h2
            exact .inr ⟨hlt, by rw [old _ hlt]; exact h2⟩

theorem befores_length : ∀ (rest : List Oper) (acc : List Nat), (befores rest acc).length = acc.length + rest.length
  | [], acc => rfl
  | o :: rest, acc => by simp only [befores, befores_length rest]; simp; omega

def opAt (l : List Oper) (i : Nat) : Oper := l.getD i default
def dstAt (l : List Oper) (i : Nat) : Option Nat := (opAt l i).dst

def pairs (l : List Nat) : List (Nat × Nat) :=
  match l with
  | [] => []
  | x :: xs => xs.map (x, ·) ++ pairs xs

def drawOk (l : List Oper) (sides mains : List Nat) : Bool :=
  backEdges l && l.all (fun o => o.guard.isNone) &&
  (List.range l.length).all (fun i => (sides.contains i && !mains.contains i) || (mains.contains i && !sides.contains i)) &&
  (List.range l.length).all (fun i => (opTmps (opAt l i).op).all fun t => sides.all fun j => dstAt l j != some t || (j != i && anc l i j)) &&
  sides.all (fun i => decide (i < l.length) && (dstAt l i).isSome && (opTmps (opAt l i).op).all (fun t => mains.all fun j => dstAt l j != some t || anc l j i) && (List.range l.length).all (fun j => j == i || dstAt l j != dstAt l i)) &&
  mains.all (fun i => decide (i < l.length)) &&
  (pairs mains).all (fun p => p.1 != p.2 && anc l p.2 p.1)

theorem anc_done {l : List Oper} {done : Nat → Bool} (hd : ∀ i, done i = true → ∀ o, l[i]? = some o → ∀ e ∈ o.after.toList, always e = true → done e.on = true) :
    ∀ (i : Nat), i < l.length → ∀ j, (∀ o, l[i]? = some o → ∀ e ∈ o.after.toList, always e = true → done e.on = true) → anc l i j = true → done j = true := by
  intro i
  induction i using Nat.strongRecOn with
  | _ i ih =>
    intro hlt j hi h
    have hg := befores_good l l [] (by simp) (fun i hi => absurd hi (by simp))
    obtain ⟨o, e, h1, h2, h3, h4⟩ := hg i (by rw [befores_length]; simpa using hlt) j h
    have hdone := hi o h1 e h2 h3
    rcases h4 with h4 | ⟨h4, h5⟩
    · rw [h4]; exact hdone
    · exact ih e.on h4 (by omega) j (hd _ hdone) h5

theorem opAt_eq {l : List Oper} {i : Nat} (h : i < l.length) : l[i]? = some (opAt l i) := by
  rw [List.getElem?_eq_getElem h]
  simp [opAt, List.getD, List.getElem?_eq_getElem h]

theorem sideOk_mem {P : Program} {a : AAct} {H : List AObj} : ∀ {L : List Oper}, sideOk P a H L → ∀ o ∈ L, (aop P a H o.op).ok ∧ (match o.dst with | some d => (aop P a H o.op).v = aget a d | none => False) ∧ (aop P a H o.op).h = H
  | [], _, o, ho => by simp at ho
  | x :: xs, h, o, ho => by
    rcases List.mem_cons.1 ho with e | e
    · subst e; exact h.1
    · exact sideOk_mem (L := xs) h.2 o e

theorem mem_pairs : ∀ {l : List Nat} {pre ms : List Nat} {m i : Nat}, l = pre ++ m :: ms → i ∈ ms → (m, i) ∈ pairs l
  | [], pre, ms, m, i, h, _ => by simp at h
  | x :: xs, [], ms, m, i, h, hi => by
    simp at h
    obtain ⟨rfl, rfl⟩ := h
    simp only [pairs, List.mem_append, List.mem_map]
    exact .inl ⟨i, hi, rfl⟩
  | x :: xs, p :: pre, ms, m, i, h, hi => by
    simp at h
    simp only [pairs, List.mem_append]
    exact .inr (mem_pairs h.2 hi)

theorem draw_sound {P : Program} {n : Nat} {M0 : Mem} {rd : Option Nat} {l : List Oper} {sides mains : List Nat} (hok : drawOk l sides mains = true) (hdst : dstsOk n l = true) {J : List AObj → Prop} {q : AAct → List AObj → Prop} {Q : Exit → Act → World → Prop} {aS : AAct}
    (hst : ∀ H', J H' → sideOk P aS H' (sides.map (opAt l)))
    (hq : ∀ (M : Mem) (a : AAct) (H : List AObj) (ca : Act), Ext M0 M → St M H → RelAct M0.w.heap.size M n a ca → q a H → Q .normal ca M.w) :
    ∀ (L : List Nat) (done : Nat → Bool), Sched l done L → (∀ i, done i = true → ∀ o, l[i]? = some o → ∀ e ∈ o.after.toList, always e = true → done e.on = true) →
    ∀ (pre ms : List Nat) (a aM : AAct) (H : List AObj) (M : Mem) (ca : Act), mains = pre ++ ms → (∀ m ∈ pre, done m = true) → (∀ m ∈ ms, done m = false) →
      (∀ t, (∀ s ∈ sides, done s = false → dstAt l s ≠ some t) → aget a t = aget aM t) → (∀ s ∈ sides, ∀ t, (dstAt l s = some t ∨ (done s = false ∧ t ∈ opTmps (opAt l s).op)) → aget aM t = aget aS t) →
      J H → amainK P l J q (ms.map (opAt l)) aM H → Ext M0 M → St M H → RelAct M0.w.heap.size M n a ca → wpOpsIn (Fw rd) 0 P l.toArray Q L ca M.w := by
  simp only [drawOk, Bool.and_eq_true] at hok
  obtain ⟨⟨⟨⟨⟨⟨c1, c2⟩, c3⟩, c4⟩, c5⟩, c6⟩, c7⟩ := hok
  have guardN : ∀ i, i < l.length → (opAt l i).guard = none := fun i hi => by
    rw [List.all_eq_true] at c2
    have := c2 (opAt l i) (List.mem_of_getElem? (opAt_eq hi))
    simpa using this
  have part : ∀ i, i < l.length → (i ∈ sides ∧ i ∉ mains) ∨ (i ∈ mains ∧ i ∉ sides) := fun i hi => by
    rw [List.all_eq_true] at c3
    have := c3 i (by simpa using hi)
    simpa using this
  have s1 : ∀ i, i < l.length → ∀ t ∈ opTmps (opAt l i).op, ∀ j ∈ sides, dstAt l j = some t → j ≠ i ∧ anc l i j = true := fun i hi t ht j hj hd => by
    rw [List.all_eq_true] at c4
    have := c4 i (by simpa using hi)
    rw [List.all_eq_true] at this
    have := this t ht
    rw [List.all_eq_true] at this
    have := this j hj
    simpa [hd] using this
  have s2 : ∀ i ∈ sides, i < l.length ∧ (∃ d, dstAt l i = some d) ∧ (∀ t ∈ opTmps (opAt l i).op, ∀ j ∈ mains, dstAt l j = some t → anc l j i = true) ∧ ∀ j, j < l.length → j ≠ i → dstAt l j ≠ dstAt l i := fun i hi => by
    rw [List.all_eq_true] at c5
    have := c5 i hi
    simp only [Bool.and_eq_true, decide_eq_true_eq] at this
    obtain ⟨⟨⟨h1, h2⟩, h3⟩, h4⟩ := this
    refine ⟨h1, Option.isSome_iff_exists.1 h2, fun t ht j hj hd => ?_, fun j hj hne => ?_⟩
    · rw [List.all_eq_true] at h3
      have := h3 t ht
      rw [List.all_eq_true] at this
      simpa [hd] using this j hj
    · rw [List.all_eq_true] at h4
      have := h4 j (by simpa using hj)
      simpa [hne] using this
  have dstLt : ∀ i, i < l.length → ∀ d, (opAt l i).dst = some d → d < n := fun i hi d hd => by
    unfold dstsOk at hdst
    rw [List.all_eq_true] at hdst
    have := hdst (opAt l i) (List.mem_of_getElem? (opAt_eq hi))
    simpa [hd] using this
  intro L
  induction L with
  | nil =>
    intro done hsch hdc pre ms a aM H M ca hm hpre hms hA hD hJ hmain he hs hr
    cases hsch with
    | nil hall =>
      have hmsn : ms = [] := by
        cases ms with
        | nil => rfl
        | cons m ms =>
          rw [List.all_eq_true] at c6
          have hlt := c6 m (by rw [hm]; simp)
          have := hms m (by simp)
          rw [hall m (by simpa using hlt)] at this
          simp at this
      subst hmsn
      have hw : Weaker a aM := fun t => .inr ((hA t fun s hs' hd => absurd (hall s (s2 s hs').1) (by simp [hd])).symm)
      exact hq M aM H ca he hs (hr.weaken hw) hmain
  | cons i rest ih =>
    intro done hsch hdc pre ms a aM H M ca hm hpre hms hA hD hJ hmain he hs hr
    cases hsch with
    | cons hn hi hready hrest =>
    have hop := opAt_eq hi
    have ancd : ∀ j, anc l i j = true → done j = true := fun j hj => anc_done hdc i hi j hready hj
    -- what it reads is there
    have reads : ∀ t ∈ opTmps (opAt l i).op, aget a t = aget aM t := fun t ht => hA t fun s hs' hd heq => by
      have := ancd s (s1 i hi t ht s hs' heq).2
      rw [hd] at this; simp at this
    have hdc' : ∀ j, (if j = i then true else done j) = true → ∀ o, l[j]? = some o → ∀ e ∈ o.after.toList, always e = true → (if e.on = i then true else done e.on) = true := by
      intro j hj o ho e he' ha
      by_cases e1 : e.on = i
      · rw [if_pos e1]
      · rw [if_neg e1]
        by_cases e2 : j = i
        · subst e2; exact hready o ho e he' ha
        · rw [if_neg e2] at hj; exact hdc j hj o ho e he' ha
    simp only [wpOpsIn, List.getElem?_toArray, hop]
    rw [if_pos (by simp [Region.wanted, guardN i hi])]
    rcases part i hi with ⟨hside, hnm⟩ | ⟨hmn, hns⟩
    · -- a quiet one
      obtain ⟨_, ⟨d, hd⟩, q1, q2⟩ := s2 i hside
      have hS := sideOk_mem (hst H hJ) (opAt l i) (List.mem_map.2 ⟨i, hside, rfl⟩)
      have hd' : (opAt l i).dst = some d := hd
      rw [hd'] at hS
      obtain ⟨k1, k2, k3⟩ := hS
      have hcong : aop P a H (opAt l i).op = aop P aS H (opAt l i).op := aop_congr fun t ht => (reads t ht).trans (hD i hside t (.inr ⟨hn, ht⟩))
      rw [← hcong] at k1 k2 k3
      obtain ⟨nx, cvv, M', r1, r2, r3, r4, r5⟩ := sound_op (P := P) hs hr (opAt l i) k1
      rw [k3] at r4
      rw [k2] at r5
      have hnext : wpOpsIn (Fw rd) 0 P l.toArray Q rest (ca.put (opAt l i).dst cvv) M'.w := by
        refine ih (fun j => if j = i then true else done j) hrest hdc' pre ms (aput (opAt l i).dst (aget aS d) a) aM H M' _ hm (fun m hm' => by by_cases e : m = i <;> simp only [e, if_true, if_false]; exact hpre m hm') (fun m hm' => ?_) (fun t ht => ?_) (fun s hs' t ht => hD s hs' t (ht.imp id fun h => ⟨by by_cases e : s = i <;> simp_all, h.2⟩)) hJ hmain (he.trans r3) r4 ((hr.ext r3).put (dstLt i hi) r5)
        · have : m ≠ i := fun e => hnm (by rw [hm, ← e]; simp [hm'])
          simp only [this, if_false]; exact hms m hm'
        · rw [hd']
          simp only [aput, aget]
          by_cases e : t = d
          · subst e; rw [if_pos rfl]; exact (hD i hside t (.inl hd)).symm
          · rw [if_neg e]
            refine hA t fun s hs' hds heq => ?_
            by_cases e2 : s = i
            · subst e2; rw [hd] at heq; exact e (Option.some.inj heq).symm
            · exact ht s hs' (by simp only [e2, if_false]; exact hds) heq
      refine ⟨noDefer_about _ _ _, ?_⟩
      rw [Oper.semAt_eq _ _ _ (fun c e => by rw [e] at k1; exact k1), r1]
      cases nx <;> simp [Next.val] at r2
      · subst r2; rw [Oper.uponIn_value]; exact hnext
      · subst r2; rw [Oper.uponIn_skip]; exact hnext
    · -- one of the others: the next one
      have him : i ∈ ms := by
        rw [hm] at hmn
        rcases List.mem_append.1 hmn with h | h
        · have := hpre i h; rw [hn] at this; simp at this
        · exact h
      cases ms with
      | nil => simp at him
      | cons m ms' =>
        have hmi : i = m := by
          rcases List.mem_cons.1 him with h | h
          · exact h
          · have hp := mem_pairs hm h
            rw [List.all_eq_true] at c7
            have := c7 _ hp
            simp only [Bool.and_eq_true] at this
            have hdm := ancd m this.2
            rw [hms m (by simp)] at hdm
            simp at hdm
        subst hmi
        have hmain' := hmain
        simp only [List.map_cons, amainK] at hmain'
        unfold awpOps at hmain'
        rw [guardN i hi] at hmain'
        simp only at hmain'
        have hrun : arun P (opAt l i) a H (fun a1 H1 => ∃ aM1, (∃ v, a1 = aput (opAt l i).dst v a ∧ aM1 = aput (opAt l i).dst v aM) ∧ J H1 ∧ amainK P l J q (ms'.map (opAt l)) aM1 H1) :=
          arun_congr reads (fun v H' hk => ⟨aput (opAt l i).dst v aM, ⟨v, rfl, rfl⟩, hk.1, hk.2⟩) hmain'
        refine sound_run he hs hr (opAt l i) (dstLt i hi) ?_ hrun
        rintro M' a1 H1 ca1 he1 hs1 hr1 ⟨aM1, ⟨v, rfl, rfl⟩, hJ1, hmain1⟩
        have hnotside : ∀ s ∈ sides, ∀ d, (opAt l i).dst = some d → dstAt l s ≠ some d ∧ (done s = false → d ∉ opTmps (opAt l s).op) := by
          intro s hs' d hd
          obtain ⟨_, _, q1, q2⟩ := s2 s hs'
          refine ⟨fun heq => ?_, fun hds hmem => by have := ancd s (q1 d hmem i hmn hd); rw [hds] at this; simp at this⟩
          exact q2 i hi (fun e => hns (e ▸ hs')) (by rw [heq]; exact hd)
        refine ih (fun j => if j = i then true else done j) hrest hdc' (pre ++ [i]) ms' _ _ H1 M' ca1 (by rw [hm]; simp) (fun m hm' => ?_) (fun m hm' => ?_) (fun t ht => ?_) (fun s hs' t ht => ?_) hJ1 hmain1 he1 hs1 hr1
        · by_cases hne : m = i
          · simp only [hne, if_true]
          · simp only [hne, if_false]
            rcases List.mem_append.1 hm' with h | h
            · exact hpre m h
            · simp at h; exact absurd h hne
        · have : m ≠ i := fun e => by
            have hp := mem_pairs hm hm'
            rw [List.all_eq_true] at c7
            have := c7 _ hp
            simp [e] at this
          simp only [this, if_false]; exact hms m (by simp [hm'])
        · have hbase : aget a t = aget aM t := hA t fun s hs' hds heq => ht s hs' (by
            have : s ≠ i := fun e => hns (e ▸ hs')
            simp only [this, if_false]; exact hds) heq
          cases hd : (opAt l i).dst with
          | none => simpa [aput] using hbase
          | some d =>
            simp only [aput, aget]
            split
            · rfl
            · exact hbase
        · cases hd : (opAt l i).dst with
          | none =>
            refine hD s hs' t (ht.imp id fun h => ⟨?_, h.2⟩)
            have h1 := h.1
            by_cases e : s = i <;> simp_all
          | some d =>
            have hne : s ≠ i := fun e => hns (e ▸ hs')
            simp only [hne, if_false] at ht
            obtain ⟨n1, n2⟩ := hnotside s hs' d hd
            simp only [aput, aget]
            have : t ≠ d := by
              rintro rfl
              rcases ht with h | h
              · exact n1 h
              · exact n2 h.1 h.2
            rw [if_neg this]
            exact hD s hs' t ht

def sideAct (P : Program) (H : List AObj) : List Oper → AAct → AAct
  | [], a => a
  | o :: rest, a => sideAct P H rest (aput o.dst (aop P a H o.op).v a)

theorem sideAct_get {P : Program} {H : List AObj} : ∀ (L : List Oper) (a : AAct) (t : Nat), (∀ o ∈ L, o.dst ≠ some t) → aget (sideAct P H L a) t = aget a t
  | [], a, t, _ => rfl
  | o :: L, a, t, h => by
    simp only [sideAct]
    rw [sideAct_get L _ t (fun o' ho => h o' (by simp [ho]))]
    have := h o (by simp)
    cases hd : o.dst with
    | none => rfl
    | some d =>
      show aget ((d, _) :: a) t = _
      simp only [aget]
      rw [if_neg (fun e => this (by rw [hd, e]))]

/-- A region that draws its order: the quiet operations (sides) tell the same wherever they come; the others (mains) have one order. -/
theorem awp_region_draw {P : Program} {n : Nat} {M0 : Mem} {rd : Option Nat} {Q : Exit → AAct → List AObj → Prop} {a : AAct} {H : List AObj} {id : Nat} {l : List Oper} (sides mains : List Nat) (J : List AObj → Prop) {aS : AAct}
    (hok : drawOk l sides mains = true) (hd : dstsOk n l = true) (hS : sideAct P H (sides.map (opAt l)) a = aS) (h1 : ∀ H', J H' → sideOk P aS H' (sides.map (opAt l))) (h2 : J H)
    (h3 : amainK P l J (Q .normal) (mains.map (opAt l)) aS H) : awp P n M0 rd (.region id l.toArray true) Q a H := by
  intro M ca he hs hr
  refine wpIn_region_draw fun t => ?_
  have hb : backEdges l = true := by
    simp only [drawOk, Bool.and_eq_true] at hok
    exact hok.1.1.1.1.1.1
  have hs' := hs.drew
  have he' : Ext M0 (M.withW M.w.drew) := he.trans drew_ext
  have hr' := hr.ext (drew_ext (M := M))
  refine draw_sound hok hd h1 (fun M a H ca he hs hr hq => ⟨M, a, H, rfl, he, hs, hr, hq⟩) _ _ (schedule_sched hb _ t) (fun i hi => by simp at hi) [] mains a aS H (M.withW M.w.drew) ca rfl (by simp) (fun _ _ => rfl) (fun t ht => ?_) (fun _ _ _ _ => rfl) h2 h3 he' hs' hr'
  rw [← hS]
  refine (sideAct_get _ _ _ fun o ho => ?_).symm
  obtain ⟨s, hs1, rfl⟩ := List.mem_map.1 ho
  exact ht s hs1 rfl

theorem amainK_nil {P : Program} {l : List Oper} {J : List AObj → Prop} {q : AAct → List AObj → Prop} {a : AAct} {H : List AObj} : amainK P l J q [] a H = q a H := rfl
/-- What stands behind one of the others. -/
def mainK (P : Program) (l : List Oper) (J : List AObj → Prop) (q : AAct → List AObj → Prop) (rest : List Oper) (a : AAct) (H : List AObj) : Prop := J H ∧ amainK P l J q rest a H
theorem mainK_eq {P : Program} {l : List Oper} {J : List AObj → Prop} {q : AAct → List AObj → Prop} {rest : List Oper} {a : AAct} {H : List AObj} : mainK P l J q rest a H = (J H ∧ amainK P l J q rest a H) := rfl
theorem amainK_cons {P : Program} {l : List Oper} {J : List AObj → Prop} {q : AAct → List AObj → Prop} {o : Oper} {rest : List Oper} {a : AAct} {H : List AObj} : amainK P l J q (o :: rest) a H = awpOps P l (mainK P l J q rest) [o] a H := rfl

end Go.R
