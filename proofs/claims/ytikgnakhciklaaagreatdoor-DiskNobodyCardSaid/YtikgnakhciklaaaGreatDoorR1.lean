/-
  The abstract layer, part 17b: regions that draw their order, with operations that wait on a condition.
-/
import Derived.Test.YtikgnakhciklaaaGreatDoorRv
namespace Go.R
set_option linter.unusedSectionVars false
variable [Syms]
set_option linter.unusedSimpArgs false
set_option linter.unusedVariables false

/-- The temporary on which an operation waits. -/
def gtmp (l : List Oper) (i : Nat) : List Nat := match (opAt l i).guard with | some (j, _) => (dstAt l j).toList | none => []
/-- What an operation reads. -/
def opReads (l : List Oper) (i : Nat) : List Nat := opTmps (opAt l i).op ++ gtmp l i

theorem dstAt_eq (l : List Oper) {j : Nat} (h : j < l.length) : (l[j]?).bind (·.dst) = dstAt l j := by
  rw [opAt_eq h]; rfl

theorem gval_congr {l : List Oper} {a a' : AAct} {j : Nat} (hj : j < l.length) (h : ∀ d, dstAt l j = some d → aget a d = aget a' d) : gval l a j = gval l a' j := by
  unfold gval
  rw [dstAt_eq l hj]
  cases hd : dstAt l j with
  | none => rfl
  | some d => simp only [h d hd]

/-- Is an operation carried out? none: it cannot be told. -/
def wants (l : List Oper) (a : AAct) (o : Oper) : Option Bool :=
  match o.guard with
  | none => some true
  | some (j, w) =>
    match gval l a j with
    | some (some b) => some (b == w)
    | some none => some false
    | none => none

theorem wants_sound {M : Mem} {B n : Nat} {a : AAct} {ca : Act} (h : RelAct B M n a ca) {l : List Oper} {o : Oper} {r : Bool} (hw : wants l a o = some r) : Region.wanted o (yielded l.toArray ca.tmps) = r := by
  unfold wants at hw
  split at hw
  · rename_i hg
    simp at hw; subst hw
    simp [Region.wanted, hg]
  · rename_i j w hg
    split at hw
    · rename_i b hv
      have := gval_sound h l j hv
      simp at hw; subst hw
      simp [Region.wanted, hg, this]
    · rename_i hv
      have := gval_sound h l j hv
      simp at hw; subst hw
      simp [Region.wanted, hg, this]
    · simp at hw

theorem wants_congr {l : List Oper} {a a' : AAct} {i : Nat} (hg : ∀ j w, (opAt l i).guard = some (j, w) → j < l.length) (h : ∀ t ∈ gtmp l i, aget a t = aget a' t) : wants l a (opAt l i) = wants l a' (opAt l i) := by
  unfold wants
  unfold gtmp at h
  cases hgd : (opAt l i).guard with
  | none => rfl
  | some p =>
    obtain ⟨j, w⟩ := p
    simp only [hgd] at h ⊢
    rw [gval_congr (hg j w hgd) (fun d hd => h d (by simp [hd]))]

def sideOne (P : Program) (l : List Oper) (a : AAct) (H : List AObj) (o : Oper) : Prop :=
  match o.dst, wants l a o with
  | some d, some true => (aop P a H o.op).ok ∧ (aop P a H o.op).v = aget a d ∧ (aop P a H o.op).h = H
  | some d, some false => aget a d = .tup []
  | _, _ => False

def sideOkG (P : Program) (l : List Oper) (a : AAct) (H : List AObj) : List Oper → Prop
  | [] => True
  | o :: rest => sideOne P l a H o ∧ sideOkG P l a H rest

theorem sideOkG_mem {P : Program} {l : List Oper} {a : AAct} {H : List AObj} {L : List Oper} (h : sideOkG P l a H L) : ∀ o ∈ L, sideOne P l a H o := by
  induction L with
  | nil => intro x hx; simp at hx
  | cons o L ih =>
    intro x hx
    rcases List.mem_cons.1 hx with rfl | hx
    · exact h.1
    · exact ih h.2 x hx

def sideActG (P : Program) (l : List Oper) (H : List AObj) : List Oper → AAct → AAct
  | [], a => a
  | o :: rest, a => sideActG P l H rest (aput o.dst (match wants l a o with | some true => (aop P a H o.op).v | _ => .tup []) a)

theorem sideActG_get {P : Program} {l : List Oper} {H : List AObj} : ∀ (L : List Oper) (a : AAct) (t : Nat), (∀ o ∈ L, o.dst ≠ some t) → aget (sideActG P l H L a) t = aget a t
  | [], a, t, _ => rfl
  | o :: L, a, t, h => by
    simp only [sideActG]
    rw [sideActG_get L _ t (fun o' ho => h o' (by simp [ho]))]
    have := h o (by simp)
    cases hd : o.dst with
    | none => rfl
    | some d =>
      show aget ((d, _) :: a) t = _
      simp only [aget]
      rw [if_neg (fun e => this (by rw [hd, e]))]

theorem awpOps_one {P : Program} {l : List Oper} {q : AAct → List AObj → Prop} {o : Oper} {a : AAct} {H : List AObj} (h : awpOps P l q [o] a H) : (wants l a o = some true ∧ arun P o a H q) ∨ (wants l a o = some false ∧ q (aput o.dst (.tup []) a) H) := by
  unfold awpOps at h
  unfold wants
  split at h
  · rename_i hg
    rw [hg]
    exact .inl ⟨rfl, h⟩
  · rename_i j w hg
    rw [hg]
    simp only
    split at h
    · rename_i b hv
      rw [hv]
      by_cases hb : b = w
      · exact .inl ⟨by simp [hb], h.1 hb⟩
      · exact .inr ⟨by simp [hb], h.2 hb⟩
    · rename_i hv
      rw [hv]
      exact .inr ⟨rfl, h⟩
    · exact h.elim

def drawOkG (l : List Oper) (sides mains : List Nat) : Bool :=
  backEdges l && (List.range l.length).all (fun i => match (opAt l i).guard with | some (j, _) => decide (j < l.length) | none => true) &&
  (List.range l.length).all (fun i => (sides.contains i && !mains.contains i) || (mains.contains i && !sides.contains i)) &&
  (List.range l.length).all (fun i => (opReads l i).all fun t => sides.all fun j => dstAt l j != some t || (j != i && anc l i j)) &&
  sides.all (fun i => decide (i < l.length) && (dstAt l i).isSome && (opReads l i).all (fun t => mains.all fun j => dstAt l j != some t || anc l j i) && (List.range l.length).all (fun j => j == i || dstAt l j != dstAt l i)) &&
  mains.all (fun i => decide (i < l.length)) &&
  decide mains.Nodup

/-- The others, in tr's orders; ss: the quiet ones that may still come. -/
def amainG (P : Program) (l : List Oper) (aS : AAct) (q : AAct → List AObj → Prop) : Tr → List Nat → AAct → List AObj → Prop
  | .done, _, a, H => q a H
  | .step m t, ss, a, H => awpOps P l (fun a' H' => sideOkG P l aS H' ((ss.filter fun s => !anc l m s).map (opAt l)) ∧ amainG P l aS q t (ss.filter fun s => !anc l m s) a' H') [opAt l m] a H
  | .both s t, ss, a, H => amainG P l aS q s ss a H ∧ amainG P l aS q t ss a H

theorem amainG_pick {P : Program} {l : List Oper} {aS : AAct} {q : AAct → List AObj → Prop} {a : AAct} {H : List AObj} {ss rem : List Nat} {i : Nat} : ∀ {t : Tr}, amainG P l aS q t ss a H → t.ok l rem = true → i ∈ t.heads →
    ∃ t' : Tr, awpOps P l (fun a' H' => sideOkG P l aS H' ((ss.filter fun s => !anc l i s).map (opAt l)) ∧ amainG P l aS q t' (ss.filter fun s => !anc l i s) a' H') [opAt l i] a H ∧ t'.full l (rem.erase i) = true ∧ t'.ok l (rem.erase i) = true
  | .done, _, _, h => by simp [Tr.heads] at h
  | .step m t, h, ho, hi => by
    simp [Tr.heads] at hi
    subst hi
    simp only [Tr.ok, Bool.and_eq_true] at ho
    exact ⟨t, h, ho.1.2, ho.2⟩
  | .both s t, h, ho, hi => by
    simp only [Tr.ok, Bool.and_eq_true] at ho
    simp only [Tr.heads, List.mem_append] at hi
    rcases hi with hi | hi
    · exact amainG_pick h.1 ho.1 hi
    · exact amainG_pick h.2 ho.2 hi

set_option maxHeartbeats 0 in
theorem drawG_sound {P : Program} {n : Nat} {M0 : Mem} {rd : Option Nat} {l : List Oper} {sides mains : List Nat} (hok : drawOkG l sides mains = true) (hdst : dstsOk n l = true) {q : AAct → List AObj → Prop} {Q : Exit → Act → World → Prop} {aS : AAct}
    (hq : ∀ (M : Mem) (a : AAct) (H : List AObj) (ca : Act), Ext M0 M → St M H → RelAct M0.w.heap.size M n a ca → q a H → Q .normal ca M.w) :
    ∀ (L : List Nat) (done : Nat → Bool), Sched l done L → (∀ i, done i = true → ∀ o, l[i]? = some o → ∀ e ∈ o.after.toList, always e = true → done e.on = true) →
    ∀ (rem ss : List Nat) (tr : Tr) (a aM : AAct) (H : List AObj) (M : Mem) (ca : Act), rem.Nodup → (∀ m ∈ rem, m ∈ mains ∧ done m = false) → (∀ m ∈ mains, done m = false → m ∈ rem) → tr.full l rem = true → tr.ok l rem = true →
      (∀ t, (∀ s ∈ sides, done s = false → dstAt l s ≠ some t) → aget a t = aget aM t) → (∀ s ∈ sides, ∀ t, (dstAt l s = some t ∨ (done s = false ∧ t ∈ opReads l s)) → aget aM t = aget aS t) →
      (∀ s ∈ sides, done s = false → s ∈ ss) → sideOkG P l aS H (ss.map (opAt l)) → amainG P l aS q tr ss aM H → Ext M0 M → St M H → RelAct M0.w.heap.size M n a ca → wpOpsIn (Fw rd) 0 P l.toArray Q L ca M.w := by
  simp only [drawOkG, Bool.and_eq_true] at hok
  obtain ⟨⟨⟨⟨⟨⟨c1, c2⟩, c3⟩, c4⟩, c5⟩, c6⟩, c7⟩ := hok
  have guardL : ∀ i, i < l.length → ∀ j w, (opAt l i).guard = some (j, w) → j < l.length := fun i hi j w hg => by
    rw [List.all_eq_true] at c2
    have := c2 i (by simpa using hi)
    rw [hg] at this
    simpa using this
  have part : ∀ i, i < l.length → (i ∈ sides ∧ i ∉ mains) ∨ (i ∈ mains ∧ i ∉ sides) := fun i hi => by
    rw [List.all_eq_true] at c3
    have := c3 i (by simpa using hi)
    simpa using this
  have s1 : ∀ i, i < l.length → ∀ t ∈ opReads l i, ∀ j ∈ sides, dstAt l j = some t → j ≠ i ∧ anc l i j = true := fun i hi t ht j hj hd => by
    rw [List.all_eq_true] at c4
    have := c4 i (by simpa using hi)
    rw [List.all_eq_true] at this
    have := this t ht
    rw [List.all_eq_true] at this
    have := this j hj
    simpa [hd] using this
  have s2 : ∀ i ∈ sides, i < l.length ∧ (∃ d, dstAt l i = some d) ∧ (∀ t ∈ opReads l i, ∀ j ∈ mains, dstAt l j = some t → anc l j i = true) ∧ ∀ j, j < l.length → j ≠ i → dstAt l j ≠ dstAt l i := fun i hi => by
    rw [List.all_eq_true] at c5
    have := c5 i hi
    simp only [Bool.and_eq_true, decide_eq_true_eq] at this
    obtain ⟨⟨⟨h1, h2⟩, h3⟩, h4⟩ := this
    refine ⟨h1, Option.isSome_iff_exists.1 h2, fun t ht j hj hd => ?_, fun j hj hne => ?_⟩
    · rw [List.all_eq_true] at h3
      have := h3 t ht
      rw [List.all_eq_true] at this
      simpa [hd] using this j hj
    · rw [List.all_eq_true] at h4
      have := h4 j (by simpa using hj)
      simpa [hne] using this
  have dstLt : ∀ i, i < l.length → ∀ d, (opAt l i).dst = some d → d < n := fun i hi d hd => by
    unfold dstsOk at hdst
    rw [List.all_eq_true] at hdst
    have := hdst (opAt l i) (List.mem_of_getElem? (opAt_eq hi))
    simpa [hd] using this
  intro L
  induction L with
  | nil =>
    intro done hsch hdc rem ss tr a aM H M ca hnd hq1 hq2 hfull htok hA hD hss hJ hmain he hs hr
    cases hsch with
    | nil hall =>
      have hmsn : rem = [] := by
        cases rem with
        | nil => rfl
        | cons m ms =>
          have h1 := hq1 m (by simp)
          rw [List.all_eq_true] at c6
          have hlt := c6 m h1.1
          rw [hall m (by simpa using hlt)] at h1
          simp at h1
      subst hmsn
      have hmain : q aM H := by
        clear hfull
        induction tr with
        | done => exact hmain
        | step m t _ => simp [Tr.ok] at htok
        | both s t ih1 ih2 =>
          simp only [Tr.ok, Bool.and_eq_true] at htok
          exact ih1 hmain.1 htok.1
      have hw : Weaker a aM := fun t => .inr ((hA t fun s hs' hd => absurd (hall s (s2 s hs').1) (by simp [hd])).symm)
      exact hq M aM H ca he hs (hr.weaken hw) hmain
  | cons i rest ih =>
    intro done hsch hdc rem ss tr a aM H M ca hnd hq1 hq2 hfull htok hA hD hss hJ hmain he hs hr
    cases hsch with
    | cons hn hi hready hrest =>
    have hop := opAt_eq hi
    have ancd : ∀ j, anc l i j = true → done j = true := fun j hj => anc_done hdc i hi j hready hj
    -- what it reads is there
    have reads : ∀ t ∈ opReads l i, aget a t = aget aM t := fun t ht => hA t fun s hs' hd heq => by
      have := ancd s (s1 i hi t ht s hs' heq).2
      rw [hd] at this; simp at this
    have hdc' : ∀ j, (if j = i then true else done j) = true → ∀ o, l[j]? = some o → ∀ e ∈ o.after.toList, always e = true → (if e.on = i then true else done e.on) = true := by
      intro j hj o ho e he' ha
      by_cases e1 : e.on = i
      · rw [if_pos e1]
      · rw [if_neg e1]
        by_cases e2 : j = i
        · subst e2; exact hready o ho e he' ha
        · rw [if_neg e2] at hj; exact hdc j hj o ho e he' ha
    simp only [wpOpsIn, List.getElem?_toArray, hop]
    rcases part i hi with ⟨hside, hnm⟩ | ⟨hmn, hns⟩
    · -- a quiet one
      obtain ⟨_, ⟨d, hd⟩, q1, q2⟩ := s2 i hside
      have hS := sideOkG_mem hJ (opAt l i) (List.mem_map.2 ⟨i, hss i hside hn, rfl⟩)
      have hd' : (opAt l i).dst = some d := hd
      have readsS : ∀ t ∈ opReads l i, aget a t = aget aS t := fun t ht => (reads t ht).trans (hD i hside t (.inr ⟨hn, ht⟩))
      have hwc : wants l a (opAt l i) = wants l aS (opAt l i) := wants_congr (guardL i hi) fun t ht => readsS t (by unfold opReads; exact List.mem_append_right _ ht)
      unfold sideOne at hS
      rw [hd', ← hwc] at hS
      have step : ∀ (M' : Mem) (cvv : Value), Ext M M' → St M' H → RelA M' (aget aS d) cvv → wpOpsIn (Fw rd) 0 P l.toArray Q rest (ca.put (opAt l i).dst cvv) M'.w := by
        intro M' cvv r3 r4 r5
        refine ih (fun j => if j = i then true else done j) hrest hdc' rem ss tr (aput (opAt l i).dst (aget aS d) a) aM H M' _ hnd (fun m hm' => ?_) (fun m hm' hd => hq2 m hm' (by by_cases e : m = i <;> simp_all)) hfull htok (fun t ht => ?_) (fun s hs' t ht => hD s hs' t (ht.imp id fun h => ⟨by by_cases e : s = i <;> simp_all, h.2⟩)) (fun s hs' hds => hss s hs' (by by_cases e : s = i <;> simp_all)) hJ hmain (he.trans r3) r4 ((hr.ext r3).put (dstLt i hi) r5)
        · have h1 := hq1 m hm'
          have : m ≠ i := fun e => hnm (e ▸ h1.1)
          simp only [this, if_false]; exact h1
        · rw [hd']
          simp only [aput, aget]
          by_cases e : t = d
          · subst e; rw [if_pos rfl]; exact (hD i hside t (.inl hd)).symm
          · rw [if_neg e]
            refine hA t fun s hs' hds heq => ?_
            by_cases e2 : s = i
            · subst e2; rw [hd] at heq; exact e (Option.some.inj heq).symm
            · exact ht s hs' (by simp only [e2, if_false]; exact hds) heq
      cases hw : wants l a (opAt l i) with
      | none => rw [hw] at hS; exact hS.elim
      | some r =>
        rw [hw] at hS
        rw [wants_sound hr hw]
        cases r with
        | false =>
          simp only at hS
          rw [if_neg (by simp)]
          refine ⟨noDefer_about _ _ _, step M undef (.refl M) hs ?_⟩
          rw [hS]; exact undef_rel M
        | true =>
          simp only at hS
          rw [if_pos rfl]
          obtain ⟨k1, k2, k3⟩ := hS
          have hcong : aop P a H (opAt l i).op = aop P aS H (opAt l i).op := aop_congr fun t ht => readsS t (by unfold opReads; exact List.mem_append_left _ ht)
          rw [← hcong] at k1 k2 k3
          obtain ⟨nx, cvv, M', r1, r2, r3, r4, r5⟩ := sound_op (P := P) hs hr (opAt l i) k1
          rw [k3] at r4
          rw [k2] at r5
          refine ⟨noDefer_about _ _ _, ?_⟩
          rw [Oper.semAt_eq _ _ _ (fun c e => by rw [e] at k1; exact k1), r1]
          cases nx <;> simp [Next.val] at r2
          · subst r2; rw [Oper.uponIn_value]; exact step M' _ r3 r4 r5
          · subst r2; rw [Oper.uponIn_skip]; exact step M' _ r3 r4 r5
    · -- one of the others: the next one
      have him : i ∈ rem := hq2 i hmn hn
      have hih : i ∈ tr.heads := by
        unfold Tr.full at hfull
        rw [List.all_eq_true] at hfull
        have := hfull i him
        simp only [Bool.or_eq_true, List.contains_iff_mem] at this
        rcases this with h | h
        · exact h
        · rw [List.any_eq_true] at h
          obtain ⟨j, hj, hj2⟩ := h
          simp only [Bool.and_eq_true] at hj2
          have h1 := ancd j hj2.2
          rw [(hq1 j hj).2] at h1
          simp at h1
      obtain ⟨tr', hmain', hfull', htok'⟩ := amainG_pick hmain htok hih
      have hwc : wants l a (opAt l i) = wants l aM (opAt l i) := wants_congr (guardL i hi) fun t ht => reads t (by unfold opReads; exact List.mem_append_right _ ht)
      have fin : ∀ (M' : Mem) (a1 : AAct) (H1 : List AObj) (ca1 : Act), Ext M0 M' → St M' H1 → RelAct M0.w.heap.size M' n a1 ca1 → (∃ aM1, (∃ v, a1 = aput (opAt l i).dst v a ∧ aM1 = aput (opAt l i).dst v aM) ∧ sideOkG P l aS H1 ((ss.filter fun s => !anc l i s).map (opAt l)) ∧ amainG P l aS q tr' (ss.filter fun s => !anc l i s) aM1 H1) →
          wpOpsIn (Fw rd) 0 P l.toArray Q rest ca1 M'.w := by
        rintro M' a1 H1 ca1 he1 hs1 hr1 ⟨aM1, ⟨v, rfl, rfl⟩, hJ1, hmain1⟩
        have hnotside : ∀ s ∈ sides, ∀ d, (opAt l i).dst = some d → dstAt l s ≠ some d ∧ (done s = false → d ∉ opReads l s) := by
          intro s hs' d hd
          obtain ⟨_, _, q1, q2⟩ := s2 s hs'
          refine ⟨fun heq => ?_, fun hds hmem => by have := ancd s (q1 d hmem i hmn hd); rw [hds] at this; simp at this⟩
          exact q2 i hi (fun e => hns (e ▸ hs')) (by rw [heq]; exact hd)
        refine ih (fun j => if j = i then true else done j) hrest hdc' (rem.erase i) (ss.filter fun s => !anc l i s) tr' _ _ H1 M' ca1 (hnd.erase i) (fun m hm' => ?_) (fun m hm' hd => ?_) hfull' htok' (fun t ht => ?_) (fun s hs' t ht => ?_) (fun s hs' hds => ?_) hJ1 hmain1 he1 hs1 hr1
        · rw [hnd.mem_erase_iff] at hm'
          simp only [hm'.1, if_false]; exact hq1 m hm'.2
        · have hne : m ≠ i := fun e => by simp [e] at hd
          simp only [hne, if_false] at hd
          exact (List.mem_erase_of_ne hne).2 (hq2 m hm' hd)
        · have hbase : aget a t = aget aM t := hA t fun s hs' hds heq => ht s hs' (by
            have : s ≠ i := fun e => hns (e ▸ hs')
            simp only [this, if_false]; exact hds) heq
          cases hd : (opAt l i).dst with
          | none => simpa [aput] using hbase
          | some d =>
            simp only [aput, aget]
            split
            · rfl
            · exact hbase
        · cases hd : (opAt l i).dst with
          | none =>
            refine hD s hs' t (ht.imp id fun h => ⟨?_, h.2⟩)
            have h1 := h.1
            by_cases e : s = i <;> simp_all
          | some d =>
            have hne : s ≠ i := fun e => hns (e ▸ hs')
            simp only [hne, if_false] at ht
            obtain ⟨n1, n2⟩ := hnotside s hs' d hd
            simp only [aput, aget]
            have : t ≠ d := by
              rintro rfl
              rcases ht with h | h
              · exact n1 h
              · exact n2 h.1 h.2
            rw [if_neg this]
            exact hD s hs' t ht
        · have hne : s ≠ i := fun e => hns (e ▸ hs')
          simp only [hne, if_false] at hds
          rw [List.mem_filter]
          refine ⟨hss s hs' hds, ?_⟩
          cases hanc : anc l i s with
          | false => rfl
          | true =>
            have := ancd s hanc
            rw [hds] at this; simp at this


      rcases awpOps_one hmain' with ⟨hw, hrun0⟩ | ⟨hw, hk⟩
      · rw [← hwc] at hw
        rw [wants_sound hr hw, if_pos rfl]
        have hrun : arun P (opAt l i) a H (fun a1 H1 => ∃ aM1, (∃ v, a1 = aput (opAt l i).dst v a ∧ aM1 = aput (opAt l i).dst v aM) ∧ sideOkG P l aS H1 ((ss.filter fun s => !anc l i s).map (opAt l)) ∧ amainG P l aS q tr' (ss.filter fun s => !anc l i s) aM1 H1) :=
          arun_congr (fun t ht => reads t (by unfold opReads; exact List.mem_append_left _ ht)) (fun v H' hk => ⟨aput (opAt l i).dst v aM, ⟨v, rfl, rfl⟩, hk.1, hk.2⟩) hrun0
        exact sound_run he hs hr (opAt l i) (dstLt i hi) fin hrun
      · rw [← hwc] at hw
        rw [wants_sound hr hw, if_neg (by simp)]
        exact ⟨noDefer_about _ _ _, fin M _ H _ he hs (hr.put (dstLt i hi) (undef_rel M)) ⟨_, ⟨_, rfl, rfl⟩, hk.1, hk.2⟩⟩

/-- A region that draws its order, with operations that wait on a condition. -/
theorem awp_region_drawG {P : Program} {n : Nat} {M0 : Mem} {rd : Option Nat} {Q : Exit → AAct → List AObj → Prop} {a : AAct} {H : List AObj} {id : Nat} {l : List Oper} (sides mains : List Nat) (tr : Tr) {aS : AAct}
    (hok : (drawOkG l sides mains && tr.full l mains && tr.ok l mains) = true) (hd : dstsOk n l = true) (hS : sideActG P l H (sides.map (opAt l)) a = aS) (h1 : sideOkG P l aS H (sides.map (opAt l)))
    (h3 : amainG P l aS (Q .normal) tr sides aS H) : awp P n M0 rd (.region id l.toArray true) Q a H := by
  intro M ca he hs hr
  simp only [Bool.and_eq_true] at hok
  obtain ⟨⟨hok, hfull⟩, htok⟩ := hok
  refine wpIn_region_draw fun t => ?_
  have hok' := hok
  simp only [drawOkG, Bool.and_eq_true, decide_eq_true_eq] at hok'
  have hb : backEdges l = true := hok'.1.1.1.1.1.1
  have hs' := hs.drew
  have he' : Ext M0 (M.withW M.w.drew) := he.trans drew_ext
  have hr' := hr.ext (drew_ext (M := M))
  refine drawG_sound hok hd (fun M a H ca he hs hr hq => ⟨M, a, H, rfl, he, hs, hr, hq⟩) _ _ (schedule_sched hb _ t) (fun i hi => by simp at hi) mains sides tr a aS H (M.withW M.w.drew) ca hok'.2 (fun m hm => ⟨hm, rfl⟩) (fun m hm _ => hm) hfull htok (fun t ht => ?_) (fun _ _ _ _ => rfl) (fun s hs' _ => hs') h1 h3 he' hs' hr'
  rw [← hS]
  refine (sideActG_get _ _ _ fun o ho => ?_).symm
  obtain ⟨s, hs1, rfl⟩ := List.mem_map.1 ho
  exact ht s hs1 rfl

end Go.R
