/-
  The abstract layer, part 17: regions that draw their order, some of whose operations have no order among them: each order is gone through.
-/
import Derived.Test.YtikgnakhciklaaaGreatDoorRq
namespace Go.R
set_option linter.unusedSectionVars false
variable [Syms]
set_option linter.unusedSimpArgs false
set_option linter.unusedVariables false

/-- The orders in which the others may come. -/
inductive Tr where
  | done
  | step (m : Nat) (t : Tr)
  | both (s t : Tr)

def Tr.heads : Tr → List Nat
  | .done => []
  | .step m _ => [m]
  | .both s t => s.heads ++ t.heads

/-- All that may come next is there. -/
def Tr.full (l : List Oper) (rem : List Nat) (t : Tr) : Bool := rem.all fun m => t.heads.contains m || rem.any fun j => j != m && anc l m j

def Tr.ok (l : List Oper) : Tr → List Nat → Bool
  | .done, rem => rem.isEmpty
  | .step m t, rem => rem.contains m && t.full l (rem.erase m) && t.ok l (rem.erase m)
  | .both s t, rem => s.ok l rem && t.ok l rem

def amainT (P : Program) (l : List Oper) (J : List AObj → Prop) (q : AAct → List AObj → Prop) : Tr → AAct → List AObj → Prop
  | .done, a, H => q a H
  | .step m t, a, H => awpOps P l (fun a' H' => J H' ∧ amainT P l J q t a' H') [opAt l m] a H
  | .both s t, a, H => amainT P l J q s a H ∧ amainT P l J q t a H

theorem amainT_pick {P : Program} {l : List Oper} {J : List AObj → Prop} {q : AAct → List AObj → Prop} {a : AAct} {H : List AObj} {rem : List Nat} {i : Nat} : ∀ {t : Tr}, amainT P l J q t a H → t.ok l rem = true → i ∈ t.heads →
    ∃ t' : Tr, awpOps P l (fun a' H' => J H' ∧ amainT P l J q t' a' H') [opAt l i] a H ∧ t'.full l (rem.erase i) = true ∧ t'.ok l (rem.erase i) = true
  | .done, _, _, h => by simp [Tr.heads] at h
  | .step m t, h, ho, hi => by
    simp [Tr.heads] at hi
    subst hi
    simp only [Tr.ok, Bool.and_eq_true] at ho
    exact ⟨t, h, ho.1.2, ho.2⟩
  | .both s t, h, ho, hi => by
    simp only [Tr.ok, Bool.and_eq_true] at ho
    simp only [Tr.heads, List.mem_append] at hi
    rcases hi with hi | hi
    · exact amainT_pick h.1 ho.1 hi
    · exact amainT_pick h.2 ho.2 hi

def drawOkT (l : List Oper) (sides mains : List Nat) : Bool :=
  backEdges l && l.all (fun o => o.guard.isNone) &&
  (List.range l.length).all (fun i => (sides.contains i && !mains.contains i) || (mains.contains i && !sides.contains i)) &&
  (List.range l.length).all (fun i => (opTmps (opAt l i).op).all fun t => sides.all fun j => dstAt l j != some t || (j != i && anc l i j)) &&
  sides.all (fun i => decide (i < l.length) && (dstAt l i).isSome && (opTmps (opAt l i).op).all (fun t => mains.all fun j => dstAt l j != some t || anc l j i) && (List.range l.length).all (fun j => j == i || dstAt l j != dstAt l i)) &&
  mains.all (fun i => decide (i < l.length)) &&
  decide mains.Nodup

theorem drawT_sound {P : Program} {n : Nat} {M0 : Mem} {rd : Option Nat} {l : List Oper} {sides mains : List Nat} (hok : drawOkT l sides mains = true) (hdst : dstsOk n l = true) {J : List AObj → Prop} {q : AAct → List AObj → Prop} {Q : Exit → Act → World → Prop} {aS : AAct}
    (hst : ∀ H', J H' → sideOk P aS H' (sides.map (opAt l)))
    (hq : ∀ (M : Mem) (a : AAct) (H : List AObj) (ca : Act), Ext M0 M → St M H → RelAct M0.w.heap.size M n a ca → q a H → Q .normal ca M.w) :
    ∀ (L : List Nat) (done : Nat → Bool), Sched l done L → (∀ i, done i = true → ∀ o, l[i]? = some o → ∀ e ∈ o.after.toList, always e = true → done e.on = true) →
    ∀ (rem : List Nat) (tr : Tr) (a aM : AAct) (H : List AObj) (M : Mem) (ca : Act), rem.Nodup → (∀ m ∈ rem, m ∈ mains ∧ done m = false) → (∀ m ∈ mains, done m = false → m ∈ rem) → tr.full l rem = true → tr.ok l rem = true →
      (∀ t, (∀ s ∈ sides, done s = false → dstAt l s ≠ some t) → aget a t = aget aM t) → (∀ s ∈ sides, ∀ t, (dstAt l s = some t ∨ (done s = false ∧ t ∈ opTmps (opAt l s).op)) → aget aM t = aget aS t) →
      J H → amainT P l J q tr aM H → Ext M0 M → St M H → RelAct M0.w.heap.size M n a ca → wpOpsIn (Fw rd) 0 P l.toArray Q L ca M.w := by
  simp only [drawOkT, Bool.and_eq_true] at hok
  obtain ⟨⟨⟨⟨⟨⟨c1, c2⟩, c3⟩, c4⟩, c5⟩, c6⟩, c7⟩ := hok
  have guardN : ∀ i, i < l.length → (opAt l i).guard = none := fun i hi => by
    rw [List.all_eq_true] at c2
    have := c2 (opAt l i) (List.mem_of_getElem? (opAt_eq hi))
    simpa using this
  have part : ∀ i, i < l.length → (i ∈ sides ∧ i ∉ mains) ∨ (i ∈ mains ∧ i ∉ sides) := fun i hi => by
    rw [List.all_eq_true] at c3
    have := c3 i (by simpa using hi)
    simpa using this
  have s1 : ∀ i, i < l.length → ∀ t ∈ opTmps (opAt l i).op, ∀ j ∈ sides, dstAt l j = some t → j ≠ i ∧ anc l i j = true := fun i hi t ht j hj hd => by
    rw [List.all_eq_true] at c4
    have := c4 i (by simpa using hi)
    rw [List.all_eq_true] at this
    have := this t ht
    rw [List.all_eq_true] at this
    have := this j hj
    simpa [hd] using this
  have s2 : ∀ i ∈ sides, i < l.length ∧ (∃ d, dstAt l i = some d) ∧ (∀ t ∈ opTmps (opAt l i).op, ∀ j ∈ mains, dstAt l j = some t → anc l j i = true) ∧ ∀ j, j < l.length → j ≠ i → dstAt l j ≠ dstAt l i := fun i hi => by
    rw [List.all_eq_true] at c5
    have := c5 i hi
    simp only [Bool.and_eq_true, decide_eq_true_eq] at this
    obtain ⟨⟨⟨h1, h2⟩, h3⟩, h4⟩ := this
    refine ⟨h1, Option.isSome_iff_exists.1 h2, fun t ht j hj hd => ?_, fun j hj hne => ?_⟩
    · rw [List.all_eq_true] at h3
      have := h3 t ht
      rw [List.all_eq_true] at this
      simpa [hd] using this j hj
    · rw [List.all_eq_true] at h4
      have := h4 j (by simpa using hj)
      simpa [hne] using this
  have dstLt : ∀ i, i < l.length → ∀ d, (opAt l i).dst = some d → d < n := fun i hi d hd => by
    unfold dstsOk at hdst
    rw [List.all_eq_true] at hdst
    have := hdst (opAt l i) (List.mem_of_getElem? (opAt_eq hi))
    simpa [hd] using this
  intro L
  induction L with
  | nil =>
    intro done hsch hdc rem tr a aM H M ca hnd hq1 hq2 hfull htok hA hD hJ hmain he hs hr
    cases hsch with
    | nil hall =>
      have hmsn : rem = [] := by
        cases rem with
        | nil => rfl
        | cons m ms =>
          have h1 := hq1 m (by simp)
          rw [List.all_eq_true] at c6
          have hlt := c6 m h1.1
          rw [hall m (by simpa using hlt)] at h1
          simp at h1
      subst hmsn
      have hmain : q aM H := by
        clear hfull
        induction tr with
        | done => exact hmain
        | step m t _ => simp [Tr.ok] at htok
        | both s t ih1 ih2 =>
          simp only [Tr.ok, Bool.and_eq_true] at htok
          exact ih1 hmain.1 htok.1
      have hw : Weaker a aM := fun t => .inr ((hA t fun s hs' hd => absurd (hall s (s2 s hs').1) (by simp [hd])).symm)
      exact hq M aM H ca he hs (hr.weaken hw) hmain
  | cons i rest ih =>
    intro done hsch hdc rem tr a aM H M ca hnd hq1 hq2 hfull htok hA hD hJ hmain he hs hr
    cases hsch with
    | cons hn hi hready hrest =>
    have hop := opAt_eq hi
    have ancd : ∀ j, anc l i j = true → done j = true := fun j hj => anc_done hdc i hi j hready hj
    -- what it reads is there
    have reads : ∀ t ∈ opTmps (opAt l i).op, aget a t = aget aM t := fun t ht => hA t fun s hs' hd heq => by
      have := ancd s (s1 i hi t ht s hs' heq).2
      rw [hd] at this; simp at this
    have hdc' : ∀ j, (if j = i then true else done j) = true → ∀ o, l[j]? = some o → ∀ e ∈ o.after.toList, always e = true → (if e.on = i then true else done e.on) = true := by
      intro j hj o ho e he' ha
      by_cases e1 : e.on = i
      · rw [if_pos e1]
      · rw [if_neg e1]
        by_cases e2 : j = i
        · subst e2; exact hready o ho e he' ha
        · rw [if_neg e2] at hj; exact hdc j hj o ho e he' ha
    simp only [wpOpsIn, List.getElem?_toArray, hop]
    rw [if_pos (by simp [Region.wanted, guardN i hi])]
    rcases part i hi with ⟨hside, hnm⟩ | ⟨hmn, hns⟩
    · -- a quiet one
      obtain ⟨_, ⟨d, hd⟩, q1, q2⟩ := s2 i hside
      have hS := sideOk_mem (hst H hJ) (opAt l i) (List.mem_map.2 ⟨i, hside, rfl⟩)
      have hd' : (opAt l i).dst = some d := hd
      rw [hd'] at hS
      obtain ⟨k1, k2, k3⟩ := hS
      have hcong : aop P a H (opAt l i).op = aop P aS H (opAt l i).op := aop_congr fun t ht => (reads t ht).trans (hD i hside t (.inr ⟨hn, ht⟩))
      rw [← hcong] at k1 k2 k3
      obtain ⟨nx, cvv, M', r1, r2, r3, r4, r5⟩ := sound_op (P := P) hs hr (opAt l i) k1
      rw [k3] at r4
      rw [k2] at r5
      have hnext : wpOpsIn (Fw rd) 0 P l.toArray Q rest (ca.put (opAt l i).dst cvv) M'.w := by
        refine ih (fun j => if j = i then true else done j) hrest hdc' rem tr (aput (opAt l i).dst (aget aS d) a) aM H M' _ hnd (fun m hm' => ?_) (fun m hm' hd => hq2 m hm' (by by_cases e : m = i <;> simp_all)) hfull htok (fun t ht => ?_) (fun s hs' t ht => hD s hs' t (ht.imp id fun h => ⟨by by_cases e : s = i <;> simp_all, h.2⟩)) hJ hmain (he.trans r3) r4 ((hr.ext r3).put (dstLt i hi) r5)
        · have h1 := hq1 m hm'
          have : m ≠ i := fun e => hnm (e ▸ h1.1)
          simp only [this, if_false]; exact h1
        · rw [hd']
          simp only [aput, aget]
          by_cases e : t = d
          · subst e; rw [if_pos rfl]; exact (hD i hside t (.inl hd)).symm
          · rw [if_neg e]
            refine hA t fun s hs' hds heq => ?_
            by_cases e2 : s = i
            · subst e2; rw [hd] at heq; exact e (Option.some.inj heq).symm
            · exact ht s hs' (by simp only [e2, if_false]; exact hds) heq
      refine ⟨noDefer_about _ _ _, ?_⟩
      rw [Oper.semAt_eq _ _ _ (fun c e => by rw [e] at k1; exact k1), r1]
      cases nx <;> simp [Next.val] at r2
      · subst r2; rw [Oper.uponIn_value]; exact hnext
      · subst r2; rw [Oper.uponIn_skip]; exact hnext
    · -- one of the others: the next one
      have him : i ∈ rem := hq2 i hmn hn
      have hih : i ∈ tr.heads := by
        unfold Tr.full at hfull
        rw [List.all_eq_true] at hfull
        have := hfull i him
        simp only [Bool.or_eq_true, List.contains_iff_mem] at this
        rcases this with h | h
        · exact h
        · rw [List.any_eq_true] at h
          obtain ⟨j, hj, hj2⟩ := h
          simp only [Bool.and_eq_true] at hj2
          have h1 := ancd j hj2.2
          rw [(hq1 j hj).2] at h1
          simp at h1
      obtain ⟨tr', hmain', hfull', htok'⟩ := amainT_pick hmain htok hih
      unfold awpOps at hmain'
      rw [guardN i hi] at hmain'
      simp only at hmain'
      ·
        have hrun : arun P (opAt l i) a H (fun a1 H1 => ∃ aM1, (∃ v, a1 = aput (opAt l i).dst v a ∧ aM1 = aput (opAt l i).dst v aM) ∧ J H1 ∧ amainT P l J q tr' aM1 H1) :=
          arun_congr reads (fun v H' hk => ⟨aput (opAt l i).dst v aM, ⟨v, rfl, rfl⟩, hk.1, hk.2⟩) hmain'
        refine sound_run he hs hr (opAt l i) (dstLt i hi) ?_ hrun
        rintro M' a1 H1 ca1 he1 hs1 hr1 ⟨aM1, ⟨v, rfl, rfl⟩, hJ1, hmain1⟩
        have hnotside : ∀ s ∈ sides, ∀ d, (opAt l i).dst = some d → dstAt l s ≠ some d ∧ (done s = false → d ∉ opTmps (opAt l s).op) := by
          intro s hs' d hd
          obtain ⟨_, _, q1, q2⟩ := s2 s hs'
          refine ⟨fun heq => ?_, fun hds hmem => by have := ancd s (q1 d hmem i hmn hd); rw [hds] at this; simp at this⟩
          exact q2 i hi (fun e => hns (e ▸ hs')) (by rw [heq]; exact hd)
        refine ih (fun j => if j = i then true else done j) hrest hdc' (rem.erase i) tr' _ _ H1 M' ca1 (hnd.erase i) (fun m hm' => ?_) (fun m hm' hd => ?_) hfull' htok' (fun t ht => ?_) (fun s hs' t ht => ?_) hJ1 hmain1 he1 hs1 hr1
        · rw [hnd.mem_erase_iff] at hm'
          simp only [hm'.1, if_false]; exact hq1 m hm'.2
        · have hne : m ≠ i := fun e => by simp [e] at hd
          simp only [hne, if_false] at hd
          exact (List.mem_erase_of_ne hne).2 (hq2 m hm' hd)
        · have hbase : aget a t = aget aM t := hA t fun s hs' hds heq => ht s hs' (by
            have : s ≠ i := fun e => hns (e ▸ hs')
            simp only [this, if_false]; exact hds) heq
          cases hd : (opAt l i).dst with
          | none => simpa [aput] using hbase
          | some d =>
            simp only [aput, aget]
            split
            · rfl
            · exact hbase
        · cases hd : (opAt l i).dst with
          | none =>
            refine hD s hs' t (ht.imp id fun h => ⟨?_, h.2⟩)
            have h1 := h.1
            by_cases e : s = i <;> simp_all
          | some d =>
            have hne : s ≠ i := fun e => hns (e ▸ hs')
            simp only [hne, if_false] at ht
            obtain ⟨n1, n2⟩ := hnotside s hs' d hd
            simp only [aput, aget]
            have : t ≠ d := by
              rintro rfl
              rcases ht with h | h
              · exact n1 h
              · exact n2 h.1 h.2
            rw [if_neg this]
            exact hD s hs' t ht


/-- A region that draws its order: the quiet operations (sides) tell the same wherever they come; the others (mains) come in one of tr's orders. -/
theorem awp_region_drawT {P : Program} {n : Nat} {M0 : Mem} {rd : Option Nat} {Q : Exit → AAct → List AObj → Prop} {a : AAct} {H : List AObj} {id : Nat} {l : List Oper} (sides mains : List Nat) (tr : Tr) (J : List AObj → Prop) {aS : AAct}
    (hok : (drawOkT l sides mains && tr.full l mains && tr.ok l mains) = true) (hd : dstsOk n l = true) (hS : sideAct P H (sides.map (opAt l)) a = aS) (h1 : ∀ H', J H' → sideOk P aS H' (sides.map (opAt l))) (h2 : J H)
    (h3 : amainT P l J (Q .normal) tr aS H) : awp P n M0 rd (.region id l.toArray true) Q a H := by
  intro M ca he hs hr
  simp only [Bool.and_eq_true] at hok
  obtain ⟨⟨hok, hfull⟩, htok⟩ := hok
  refine wpIn_region_draw fun t => ?_
  have hok' := hok
  simp only [drawOkT, Bool.and_eq_true, decide_eq_true_eq] at hok'
  have hb : backEdges l = true := hok'.1.1.1.1.1.1
  have hs' := hs.drew
  have he' : Ext M0 (M.withW M.w.drew) := he.trans drew_ext
  have hr' := hr.ext (drew_ext (M := M))
  refine drawT_sound hok hd h1 (fun M a H ca he hs hr hq => ⟨M, a, H, rfl, he, hs, hr, hq⟩) _ _ (schedule_sched hb _ t) (fun i hi => by simp at hi) mains tr a aS H (M.withW M.w.drew) ca hok'.2 (fun m hm => ⟨hm, rfl⟩) (fun m hm _ => hm) hfull htok (fun t ht => ?_) (fun _ _ _ _ => rfl) h2 h3 he' hs' hr'
  rw [← hS]
  refine (sideAct_get _ _ _ fun o ho => ?_).symm
  obtain ⟨s, hs1, rfl⟩ := List.mem_map.1 ho
  exact ht s hs1 rfl

/-- What stands behind one of the others. -/
def mainT (P : Program) (l : List Oper) (J : List AObj → Prop) (q : AAct → List AObj → Prop) (t : Tr) (a : AAct) (H : List AObj) : Prop := J H ∧ amainT P l J q t a H
section
variable {P : Program} {l : List Oper} {J : List AObj → Prop} {q : AAct → List AObj → Prop} {a : AAct} {H : List AObj} {t s : Tr}
theorem amainT_done : amainT P l J q .done a H = q a H := rfl
theorem amainT_step {m : Nat} : amainT P l J q (.step m t) a H = awpOps P l (mainT P l J q t) [opAt l m] a H := rfl
theorem amainT_both : amainT P l J q (.both s t) a H = (amainT P l J q s a H ∧ amainT P l J q t a H) := rfl
theorem mainT_eq : mainT P l J q t a H = (J H ∧ amainT P l J q t a H) := rfl
end

section
variable {P : Program} {n : Nat} {M0 : Mem} {rd : Option Nat} {Q : Exit → AAct → List AObj → Prop} {a : AAct} {H : List AObj}
/-- A region, and what stands behind it: gone through once, whichever way the region went. -/
theorem awp_seq_cut {id : Nat} {l : List Oper} {dr : Bool} {y : Code} (V : List Nat) (A : AAct) (H1 : List AObj)
    (hx : ∀ K : AAct → List AObj → Prop, (∀ a, akeep V a = A → K a H1) → awp P n M0 rd (.region id l.toArray dr) (thenA K Q) a H) (hy : awp P n M0 rd y Q A H1) : awp P n M0 rd (.seq (.region id l.toArray dr) y) Q a H :=
  awp_seq fun K hK => hx K fun a e => hK a H1 (awp_weak (Weak.tmps (Weaker.keep V a)) (e ▸ hy))
end

section
variable {P : Program} {n : Nat} {M0 : Mem} {rd : Option Nat} {Q : Exit → AAct → List AObj → Prop} {a : AAct} {H : List AObj}
/-- The same, where the objects ks stay as they are. -/
theorem awp_region_drawK {id : Nat} {l : List Oper} (sides mains ks : List Nat) {aS : AAct}
    (hok : drawOk l sides mains = true) (hd : dstsOk n l = true) (hS : sideAct P H (sides.map (opAt l)) a = aS) (h1 : ∀ H', (∀ k ∈ ks, hcells H' k = hcells H k) → sideOk P aS H' (sides.map (opAt l)))
    (h3 : amainK P l (fun H' => ∀ k ∈ ks, hcells H' k = hcells H k) (Q .normal) (mains.map (opAt l)) aS H) : awp P n M0 rd (.region id l.toArray true) Q a H :=
  awp_region_draw sides mains _ hok hd hS h1 (fun _ _ => rfl) h3

theorem awp_region_drawTK {id : Nat} {l : List Oper} (sides mains : List Nat) (tr : Tr) (ks : List Nat) {aS : AAct}
    (hok : (drawOkT l sides mains && tr.full l mains && tr.ok l mains) = true) (hd : dstsOk n l = true) (hS : sideAct P H (sides.map (opAt l)) a = aS) (h1 : ∀ H', (∀ k ∈ ks, hcells H' k = hcells H k) → sideOk P aS H' (sides.map (opAt l)))
    (h3 : amainT P l (fun H' => ∀ k ∈ ks, hcells H' k = hcells H k) (Q .normal) tr aS H) : awp P n M0 rd (.region id l.toArray true) Q a H :=
  awp_region_drawT sides mains tr _ hok hd hS h1 (fun _ _ => rfl) h3
end

end Go.R
