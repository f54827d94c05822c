/-
  The abstract layer, part 24: what the machine comes to is so.
-/
import Derived.Test.YtikgnakhciklaaaGreatDoorRz
namespace Go.R
set_option linter.unusedSectionVars false
variable [Syms]
set_option linter.unusedSimpArgs false
set_option linter.unusedVariables false

section
variable {P : Program} {X : List (FuncId × XK)} {S : Task → Option (List Out)}

theorem extB_ok {H : List AObj} {k : XK} {l : List AV} (h : extB k l = true) : (aextern H k l).ok := by
  unfold extB at h
  split at h <;> first | trivial | simp at h

theorem lookup_mem {α β : Type} [BEq α] [LawfulBEq α] {l : List (α × β)} {a : α} {b : β} (h : l.lookup a = some b) : (a, b) ∈ l := by
  induction l with
  | nil => simp at h
  | cons p l ih =>
    obtain ⟨x, y⟩ := p
    simp only [List.lookup_cons] at h
    split at h
    · rename_i he
      simp at h; subst h
      rw [beq_iff_eq.1 he]; exact List.mem_cons_self ..
    · exact List.mem_cons_of_mem _ (ih h)

theorem xnext_sound {H : List AObj} {it : AV} {r : List (AV × List AObj)} {K : AV → List AObj → Prop} (h : xnext H it = some r) (hk : ∀ p ∈ r, K p.1 p.2) : anextM H it K := by
  unfold xnext at h
  unfold anextM
  split at h
  · rename_i i
    split at h
    · rename_i hh
      simp only [hh]
      simp at h; subst h
      exact hk _ (List.mem_singleton.2 rfl)
    · rename_i m since seen last hh
      simp only [hh]
      split at h
      · rename_i es clock hm
        simp only [hm]
        split at h
        · simp at h
        · rename_i hc
          simp at h; subst h
          refine ⟨fun ⟨h1, h2, h3⟩ => hc ?_, fun c hc => ?_⟩
          · simp only [Bool.and_eq_true, Bool.not_eq_true', List.isEmpty_eq_false_iff, ne_eq, List.all_eq_true, decide_eq_true_eq]
            exact ⟨⟨h1, h2⟩, h3⟩
          · have := hk _ (List.mem_map.2 ⟨c, hc, rfl⟩)
            cases c with
            | none => exact this
            | some e => obtain ⟨b, k, v⟩ := e; exact this
      · simp at h
    · simp at h
  · simp at h

theorem xrun_sound (hX : ∀ p ∈ X, ExtOk P p.1 p.2) (hS : SOk P S) {o : Oper} {a : AAct} {H : List AObj} {r : List (AAct × List AObj)} {K : AAct → List AObj → Prop} (h : xrun P X S o a H = some r) (hk : ∀ p ∈ r, K p.1 p.2) : arun P o a H K := by
  unfold xrun at h
  unfold arun
  split at h
  · rename_i f args tys hop
    simp only [hop]
    unfold awpCall
    split at h
    · rename_i g caps hf
      simp only [hf]
      split at h
      · rename_i hc
        split at h
        · rename_i outs hs
          simp at h; subst h
          refine .inl ⟨hc, (hS.call _ _ _ _ hs).mono fun v H' hm => ?_⟩
          have := hk _ (List.mem_map.2 ⟨_, hm, rfl⟩)
          simpa [callOut, aget] using this
        · simp at h
      · split at h
        · rename_i k hl
          split at h
          · rename_i he
            simp at h; subst h
            exact .inr ⟨k, hX _ (lookup_mem hl), extB_ok he, hk _ (List.mem_singleton.2 rfl)⟩
          · simp at h
        · simp at h
    · rename_i g caps hf
      simp only [hf]
      split at h
      · rename_i hc
        split at h
        · rename_i outs hs
          simp at h; subst h
          refine .inl ⟨hc, (hS.call _ _ _ _ hs).mono fun v H' hm => ?_⟩
          have := hk _ (List.mem_map.2 ⟨_, hm, rfl⟩)
          simpa [callOut, aget] using this
        · simp at h
      · split at h
        · rename_i k hl
          split at h
          · rename_i he
            simp at h; subst h
            exact .inr ⟨k, hX _ (lookup_mem hl), extB_ok he, hk _ (List.mem_singleton.2 rfl)⟩
          · simp at h
        · simp at h
    · rename_i i hf
      simp only [hf]
      split at h
      · rename_i outs hs
        simp at h; subst h
        refine (hS.yld _ _ _ _ hs).mono fun v H' hm => ?_
        have := hk _ (List.mem_map.2 ⟨_, hm, rfl⟩)
        simpa [callOut, aget] using this
      · simp at h
    · simp at h
  · rename_i x hop
    simp only [hop]
    split at h
    · rename_i outs hn
      simp at h; subst h
      exact xnext_sound hn fun p hp => hk _ (List.mem_map.2 ⟨p, hp, rfl⟩)
    · simp at h
  · rename_i h1 h2
    split at h
    · rename_i hb
      simp at h; subst h
      split
      · rename_i f args tys hop; exact absurd hop (h1 f args tys)
      · rename_i x hop; exact absurd hop (h2 x)
      · exact ⟨okB_ok hb, hk _ (List.mem_singleton.2 rfl)⟩
    · simp at h

theorem xops_sound (hX : ∀ p ∈ X, ExtOk P p.1 p.2) (hS : SOk P S) {l : List Oper} {q : AAct → List AObj → Prop} : ∀ (rest : List Oper) (a : AAct) (H : List AObj) (r : List (AAct × List AObj)), xops P X S l rest a H = some r → (∀ p ∈ r, q p.1 p.2) → awpOps P l q rest a H := by
  intro rest
  induction rest with
  | nil =>
    intro a H r h hq
    simp [xops] at h; subst h
    exact hq _ (List.mem_singleton.2 rfl)
  | cons o rest ih =>
    intro a H r h hq
    have go : ∀ r', xrun P X S o a H = some r' → each r' (fun p => xops P X S l rest p.1 p.2) = some r → arun P o a H (awpOps P l q rest) := by
      intro r' h1 h2
      refine xrun_sound hX hS h1 fun p hp => ?_
      obtain ⟨ys, h3, h4⟩ := each_mem h2 p hp
      exact ih _ _ _ h3 fun y hy => hq y (h4 y hy)
    unfold xops at h
    unfold awpOps
    split at h
    · rename_i hg
      simp only [hg]
      split at h
      · rename_i r' hr
        exact go r' hr h
      · simp at h
    · rename_i j want hg
      simp only [hg]
      split at h
      · rename_i b hv
        simp only [hv]
        split at h
        · rename_i hb
          split at h
          · rename_i r' hr
            exact ⟨fun _ => go r' hr h, fun hne => absurd hb hne⟩
          · simp at h
        · rename_i hb
          exact ⟨fun he => absurd he hb, fun _ => ih _ _ _ h hq⟩
      · rename_i hv
        simp only [hv]
        exact ih _ _ _ h hq
      · simp at h

theorem xtr_sound (hX : ∀ p ∈ X, ExtOk P p.1 p.2) (hS : SOk P S) {l : List Oper} {aS : AAct} {q : AAct → List AObj → Prop} : ∀ (t : Tr) (ss : List Nat) (a : AAct) (H : List AObj) (r : List (AAct × List AObj)), xtr P X S l aS t ss a H = some r → (∀ p ∈ r, q p.1 p.2) → amainG P l aS q t ss a H := by
  intro t
  induction t with
  | done =>
    intro ss a H r h hq
    simp [xtr] at h; subst h
    exact hq _ (List.mem_singleton.2 rfl)
  | step m t ih =>
    intro ss a H r h hq
    simp only [xtr] at h
    split at h
    · rename_i r' hr
      refine xops_sound hX hS _ _ _ _ hr fun p hp => ?_
      obtain ⟨ys, h3, h4⟩ := each_mem h p hp
      split at h3
      · rename_i hb
        exact ⟨sideB_ok hb, ih _ _ _ _ h3 fun y hy => hq y (h4 y hy)⟩
      · simp at h3
    · simp at h
  | both s t ih1 ih2 =>
    intro ss a H r h hq
    simp only [xtr] at h
    split at h
    · rename_i x y hx hy
      simp at h; subst h
      exact ⟨ih1 _ _ _ _ hx fun p hp => hq p (List.mem_append_left _ hp), ih2 _ _ _ _ hy fun p hp => hq p (List.mem_append_right _ hp)⟩
    · simp at h

theorem inLoopB_ok {rd : Option Nat} {H : List AObj} (h : inLoopB rd H = true) {M0 : Mem} (hk : ∀ i, rd = some i → i < M0.k) : inLoop rd M0 H := by
  unfold inLoopB at h
  unfold inLoop
  cases rd with
  | none => trivial
  | some i =>
    simp only at h ⊢
    split at h
    · exact ⟨hk i rfl, _, by assumption⟩
    · simp at h

theorem xloop_sound (hS : SOk P S) {rd : Option Nat} {n : Nat} {c : Code} {M0 : Mem} {Q : Exit → AAct → List AObj → Prop} (hk : ∀ i, rd = some i → i < M0.k) (m : Nat) (a : AAct) (H : List AObj) (outs : List Out)
    (h : xloop S rd n c m a H = some outs) (hq : ∀ e a' H', (e, a', H') ∈ outs → Q e a' H') : awp P n M0 rd (.loop c) Q a H := by
  refine awp_loop (fun m a H => ∃ outs, xloop S rd n c m a H = some outs ∧ ∀ e a' H', (e, a', H') ∈ outs → Q e a' H') m ⟨a, H, Weak.refl, outs, h, hq⟩ ?_
  rintro m a H ⟨outs, h, hq⟩
  cases m with
  | zero => simp [xloop] at h
  | succ m =>
    simp only [xloop] at h
    split at h
    · rename_i o1 ho
      refine hS.code _ _ _ _ _ _ _ _ ho hk fun e a' H' hm => ?_
      obtain ⟨ys, h3, h4⟩ := each_mem h _ hm
      cases e
      case normal =>
        simp only at h3
        exact ⟨m, prune a', H', Nat.lt_succ_self _, Weak.tmps (Weaker.prune a'), ys, h3, fun e a2 H2 hm2 => hq _ _ _ (h4 _ hm2)⟩
      all_goals
        simp at h3; subst h3
        exact hq _ _ _ (h4 _ (List.mem_singleton.2 rfl))
    · simp at h

theorem xcode_sound (hX : ∀ p ∈ X, ExtOk P p.1 p.2) (hS : SOk P S) {rd : Option Nat} {n : Nat} {c : Code} {a : AAct} {H : List AObj} {outs : List Out} {M0 : Mem} {Q : Exit → AAct → List AObj → Prop}
    (h : xcode P X S rd n c a H = some outs) (hk : ∀ i, rd = some i → i < M0.k) (hq : ∀ e a' H', (e, a', H') ∈ outs → Q e a' H') : awp P n M0 rd c Q a H := by
  unfold xcode at h
  split at h
  · simp at h; subst h; exact awp_skip (hq _ _ _ (List.mem_singleton.2 rfl))
  · simp at h; subst h; exact awp_label (hq _ _ _ (List.mem_singleton.2 rfl))
  · simp at h; subst h; exact awp_exit (hq _ _ _ (List.mem_singleton.2 rfl))
  · simp at h; subst h; exact awp_goto (hq _ _ _ (List.mem_singleton.2 rfl))
  · simp at h; subst h; exact awp_ret (hq _ _ _ (List.mem_singleton.2 rfl))
  · rename_i x y
    split at h
    · rename_i o1 ho
      refine awp_seq fun K hK => hS.code _ _ _ _ _ _ _ _ ho hk fun e a' H' hm => ?_
      obtain ⟨ys, h3, h4⟩ := each_mem h _ hm
      cases e
      case normal =>
        simp only at h3
        exact hK _ _ (hS.code _ _ _ _ _ _ _ _ h3 hk fun e a2 H2 hm2 => hq _ _ _ (h4 _ hm2))
      all_goals
        simp at h3; subst h3
        exact hq _ _ _ (h4 _ (List.mem_singleton.2 rfl))
    · simp at h
  · rename_i o x y
    split at h
    · rename_i hv
      exact awp_cond hv (fun _ => hS.code _ _ _ _ _ _ _ _ h hk hq) (fun e => by cases e)
    · rename_i hv
      exact awp_cond hv (fun e => by cases e) (fun _ => hS.code _ _ _ _ _ _ _ _ h hk hq)
    · simp at h
  · rename_i id c
    split at h
    · rename_i o1 ho
      simp at h; subst h
      refine awp_block (hS.code _ _ _ _ _ _ _ _ ho hk fun e a' H' hm => ?_)
      cases e
      case exit i =>
        simp only [inBlockA]
        split
        · rename_i e
          exact hq .normal a' H' (List.mem_map.2 ⟨_, hm, by simp [e]⟩)
        · rename_i e
          exact hq (.exit i) a' H' (List.mem_map.2 ⟨_, hm, by simp [e]⟩)
      all_goals exact hq _ a' H' (List.mem_map.2 ⟨_, hm, rfl⟩)
    · simp at h
  · exact xloop_sound hS hk _ _ _ _ h hq
  · rename_i id ops
    split at h
    · rename_i hd
      split at h
      · rename_i r hr
        simp at h; subst h
        have := awp_region (P := P) (n := n) (M0 := M0) (rd := rd) (Q := Q) (id := id) (l := ops.toList) hd (xops_sound hX hS _ _ _ _ hr fun p hp => hq _ _ _ (List.mem_map.2 ⟨p, hp, rfl⟩))
        simpa using this
      · simp at h
    · simp at h
  · rename_i id ops
    split at h
    · rename_i r hr
      simp at h; subst h
      unfold xdraw at hr
      simp only at hr
      split at hr
      · rename_i hc
        simp only [Bool.and_eq_true] at hc
        obtain ⟨⟨⟨⟨c1, c2⟩, c3⟩, c4⟩, c5⟩ := hc
        have := awp_region_drawG (P := P) (n := n) (M0 := M0) (rd := rd) (Q := Q) (id := id) (l := ops.toList) _ _ _ (by simp only [Bool.and_eq_true]; exact ⟨⟨c1, c2⟩, c3⟩) c4 rfl (sideB_ok c5) (xtr_sound hX hS _ _ _ _ _ hr fun p hp => hq _ _ _ (List.mem_map.2 ⟨p, hp, rfl⟩))
        simpa using this
      · simp at hr
    · simp at h
  · rename_i f ps asg body
    split at h
    · rename_i g caps hf
      split at h
      · rename_i hc
        simp only [Bool.and_eq_true] at hc
        split at h
        · rename_i o1 ho
          refine awp_rangeFunc hf hc.1 (inLoopB_ok hc.2 hk) ((hS.call _ _ _ _ ho).mono fun v H' hm => ?_)
          obtain ⟨ys, h3, h4⟩ := each_mem h _ hm
          unfold xend at h3
          simp only [callOut] at h3
          split at h3
          · rename_i r hr
            split at h3
            · simp at h3
            · rename_i hst
              refine ⟨r, hr, hst, ?_⟩
              split at h3
              · rename_i hp
                simp only [hp]
                simp at h3; subst h3
                have := hq _ _ _ (h4 _ (List.mem_singleton.2 rfl))
                simpa [hp] using this
              · rename_i c hp
                simp only [hp]
                have := hS.code _ _ _ _ _ _ M0 Q h3 hk fun e a2 H2 hm2 => hq _ _ _ (h4 _ hm2)
                simpa [hp] using this
          · simp at h3
        · simp at h
      · simp at h
    · simp at h
  · simp at h

theorem memO_ok {v : AV} {H : List AObj} : ∀ {ys : List Out}, (∀ y ∈ ys, ∃ v H, y = callOut v H) → memO (callOut v H) ys = true → callOut v H ∈ ys
  | [], _, h => by simp [memO] at h
  | y :: ys, hy, h => by
    obtain ⟨v', H', rfl⟩ := hy y (by simp)
    simp only [memO, Bool.or_eq_true, Bool.and_eq_true] at h
    rcases h with ⟨h1, h2⟩ | h
    · have e1 := AV.beq_eq h1
      have e2 := beqH_eq h2
      simp only [callOut, aget, if_true] at e1 e2
      subst e1; subst e2
      exact List.mem_cons_self ..
    · exact List.mem_cons_of_mem _ (memO_ok (fun y hm => hy y (by simp [hm])) h)

theorem dedupe_sub : ∀ {l : List Out} {y : Out}, y ∈ dedupe l → y ∈ l
  | [], y, h => by simp [dedupe] at h
  | x :: xs, y, h => by
    simp only [dedupe] at h
    split at h
    · exact List.mem_cons_of_mem _ (dedupe_sub h)
    · rcases List.mem_cons.1 h with rfl | h
      · exact List.mem_cons_self ..
      · exact List.mem_cons_of_mem _ (dedupe_sub h)

theorem dedupe_mem : ∀ {l : List Out}, (∀ y ∈ l, ∃ v H, y = callOut v H) → ∀ y ∈ l, y ∈ dedupe l
  | [], _, y, h => by simp at h
  | x :: xs, hl, y, h => by
    have ih := dedupe_mem (l := xs) fun y hy => hl y (by simp [hy])
    simp only [dedupe]
    split
    · rename_i hm
      rcases List.mem_cons.1 h with rfl | h
      · obtain ⟨v, H, rfl⟩ := hl y (by simp)
        exact memO_ok (fun z hz => hl z (by simp [dedupe_sub hz])) hm
      · exact ih y h
    · rcases List.mem_cons.1 h with rfl | h
      · exact List.mem_cons_self ..
      · exact List.mem_cons_of_mem _ (ih y h)

theorem resB_ok {a : AAct} {H : List AObj} {rs : List ResultVar} (h : rs.all (fun q => match q with | .tmp _ => true | .cell t ty => @decide _ (decLoad P H ty (aget a t))) = true) : (aresults P a H rs).1 := by
  intro r hr
  rw [List.all_eq_true] at h
  have := h r hr
  cases r with
  | tmp t => trivial
  | cell t ty => exact dec_ok this

def FinOk (base : Nat) (rs : List ResultVar) (r : Out) (ys : List Out) : Prop :=
  (r.1 = .ret ∨ r.1 = .normal) ∧ (aresults P r.2.1 r.2.2 rs).1 ∧
    ((ys = [callOut (aresults P r.2.1 r.2.2 rs).2 (gc base (aresults P r.2.1 r.2.2 rs).2 r.2.2)] ∧ base ≤ (gc base (aresults P r.2.1 r.2.2 rs).2 r.2.2).length ∧
        ltH (gc base (aresults P r.2.1 r.2.2 rs).2 r.2.2).length (gc base (aresults P r.2.1 r.2.2 rs).2 r.2.2) = true ∧ (aresults P r.2.1 r.2.2 rs).2.lt (gc base (aresults P r.2.1 r.2.2 rs).2 r.2.2).length = true) ∨
      ys = [callOut (aresults P r.2.1 r.2.2 rs).2 r.2.2])

theorem xfin_core {fn : Func} {base : Nat} {r : Out} {ys : List Out} (h1 : r.1 = .ret ∨ r.1 = .normal)
    (h : (if fn.results.toList.all (fun q => match q with | .tmp _ => true | .cell t ty => @decide _ (decLoad P r.2.2 ty (aget r.2.1 t))) = true then
      let v := (aresults P r.2.1 r.2.2 fn.results.toList).2
      let L := gc base v r.2.2
      if (decide (base ≤ L.length) && ltH L.length L && v.lt L.length) = true then some [callOut v L] else some [callOut v r.2.2]
    else none) = some ys) : FinOk (P := P) base fn.results.toList r ys := by
  split at h
  · rename_i hr
    refine ⟨h1, resB_ok hr, ?_⟩
    simp only at h
    split at h
    · rename_i hc
      simp only [Bool.and_eq_true, decide_eq_true_eq] at hc
      simp at h; subst h
      exact .inl ⟨rfl, hc.1.1, hc.1.2, hc.2⟩
    · simp at h; subst h
      exact .inr rfl
  · simp at h

theorem xfin_sound {fn : Func} {base : Nat} {r : Out} {ys : List Out} (h : xfin P fn base r = some ys) : FinOk (P := P) base fn.results.toList r ys := by
  unfold xfin at h
  split at h
  · rename_i e; exact xfin_core (.inl e) h
  · rename_i e; exact xfin_core (.inr e) h
  · simp at h

theorem xcall_sound (hS : SOk P S) {f : FuncId} {args : List AV} {H : List AObj} {outs : List Out} (h : xcall P S f args H = some outs) : ACalls P f args H fun v H' => callOut v H' ∈ outs := by
  unfold xcall at h
  split at h
  · rename_i fn hf
    split at h
    · rename_i c hb
      split at h
      · rename_i hn
        split at h
        · rename_i o1 ho
          split at h
          · rename_i r hr
            simp at h; subst h
            have hshape : ∀ y ∈ r, ∃ v H, y = callOut v H := by
              have key : ∀ (l : List Out) (r : List Out), each l (xfin P fn H.length) = some r → ∀ y ∈ r, ∃ v H, y = callOut v H := by
                intro l
                induction l with
                | nil => intro r hr y hy; simp [each] at hr; subst hr; simp at hy
                | cons x l ih =>
                  intro r hr y hy
                  simp only [each] at hr
                  cases hx : xfin P fn H.length x with
                  | none => simp [hx] at hr
                  | some ys =>
                    cases he : each l (xfin P fn H.length) with
                    | none => simp [hx, he] at hr
                    | some zs =>
                      simp only [hx, he, Option.some.injEq] at hr
                      subst hr
                      rcases List.mem_append.1 hy with hy | hy
                      · obtain ⟨_, _, h3⟩ := xfin_sound hx
                        rcases h3 with ⟨rfl, _⟩ | rfl
                        · exact ⟨_, _, List.mem_singleton.1 hy⟩
                        · exact ⟨_, _, List.mem_singleton.1 hy⟩
                      · exact ih zs he y hy
              exact key _ _ hr
            refine ACalls.gc (R := fun v H' => (callOut v H' ∈ r) ∨ (H.length ≤ (Go.R.gc H.length v H').length ∧ ltH (Go.R.gc H.length v H').length (Go.R.gc H.length v H') = true ∧ v.lt (Go.R.gc H.length v H').length = true ∧ callOut v (Go.R.gc H.length v H') ∈ r)) ?_ ?_
            · refine acalls_of hf hb hn fun M0 Q hk hlt hQ => ?_
              refine hS.code _ _ _ _ _ _ M0 Q ho (fun i e => by cases e) fun e a' H' hm => ?_
              obtain ⟨ys, h3, h4⟩ := each_mem hr _ hm
              obtain ⟨g1, g2, g3⟩ := xfin_sound h3
              have hr' : (callOut (aresults P a' H' fn.results.toList).2 H' ∈ r) ∨ (H.length ≤ (Go.R.gc H.length (aresults P a' H' fn.results.toList).2 H').length ∧ ltH (Go.R.gc H.length (aresults P a' H' fn.results.toList).2 H').length (Go.R.gc H.length (aresults P a' H' fn.results.toList).2 H') = true ∧
                  (aresults P a' H' fn.results.toList).2.lt (Go.R.gc H.length (aresults P a' H' fn.results.toList).2 H').length = true ∧ callOut (aresults P a' H' fn.results.toList).2 (Go.R.gc H.length (aresults P a' H' fn.results.toList).2 H') ∈ r) := by
                rcases g3 with ⟨rfl, k1, k2, k3⟩ | rfl
                · exact .inr ⟨k1, k2, k3, h4 _ (List.mem_singleton.2 rfl)⟩
                · exact .inl (h4 _ (List.mem_singleton.2 rfl))
              obtain ⟨q1, q2⟩ := hQ a' H' a' H' Weak.refl g2 hr'
              simp only at g1
              rcases g1 with rfl | rfl
              · exact q1
              · exact q2
            · rintro v H' (h | ⟨h1, h2, h3, h4⟩)
              · exact .inl (dedupe_mem hshape _ h)
              · exact .inr ⟨h1, h2, h3, dedupe_mem hshape _ h4⟩
          · simp at h
        · simp at h
      · simp at h
    · simp at h
  · simp at h

theorem xyld_sound (hS : SOk P S) {i : Nat} {args : List AV} {H : List AObj} {outs : List Out} (h : xyld S i args H = some outs) : AYields P i args H fun v H' => callOut v H' ∈ outs := by
  unfold xyld at h
  split at h
  · rename_i r hi
    split at h
    · rename_i hc
      simp only [Bool.and_eq_true, beq_iff_eq, List.all_eq_true, decide_eq_true_eq] at hc
      obtain ⟨⟨c1, c2⟩, c3⟩ := hc
      split at h
      · rename_i o1 ho
        have hil := get_lt hi
        refine ⟨r, hi, c1, c2, c3, fun M0 hM => ?_⟩
        refine hS.code _ _ _ _ _ _ M0 _ ho (fun j e => by cases e; omega) fun e a1 H1 hm => ?_
        obtain ⟨ys, h3, h4⟩ := each_mem h _ hm
        simp only at h3
        split at h3
        · rename_i r1 hr1
          split at h3
          · rename_i hst
            split at h3
            · rename_i o2 ho2
              refine ⟨r1, hr1, hst, ?_⟩
              refine hS.code _ _ _ _ _ _ M0 _ ho2 (fun j e => by cases e; omega) fun e a2 H2 hm2 => ?_
              obtain ⟨zs, h5, h6⟩ := each_mem h3 _ hm2
              unfold xyend at h5
              simp only at h5
              split at h5
              · rename_i q hq
                split at h5
                all_goals try (simp at h5; done)
                all_goals
                  simp at h5; subst h5
                  exact ⟨q, hq, h4 _ (h6 _ (List.mem_singleton.2 rfl))⟩
              · simp at h5
            · simp at h3
          · simp at h3
        · simp at h3
      · simp at h
    · simp at h
  · simp at h

end

theorem xrunN_sound {P : Program} {X : List (FuncId × XK)} (hX : ∀ p ∈ X, ExtOk P p.1 p.2) : ∀ n, SOk P (xrunN P X n)
  | 0 => ⟨fun _ _ _ _ h => by simp [xrunN] at h, fun _ _ _ _ h => by simp [xrunN] at h, fun _ _ _ _ _ _ _ _ h => by simp [xrunN] at h⟩
  | n + 1 => by
    have ih := xrunN_sound hX n
    exact ⟨fun f args H outs h => xcall_sound ih h, fun i args H outs h => xyld_sound ih h, fun rd m c a H outs M0 Q h hk hq => xcode_sound hX ih h hk hq⟩

/-- Every way in which the machine goes comes to one value, and leaves memory as it was. -/
def allTo (v : AV) (base : Nat) : Option (List Out) → Bool
  | some l => l.all fun r => AV.beq (aget r.2.1 0) v && decide (r.2.2.length = base)
  | none => false

/-- A function that runs by itself to a value, whatever memory there is. -/
theorem acalls_run {P : Program} {X : List (FuncId × XK)} (hX : ∀ p ∈ X, ExtOk P p.1 p.2) (n : Nat) {f : FuncId} {args : List AV} {v : AV} (h : allTo v 0 (xrunN P X n (.call f args [])) = true) : ACalls P f args [] fun v' H' => v' = v ∧ H' = [] := by
  unfold allTo at h
  split at h
  · rename_i l hl
    refine ((xrunN_sound hX n).call _ _ _ _ hl).mono fun v' H' hm => ?_
    rw [List.all_eq_true] at h
    have := h _ hm
    simp only [Bool.and_eq_true, decide_eq_true_eq, callOut, aget, if_true] at this
    exact ⟨AV.beq_eq this.1, List.eq_nil_of_length_eq_zero (of_decide_eq_true this.2)⟩
  · simp at h

end Go.R
