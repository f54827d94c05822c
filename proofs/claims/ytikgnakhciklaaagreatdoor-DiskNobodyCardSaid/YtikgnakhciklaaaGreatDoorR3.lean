/-
  The abstract layer, part 25: a call that holds in a small memory holds in a larger one.
-/
import Derived.Test.YtikgnakhciklaaaGreatDoorR2
namespace Go.R
set_option linter.unusedSectionVars false
variable [Syms]
set_option linter.unusedSimpArgs false
set_option linter.unusedVariables false

def flatD : DV → Bool
  | .sl _ _ _ => false
  | _ => true

mutual
/-- A value that does not hang on memory. -/
def flatV : AV → Bool
  | .junk => true
  | .d x => flatD x
  | .pnil => true
  | .mnil => true
  | .fnil => true
  | .fn _ caps => flatL caps
  | .bfn _ bs => flatL bs
  | .agg cs => flatL cs
  | .tup vs => flatL vs
  | _ => false
def flatL : List AV → Bool
  | [] => true
  | v :: vs => flatV v && flatL vs
end

theorem flatL_get : ∀ {l : List AV}, flatL l = true → ∀ j (h : j < l.length), flatV (l[j]'h) = true
  | [], _, j, h => absurd h (by simp)
  | v :: vs, h, j, hj => by
    simp only [flatL, Bool.and_eq_true] at h
    cases j with
    | zero => exact h.1
    | succ j => exact flatL_get h.2 j (by simpa using hj)

theorem RelD.flat {w w' : World} {I I' : Nat → Prop} {x : DV} {v : Value} (hf : flatD x = true) (h : RelD w I x v) : RelD w' I' x v := by
  cases h with
  | bool b => exact .bool b
  | int k n => exact .int k n
  | str b => exact .str b
  | snil => exact .snil
  | sl => simp [flatD] at hf

theorem RelA.flat {M M' : Mem} {x : AV} {v : Value} (h : RelA M x v) : flatV x = true → RelA M' x v := by
  induction h with
  | junk v => exact fun _ => .junk v
  | d x v h => exact fun hf => .d x v (h.flat (by simpa [flatV] using hf))
  | pnil => exact fun _ => .pnil
  | mnil => exact fun _ => .mnil
  | fnil => exact fun _ => .fnil
  | fn f caps vs hl h ih => exact fun hf => .fn f caps vs hl fun j h1 h2 => ih j h1 h2 (flatL_get (by simpa [flatV] using hf) j h1)
  | bfn g bs vs hl h ih => exact fun hf => .bfn g bs vs hl fun j h1 h2 => ih j h1 h2 (flatL_get (by simpa [flatV] using hf) j h1)
  | agg cells vs hl h ih => exact fun hf => .agg cells vs hl fun j h1 h2 => ih j h1 h2 (flatL_get (by simpa [flatV] using hf) j h1)
  | tup cells vs hl h ih => exact fun hf => .tup cells vs hl fun j h1 h2 => ih j h1 h2 (flatL_get (by simpa [flatV] using hf) j h1)
  | ptr => exact fun hf => by simp [flatV] at hf
  | imm => exact fun hf => by simp [flatV] at hf
  | row => exact fun hf => by simp [flatV] at hf
  | row0 => exact fun hf => by simp [flatV] at hf
  | map => exact fun hf => by simp [flatV] at hf
  | yld => exact fun hf => by simp [flatV] at hf
  | sym => exact fun hf => by simp [flatV] at hf

/-- A value without pointers to objects is related wherever the world is the same, and as much lies still. -/
theorem RelA.re {M M' : Mem} (hw : M'.w = M.w) (hI : ∀ b, M.I b → M'.I b) {x : AV} {v : Value} (h : RelA M x v) : x.lt 0 = true → RelA M' x v := by
  have hd : ∀ {x v}, RelD M.w M.I x v → RelD M'.w M'.I x v := fun h => h.mono hI (fun b _ => by rw [hw])
  induction h with
  | junk v => exact fun _ => .junk v
  | d x v h => exact fun _ => .d x v (hd h)
  | sym n v h => exact fun _ => .sym n v (hd h)
  | pnil => exact fun _ => .pnil
  | mnil => exact fun _ => .mnil
  | fnil => exact fun _ => .fnil
  | imm A cells vs h1 h2 h3 => exact fun _ => .imm A cells vs (fun h => ⟨hI _ (h1 h).1, (h1 h).2⟩) (fun j hj => by rw [hw]; exact h2 j hj) (fun j hj => hd (h3 j hj))
  | fn f caps vs hl h ih => exact fun hf => .fn f caps vs hl fun j h1 h2 => ih j h1 h2 (ltL_iff.1 (by simpa [AV.lt] using hf) j h1)
  | bfn g bs vs hl h ih => exact fun hf => .bfn g bs vs hl fun j h1 h2 => ih j h1 h2 (ltL_iff.1 (by simpa [AV.lt] using hf) j h1)
  | agg cells vs hl h ih => exact fun hf => .agg cells vs hl fun j h1 h2 => ih j h1 h2 (ltL_iff.1 (by simpa [AV.lt] using hf) j h1)
  | tup cells vs hl h ih => exact fun hf => .tup cells vs hl fun j h1 h2 => ih j h1 h2 (ltL_iff.1 (by simpa [AV.lt] using hf) j h1)
  | ptr => exact fun hf => by simp [AV.lt] at hf
  | row => exact fun hf => by simp [AV.lt] at hf
  | row0 => exact fun hf => by simp [AV.lt] at hf
  | map => exact fun hf => by simp [AV.lt] at hf
  | yld => exact fun hf => by simp [AV.lt] at hf

def renA (ι : Nat → Nat) : AV → AV
  | .ptr i off => .ptr (ι i) off
  | v => v

def argOk (n : Nat) : AV → Bool
  | .ptr i _ => decide (i < n)
  | v => v.lt 0

def flatO : AObj → Bool
  | .cells _ vs => flatL vs
  | _ => false

theorem RelL.flat {M M' : Mem} {vs : List AV} {cs : List Value} (h : RelL M vs cs) (hf : flatL vs = true) : RelL M' vs cs :=
  ⟨h.1, fun j h1 h2 => (h.2 j h1 h2).flat (flatL_get hf j h1)⟩

theorem RelO.flat {M M' : Mem} {i j : Nat} {o : AObj} (hf : flatO o = true) (h : RelO M i o) (hh : M'.w.heap[M'.r j]? = M.w.heap[M.r i]?) (ho : M'.o j = M.o i) : RelO M' j o := by
  cases o with
  | cells fr vs =>
    obtain ⟨cs, t, fz, pre, cv, rest, h1, h2, h3, h4, h5, h6⟩ := h
    exact ⟨cs, t, fz, pre, cv, rest, by rw [hh]; exact h1, h2, h3, by rw [ho]; exact h4, h5.flat (by simpa [flatO] using hf), h6⟩
  | dead => simp [flatO] at hf
  | map => simp [flatO] at hf
  | loop => simp [flatO] at hf
  | iter => simp [flatO] at hf
  | siter => simp [flatO] at hf

theorem flatO_live {o : AObj} (h : flatO o = true) : o.live := by
  cases o <;> simp [flatO, AObj.live] at h ⊢

theorem ACalls.frame {P : Program} {f : FuncId} {args : List AV} {H0 H : List AObj} {R : AV → List AObj → Prop} (ι : Nat → Nat) (h : ACalls P f args H0 R)
    (hargs : ∀ v ∈ args, argOk H0.length v = true) (hι : ∀ i o, H0[i]? = some o → H[ι i]? = some o) (hinj : ∀ i j, i < H0.length → j < H0.length → ι i = ι j → i = j)
    (hflat : ∀ o ∈ H0, flatO o = true) (hR : ∀ v H', R v H' → flatV v = true ∧ H' = H0) : ACalls P f (args.map (renA ι)) H fun v H' => R v H0 ∧ H' = H := by
  intro M cargs hs ha
  have hlive : ∀ i, i < H0.length → ∃ o, H0[i]? = some o ∧ H[ι i]? = some o ∧ flatO o = true := fun i hi =>
    ⟨H0[i], by simp [hi], hι i _ (by simp [hi]), hflat _ (List.getElem_mem hi)⟩
  let M0 : Mem := { w := M.w, I := fun b => b < M.w.heap.size ∧ ∀ i < H0.length, M.r (ι i) ≠ b, r := fun i => M.r (ι i), o := fun i => M.o (ι i), k := H0.length }
  have hI : ∀ b, M.I b → M0.I b := fun b hb => ⟨hs.bound b hb, fun i hi e => by
    obtain ⟨o, _, h2, h3⟩ := hlive i hi
    exact hs.fresh (ι i) o h2 (flatO_live h3) (e ▸ hb)⟩
  have hs0 : St M0 H0 := by
    refine ⟨rfl, fun i j o o' hi hj hl hl' e => ?_, fun i o hi hl hb => hb.2 i (get_lt hi) rfl, fun b hb => hb.1, fun i o hi => ?_⟩
    · exact hinj i j (get_lt hi) (get_lt hj) (hs.inj _ _ o o' (hι i o hi) (hι j o' hj) hl hl' e)
    · exact (hs.obj _ o (hι i o hi)).flat (hflat o (List.mem_of_getElem? hi)) rfl rfl
  have ha0 : RelL M0 args cargs.toList := by
    refine ⟨by simpa using ha.1, fun j h1 h2 => ?_⟩
    have h3 := ha.2 j (by simpa using h1) h2
    simp only [List.getElem_map] at h3
    have h4 := hargs _ (List.getElem_mem h1)
    cases hv : args[j] with
    | ptr i off =>
      rw [hv] at h3 h4
      have hi : i < H0.length := by simpa [argOk] using h4
      generalize cargs.toList[j] = c at h3
      have h5 : RelA M (.ptr (ι i) off) c := h3
      obtain ⟨rfl, h6⟩ := h5.ptr_inv
      exact RelA.ptr (M := M0) i off hi
    | _ => rw [hv] at h3 h4; exact RelA.re (M := M) (M' := M0) rfl hI h3 h4
  refine (h M0 cargs hs0 ha0).mono fun e w' ⟨cv, M', v, H', h1, h2, h3, h4, h5, h6⟩ => ?_
  obtain ⟨h7, rfl⟩ := hR v H' h6
  let M2 : Mem := { w := M'.w, I := M.I, r := M.r, o := M.o, k := M.k }
  have hold : ∀ b, M0.I b → M'.w.heap[b]? = M.w.heap[b]? := h3.old
  have e2 : Ext M M2 := ⟨fun _ h => h, fun b hb => hold b (hI b hb), fun _ _ => rfl, fun _ _ => rfl, Nat.le_refl _, h3.shape, h3.size, h3.defs, h3.os, h3.tape, h3.output⟩
  refine ⟨cv, M2, v, H, h1, h2, e2, ⟨hs.k, hs.inj, hs.fresh, fun b hb => Nat.lt_of_lt_of_le (hs.bound b hb) h3.size, fun i o hi => ?_⟩, h5.flat h7, h6, rfl⟩
  by_cases hc : ∃ j, j < H'.length ∧ ι j = i
  · obtain ⟨j, hj, rfl⟩ := hc
    obtain ⟨o', g1, g2, g3⟩ := hlive j hj
    rw [hi] at g2; cases g2
    have hr : M'.r j = M.r (ι j) := h3.r j hj
    have ho : M'.o j = M.o (ι j) := h3.o j hj
    refine (h4.obj j o g1).flat g3 ?_ ho.symm
    show M'.w.heap[M.r (ι j)]? = _
    rw [hr]
  · refine (hs.obj i o hi).ext e2 (by rw [hs.k]; exact get_lt hi) fun hl => hold _ ⟨hs.rbound hi hl, fun j hj e => hc ⟨j, hj, ?_⟩⟩
    obtain ⟨o', _, g2, g3⟩ := hlive j hj
    exact hs.inj _ _ o' o g2 hi (flatO_live g3) hl e

/-- What runs by itself to a flat value runs so in every memory. -/
theorem ACalls.alone {P : Program} {f : FuncId} {v : AV} (hv : flatV v = true) {args : List AV} (ha : ∀ x ∈ args, x.lt 0 = true) (h : ACalls P f args [] fun v' H' => v' = v ∧ H' = []) (H : List AObj) : ACalls P f args H fun v' H' => v' = v ∧ H' = H := by
  have hp : ∀ x ∈ args, renA (fun i => i) x = x := fun x _ => by cases x <;> rfl
  have he : args.map (renA fun i => i) = args := by
    rw [List.map_congr_left hp, List.map_id']
  have := h.frame (H := H) (fun i => i) (fun x hx => by
    have := ha x hx
    cases x <;> first | exact this | simp [AV.lt] at this) (fun i o hi => by simp at hi) (fun i j hi => by simp at hi) (fun o ho => by simp at ho) (fun v' H' ⟨h1, h2⟩ => ⟨h1 ▸ hv, h2⟩)
  rw [he] at this
  exact this.mono fun v' H' ⟨h1, h2⟩ => ⟨h1.1, h2⟩

/-- What is known of calls. -/
def Known (P : Program) (C : FuncId → List AV → List AObj → Option (List Out)) : Prop :=
  ∀ f args H outs, C f args H = some outs → ACalls P f args H fun v H' => callOut v H' ∈ outs

def xstepC (P : Program) (X : List (FuncId × XK)) (C : FuncId → List AV → List AObj → Option (List Out)) (S : Task → Option (List Out)) : Task → Option (List Out)
  | .call f args H => match C f args H with
    | some r => some r
    | none => xcall P S f args H
  | .code rd n c a H => xcode P X S rd n c a H
  | .yld i args H => xyld S i args H

/-- The machine, with what is known of calls. -/
def xrunC (P : Program) (X : List (FuncId × XK)) (C : FuncId → List AV → List AObj → Option (List Out)) : Nat → Task → Option (List Out)
  | 0, _ => none
  | n + 1, t => xstepC P X C (xrunC P X C n) t

theorem xrunC_sound {P : Program} {X : List (FuncId × XK)} {C : FuncId → List AV → List AObj → Option (List Out)} (hX : ∀ p ∈ X, ExtOk P p.1 p.2) (hC : Known P C) : ∀ n, SOk P (xrunC P X C n)
  | 0 => ⟨fun _ _ _ _ h => by simp [xrunC] at h, fun _ _ _ _ h => by simp [xrunC] at h, fun _ _ _ _ _ _ _ _ h => by simp [xrunC] at h⟩
  | n + 1 => by
    have ih := xrunC_sound hX hC n
    refine ⟨fun f args H outs h => ?_, fun i args H outs h => xyld_sound ih h, fun rd m c a H outs M0 Q h hk hq => xcode_sound hX ih h hk hq⟩
    simp only [xrunC, xstepC] at h
    split at h
    · rename_i r hr
      simp at h; subst h
      exact hC _ _ _ _ hr
    · exact xcall_sound ih h

/-- The value and the memory that a run comes to. -/
def allTo' (v : AV) (H : List AObj) : Option (List Out) → Bool
  | some l => l.all fun r => AV.beq (aget r.2.1 0) v && beqH r.2.2 H
  | none => false

theorem acalls_runC {P : Program} {X : List (FuncId × XK)} {C : FuncId → List AV → List AObj → Option (List Out)} (hX : ∀ p ∈ X, ExtOk P p.1 p.2) (hC : Known P C) (n : Nat) {f : FuncId} {args : List AV} {v : AV} {H H1 : List AObj}
    (h : allTo' v H1 (xrunC P X C n (.call f args H)) = true) : ACalls P f args H fun v' H' => v' = v ∧ H' = H1 := by
  unfold allTo' at h
  split at h
  · rename_i l hl
    refine ((xrunC_sound hX hC n).call _ _ _ _ hl).mono fun v' H' hm => ?_
    rw [List.all_eq_true] at h
    have := h _ hm
    simp only [Bool.and_eq_true, callOut, aget, if_true] at this
    exact ⟨AV.beq_eq this.1, beqH_eq this.2⟩
  · simp at h

/-- What the value is like, and the memory that a run comes to. -/
def allP (p : AV → Bool) (H : List AObj) : Option (List Out) → Bool
  | some l => l.all fun r => p (aget r.2.1 0) && beqH r.2.2 H
  | none => false

theorem acalls_runP {P : Program} {X : List (FuncId × XK)} {C : FuncId → List AV → List AObj → Option (List Out)} (hX : ∀ p ∈ X, ExtOk P p.1 p.2) (hC : Known P C) (n : Nat) {f : FuncId} {args : List AV} {p : AV → Bool} {H H1 : List AObj}
    (h : allP p H1 (xrunC P X C n (.call f args H)) = true) : ACalls P f args H fun v' H' => p v' = true ∧ H' = H1 := by
  unfold allP at h
  split at h
  · rename_i l hl
    refine ((xrunC_sound hX hC n).call _ _ _ _ hl).mono fun v' H' hm => ?_
    rw [List.all_eq_true] at h
    have := h _ hm
    simp only [Bool.and_eq_true, callOut, aget, if_true] at this
    exact ⟨this.1, beqH_eq this.2⟩
  · simp at h

def isB : AV → Bool
  | .d (.bool _) => true
  | _ => false

theorem isB_eq {v : AV} (h : isB v = true) : ∃ b, v = .d (.bool b) := by
  unfold isB at h
  split at h
  · exact ⟨_, rfl⟩
  · simp at h

/-- Nothing is known of calls. -/
def noneKnown : FuncId → List AV → List AObj → Option (List Out) := fun _ _ _ => none
theorem noneKnown_known (P : Program) : Known P noneKnown := fun _ _ _ _ h => by cases h

/-- That a call comes back, and with memory as it was, is enough where nobody looks at its value. -/
theorem ACalls.junk {P : Program} {f : FuncId} {args : List AV} {H : List AObj} (h : ACalls P f args H fun _ H' => H' = H) : ACalls P f args H fun v H' => v = .junk ∧ H' = H := by
  intro M cargs hs ha
  refine (h M cargs hs ha).mono ?_
  rintro e w' ⟨cv, M', v, H', h1, h2, h3, h4, h5, h6⟩
  exact ⟨cv, M', .junk, H', h1, h2, h3, h4, .junk _, rfl, h6⟩

/-- A flat value of which something is known comes so in every memory. -/
theorem ACalls.aloneP {P : Program} {f : FuncId} {p : AV → Bool} (hp : ∀ v, p v = true → flatV v = true) {args : List AV} (ha : ∀ x ∈ args, x.lt 0 = true) (h : ACalls P f args [] fun v' H' => p v' = true ∧ H' = []) (H : List AObj) : ACalls P f args H fun v' H' => p v' = true ∧ H' = H := by
  have hq : ∀ x ∈ args, renA (fun i => i) x = x := fun x _ => by cases x <;> rfl
  have he : args.map (renA fun i => i) = args := by
    rw [List.map_congr_left hq, List.map_id']
  have := h.frame (H := H) (fun i => i) (fun x hx => by
    have := ha x hx
    cases x <;> first | exact this | simp [AV.lt] at this) (fun i o hi => by simp at hi) (fun i j hi => by simp at hi) (fun o ho => by simp at ho) (fun v' H' ⟨h1, h2⟩ => ⟨hp _ h1, h2⟩)
  rw [he] at this
  exact this.mono fun v' H' ⟨h1, h2⟩ => ⟨h1.1, h2⟩

end Go.R
