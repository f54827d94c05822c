/-
  The abstract layer, part 26: calls that are run once, and kept; data behind tokens.
-/
import Derived.Test.YtikgnakhciklaaaGreatDoorR3
namespace Go.R
set_option linter.unusedSectionVars false
variable [Syms]
set_option linter.unusedSimpArgs false
set_option linter.unusedVariables false

/-- What a run comes to is among these. -/
def covers (l : List (AV × List AObj)) : Option (List Out) → Bool
  | some r => r.all fun o => l.any fun p => AV.beq (aget o.2.1 0) p.1 && beqH o.2.2 p.2
  | none => false

def addK (K : FuncId → List AV → List AObj → Option (List Out)) (f : FuncId) (args : List AV) (H : List AObj) (l : List (AV × List AObj)) : FuncId → List AV → List AObj → Option (List Out) :=
  fun f' args' H' => if (f' == f && AV.beqL args' args && beqH H' H) = true then some (l.map fun p => callOut p.1 p.2) else K f' args' H'

theorem acalls_covers {P : Program} {X : List (FuncId × XK)} {C : FuncId → List AV → List AObj → Option (List Out)} (hX : ∀ p ∈ X, ExtOk P p.1 p.2) (hC : Known P C) (n : Nat) {f : FuncId} {args : List AV} {H : List AObj} {l : List (AV × List AObj)}
    (h : covers l (xrunC P X C n (.call f args H)) = true) : ACalls P f args H fun v H' => (v, H') ∈ l := by
  unfold covers at h
  split at h
  · rename_i r hr
    refine ((xrunC_sound hX hC n).call _ _ _ _ hr).mono fun v' H' hm => ?_
    rw [List.all_eq_true] at h
    obtain ⟨p, hp, he⟩ := List.any_eq_true.1 (h _ hm)
    simp only [Bool.and_eq_true, callOut, aget, if_true] at he
    rw [AV.beq_eq he.1, beqH_eq he.2]
    exact hp
  · simp at h

theorem Known.add {P : Program} {K : FuncId → List AV → List AObj → Option (List Out)} (hK : Known P K) {f : FuncId} {args : List AV} {H : List AObj} {l : List (AV × List AObj)}
    (h : ACalls P f args H fun v H' => (v, H') ∈ l) : Known P (addK K f args H l) := by
  intro f' args' H' outs ho
  unfold addK at ho
  split at ho
  · rename_i he
    simp only [Bool.and_eq_true, beq_iff_eq] at he
    obtain ⟨⟨rfl, h2⟩, h3⟩ := he
    rw [AV.beqL_eq h2, beqH_eq h3]
    simp at ho; subst ho
    exact h.mono fun v H'' hm => List.mem_map.2 ⟨_, hm, rfl⟩
  · exact hK _ _ _ _ ho

theorem Known.run {P : Program} {X : List (FuncId × XK)} {K : FuncId → List AV → List AObj → Option (List Out)} (hX : ∀ p ∈ X, ExtOk P p.1 p.2) (hK : Known P K) (n : Nat) {f : FuncId} {args : List AV} {H : List AObj} {l : List (AV × List AObj)}
    (h : covers l (xrunC P X K n (.call f args H)) = true) : Known P (addK K f args H l) := hK.add (acalls_covers hX hK n h)

mutual
/-- A value without tokens. -/
def noSym : AV → Bool
  | .sym _ => false
  | .fn _ cs => noSymL cs
  | .bfn _ cs => noSymL cs
  | .agg cs => noSymL cs
  | .tup cs => noSymL cs
  | _ => true
def noSymL : List AV → Bool
  | [] => true
  | v :: vs => noSym v && noSymL vs
end

theorem noSymL_get : ∀ {l : List AV}, noSymL l = true → ∀ j (h : j < l.length), noSym (l[j]'h) = true
  | [], _, j, h => absurd h (by simp)
  | v :: vs, h, j, hj => by
    simp only [noSymL, Bool.and_eq_true] at h
    cases j with
    | zero => exact h.1
    | succ j => exact noSymL_get h.2 j (by simpa using hj)
end Go.R
namespace Go.R

/-- Without tokens it is one what they stand for. -/
theorem RelA.inst (S1 S2 : Syms) {M : Mem} {x : AV} {v : Value} (h : @RelA S1 M x v) : noSym x = true → @RelA S2 M x v := by
  induction h with
  | junk v => exact fun _ => @RelA.junk S2 M v
  | d x v h => exact fun _ => @RelA.d S2 M x v h
  | ptr i off h => exact fun _ => @RelA.ptr S2 M i off h
  | pnil => exact fun _ => @RelA.pnil S2 M
  | imm A cells vs h1 h2 h3 => exact fun _ => @RelA.imm S2 M A cells vs h1 h2 h3
  | row i size off n c h hn cs t fz hb hs => exact fun _ => @RelA.row S2 M i size off n c h hn cs t fz hb hs
  | row0 i size off h A => exact fun _ => @RelA.row0 S2 M i size off h A
  | map i h => exact fun _ => @RelA.map S2 M i h
  | mnil => exact fun _ => @RelA.mnil S2 M
  | fn f caps vs hl h ih => exact fun hf => @RelA.fn S2 M f caps vs hl fun j h1 h2 => ih j h1 h2 (noSymL_get (by simpa [noSym] using hf) j h1)
  | bfn g bs vs hl h ih => exact fun hf => @RelA.bfn S2 M g bs vs hl fun j h1 h2 => ih j h1 h2 (noSymL_get (by simpa [noSym] using hf) j h1)
  | fnil => exact fun _ => @RelA.fnil S2 M
  | yld i h => exact fun _ => @RelA.yld S2 M i h
  | sym n v h => exact fun hf => by simp [noSym] at hf
  | agg cells vs hl h ih => exact fun hf => @RelA.agg S2 M cells vs hl fun j h1 h2 => ih j h1 h2 (noSymL_get (by simpa [noSym] using hf) j h1)
  | tup cells vs hl h ih => exact fun hf => @RelA.tup S2 M cells vs hl fun j h1 h2 => ih j h1 h2 (noSymL_get (by simpa [noSym] using hf) j h1)

/-- A call that holds where tokens stand for certain data, and speaks of none, holds whatever they stand for. -/
theorem ACalls.inst (S1 S2 : Syms) {P : Program} {f : FuncId} {args : List AV} {V : AV} (ha : ∀ x ∈ args, noSym x = true) (hv : noSym V = true) (h : @ACalls S1 P f args [] fun v H' => v = V ∧ H' = []) : @ACalls S2 P f args [] fun v H' => v = V ∧ H' = [] := by
  intro M cargs hs hr
  have hs1 : @St S1 M [] := @St.mk S1 M [] (@St.k S2 M [] hs) (fun i j o o' hi => by simp at hi) (fun i o hi => by simp at hi) (@St.bound S2 M [] hs) (fun i o hi => by simp at hi)
  refine (h M cargs hs1 ⟨hr.1, fun j h1 h2 => @RelA.inst S2 S1 _ _ _ (hr.2 j h1 h2) (ha _ (List.getElem_mem h1))⟩).mono ?_
  rintro e w' ⟨cv, M', v, H', rfl, rfl, h3, h4, h5, rfl, rfl⟩
  exact ⟨cv, M', v, [], rfl, rfl, h3, @St.mk S2 M' [] (@St.k S1 M' [] h4) (fun i j o o' hi => by simp at hi) (fun i o hi => by simp at hi) (@St.bound S1 M' [] h4) (fun i o hi => by simp at hi), @RelA.inst S1 S2 _ _ _ h5 hv, rfl, rfl⟩

/-- Arguments that are tokens: they may be the data that these stand for. -/
theorem ACalls.ofSym [Syms] {P : Program} {f : FuncId} {args args' : List AV} {H : List AObj} {R : AV → List AObj → Prop} (hw : ∀ M cs, RelL M args' cs → RelL M args cs) (h : ACalls P f args H R) : ACalls P f args' H R :=
  fun M cargs hs ha => h M cargs hs (hw M _ ha)

theorem RelA.toSym [Syms] {M : Mem} {x : DV} {n : Nat} (hn : Syms.ρ n = x) {v : Value} (h : RelA M (.d x) v) : RelA M (.sym n) v := by
  cases h with
  | d _ _ h => exact .sym n v (by rw [hn]; exact h)

/-- One value is said with less. -/
inductive Less [Syms] : AV → AV → Prop
  | same (v : AV) : Less v v
  | sym (n : Nat) (x : DV) (h : Syms.ρ n = x) : Less (.sym n) (.d x)
  | agg (as bs : List AV) (hl : as.length = bs.length) (h : ∀ j (h1 : j < as.length) (h2 : j < bs.length), Less (as[j]'h1) (bs[j]'h2)) : Less (.agg as) (.agg bs)

theorem Less.rel [Syms] {M : Mem} {a b : AV} (h : Less a b) : ∀ {v : Value}, RelA M b v → RelA M a v := by
  induction h with
  | same v => exact id
  | sym n x h => exact fun hr => hr.toSym h
  | agg as bs hl h ih =>
    intro v hr
    cases hr with
    | agg _ vs hl2 hr => exact .agg as vs (hl.trans hl2) fun j h1 h2 => ih j h1 (by omega) (hr j (by omega) h2)

theorem ACalls.less [Syms] {P : Program} {f : FuncId} {args args' : List AV} {H : List AObj} {R : AV → List AObj → Prop} (hl : args.length = args'.length) (hw : ∀ j (h1 : j < args.length) (h2 : j < args'.length), Less (args[j]'h1) (args'[j]'h2)) (h : ACalls P f args H R) : ACalls P f args' H R :=
  h.ofSym fun M cs hr => ⟨hl.trans hr.1, fun j h1 h2 => (hw j h1 (by omega)).rel (hr.2 j (by omega) h2)⟩

/-- Data behind tokens that are numbered as the data stand. -/
theorem Less.cells [Syms] (k : Nat) (xs : List DV) (h : ∀ j (hj : j < xs.length), Syms.ρ (k + j) = xs[j]'hj) : Less (.agg ((List.range xs.length).map fun j => .sym (k + j))) (.agg (xs.map .d)) :=
  .agg _ _ (by simp) fun j h1 h2 => by
    simp only [List.getElem_map, List.getElem_range]
    exact .sym _ _ (h j (by simpa using h1))
end Go.R
