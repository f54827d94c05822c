/-
  The abstract layer, part 16: loops.
-/
import Derived.Test.YtikgnakhciklaaaGreatDoorRp
namespace Go.R
set_option linter.unusedSectionVars false
variable [Syms]
set_option linter.unusedSimpArgs false
set_option linter.unusedVariables false

section
variable {P : Program} {n : Nat} {M0 : Mem} {rd : Option Nat} {Q : Exit → AAct → List AObj → Prop} {a : AAct} {H : List AObj}

/-- A round's end: the loop's law holds again, of the temporaries V, with a lower number. -/
def Again (n : Nat) (M0 : Mem) (V : List Nat) (I : Nat → AAct → List AObj → Prop) (m : Nat) (a : AAct) (H : List AObj) : Prop :=
  ∃ m' a'' H'', m' < m ∧ Weak n M0 a H a'' H'' ∧ I m' (akeep V a'') H''

/-- A loop: its law speaks of the temporaries V and of memory. -/
theorem awp_loop_at (V : List Nat) {c : Code} (I : Nat → AAct → List AObj → Prop) (n₀ : Nat) (h₀ : I n₀ (akeep V a) H)
    (round : ∀ m a H, I m a H → awp P n M0 rd c (thenA (Again n M0 V I m) Q) a H) : awp P n M0 rd (.loop c) Q a H := by
  refine awp_loop I n₀ ⟨_, _, Weak.tmps (Weaker.keep V a), h₀⟩ fun m a H hi => awp_mono (round m a H hi) ?_
  intro e a' H' h
  cases e <;> first | exact h | skip
  obtain ⟨m', a'', H'', h1, h2, h3⟩ := h
  exact ⟨m', _, H'', h1, h2.trans (Weak.tmps (Weaker.keep V a'')), h3⟩

theorem Again.same {V : List Nat} {I : Nat → AAct → List AObj → Prop} {m : Nat} (m' : Nat) (h : m' < m) (h2 : I m' (akeep V a) H) : Again n M0 V I m a H := ⟨m', a, H, h, Weak.refl, h2⟩

/-- A round's end at which what it made is given up. -/
theorem Again.drop {V : List Nat} {I : Nat → AAct → List AObj → Prop} {m : Nat} {J : List AObj} (m' : Nat) (h : m' < m) (hk : M0.k ≤ H.length) (ha : ltA H.length (akeep V a) = true) (hH : ltH H.length H = true) (h2 : I m' (akeep V (akeep V a)) H) : Again n M0 V I m a (H ++ J) :=
  ⟨m', akeep V a, H, h, (Weak.tmps (Weaker.keep V a)).trans (Weak.drop hk ha hH), h2⟩

theorem Again.weak {V : List Nat} {I : Nat → AAct → List AObj → Prop} {m : Nat} {a' : AAct} {H' : List AObj} (m' : Nat) (h : m' < m) (hw : Weak n M0 a H a' H') (h2 : I m' (akeep V a') H') : Again n M0 V I m a H := ⟨m', a', H', h, hw, h2⟩
end

section
variable {P : Program} {l : List Oper} {q : AAct → List AObj → Prop} {rest : List Oper} {a : AAct} {H : List AObj} {d : Option Tmp}

theorem astep_ixbv {t : TypeId} {b : BV} {k : IntKind} {n : Int} (ht : (tSlice P t).bind (tSize P) = some 1) :
    astep P l q rest d a (aindexAddr P H t (.d b.dv) (.d (.int k n))) = ((0 ≤ n ∧ n < b.l.length) ∧ aset P l q rest d a (.imm (eB (b.l.getD n.toNat 0))) H) := by
  cases hs : tSlice P t with
  | none => simp [hs] at ht
  | some e =>
    simp only [hs, Option.bind_some] at ht
    cases b with
    | nil =>
      simp only [astep, aindexAddr, BV.dv, BV.l, hs, ht, fail, List.length_nil]
      apply propext
      constructor
      · intro h; exact h.1.elim
      · rintro ⟨⟨h1, h2⟩, _⟩; exact absurd h2 (by omega)
    | mk bs ex =>
      simp only [astep, aindexAddr, BV.dv, BV.l, hs, ht, List.length_map, true_and]
      apply propext
      constructor
      · rintro ⟨⟨h1, h2⟩, h3⟩
        refine ⟨⟨h1, h2⟩, ?_⟩
        have hlt : n.toNat < bs.length := by omega
        simpa [List.getD, List.getElem?_eq_getElem hlt] using h3
      · rintro ⟨⟨h1, h2⟩, h3⟩
        refine ⟨⟨h1, h2⟩, ?_⟩
        have hlt : n.toNat < bs.length := by omega
        simpa [List.getD, List.getElem?_eq_getElem hlt] using h3
end
/-- The same, under a name of its own. -/
def aixA (P : Program) (H : List AObj) (t : TypeId) (x ix : AV) : ARes :=
  match ix with
  | .d (.int _ n) =>
    match tSlice P t, tArr P t with
    | some e, _ =>
      match tSize P e with
      | some size =>
        match x with
        | .d (.sl size' elems _) => ⟨size' = size ∧ 0 ≤ n ∧ n < elems.length, .imm (elems.getD n.toNat []), H⟩
        | .row i size' off len => ⟨size' = size ∧ 0 ≤ n ∧ n < len, .ptr i (off + n.toNat * size), H⟩
        | _ => fail H
      | none => fail H
    | none, some (len, e) =>
      match tSize P e with
      | some size =>
        match x with
        | .ptr i off => ⟨0 ≤ n ∧ n < len, .ptr i (off + n.toNat * size), H⟩
        | .imm cells => ⟨0 ≤ n ∧ n < len, .imm (cells.drop (n.toNat * size)), H⟩
        | _ => fail H
      | none => fail H
    | _, _ => fail H
  | _ => fail H

section
variable {P : Program} {H : List AObj} {t : TypeId} {ix : AV}
theorem aindexAddr_sl {z : Nat} {es : List (List DV)} {ex : Bool} : aindexAddr P H t (.d (.sl z es ex)) ix = aixA P H t (.d (.sl z es ex)) ix := rfl
theorem aindexAddr_row {i z o n : Nat} : aindexAddr P H t (.row i z o n) ix = aixA P H t (.row i z o n) ix := rfl
theorem aindexAddr_ptr {i o : Nat} : aindexAddr P H t (.ptr i o) ix = aixA P H t (.ptr i o) ix := rfl
theorem aindexAddr_imm {c : List DV} : aindexAddr P H t (.imm c) ix = aixA P H t (.imm c) ix := rfl
end

/-- What a call made beside its result is given up. -/
theorem ACalls.drop {P : Program} {f : FuncId} {args : List AV} {H : List AObj} {R : AV → Prop} (h : ACalls P f args H fun v H' => (R v ∧ v.lt H.length = true) ∧ ∃ J, H' = H ++ J) : ACalls P f args H fun v H' => R v ∧ H' = H := by
  intro M cargs hs ha
  refine (h M cargs hs ha).mono ?_
  rintro e w' ⟨cv, M', v, H', rfl, rfl, h1, h2, h3, ⟨hr, hlt⟩, J, rfl⟩
  have hH : ltH H.length H = true := by rw [← hs.k]; exact hs.ltH
  let ca : Act := { tmps := #[cv], defers := [] }
  have hact : RelAct M.w.heap.size M' 1 [(0, v)] ca := by
    refine ⟨Marks.nil _ _, rfl, fun t => ?_⟩
    simp only [aget]
    split
    · rename_i e; subst e; exact h3
    · exact .junk _
  have w2 := Weak.drop (n := 1) (M0 := M) (a := [(0, v)]) (H := H) (J := J) (by rw [hs.k]; exact Nat.le_refl _) (by simp [ltA, hlt]) hH
  obtain ⟨M2, e2, g1, g2, g3⟩ := w2 M' ca h1 h2 hact
  exact ⟨cv, M2, v, H, rfl, e2, g1, g2, g3.get 0, hr, rfl⟩

end Go.R
