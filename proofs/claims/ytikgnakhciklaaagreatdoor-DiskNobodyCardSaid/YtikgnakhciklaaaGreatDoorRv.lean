/-
  The abstract layer, part 20: a row handed on as data.
-/
import Derived.Test.YtikgnakhciklaaaGreatDoorRu
namespace Go.R
set_option linter.unusedSectionVars false
variable [Syms]
set_option linter.unusedSimpArgs false
set_option linter.unusedVariables false

/-- A call that takes data may take a row: the caller gives the row up. -/
theorem ACalls.freezeArg {P : Program} {f : FuncId} {H : List AObj} {q size m : Nat} {fr : Bool} {es : List (List DV)} {R : AV → List AObj → Prop} (hq : H[q]? = some (.cells fr (mkCells es))) (hz : ∀ e ∈ es, e.length = size) (hm : m = es.length)
    (h : ACalls P f [.d (.sl size es false)] (H.set q .dead) R) : ACalls P f [.row q size 0 m] H R := by
  intro M cargs hs ha
  obtain ⟨c, cs', hcs, h1, h2⟩ := ha.head
  have h2 := h2.nil_inv
  subst h2
  let ca : Act := { tmps := #[c], defers := [] }
  have hact : RelAct M.w.heap.size M 1 [(0, .row q size 0 m)] ca := by
    refine ⟨Marks.nil _ _, rfl, fun t => ?_⟩
    simp only [aget]
    split
    · rename_i e; subst e; exact h1
    · exact .junk _
  have hl : (mkCells es).length = m * size := by
    rw [mkCells, List.length_map, flatten_length es (fun i h => hz _ (List.getElem_mem h)), hm]
  obtain ⟨M', e1, g1, g2, g3⟩ := Weak.freeze' (n := 1) (M0 := M) (a := [(0, .row q size 0 m)]) (t := 0) [] hq (by rw [List.drop_zero, List.take_of_length_le (by omega)]) (by omega) (by simp [hm]) hz rfl M ca (Ext.refl M) hs hact
  have g4 := g3.get 0
  have := h M' cargs g2 (by rw [hcs]; exact .cons g4 (RelL.nil M'))
  rw [e1] at this
  refine this.mono ?_
  rintro e w' ⟨cv, M2, v, H', k1, k2, k3, k4, k5, k6⟩
  exact ⟨cv, M2, v, H', k1, k2, g1.trans k3, k4, k5, k6⟩
end Go.R
