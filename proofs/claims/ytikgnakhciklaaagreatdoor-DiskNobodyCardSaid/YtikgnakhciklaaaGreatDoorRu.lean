/-
  The abstract layer, part 19: more ends of rounds; a row made data on the way.
-/
import Derived.Test.YtikgnakhciklaaaGreatDoorRs
namespace Go.R
set_option linter.unusedSectionVars false
variable [Syms]
set_option linter.unusedSimpArgs false
set_option linter.unusedVariables false

section
variable {P : Program} {n : Nat} {M0 : Mem} {rd : Option Nat} {Q : Exit → AAct → List AObj → Prop} {a : AAct} {H : List AObj}

/-- A round's end at which one row that was made is kept. -/
theorem Again.keep1 {V : List Nat} {I : Nat → AAct → List AObj → Prop} {m : Nat} {J : List AObj} (m' : Nat) (h : m' < m) (hk : M0.k = H.length) (hl : ltH H.length H = true) (t j size off c : Nat) (ts : List Nat) {x : AObj} (hj : J[j]? = some x) (hx : x.lt H.length = true)
    (hat : aget a t = .row (H.length + j) size off c) (ht : ltA H.length (akeep ts a) = true) (h2 : I m' (akeep V ((t, .row H.length size off c) :: akeep ts a)) (H ++ [x])) : Again n M0 V I m a (H ++ J) := by
  refine ⟨m', _, _, h, Weak.keep1 (a' := (t, .row H.length size off c) :: akeep ts a) (q := H.length + j) (x := x) (by rw [hk]; exact Nat.le_refl _) (fun i hi => List.getElem?_append_left hi) (by rw [hget_app]; exact hj) (by omega) hx hl fun u => ?_, h2⟩
  simp only [aget]
  by_cases hu : u = t
  · subst hu
    rw [if_pos rfl]
    exact .inr (.inr ⟨size, off, c, hat, rfl⟩)
  · rw [if_neg hu]
    rcases aget_akeep ts a u with h | h
    · exact .inr (.inl h)
    · exact .inl ⟨h, h ▸ aget_lt ht u⟩

/-- Ahead of a region: less may be said. -/
theorem awp_weak_at (id : Nat) {l : Array Oper} {dr : Bool} {y : Code} {a' : AAct} {H' : List AObj} (hw : Weak n M0 a H a' H') (h : awp P n M0 rd (.seq (.region id l dr) y) Q a' H') : awp P n M0 rd (.seq (.region id l dr) y) Q a H := awp_weak hw h

theorem Weak.freezeB {q : Nat} {fr : Bool} {bs : List UInt8} {t m : Nat} (ts : List Nat) (hk : M0.k ≤ q) (hq : H[q]? = some (.cells fr (mkB bs))) (hm : m = bs.length) (ht : aget a t = .row q 1 0 m) : Weak n M0 a H ((t, .d (.sl 1 (bs.map eB) false)) :: akeep ts a) (H.set q .dead) :=
  Weak.freeze ts hk hq (elems := bs.map eB) (m := m) (by subst hm; rw [List.drop_zero, mkCells_eB, Nat.mul_one]; exact mkB_take_all bs) (by subst hm; simp [mkB_length]) (by simp [hm]) (eB_len bs) ht

/-- A row of elements of some size. -/
theorem Weak.freezeE {q size : Nat} {fr : Bool} {es : List (List DV)} {t m : Nat} (ts : List Nat) (hk : M0.k ≤ q) (hq : H[q]? = some (.cells fr (mkCells es))) (hz : ∀ e ∈ es, e.length = size) (hm : m = es.length) (ht : aget a t = .row q size 0 m) : Weak n M0 a H ((t, .d (.sl size es false)) :: akeep ts a) (H.set q .dead) := by
  have hl : (mkCells es).length = m * size := by
    rw [mkCells, List.length_map, flatten_length es (fun i h => hz _ (List.getElem_mem h)), hm]
  exact Weak.freeze ts hk hq (elems := es) (m := m) (by rw [List.drop_zero, List.take_of_length_le (by omega)]) (by omega) (by simp [hm]) hz ht
end
end Go.R
