/-
  The abstract layer, part 9b: a slice's array.
-/
import Derived.Test.YtikgnakhciklaaaGreatDoorRi
namespace Go.R
set_option linter.unusedSectionVars false
variable [Syms]
set_option linter.unusedSimpArgs false

def aarrayPtr (P : Program) (H : List AObj) (arr : TypeId) (x : AV) : ARes :=
  match tArr P arr with
  | some (n, e) =>
    match tSize P e with
    | some size =>
      match x with
      | .d (.sl size' elems _) => ⟨size' = size ∧ n ≤ elems.length, .imm (elems.take n).flatten, H⟩
      | .row i size' off len => ⟨size' = size ∧ 0 < n ∧ n ≤ len, .ptr i off, H⟩
      | _ => fail H
    | none => fail H
  | none => fail H

theorem sound_arrayPtr {P : Program} {M : Mem} {H : List AObj} (hs : St M H) (arr : TypeId) {x : AV} {c : Value} (hx : RelA M x c) : SoundV P (Instr.arrayAt arr c) M (aarrayPtr P H arr x) := by
  unfold aarrayPtr
  split
  · rename_i n e ha
    have hu : P.underlying arr = some (.array n e) := by
      unfold tArr at ha
      cases hu : P.underlying arr with
      | none => simp [hu] at ha
      | some d => cases d <;> simp [hu] at ha; obtain ⟨rfl, rfl⟩ := ha; rfl
    split
    · rename_i size hsz
      split
      · rename_i size' elems ex
        cases hx with
        | d _ _ h =>
          cases h with
          | sl A cap _ _ _ vs hn hex hsz' hI hc hr =>
            refine .pure hs rfl fun hok => ?_
            simp only at hok ⊢
            obtain ⟨rfl, hle⟩ := hok
            refine ⟨.pointer (some A), ?_, ?_⟩
            · simp [Instr.arrayAt, run_underlying hu, Nat.not_lt.2 hle]
            · have hz : ∀ i (h : i < (elems.take n).length), ((elems.take n)[i]'h).length = size' := fun i hi => by
                rw [List.getElem_take]; exact hsz' i _
              have hlen : (elems.take n).flatten.length = n * size' := by
                rw [flatten_length _ hz, List.length_take, Nat.min_eq_left hle]
              have idx : ∀ k, k < n * size' → ∃ i j, i < n ∧ j < size' ∧ k = i * size' + j := fun k hk => by
                have hp : 0 < size' := by
                  rcases Nat.eq_zero_or_pos size' with h | h
                  · subst h; simp at hk
                  · exact h
                exact ⟨k / size', k % size', (Nat.div_lt_iff_lt_mul hp).2 hk, Nat.mod_lt _ hp, by rw [Nat.mul_comm]; exact (Nat.div_add_mod k size').symm⟩
              refine .imm _ _ vs (fun h => ?_) (fun k hk => ?_) (fun k hk => ?_)
              · rw [hlen] at h
                exact hI (Nat.lt_of_lt_of_le h (Nat.mul_le_mul_right _ hle))
              · rw [hlen] at hk
                obtain ⟨i, j, h1, h2, rfl⟩ := idx k hk
                exact hc i j (by omega) h2
              · have hk' := hk
                rw [hlen] at hk'
                obtain ⟨i, j, h1, h2, rfl⟩ := idx k hk'
                have hi : i < elems.length := by omega
                have hj : j < (elems[i]'hi).length := by rw [hsz' i hi]; exact h2
                have e1 := flatten_get (elems.take n) hz i j (by rw [List.length_take]; omega) h2
                rw [List.getElem?_eq_getElem hk, List.getElem?_take_of_lt h1, List.getElem?_eq_getElem hi, Option.bind_some, List.getElem?_eq_getElem hj] at e1
                rw [Option.some.inj e1]
                exact hr i j hi hj
      · rename_i i size' off len
        obtain ⟨hik, h⟩ := hx.row_inv
        refine .pure hs rfl fun hok => ?_
        simp only at hok ⊢
        obtain ⟨rfl, h0, hle⟩ := hok
        rcases h with ⟨cap, rfl, _⟩ | ⟨rfl, A, rfl⟩
        · refine ⟨.pointer (some ⟨M.r i, M.o i + off, none⟩), ?_, .ptr i off hik⟩
          simp [Instr.arrayAt, run_underlying hu, Nat.not_lt.2 hle]
        · omega
      · exact .fail
    · exact .fail
  · exact .fail

end Go.R
