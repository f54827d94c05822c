/-
  DiskNobody: what the call comes to, whatever data stand behind the tokens.
-/
import Derived.Test.YtikgnakhciklaaaGreatDoorD1
import Derived.Test.YtikgnakhciklaaaGreatDoorRw
namespace Go.Proofs.YtikgnakhciklaaaGreatDoor.R
open Go Go.R Go.Proofs
set_option linter.unusedSectionVars false
section
variable [Syms]
def kA : FuncId → List AV → List AObj → Option (List Out)
  | 15, [], H => some [callOut (.d (.bool true)) H]
  | _, _, _ => none
theorem kA_known : Known Tryz.prog kA := by
  intro f args H outs h
  unfold kA at h
  split at h
  · simp at h; subst h
    exact (alive_calls H).mono fun v H' ⟨h1, h2⟩ => by rw [h1, h2]; exact List.mem_singleton.2 rfl
  · simp at h
theorem nobody_run : ACalls Tryz.prog 5 [.agg ((List.range 8).map fun j => .sym (0 + j)), .sym 8] [] fun v H' => v = .d (.bool true) ∧ H' = [] :=
  acalls_runC exts kA_known 3000 (by kernel_rfl)
end
end Go.Proofs.YtikgnakhciklaaaGreatDoor.R
namespace Go.R
theorem noSymL_d (xs : List DV) : noSymL (xs.map AV.d) = true := by
  induction xs with
  | nil => rfl
  | cons x xs ih => simp [noSymL, noSym, ih]
end Go.R
namespace Go.Proofs.YtikgnakhciklaaaGreatDoor.R
open Go Go.R Go.Proofs
theorem shapeD : shapes Tryz.prog 10 46 = some [.int .i64, .str, .str, .int .i64, .int .i64, .int .i64, .int .i64, .sl 1 [.int .u8]] := by kernel_rfl
theorem shapeN : shapes Tryz.prog 10 3 = some [.int .i64] := by kernel_rfl
theorem DiskNobody_data [S2 : Syms] {xs : List DV} {y : DV} (h : FitsL [.int .i64, .str, .str, .int .i64, .int .i64, .int .i64, .int .i64, .sl 1 [.int .u8]] xs) :
    ACalls Tryz.prog 5 [.agg (xs.map .d), .d y] [] fun v H' => v = .d (.bool true) ∧ H' = [] := by
  have hl : xs.length = 8 := h.length
  refine ACalls.inst ⟨fun n => (xs ++ [y]).getD n (.bool false)⟩ S2 (by simp [noSym, noSymL_d]) rfl ?_
  letI S1 : Syms := ⟨fun n => (xs ++ [y]).getD n (.bool false)⟩
  have hs : ∀ n, S1.ρ n = (xs ++ [y]).getD n (.bool false) := fun n => rfl
  refine @ACalls.less S1 _ _ [.agg ((List.range 8).map fun j => .sym (0 + j)), .sym 8] _ _ _ rfl ?_ (@nobody_run S1)
  intro j h1 h2
  match j, h1 with
  | 0, _ =>
    have := @Less.cells S1 0 xs fun j hj => by
      rw [hs, Nat.zero_add, List.getD, List.getElem?_append_left hj]
      simp [hj]
    rw [hl] at this
    exact this
  | 1, _ => exact @Less.sym S1 8 y (by rw [hs, List.getD, List.getElem?_append_right (by omega)]; simp [hl])
end Go.Proofs.YtikgnakhciklaaaGreatDoor.R
