import Derived.Test.YtikgnakhciklaaaDoorN3
namespace Go.Proofs.YtikgnakhciklaaaDoor.R
open Go Go.R Go.Proofs
set_option linter.unusedSimpArgs false
set_option linter.unusedVariables false
set_option maxRecDepth 8000
theorem alive_run : allTo' (.d (.bool true)) [] (xrunC Tryd.prog [((99 : FuncId), XK.idxB)] kn38 3000 (.call 7 [] [])) = true := by kernel_rfl
theorem alive_calls (H : List AObj) : ACalls Tryd.prog 7 [] H fun v H' => v = .d (.bool true) ∧ H' = H := ACalls.alone rfl (by simp) (acalls_runC exts kn38_known 3000 alive_run) H
theorem nob0 (H : List AObj) : Nob H .pnil := .inl rfl
theorem nob1 (H J : List AObj) (h : J[1]? = some (bare false)) : Nob (H ++ J) (.ptr (H.length + 1) 0) := .inr ⟨_, false, rfl, by rw [List.getElem?_append_right (by omega)]; simpa using h⟩

end Go.Proofs.YtikgnakhciklaaaDoor.R
