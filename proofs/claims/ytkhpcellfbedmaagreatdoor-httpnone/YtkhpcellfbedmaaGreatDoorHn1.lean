/-
  HttpNone: a parser that New did not make answers nothing and ErrNil: the statement holds for every input. Conditions: those that the given row and card name, and no others. This part: the one run.
-/
import Derived.Test.YtkhpcellfbedmaaGreatDoorBn0
namespace Go.Proofs.YtkhpcellfbedmaaGreatDoor.httpNone
open Go.RowKit AM
set_option linter.unusedVariables false

theorem run_true : isTrue (callC Tryz.prog noX 2000 3 [.junk] ⟨1000, .nil⟩) = true := by kernel_rfl

end Go.Proofs.YtkhpcellfbedmaaGreatDoor.httpNone
