/-
  ZlibNone: a writer that New did not make answers nothing and ErrNil: the statement holds for every input. Conditions: those that the given row names, and no others. This part: the two runs.
-/
import Derived.Test.YtkobknennphhfaaZb0
namespace Go.Proofs.Ytkobknennphhfaa.zlibNone
open Go.RowKit AM
set_option linter.unusedVariables false

theorem run_nil : isTrue (callC Try.prog XE 3000 4 [.nils] ⟨1000, .nil⟩) = true := by kernel_rfl
theorem run_some (len cap : Nat) : isTrue (callC Try.prog XE 3000 4 [.slice 7 0 len cap true 1] ⟨1000, .nil⟩) = true := by kernel_rfl

end Go.Proofs.Ytkobknennphhfaa.zlibNone
