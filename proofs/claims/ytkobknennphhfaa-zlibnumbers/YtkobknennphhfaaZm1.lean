/-
  ZlibNumbers: the fixed examples of the chapter come out as written. Conditions: those that the given row names, and no others. This part: the run.
-/
import Derived.Test.YtkobknennphhfaaZb0
namespace Go.Proofs.Ytkobknennphhfaa.zlibNumbers
open Go.RowKit AM
set_option linter.unusedVariables false

theorem run_true : isTrue (callC Try.prog XE 3000 3 [] ⟨1000, .nil⟩) = true := by kernel_rfl

end Go.Proofs.Ytkobknennphhfaa.zlibNumbers
