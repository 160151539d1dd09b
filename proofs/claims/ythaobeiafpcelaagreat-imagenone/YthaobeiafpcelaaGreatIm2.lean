/-
  ImageNone: missing worlds and jobs are refused, and tell nothing: the statement holds for every input. Conditions: those that the given row names, and no others. This part: the one run.
-/
import Derived.Test.YthaobeiafpcelaaGreatIm1
namespace Go.Proofs.YthaobeiafpcelaaGreat.imageNone
open Go.RowKit AM
set_option linter.unusedVariables false

theorem run_true : isTrue (callC Tryz.prog XI 2000 3 [.junk, .junk] ⟨1000, .nil⟩) = true := by kernel_rfl

end Go.Proofs.YthaobeiafpcelaaGreat.imageNone
