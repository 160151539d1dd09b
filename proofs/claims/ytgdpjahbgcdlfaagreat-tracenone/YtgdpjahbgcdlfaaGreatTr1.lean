/-
  TraceNone: missing worlds and paths are refused, and tell nothing: the statement holds for every input. Conditions: those that the given row names, and no others. This part: the one run.
-/
import Derived.Test.YtgdpjahbgcdlfaaGreatBn0
namespace Go.Proofs.YtgdpjahbgcdlfaaGreat.traceNone
open Go.RowKit AM
set_option linter.unusedVariables false

theorem run_true : isTrue (callC Tryz.prog noX 2000 3 [.junk, .agg (List.replicate 6 .junk)] ⟨1000, .nil⟩) = true := by kernel_rfl

end Go.Proofs.YtgdpjahbgcdlfaaGreat.traceNone
