/-
  ImageNone: missing worlds and jobs are refused, and tell nothing: the statement holds for every input. Conditions: those that the given row names, and no others. This part: the one run.
-/
import Derived.Test.YthaobeiafpcelaaGreatBn0
import Derived.Test.YthaobeiafpcelaaGreatAm29
namespace Go.Proofs.YthaobeiafpcelaaGreat.imageNone
open Go.RowKit AM
set_option linter.unusedVariables false

noncomputable def XI : AM.Told := toldV 140 (answer Tryz.prog 140)

theorem table_closed : closedA (answer Tryz.prog 140) = true := by kernel_rfl

theorem told_ok : ToldOK Tryz.prog XI := by
  obtain ⟨h0, r⟩ := answer_runs table_closed
  exact toldV_ok mixed names table_closed r ⟨_, _, Tryz.func140, rfl⟩

end Go.Proofs.YthaobeiafpcelaaGreat.imageNone
