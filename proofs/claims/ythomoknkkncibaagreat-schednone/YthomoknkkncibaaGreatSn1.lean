/-
  SchedNone: missing scheds, jobs and members are refused, and tell nothing: the statement holds for every input. Conditions: those that the given row names, and no others. This part: the one run.
-/
import Derived.Test.YthomoknkkncibaaGreatBn0
namespace Go.Proofs.YthomoknkkncibaaGreat.schedNone
open Go.RowKit AM
set_option linter.unusedVariables false

theorem run_pos (x : Nat) (k : Int) : isTrue (callC Tryz.prog noX 2000 3 [.int .i64 (Int.ofNat x), .int .i64 k] ⟨1000, .nil⟩) = true := by kernel_rfl
theorem run_one (k : Int) : isTrue (callC Tryz.prog noX 2000 3 [.int .i64 (Int.negSucc 0), .int .i64 k] ⟨1000, .nil⟩) = true := by kernel_rfl
theorem run_neg (x : Nat) (k : Int) : isTrue (callC Tryz.prog noX 2000 3 [.int .i64 (Int.negSucc (Nat.succ x)), .int .i64 k] ⟨1000, .nil⟩) = true := by kernel_rfl

theorem run_true (m k : Int) : isTrue (callC Tryz.prog noX 2000 3 [.int .i64 m, .int .i64 k] ⟨1000, .nil⟩) = true :=
  match m with
  | .ofNat x => run_pos x k
  | .negSucc 0 => run_one k
  | .negSucc (x + 1) => run_neg x k

end Go.Proofs.YthomoknkkncibaaGreat.schedNone
