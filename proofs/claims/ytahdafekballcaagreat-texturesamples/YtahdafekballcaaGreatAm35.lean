/-
  AM, part 35: pieces of code.
-/
import Derived.Test.YtahdafekballcaaGreatAm34
namespace Go.Proofs.YtahdafekballcaaGreat.AM
open Go Go.RowKit
set_option linter.unusedVariables false

noncomputable def cA : Code → Code
  | .seq a _ => a
  | c => c
noncomputable def cB : Code → Code
  | .seq _ b => b
  | c => c
noncomputable def cOps : Code → Array Oper
  | .region _ ops _ => ops
  | _ => #[]
noncomputable def cId : Code → Nat
  | .region id _ _ => id
  | _ => 0
noncomputable def opAt (ops : Array Oper) (i : Nat) : Oper := ops.getD i default
noncomputable def opDst (o : Oper) : Tmp := o.dst.getD 0
noncomputable def opCap (o : Oper) : Array Operand :=
  match o.op with
  | .makeFunc _ _ c => c
  | _ => #[]
noncomputable def opCall (o : Oper) : Call :=
  match o.op with
  | .defer c => c
  | .call c => c
  | _ => { callee := .builtin .recover, args := #[], argTypes := #[] }

end Go.Proofs.YtahdafekballcaaGreat.AM
