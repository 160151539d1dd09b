/-
  BvhNone: a tree that Build did not make hits nothing: the statement holds for every input. Conditions: those that the given row names, and no others.
-/
import Derived.Test.YtahdafekballcaaGreatRows
import Derived.WalkKit
import Derived.ProofKit
import Derived.OpenShut
import Derived.SizedLaws
import Derived.Carry
import Derived.Test.YtahdafekballcaaGreatAm21
import Derived.Test.YtahdafekballcaaGreatAm28
namespace Go.Proofs.YtahdafekballcaaGreat.AM
open Go Go.Proofs Go.RowKit
set_option linter.unusedVariables false

theorem mixed : Tryz.prog.follows .mixedOrders = true := by kernel_rfl
theorem own : ownKnob Tryz.prog.godebug = none := by kernel_rfl
theorem laidOut : laidOutB Tryz.prog = true := by kernel_rfl
theorem names_ok : (Tryz.prog.funcs.all fun fn => fn.body.isNone || !(fn.name == "runtime.NumGoroutine")) = true := by kernel_rfl
theorem names (f : FuncId) (fn : Func) (hf : Tryz.prog.funcs[f]? = some fn) (hb : fn.body.isNone = false) : (fn.name == "runtime.NumGoroutine") = false := by
  obtain ⟨hi, rfl⟩ := Array.getElem?_eq_some_iff.mp hf
  have := Array.all_eq_true.mp names_ok f hi
  rw [hb] at this
  simpa using this

def isTrue : Rs → Bool
  | some (.ret (.bool b), _) => b
  | _ => false

theorem isTrue_runs {n : Nat} {f : FuncId} {args : List AV} {h : Heap} (e : isTrue (callC Tryz.prog noX n f args h) = true) : ∃ h', Runs Tryz.prog noX f args h (.ret (.bool true)) h' := by
  cases hc : callC Tryz.prog noX n f args h with
  | none => rw [hc] at e; cases e
  | some r =>
    obtain ⟨v, h'⟩ := r
    rw [hc] at e
    match v, e with
    | .ret (.bool true), _ => exact ⟨h', callC_ok n f args h _ _ hc⟩

theorem runs_calls {f : FuncId} {args : List AV} {h h' : Heap} {b : Bool} (r : Runs Tryz.prog noX f args h (.ret (.bool b)) h') {w : World} {ρ : Rho} {vs : Array Value} (S : Sim w.heap.size w ρ h w) (hv : VRL ρ args vs.toList) (hbody : ∃ fn c, Tryz.prog.funcs[f]? = some fn ∧ fn.body = some c) :
    Calls Tryz.prog f vs w fun e w' => e = .returned (.bool b) ∧ Below w.heap.size w w' :=
  r.calls mixed names told_none_ok told_none_hu S hv hbody

/-- Values of which nothing is known. -/
theorem vrl_junk {ρ : Rho} : ∀ (l : List Value), VRL ρ (List.replicate l.length .junk) l
  | [] => .nil
  | v :: l => .cons _ _ _ _ (.junk v) (vrl_junk l)

end Go.Proofs.YtahdafekballcaaGreat.AM
