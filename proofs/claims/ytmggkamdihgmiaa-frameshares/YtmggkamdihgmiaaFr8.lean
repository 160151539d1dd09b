/-
  The frame laws, part 8: what all four rows need.
-/
import Derived.Test.YtmggkamdihgmiaaRows
import Derived.WalkKit
import Derived.ProofKit
import Derived.OpenShut
import Derived.Test.YtmggkamdihgmiaaFr3
namespace Go.Proofs.Ytmggkamdihgmiaa
open Go.ChangeShapes Go.WideShapes Go.ChangeAt Go.RowKit AM
set_option linter.unusedVariables false

theorem own : ownKnob Try.prog.godebug = none := by kernel_rfl

theorem mixed : Try.prog.follows .mixedOrders = true := by kernel_rfl

theorem names_ok : (Try.prog.funcs.all fun fn => fn.body.isNone || !(fn.name == "runtime.NumGoroutine")) = true := by kernel_rfl

theorem names (f : FuncId) (fn : Func) (hf : Try.prog.funcs[f]? = some fn) (hb : fn.body.isNone = false) : (fn.name == "runtime.NumGoroutine") = false := by
  obtain ⟨hi, rfl⟩ := Array.getElem?_eq_some_iff.mp hf
  have := Array.all_eq_true.mp names_ok f hi
  rw [hb] at this
  simpa using this

def isTrue : Option (AM.Fin × Heap) → Bool
  | some (.ret (.bool b), _) => b
  | _ => false

theorem awake_run : isTrue (callA Try.prog noX 500 15 [] ⟨1000, .nil⟩) = true := by kernel_rfl

theorem awake_is : ∃ h0, callA Try.prog noX 500 15 [] ⟨1000, .nil⟩ = some (.ret (.bool true), h0) := by
  have h := awake_run
  generalize callA Try.prog noX 500 15 [] ⟨1000, .nil⟩ = r at h
  match r, h with
  | some (.ret (.bool true), h0), _ => exact ⟨h0, rfl⟩

theorem told_ok : ToldOK Try.prog XA := by
  obtain ⟨h0, e⟩ := awake_is
  exact toldB_ok mixed names e

theorem runs_calls {f : FuncId} {args : List AV} {h h' : Heap} {b : Bool} (r : Runs Try.prog XA f args h (.ret (.bool b)) h') {w : World} {ρ : Rho} {vs : Array Value} (S : Sim w.heap.size w ρ h w) (hv : VRL ρ args vs.toList) :
    Calls Try.prog f vs w fun e w' => e = .returned (.bool b) ∧ Below w.heap.size w w' :=
  r.calls mixed names told_ok (toldB_hu 15 true) S hv

end Go.Proofs.Ytmggkamdihgmiaa
