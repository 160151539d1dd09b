/-
  ZlibNone: a writer that New did not make answers nothing and ErrNil: the statement holds for every input. Conditions: those that the given row names, and no others.
-/
import Derived.Test.YtkobknennphhfaaZn1
import Derived.ChangeSlices
namespace Go.Proofs.Ytkobknennphhfaa.zlibNone
open Go.ChangeShapes Go.WideShapes Go.ChangeAt Go.RowKit AM
set_option linter.unusedVariables false

theorem walk_nil (w : World) :
    Calls Try.prog 4 #[.slice none 0 0] w fun e w' => e = .returned (.bool true) ∧ Below w.heap.size w w' := by
  obtain ⟨h', r⟩ := isTrue_runsE run_nil
  exact runs_callsE r (Sim.start w 1000) (.cons _ _ _ _ .nils .nil) ⟨_, _, Try.func4, rfl⟩

theorem walk_some (w : World) (a : Addr) (len cap : Nat) (zs : List Int) (hz : zs.length = cap) (hlen : len ≤ cap) (hc : ∀ i, i < zs.length → w.cell? (a.add i) = some (.int .u8 (zs.getD i 0))) :
    Calls Try.prog 4 #[.slice (some a) len cap] w fun e w' => e = .returned (.bool true) ∧ Below w.heap.size w w' := by
  obtain ⟨h', r⟩ := isTrue_runsE (run_some len cap)
  obtain ⟨ρ', h1, k1, _, _, k4, _, k6, _⟩ := (Sim.start w 1000).ints (RoOnly.empty 1000) (b := 7) rfl rfl (by show 7 < 1000; omega) hz hlen hc
  have S : Sim w.heap.size w ρ' ⟨1000, .nil⟩ w := k1.forget (by rw [k4]; exact Nat.le_refl _) (fun b o h => by cases h)
  exact runs_callsE r S (.cons _ _ _ _ k6 .nil) ⟨_, _, Try.func4, rfl⟩

set_option maxRecDepth 100000 in
theorem lifted (os : Os) (started : os.Started) (H : Type) (enc : TypeId × Value → H) :
    ReturnsInHanded {} Try.checked os 4 .any (Rows.zlibNoneSpec.pre6 enc Try.prog Try.f4 Rows.zlibNoneRow.domain false) (Rows.zlibNoneSpec.post enc Try.prog Try.f4 false true false false) := by
  refine returnsInHanded_of_change (C := Try.checked) own started (by kernel_rfl) Try.func4
    (ChangeSpec.witness6 (enc := enc) (C := Try.checked) false ⟨#[], #[.slice none 0 0], []⟩ 8 (by kernel_rfl) (by kernel_rfl) (by kernel_rfl) (by kernel_rfl)) ?_
  intro W base args ds gs before hval0 hW hcnd _
  have hval : ∀ (j : Nat) t v, Try.f4.params[j]? = some t → args[j]? = some v → Value.okWide Try.prog W .any base t v := hval0
  have hW' := hW
  obtain ⟨p, q, hA0, hV, rfl, hfz, hnd⟩ := hW
  have hA : DataW.TrodAll enc Try.prog W 0 (fun _ => true) true Try.f4.params.toList args.toList ds p := hA0
  rw [Try.params4] at hA hval
  obtain ⟨v0, vs0, d0, ds0, p0, q0, hargs, rfl, rfl, h0, r0⟩ := trodAll_cons hA
  obtain ⟨rfl, rfl, rfl⟩ := trodAll_nil r0
  obtain rfl : args = #[v0] := by cases args; simp_all
  obtain ⟨rfl, rfl⟩ := trodVars_none hV
  have lt0 : ∀ x ∈ p0, x.block < W.heap.size := by obtain ⟨m, hm⟩ := h0; exact DataW.trod_lt m _ _ _ hm
  have hv : ∃ a len cap, v0 = .slice a len cap := okWide_slice Try.underlying24 (hval 0 24 v0 rfl rfl)
  clear hA0 hval0
  have main : Calls Try.prog 4 #[v0] W fun e w' => e = .returned (.bool true) ∧ Below W.heap.size W w' := by
    obtain ⟨a, len, cap, rfl⟩ := hv
    obtain ⟨fuel, hf⟩ := h0
    rcases open_ints Try.underlying24 Try.underlying5 (by kernel_rfl) hf with ⟨hcs, _⟩ | ⟨x, l, c, zs, hcs, _, hl, hm, hz, hx, hcell, hwz⟩
    · simp [Value.cells] at hcs
      obtain ⟨rfl, rfl, rfl⟩ := hcs
      exact walk_nil W
    · simp [Value.cells] at hcs
      obtain ⟨rfl, rfl, rfl⟩ := hcs
      have hz : zs.length = cap := by simpa using hz
      exact walk_some W x len cap zs hz hl hcell
  refine main.mono fun e W' ⟨he, bel⟩ => ?_
  subst he
  exact ⟨_, rfl, _, _, _, [], _, [], hW', trodAll_mk1 (shut_bool Try.underlying4 _), (trodAll_cons_mk (Below.trod laidOut (by kernel_rfl) (of_decide_eq_true (by kernel_rfl)) h0 bel lt0) trodAll_mk0), rfl, bel.frame _, fun h => by cases h⟩

theorem over : Rows.zlibNoneRow.holds Try.pinned (OpenSpec.ofChange Rows.zlibNoneSpec) :=
  OpenClaim.holds_of_wide 4 Try.f4 rfl rfl rfl rfl rfl rfl rfl ⟨rfl, rfl, rfl, rfl, rfl⟩ rfl rfl rfl rfl rfl (by kernel_rfl) Try.func4 (by kernel_rfl)
    (of_decide_eq_true (by kernel_rfl)) (by unfold Func.isWrapper; first | (rw [if_pos (by decide +kernel)]; kernel_rfl) | (rw [if_neg (by decide +kernel)]; exact ⟨rfl, rfl⟩))
    (fun os started H enc _ => lifted os started H enc)

end Go.Proofs.Ytkobknennphhfaa.zlibNone
namespace Go.Proofs.Ytkobknennphhfaa
/-- The statement. -/
theorem zlibNone_holds : Rows.ZlibNoneSaid := zlibNone.over
end Go.Proofs.Ytkobknennphhfaa
