/-
  The frame laws, part 11: lists that are handed in.
-/
import Derived.Test.YtmggkamdihgmiaaFr1
import Derived.Test.YtmggkamdihgmiaaAm21
import Derived.OpenShut
import Derived.SizedLaws
import Derived.ChangeSlices
import Derived.DataShut
namespace Go.Proofs.Ytmggkamdihgmiaa.AM
open Go Go.Proofs Go.RowKit
set_option linter.unusedVariables false
set_option linter.unusedSimpArgs false

/-- A slice of whole numbers in the world. -/
def IsRow (w : World) (v : Value) (len : Nat) (zs : List Int) : Prop :=
  (v = .slice none 0 0 ∧ len = 0 ∧ zs = []) ∨ ∃ a cap, v = .slice (some a) len cap ∧ len ≤ cap ∧ zs.length = cap ∧ (∀ i, i < zs.length → w.cell? (a.add i) = some (.int .i64 (zs.getD i 0))) ∧ (∀ n, n ∈ zs → (Lit.int .i64 n).wf = true) ∧ cap * 8 ≤ 140737488355328

theorem Sim.row {B : Nat} {w0 w : World} {ρ : Rho} {h : Heap} (S : Sim B w0 ρ h w) (hro : RoOnly h) {b : Nat} (hf : ρ b = none) (hn : h.get b = none) (hl : b < h.next) {v : Value} {len : Nat} {zs : List Int} (hr : IsRow w v len zs) :
    ∃ ρ' h' av, Sim B w0 ρ' h' w ∧ RoOnly h' ∧ Ext ρ ρ' ∧ h'.next = h.next ∧ (∀ c, c ≠ b → ρ' c = ρ c ∧ h'.get c = h.get c) ∧ VR ρ' av v ∧ Holds h' av (zs.take len) := by
  rcases hr with ⟨rfl, rfl, rfl⟩ | ⟨a, cap, rfl, h1, h2, h3, h4, h5⟩
  · exact ⟨ρ, h, .nils, S, hro, Ext.refl _, rfl, fun _ _ => ⟨rfl, rfl⟩, .nils, .inl ⟨rfl, rfl⟩⟩
  · obtain ⟨ρ', h', k1, k2, k3, k4, k5, k6, k7⟩ := S.ints hro hf hn hl h2 h1 h3
    have e : (zs.take len).length = len := by rw [List.length_take]; omega
    refine ⟨ρ', h', _, k1, k2, k3, k4, k5, k6, .inr ⟨b, 0, cap, true, by rw [e], ?_, by omega, by omega, by omega⟩⟩
    rw [e]; exact k7

theorem open_row {H : Type} {enc : TypeId × Value → H} {W : World} {v : Value} {d : DataW H} {p : List MemPlace} {ts : List TypeId} {ds : List (DataW H)} {j : Nat}
    (h : DataW.Trod enc Try.prog W 0 (fun _ => true) true 22 v d p) (hsz : (DataW.weightsEach Try.prog ts ds).all (· ≤ reachBytes) = true) (ht : ts[j]? = some 22) (hd : ds[j]? = some d) (hv : ∃ a len cap, v = .slice a len cap) :
    ∃ len zs, IsRow W v len zs ∧ (∀ n, n ∈ zs.take len → -9223372036854775808 ≤ n ∧ n < 9223372036854775808) := by
  obtain ⟨a, len, cap, rfl⟩ := hv
  obtain ⟨fuel, hf⟩ := h
  rcases Go.ChangeShapes.open_ints Try.underlying22 Try.underlying3 (by kernel_rfl) hf with ⟨hcs, _⟩ | ⟨x, l, c, zs, hcs, _, hl, hm, hz, hx, hcell, hwz⟩
  · simp [Value.cells] at hcs
    obtain ⟨rfl, rfl, rfl⟩ := hcs
    exact ⟨0, [], .inl ⟨rfl, rfl, rfl⟩, fun n hn => by simp at hn⟩
  · simp [Value.cells] at hcs
    obtain ⟨rfl, rfl, rfl⟩ := hcs
    have hz : zs.length = cap := by simpa using hz
    have hd' := congrArg Prod.fst hx
    simp only at hd'
    rw [hd'] at hd
    have z := Go.sized_slice hsz ht hd Try.underlying22
    have hb : Try.prog.bytesOf 3 = 8 := by kernel_rfl
    rw [hb] at z
    simp only [Go.ChangeShapes.lits, List.length_map, List.length_take, List.length_drop, reachBytes] at z
    refine ⟨len, zs, .inr ⟨x, cap, rfl, hl, hz, hcell, hwz, by omega⟩, fun n hn => ?_⟩
    have := hwz n (List.mem_of_mem_take hn)
    have b := (Lit.wf_int_iff .i64 n).mp this
    have e1 : IntKind.i64.min = -9223372036854775808 := rfl
    have e2 : IntKind.i64.max = 9223372036854775807 := rfl
    omega

end Go.Proofs.Ytmggkamdihgmiaa.AM
