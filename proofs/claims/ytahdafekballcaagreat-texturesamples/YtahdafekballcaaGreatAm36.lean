/-
  AM, part 36: functions that are told by what they answer, at arguments that do not stand in memory.
-/
import Derived.Test.YtahdafekballcaaGreatAm35
namespace Go.Proofs.YtahdafekballcaaGreat.AM
open Go Go.RowKit
set_option linter.unusedVariables false
set_option linter.unusedSimpArgs false

variable {P : Program} {X : Told}

mutual
theorem freeA_beq : ∀ {v : AV}, freeA v = true → AV.beq v v = true
  | .int k n, _ => by simp [AV.beq]
  | .bool b, _ => by simp [AV.beq]
  | .str s, _ => by simp [AV.beq]
  | .nilp, _ => rfl
  | .nils, _ => rfl
  | .nilm, _ => rfl
  | .nilf, _ => rfl
  | .nili, _ => rfl
  | .iface t v, h => by
    simp only [freeA] at h
    simp only [AV.beq, freeA_beq h, Bool.and_true]
    exact Nat.beq_refl t
  | .agg cs, h => by
    simp only [freeA] at h
    simp only [AV.beq]
    exact freeL_beqs h
  | .tup cs, h => by
    simp only [freeA] at h
    simp only [AV.beq]
    exact freeL_beqs h
  | .junk, h => by simp [freeA] at h
  | .ptr _ _, h => by simp [freeA] at h
  | .slice _ _ _ _ _ _, h => by simp [freeA] at h
  | .map _, h => by simp [freeA] at h
  | .fn _ _ _, h => by simp [freeA] at h
theorem freeL_beqs : ∀ {l : List AV}, freeL l = true → AV.beqs l l = true
  | [], _ => rfl
  | v :: vs, h => by
    simp only [freeL, Bool.and_eq_true] at h
    simp only [AV.beqs, freeA_beq h.1, freeL_beqs h.2, Bool.and_true]
end

def ansQ (q : List AV → Option AV) : List AV → Heap → Option (Fin × Heap) := fun args h => match q args with
  | some v => some (.ret v, h)
  | none => none

def toldQ : List (FuncId × (List AV → Option AV)) → Told
  | [], _ => none
  | (g, q) :: l, f => bif Nat.beq g f then some (ansQ q) else toldQ l f

theorem toldQ_is : ∀ {l : List (FuncId × (List AV → Option AV))} {f : FuncId} {g : List AV → Heap → Option (Fin × Heap)}, toldQ l f = some g → ∃ q, (f, q) ∈ l ∧ g = ansQ q
  | [], f, g, h => by cases h
  | (f0, q) :: l, f, g, h => by
    unfold toldQ at h
    cases hb : Nat.beq f0 f with
    | true =>
      rw [hb] at h
      obtain rfl := Nat.eq_of_beq_eq_true hb
      exact ⟨q, .head _, (Option.some.inj h).symm⟩
    | false =>
      rw [hb] at h
      obtain ⟨q', h1, h2⟩ := toldQ_is (l := l) h
      exact ⟨q', .tail _ h1, h2⟩

theorem toldQ_hu (l : List (FuncId × (List AV → Option AV))) : ToldHU (toldQ l) := by
  intro f g hg args h r h' E h2 he u
  obtain ⟨q, _, rfl⟩ := toldQ_is hg
  unfold ansQ at he ⊢
  split at he
  · obtain ⟨rfl, rfl⟩ := Prod.mk.inj (Option.some.inj he)
    exact ⟨h2, rfl, u⟩
  · cases he

theorem toldQ_ok (hm : P.follows .mixedOrders = true) (hP : ∀ (f : FuncId) (fn : Func), P.funcs[f]? = some fn → fn.body.isNone = false → (fn.name == "runtime.NumGoroutine") = false) {l : List (FuncId × (List AV → Option AV))}
    (hl : ∀ f q, (f, q) ∈ l → ∀ args v, q args = some v → (Tell.mk f args v).True P) : ToldOK P (toldQ l) := by
  intro f g hg args h r h' he
  obtain ⟨q, hq, rfl⟩ := toldQ_is hg
  unfold ansQ at he
  split at he
  case h_2 => cases he
  rename_i v hv
  obtain ⟨rfl, rfl⟩ := Prod.mk.inj (Option.some.inj he)
  have ht := hl f q hq args v hv
  have := toldL_ok hm hP (fs := [f]) (l := [⟨f, args, v⟩]) (fun t ht' => by
    rw [List.mem_singleton] at ht'
    subst ht'
    exact ht)
  have hx : toldL [f] [⟨f, args, v⟩] f = some (fun args' h => match tellAt f args' [⟨f, args, v⟩] with
      | some v => some (.ret v, h)
      | none => none) := by
    unfold toldL
    simp [memN]
    funext a b
    cases tellAt f a [⟨f, args, v⟩] <;> rfl
  obtain ⟨_, _, hbody, X0, n0, h0, hX, hXu, n, e⟩ := ht
  have hfa := hl f q hq args v hv
  have htell : tellAt f args [⟨f, args, v⟩] = some v := by
    have : AV.beqs args args = true := freeL_beqs hfa.1
    unfold tellAt
    rw [this]
    simp
  exact this f _ hx args h (.ret v) h (by rw [htell])

/-- A told function's run. -/
theorem Runs.told {f : FuncId} {g : List AV → Heap → Option (Fin × Heap)} (hg : X f = some g) {args : List AV} {h : Heap} {r : Fin} {h' : Heap} (e : g args h = some (r, h')) : Runs P X f args h r h' :=
  ⟨1, by simp only [callA, hg]; exact e⟩

end Go.Proofs.YtahdafekballcaaGreat.AM
