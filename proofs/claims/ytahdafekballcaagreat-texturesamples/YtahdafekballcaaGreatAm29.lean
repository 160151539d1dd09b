/-
  AM, part 29: a function without arguments that has been run by itself is told what it answers.
-/
import Derived.Test.YtahdafekballcaaGreatAm28
namespace Go.Proofs.YtahdafekballcaaGreat.AM
open Go Go.RowKit
set_option linter.unusedVariables false
set_option linter.unusedSimpArgs false

variable {P : Program}

mutual
/-- Nothing in it stands in memory. -/
def closedA : AV → Bool
  | .int _ _ => true
  | .bool _ => true
  | .agg cs => closedL cs
  | .tup cs => closedL cs
  | _ => false
def closedL : List AV → Bool
  | [] => true
  | v :: vs => closedA v && closedL vs
end

mutual
theorem VR.closed {ρ ρ' : Rho} : ∀ {v : AV} {x : Value}, VR ρ v x → closedA v = true → VR ρ' v x
  | _, _, .int k n, _ => .int k n
  | _, _, .bool b, _ => .bool b
  | _, _, .agg x x' e, h => .agg x x' (VRL.closed e (by simpa only [closedA] using h))
  | _, _, .tup x x' e, h => .tup x x' (VRL.closed e (by simpa only [closedA] using h))
  | _, _, .junk _, h => by simp [closedA] at h
  | _, _, .str _ _ _, h => by simp [closedA] at h
  | _, _, .nilp, h => by simp [closedA] at h
  | _, _, .ptr _ _ _ _, h => by simp [closedA] at h
  | _, _, .nils, h => by simp [closedA] at h
  | _, _, .slice _ _ _ _ _ _ _ _ _ _ _ _ _ _, h => by simp [closedA] at h
  | _, _, .nilm, h => by simp [closedA] at h
  | _, _, .map _ _ _, h => by simp [closedA] at h
  | _, _, .fn _ _ _ _ _ _ _, h => by simp [closedA] at h
  | _, _, .nilf, h => by simp [closedA] at h
  | _, _, .iface _ _ _ _, h => by simp [closedA] at h
  | _, _, .nili, h => by simp [closedA] at h
theorem VRL.closed {ρ ρ' : Rho} : ∀ {v : List AV} {x : List Value}, VRL ρ v x → closedL v = true → VRL ρ' v x
  | _, _, .nil, _ => .nil
  | _, _, .cons v v' vs vs' e es, h => by
    simp only [closedL, Bool.and_eq_true] at h
    exact .cons _ _ _ _ (VR.closed e h.1) (VRL.closed es h.2)
end

def toldV (f0 : FuncId) (v : AV) : Told := fun f => bif Nat.beq f f0 then some (fun args h => match args with
  | [] => some (.ret v, h)
  | _ :: _ => none) else none

theorem toldV_is {f0 : FuncId} {v : AV} {f : FuncId} {g : List AV → Heap → Option (Fin × Heap)} (h : toldV f0 v f = some g) : f = f0 ∧ g = fun args h => match args with
  | [] => some (.ret v, h)
  | _ :: _ => none := by
  unfold toldV at h
  cases hb : Nat.beq f f0 with
  | false => rw [hb] at h; cases h
  | true => rw [hb] at h; exact ⟨Nat.eq_of_beq_eq_true hb, (Option.some.inj h).symm⟩

theorem toldV_hu (f0 : FuncId) (v : AV) : ToldHU (toldV f0 v) := by
  intro f g hg args h r h' E h2 he u
  obtain ⟨_, rfl⟩ := toldV_is hg
  cases args with
  | nil =>
    simp only [Option.some.injEq, Prod.mk.injEq] at he
    obtain ⟨rfl, rfl⟩ := he
    exact ⟨h2, rfl, u⟩
  | cons a l => cases he

theorem toldV_ok (hm : P.follows .mixedOrders = true) (hP : ∀ (f : FuncId) (fn : Func), P.funcs[f]? = some fn → fn.body.isNone = false → (fn.name == "runtime.NumGoroutine") = false) {f0 : FuncId} {v : AV} (hv : closedA v = true) {n0 : Nat} {h0 : Heap} (e : Runs P noX f0 [] ⟨n0, .nil⟩ (.ret v) h0) (hbody : ∃ fn c, P.funcs[f0]? = some fn ∧ fn.body = some c) : ToldOK P (toldV f0 v) := by
  intro f g hg args h r h' he
  obtain ⟨rfl, rfl⟩ := toldV_is hg
  obtain ⟨n, e⟩ := e
  rcases callA_ok hm hP told_none_ok told_none_hu n f [] ⟨n0, .nil⟩ _ _ e with ok | ⟨_, _, _, ⟨fn, q1, q2⟩, _⟩
  case inr =>
    obtain ⟨fn', c, q3, q4⟩ := hbody
    rw [q1] at q3
    cases q3
    rw [q2] at q4
    cases q4
  refine ⟨ok.1, fun B w0 ρ w vs S hvs => ?_⟩
  cases args with
  | cons a l => cases he
  | nil =>
    simp only [Option.some.injEq, Prod.mk.injEq] at he
    obtain ⟨rfl, rfl⟩ := he
    have hv0 : vs.toList = [] := by cases hq : vs.toList with
      | nil => rfl
      | cons a l => rw [hq] at hvs; cases hvs
    refine (ok.2 w.heap.size w (fun _ => none) w vs (Sim.start w n0) (by rw [hv0]; exact .nil)).mono fun en w' hp => ?_
    obtain ⟨ρ', k1, _, _, _, k5⟩ := hp
    have hb := k1.below
    have hsz : B ≤ w.heap.size := Nat.le_trans S.bsize S.below.size
    refine ⟨ρ, S.world (S.below.trans (hb.mono hsz)) (fun k o hk => ?_), fun _ _ h => h, fun _ _ => rfl, Nat.le_refl _, ?_⟩
    · have hlt : k < w.heap.size := by
        rcases Nat.lt_or_ge k w.heap.size with q | q
        · exact q
        · rw [Array.getElem?_eq_none q] at hk; cases hk
      rw [hb.block k hlt]; exact hk
    · cases en with
      | returned x =>
        have : VR ρ' v x := k5
        exact this.closed hv
      | panicked ch => exact k5.elim
      | outgrown => exact k5.elim

/-- What a function without arguments answers. -/
noncomputable def answer (P : Program) (f : FuncId) : AV :=
  match callC P noX 2000 f [] ⟨1000, .nil⟩ with
  | some (.ret v, _) => v
  | _ => .junk

theorem answer_runs {f : FuncId} (h : closedA (answer P f) = true) : ∃ h0, Runs P noX f [] ⟨1000, .nil⟩ (.ret (answer P f)) h0 := by
  unfold answer at h ⊢
  split at h
  · rename_i v h0 hc
    exact ⟨h0, callC_ok 2000 f [] _ _ _ hc⟩
  · simp [closedA] at h

end Go.Proofs.YtahdafekballcaaGreat.AM
