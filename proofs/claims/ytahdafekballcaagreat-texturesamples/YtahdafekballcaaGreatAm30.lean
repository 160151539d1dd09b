/-
  AM, part 30: functions that have been run by themselves, at arguments that do not stand in memory, are told what they answer.
-/
import Derived.Test.YtahdafekballcaaGreatAm29
namespace Go.Proofs.YtahdafekballcaaGreat.AM
open Go Go.RowKit
set_option linter.unusedVariables false
set_option linter.unusedSimpArgs false

variable {P : Program}

mutual
/-- Nothing in it stands in memory; texts and nil, too. -/
def freeA : AV → Bool
  | .int _ _ => true
  | .bool _ => true
  | .str _ => true
  | .nilp => true
  | .nils => true
  | .nilm => true
  | .nilf => true
  | .nili => true
  | .iface _ v => freeA v
  | .agg cs => freeL cs
  | .tup cs => freeL cs
  | _ => false
def freeL : List AV → Bool
  | [] => true
  | v :: vs => freeA v && freeL vs
end

mutual
theorem VR.free {ρ ρ' : Rho} : ∀ {v : AV} {x : Value}, VR ρ v x → freeA v = true → VR ρ' v x
  | _, _, .int k n, _ => .int k n
  | _, _, .bool b, _ => .bool b
  | _, _, .str s bs e, _ => .str s bs e
  | _, _, .nilp, _ => .nilp
  | _, _, .nils, _ => .nils
  | _, _, .nilm, _ => .nilm
  | _, _, .nilf, _ => .nilf
  | _, _, .nili, _ => .nili
  | _, _, .iface t v v' e, h => .iface t v v' (VR.free e (by simpa only [freeA] using h))
  | _, _, .agg x x' e, h => .agg x x' (VRL.free e (by simpa only [freeA] using h))
  | _, _, .tup x x' e, h => .tup x x' (VRL.free e (by simpa only [freeA] using h))
  | _, _, .junk _, h => by simp [freeA] at h
  | _, _, .ptr _ _ _ _, h => by simp [freeA] at h
  | _, _, .slice _ _ _ _ _ _ _ _ _ _ _ _ _ _, h => by simp [freeA] at h
  | _, _, .map _ _ _, h => by simp [freeA] at h
  | _, _, .fn _ _ _ _ _ _ _, h => by simp [freeA] at h
theorem VRL.free {ρ ρ' : Rho} : ∀ {v : List AV} {x : List Value}, VRL ρ v x → freeL v = true → VRL ρ' v x
  | _, _, .nil, _ => .nil
  | _, _, .cons v v' vs vs' e es, h => by
    simp only [freeL, Bool.and_eq_true] at h
    exact .cons _ _ _ _ (VR.free e h.1) (VRL.free es h.2)
end

/-- What a call answers. -/
structure Tell where
  f : FuncId
  args : List AV
  v : AV

def tellAt (f : FuncId) (args : List AV) : List Tell → Option AV
  | [] => none
  | t :: ts => bif Nat.beq t.f f && AV.beqs t.args args then some t.v else tellAt f args ts

def memN (f : FuncId) : List FuncId → Bool
  | [] => false
  | g :: gs => Nat.beq g f || memN f gs

def toldL (fs : List FuncId) (l : List Tell) : Told := fun f => bif memN f fs then some (fun args h => match tellAt f args l with
  | some v => some (.ret v, h)
  | none => none) else none

theorem toldL_is {fs : List FuncId} {l : List Tell} {f : FuncId} {g : List AV → Heap → Option (Fin × Heap)} (h : toldL fs l f = some g) : g = fun args h => match tellAt f args l with
  | some v => some (.ret v, h)
  | none => none := by
  unfold toldL at h
  cases hb : memN f fs with
  | false => rw [hb] at h; cases h
  | true => rw [hb] at h; exact (Option.some.inj h).symm

theorem tellAt_mem {f : FuncId} {args : List AV} {v : AV} : ∀ {l : List Tell}, tellAt f args l = some v → ∃ t, t ∈ l ∧ t.f = f ∧ t.args = args ∧ t.v = v
  | [], h => by cases h
  | t :: ts, h => by
    unfold tellAt at h
    cases hb : Nat.beq t.f f && AV.beqs t.args args with
    | false =>
      rw [hb] at h
      obtain ⟨u, h1, h2⟩ := tellAt_mem (l := ts) h
      exact ⟨u, .tail _ h1, h2⟩
    | true =>
      rw [hb] at h
      rw [Bool.and_eq_true] at hb
      exact ⟨t, .head _, Nat.eq_of_beq_eq_true hb.1, AV.eqs_of_beqs hb.2, Option.some.inj h⟩

theorem toldL_hu (fs : List FuncId) (l : List Tell) : ToldHU (toldL fs l) := by
  intro f g hg args h r h' E h2 he u
  obtain rfl := toldL_is hg
  simp only at he ⊢
  split at he
  · simp only [Option.some.injEq, Prod.mk.injEq] at he
    obtain ⟨rfl, rfl⟩ := he
    exact ⟨h2, rfl, u⟩
  · cases he

/-- It is what the call comes to. -/
def Tell.True (P : Program) (t : Tell) : Prop :=
  freeL t.args = true ∧ freeA t.v = true ∧ (∃ fn c, P.funcs[t.f]? = some fn ∧ fn.body = some c) ∧ ∃ X n0 h0, ToldOK P X ∧ ToldHU X ∧ Runs P X t.f t.args ⟨n0, .nil⟩ (.ret t.v) h0

theorem toldL_ok (hm : P.follows .mixedOrders = true) (hP : ∀ (f : FuncId) (fn : Func), P.funcs[f]? = some fn → fn.body.isNone = false → (fn.name == "runtime.NumGoroutine") = false) {fs : List FuncId} {l : List Tell} (hl : ∀ t, t ∈ l → t.True P) : ToldOK P (toldL fs l) := by
  intro f g hg args h r h' he
  obtain rfl := toldL_is hg
  simp only at he
  split at he
  case h_2 => cases he
  rename_i v hv
  obtain ⟨t, ht, rfl, rfl, rfl⟩ := tellAt_mem hv
  simp only [Option.some.injEq, Prod.mk.injEq] at he
  obtain ⟨rfl, rfl⟩ := he
  obtain ⟨fa, fv, hbody, X, n0, h0, hX, hXu, n, e⟩ := hl t ht
  rcases callA_ok hm hP hX hXu n t.f t.args ⟨n0, .nil⟩ _ _ e with ok | ⟨_, _, _, ⟨fn, q1, q2⟩, _⟩
  case inr =>
    obtain ⟨fn', c, q3, q4⟩ := hbody
    rw [q1] at q3
    cases q3
    rw [q2] at q4
    cases q4
  refine ⟨ok.1, fun B w0 ρ w vs S hvs => ?_⟩
  refine (ok.2 w.heap.size w (fun _ => none) w vs (Sim.start w n0) (hvs.free fa)).mono fun en w' hp => ?_
  obtain ⟨ρ', k1, _, _, _, k5⟩ := hp
  have hb := k1.below
  have hsz : B ≤ w.heap.size := Nat.le_trans S.bsize S.below.size
  refine ⟨ρ, S.world (S.below.trans (hb.mono hsz)) (fun k o hk => ?_), fun _ _ h => h, fun _ _ => rfl, Nat.le_refl _, ?_⟩
  · have hlt : k < w.heap.size := by
      rcases Nat.lt_or_ge k w.heap.size with q | q
      · exact q
      · rw [Array.getElem?_eq_none q] at hk; cases hk
    rw [hb.block k hlt]; exact hk
  · cases en with
    | returned x =>
      have : VR ρ' t.v x := k5
      exact this.free fv
    | panicked ch => exact k5.elim
    | outgrown => exact k5.elim

/-- Does a run come to this value? -/
def comesTo (v : AV) : Rs → Bool
  | some (.ret u, _) => AV.beq v u
  | _ => false

theorem runs_of_comesTo {X : Told} {n : Nat} {f : FuncId} {args : List AV} {h : Heap} {v : AV} (e : comesTo v (callC P X n f args h) = true) : ∃ h', Runs P X f args h (.ret v) h' := by
  cases hc : callC P X n f args h with
  | none => rw [hc] at e; cases e
  | some r =>
    obtain ⟨u, h'⟩ := r
    rw [hc] at e
    match u, e with
    | .ret u, e =>
      obtain rfl := AV.eq_of_beq (show AV.beq v u = true from e)
      exact ⟨h', callC_ok n f args h _ _ hc⟩

/-- Some closed facts, and it is so. -/
theorem Tell.ofRun {X : Told} {t : Tell} (hX : ToldOK P X) (hXu : ToldHU X) (hb : ∃ fn c, P.funcs[t.f]? = some fn ∧ fn.body = some c) (n : Nat) (e : (freeL t.args && freeA t.v && comesTo t.v (callC P X n t.f t.args ⟨1000, .nil⟩)) = true) : t.True P := by
  rw [Bool.and_eq_true, Bool.and_eq_true] at e
  obtain ⟨h', r⟩ := runs_of_comesTo e.2
  exact ⟨e.1.1, e.1.2, hb, X, 1000, h', hX, hXu, r⟩

end Go.Proofs.YtahdafekballcaaGreat.AM
