/-
  AM, part 13: regions in the order of the text, against the model.
-/
import Derived.Test.YtahdafekballcaaGreatAm12
namespace Go.Proofs.YtahdafekballcaaGreat.AM
open Go Go.RowKit
set_option linter.unusedVariables false
set_option linter.unusedSimpArgs false

variable {P : Program}

/-- How a call's end is told. -/
def FinR (ρ : Rho) : Fin → Ending → Prop
  | .ret v, .returned v' => VR ρ v v'
  | .panic v, .panicked ch => ∃ v', ch = [{ v := v', recovered := false }] ∧ VR ρ v v'
  | _, _ => False

/-- What a call must come to in every world. -/
def CallPost (B : Nat) (w0 : World) (ρ : Rho) (h : Heap) (r : Fin) (h' : Heap) (e : Ending) (w' : World) : Prop :=
  ∃ ρ', Sim B w0 ρ' h' w' ∧ Ext ρ ρ' ∧ (∀ b, b < h.next → ρ' b = ρ b) ∧ h.next ≤ h'.next ∧ FinR ρ' r e

/-- It has no body, and is reckoned by itself. -/
def Plain (P : Program) (f : FuncId) (args : List AV) (h : Heap) (r : Fin) (h' : Heap) : Prop :=
  ∃ v, r = .ret v ∧ h' = h ∧ (∃ fn, P.funcs[f]? = some fn ∧ fn.body = none) ∧ ∀ (ρ : Rho) (w : World) (vs : Array Value), VRL ρ args vs.toList → ∃ v', (callFunc f vs).run P w = .ok (.value v') w ∧ VR ρ v v'

def CallOK (P : Program) (call : CallT) : Prop := ∀ f args h r h', call f args h = some (r, h') → (Enterable P f ∧ ∀ (B : Nat) (w0 : World) (ρ : Rho) (w : World) (vs : Array Value),
  Sim B w0 ρ h w → VRL ρ args vs.toList → Calls P f vs w (CallPost B w0 ρ h r h')) ∨ Plain P f args h r h'

def OutR (ρ : Rho) : Out → Exit → Prop
  | .norm, .normal => True
  | .exit id, .exit id' => id = id'
  | .ret, .ret => True
  | .panic v, .panic ch => ∃ v', ch = [{ v := v', recovered := false }] ∧ VR ρ v v'
  | _, _ => False

/-- How a piece of code ends. -/
def Post (B : Nat) (w0 : World) (ρ0 : Rho) (N : Nat) (ds : List Deferred) (out : Out) (s : St) (e : Exit) (a : Act) (w : World) : Prop :=
  ∃ ρ, OutR ρ out e ∧ Sim B w0 ρ s.heap w ∧ Ext ρ0 ρ ∧ (∀ b, b < N → ρ b = ρ0 b) ∧ N ≤ s.heap.next ∧ FR ρ s.env a.tmps ∧ a.defers = ds

theorem Act.put_defers' (a : Act) (d : Option Tmp) (v : Value) : (a.put d v).defers = a.defers := by cases d <;> rfl

theorem wantedA_ok {ops : Array Oper} {ρ : Rho} {e : Env} {a : Act} (F : FR ρ e a.tmps) {o : Oper} {b : Bool} (h : wantedA ops e o = some b) : Region.wanted o (yielded ops a.tmps) = b := by
  unfold wantedA at h
  unfold Region.wanted
  cases hg : o.guard with
  | none => rw [hg] at h; simp only at h ⊢; exact Option.some.inj h
  | some jw =>
    obtain ⟨j, want⟩ := jw
    rw [hg] at h
    simp only at h ⊢
    cases hd : (ops[j]?).bind (·.dst) with
    | none =>
      rw [hd] at h
      simp only [yielded, hd, Option.bind_none]
      have := Option.some.inj h
      subst this
      simp
    | some d =>
      rw [hd] at h
      simp only [cond_eq_ite] at h
      split at h
      · rename_i hlt
        have hlt : d < e.sz := Nat.le_of_ble_eq_true hlt
        have hr := F.get d
        have hsz : d < a.tmps.size := by rw [F.size]; exact hlt
        rw [Array.getD_eq_getD_getElem?, Array.getElem?_eq_getElem hsz, Option.getD_some] at hr
        simp only [yielded, hd, Option.bind_some]
        rw [Array.getElem?_eq_getElem hsz]
        generalize hev : e.get d = ev at h hr
        generalize a.tmps[d] = cv at hr
        cases hr <;> simp only at h ⊢
        all_goals first
          | (have := Option.some.inj h; subst this; first | rfl | simp)
          | (simp at h)
      · simp at h

/-- The operations from a place on, in the order of the text. -/
theorem opsA_ok {call : CallT} (hC : CallOK P call) {B : Nat} {w0 : World} (ops : Array Oper) (base : Nat) (ρ0 : Rho) (N : Nat) (ds : List Deferred) (hN : N ≤ base) :
    ∀ (os : List Oper) (idx : Nat) (e : Env) (h : Heap) (out : Out) (s : St) (ρ : Rho) (a : Act) (w : World), opsA P call ops os (base + idx) e h = some (out, s) → os = ops.toList.drop idx →
      Sim B w0 ρ h w → FR ρ e a.tmps → a.defers = ds → Ext ρ0 ρ → (∀ b, b < N → ρ b = ρ0 b) → (∀ i o, idx ≤ i → ops[i]? = some o → makes o = true → ρ (base + i) = none ∧ base + i < h.next) → N ≤ h.next →
      wpOps P ops (Post B w0 ρ0 N ds out s) (List.range' idx os.length) a w
  | [], idx, e, h, out, s, ρ, a, w, he, hos, S, F, hd, hE, hA, hfr, hn => by
    simp only [opsA] at he
    obtain ⟨rfl, rfl⟩ := Prod.mk.inj (Option.some.inj he)
    simp only [List.length_nil, List.range'_zero, wpOps]
    exact ⟨ρ, trivial, S, hE, hA, hn, F, hd⟩
  | o :: os, idx, e, h, out, s, ρ, a, w, he, hos, S, F, hd, hE, hA, hfr, hn => by
    have hlt : idx < ops.size := by
      have := congrArg List.length hos
      simp at this
      omega
    have ho : ops[idx]? = some o := by
      have : (ops.toList.drop idx)[0]? = some o := by rw [← hos]; rfl
      rw [List.getElem?_drop, Nat.add_zero, Array.getElem?_toList] at this
      exact this
    have hos' : os = ops.toList.drop (idx + 1) := by
      have : (ops.toList.drop idx).drop 1 = os := by rw [← hos]; rfl
      rw [List.drop_drop] at this
      exact this.symm
    have hfl := hfr idx o (Nat.le_refl _) ho
    simp only [List.length_cons, List.range'_succ, wpOps, ho]
    simp only [opsA] at he
    split at he
    · simp at he
    · rename_i hw
      rw [wantedA_ok F hw]
      simp only [Bool.false_eq_true, if_false]
      split at he
      · rename_i e' hp
        exact opsA_ok hC ops base ρ0 N ds hN os (idx + 1) e' h out s ρ _ w he hos' S (F.put hp undef_rel) (by rw [Act.put_defers', hd]) hE hA (fun i o' h1 h2 => hfr i o' (by omega) h2) hn
      · simp at he
    · rename_i hw
      rw [wantedA_ok F hw]
      simp only [if_true]
      left
      unfold Oper.wp
      split at he
      · simp at he
      · rename_i v h' hx
        obtain ⟨ρ', w', nx, h1, h2, h3, h4, h5, h6⟩ := execA_val S F hfl hx
        rw [h1]
        split at he
        · rename_i e' hp
          have hcont : ∀ v', VR ρ' v v' → wpOps P ops (Post B w0 ρ0 N ds out s) (List.range' (idx + 1) os.length) (a.put o.dst v') w' := fun v' hv =>
            opsA_ok hC ops base ρ0 N ds hN os (idx + 1) e' h' out s ρ' _ w' he hos' h3 ((F.mono h4).put hp hv) (by rw [Act.put_defers', hd]) (hE.trans h4)
              (fun b hb => by rw [h5 b (by omega)]; exact hA b hb)
              (fun i o' k1 k2 k3 => by
                obtain ⟨m1, m2⟩ := hfr i o' (by omega) k2 k3
                exact ⟨by rw [h5 _ (by omega)]; exact m1, by rw [h6]; exact m2⟩) (by rw [h6]; exact hn)
          rcases h2 with ⟨v', rfl, hv⟩ | ⟨rfl, rfl⟩
          · exact hcont v' hv
          · exact hcont undef undef_rel
        · simp at he
      · rename_i f args hx
        split at he
        · rename_i v h' hcall
          rcases hC _ _ _ _ _ hcall with ⟨hEnt, hCalls⟩ | ⟨v0, hr0, hh0, _, hx0⟩
          case inr =>
            cases hr0
            subst hh0
            obtain ⟨args', h1, h2⟩ := execA_call (w := w) F hx
            obtain ⟨v', q1, q2⟩ := hx0 ρ w args' h2
            rw [h1, q1]
            split at he
            · rename_i e' hp
              exact opsA_ok hC ops base ρ0 N ds hN os (idx + 1) e' h' out s ρ _ w he hos' S (F.put hp q2) (by rw [Act.put_defers', hd]) hE hA (fun i o' h1 h2 => hfr i o' (by omega) h2) hn
            · simp at he
          obtain ⟨args', h1, h2⟩ := execA_enter (w := w) F hx hEnt
          rw [h1]
          split at he
          · rename_i e' hp
            refine (hCalls B w0 ρ w args' S h2).mono fun en w' hpost => ?_
            obtain ⟨ρ', k1, k2, k3, k4, k5⟩ := hpost
            cases en with
            | returned v' =>
              have hv : VR ρ' v v' := k5
              exact opsA_ok hC ops base ρ0 N ds hN os (idx + 1) e' h' out s ρ' _ w' he hos' k1 ((F.mono k2).put hp hv) (by rw [Act.put_defers', hd]) (hE.trans k2)
                (fun b hb => by rw [k3 b (by omega)]; exact hA b hb)
                (fun i o' q1 q2 q3 => by
                  obtain ⟨m1, m2⟩ := hfr i o' (by omega) q2 q3
                  exact ⟨by rw [k3 _ m2]; exact m1, by omega⟩) (by omega)
            | panicked ch => exact k5.elim
            | outgrown => exact k5.elim
          · simp at he
        · rename_i v h' hcall
          rcases hC _ _ _ _ _ hcall with ⟨hEnt, hCalls⟩ | ⟨v0, hr0, _⟩
          case inr => cases hr0
          obtain ⟨args', h1, h2⟩ := execA_enter (w := w) F hx hEnt
          rw [h1]
          obtain ⟨rfl, rfl⟩ := Prod.mk.inj (Option.some.inj he)
          refine (hCalls B w0 ρ w args' S h2).mono fun en w' hpost => ?_
          obtain ⟨ρ', k1, k2, k3, k4, k5⟩ := hpost
          cases en with
          | returned v' => exact k5.elim
          | panicked ch =>
            refine ⟨ρ', k5, k1, hE.trans k2, fun b hb => by rw [k3 b (by omega)]; exact hA b hb, by simp only; omega, F.mono k2, hd⟩
          | outgrown => exact k5.elim
        · simp at he
      · rename_i v hx
        obtain ⟨v', h1, h2⟩ := execA_panic (w := w) F hx
        rw [h1]
        obtain ⟨rfl, rfl⟩ := Prod.mk.inj (Option.some.inj he)
        exact ⟨ρ, ⟨v', rfl, h2⟩, S, hE, hA, hn, F, hd⟩

end Go.Proofs.YtahdafekballcaaGreat.AM
