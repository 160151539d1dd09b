/-
  AM, part 31: code leaves the slots alone that it does not name.
-/
import Derived.Test.YtahdafekballcaaGreatAm30
namespace Go.Proofs.YtahdafekballcaaGreat.AM
open Go Go.RowKit
set_option linter.unusedVariables false
set_option linter.unusedSimpArgs false

variable {P : Program} {X : Told}

def offD (t : Tmp) : Option Tmp → Bool
  | some d => !Nat.beq d t
  | none => true

/-- Does no operation of the list yield into this slot? -/
def offO (t : Tmp) : List Oper → Bool
  | [] => true
  | o :: os => offD t o.dst && offO t os

def offC (t : Tmp) : Code → Bool
  | .region _ ops _ => offO t ops.toList
  | .seq a b => offC t a && offC t b
  | .cond _ a b => offC t a && offC t b
  | .block _ b => offC t b
  | .loop b => offC t b
  | .scope b => offC t b
  | _ => true

theorem putA_off {e e' : Env} {d : Option Tmp} {v : AV} {t : Tmp} (h : putA e d v = some e') (ho : offD t d = true) : e'.get t = e.get t := by
  cases d with
  | none => simp [putA] at h; rw [h]
  | some d =>
    simp only [putA, cond_eq_ite] at h
    split at h
    · obtain rfl := Option.some.inj h
      rw [Env.get_put, if_neg]
      intro hd
      subst hd
      simp [offD] at ho
    · simp at h

theorem opsA_off {c : CallT} (all : Array Oper) (t : Tmp) : ∀ (os : List Oper) (fr : Nat) (e : Env) (h : Heap) (r : Out × St), offO t os = true → opsA P c all os fr e h = some r → r.2.env.get t = e.get t
  | [], _, _, _, _, _, he => by simp only [opsA, Option.some.injEq] at he; subst he; rfl
  | o :: os, fr, e, h, r, ho, he => by
    simp only [offO, Bool.and_eq_true] at ho
    simp only [opsA] at he
    split at he
    · simp at he
    · split at he
      · rename_i hp
        rw [opsA_off all t os _ _ _ _ ho.2 he, putA_off hp ho.1]
      · simp at he
    · split at he
      · simp at he
      · split at he
        · rename_i hp
          rw [opsA_off all t os _ _ _ _ ho.2 he, putA_off hp ho.1]
        · simp at he
      · split at he
        · split at he
          · rename_i hp
            rw [opsA_off all t os _ _ _ _ ho.2 he, putA_off hp ho.1]
          · simp at he
        · simp only [Option.some.injEq] at he; subst he; rfl
        · simp at he
      · simp only [Option.some.injEq] at he; subst he; rfl

theorem junkAll_off (t : Tmp) : ∀ (os : List Oper) (e : Env), offO t os = true → (junkAll os e).get t = e.get t
  | [], e, _ => rfl
  | o :: os, e, ho => by
    simp only [offO, Bool.and_eq_true] at ho
    obtain ⟨h1, h2⟩ := ho
    simp only [junkAll]
    cases hd : o.dst with
    | none => exact junkAll_off t os e h2
    | some d =>
      rw [hd] at h1
      simp only
      rw [junkAll_off t os _ h2, Env.get_put, if_neg]
      intro hh
      subst hh
      simp [offD] at h1

theorem offO_mem (t : Tmp) (o' : Oper) : ∀ (os : List Oper), offO t os = true → o' ∈ os → offD t o'.dst = true
  | [], _, hm => by cases hm
  | o :: os, ho, hm => by
    simp only [offO, Bool.and_eq_true] at ho
    cases hm with
    | head => exact ho.1
    | tail _ hm => exact offO_mem t o' os ho.2 hm

theorem runL_off {c : CallT} (ops : Array Oper) (base : Nat) (t : Tmp) (hoff : offO t ops.toList = true) : ∀ (l : List Nat) (e : Env) (h : Heap) (r : List Ent × Out × St), runL P c ops base l e h = some r → r.2.2.env.get t = e.get t
  | [], _, _, _, he => by simp only [runL, Option.some.injEq] at he; subst he; rfl
  | i :: l, e, h, r, he => by
    simp only [runL] at he
    split at he
    · simp at he
    · rename_i o hi
      have ho : offD t o.dst = true := offO_mem t o ops.toList hoff (by
        rw [← Array.getElem?_toList] at hi
        exact List.mem_of_getElem? hi)
      split at he
      · simp at he
      · split at he
        · simp at he
        · rename_i hp
          split at he
          · rename_i hr
            simp only [Option.some.injEq] at he
            subst he
            have := runL_off ops base t hoff l _ _ _ hr
            rw [← putA_off hp ho]
            exact this
          · simp at he
      · split at he
        · simp at he
        · split at he
          · simp at he
          · rename_i hp
            split at he
            · rename_i hr
              simp only [Option.some.injEq] at he
              subst he
              have := runL_off ops base t hoff l _ _ _ hr
              rw [← putA_off hp ho]
              exact this
            · simp at he
        · split at he
          · split at he
            · simp at he
            · rename_i hp
              split at he
              · rename_i hr
                simp only [Option.some.injEq] at he
                subst he
                have := runL_off ops base t hoff l _ _ _ hr
                rw [← putA_off hp ho]
                exact this
              · simp at he
          · split at he
            · simp only [Option.some.injEq] at he; subst he; exact junkAll_off t _ _ hoff
            · simp at he
          · simp at he
        · split at he
          · simp only [Option.some.injEq] at he; subst he; exact junkAll_off t _ _ hoff
          · simp at he

theorem regionA_off {c : CallT} {ops : Array Oper} {d : Bool} {s : St} {r : Out × St} (t : Tmp) (hoff : offO t ops.toList = true) (he : regionA P c ops d s = some r) : r.2.env.get t = s.env.get t := by
  unfold regionA at he
  split at he
  · split at he
    · split at he
      · rename_i hr
        split at he
        · simp only [Option.some.injEq] at he
          subst he
          exact runL_off ops _ t hoff _ _ _ _ hr
        · simp at he
      · simp at he
    · simp at he
  · exact opsA_off _ t _ _ _ _ _ hoff he

theorem codeA_off {c : CallT} (t : Tmp) : ∀ (n : Nat) (x : Code) (s : St) (r : Out × St), offC t x = true → codeA P c n x s = some r → r.2.env.get t = s.env.get t := by
  intro n
  induction n with
  | zero => intro x s r _ he; simp [codeA] at he
  | succ n ih =>
    intro x s r ho he
    cases x <;> simp only [codeA] at he <;> simp only [offC, Bool.and_eq_true] at ho
    case skip => simp only [Option.some.injEq] at he; subst he; rfl
    case label l => simp only [Option.some.injEq] at he; subst he; rfl
    case region id ops d => exact regionA_off t ho he
    case seq a b =>
      cases ha : codeA P c n a s with
      | none => simp [ha] at he
      | some q =>
        rw [ha] at he
        have h1 := ih a s q ho.1 ha
        obtain ⟨o1, s1⟩ := q
        cases o1 <;> first
          | (rw [← h1]; exact ih b s1 r ho.2 he)
          | (simp only [Option.some.injEq] at he; subst he; exact h1)
    case cond cc a b =>
      split at he
      · exact ih a s r ho.1 he
      · exact ih b s r ho.2 he
      · simp at he
    case block id b =>
      cases ha : codeA P c n b s with
      | none => simp [ha] at he
      | some q =>
        rw [ha] at he
        have h1 := ih b s q ho ha
        obtain ⟨o1, s1⟩ := q
        cases o1 <;> simp only at he <;> first
          | (simp only [Option.some.injEq] at he; subst he; exact h1)
          | (split at he <;> (simp only [Option.some.injEq] at he; subst he; exact h1))
    case loop b =>
      cases ha : codeA P c n b s with
      | none => simp [ha] at he
      | some q =>
        rw [ha] at he
        have h1 := ih b s q ho ha
        obtain ⟨o1, s1⟩ := q
        cases o1 <;> first
          | (rw [← h1]; exact ih (.loop b) s1 r (by simpa only [offC] using ho) he)
          | (simp only [Option.some.injEq] at he; subst he; exact h1)
    case exit id => simp only [Option.some.injEq] at he; subst he; rfl
    case scope b => exact ih b s r ho he
    case ret => simp only [Option.some.injEq] at he; subst he; rfl
    all_goals (simp at he)

end Go.Proofs.YtahdafekballcaaGreat.AM
