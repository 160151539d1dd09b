/-
  AM, part 12: what makes; whole runs with more in the heap.
-/
import Derived.Test.YtahdafekballcaaGreatAm11
namespace Go.Proofs.YtahdafekballcaaGreat.AM
open Go Go.RowKit
set_option linter.unusedVariables false
set_option linter.unusedSimpArgs false

variable {P : Program}

theorem kind_make {e : Env} {h : Heap} {fresh : Nat} {o : Oper} {v : AV} {h' : Heap} (hk : kindOf P o = .make) (he : execA P e h fresh o = some (.val v h')) :
    ∃ ob, h' = h.put fresh (some ob) ∧ (∀ cs md a, ob = .cells cs md a → a = []) ∧ ∀ h2, execA P e h2 fresh o = some (.val v (h2.put fresh (some ob))) := by
  obtain ⟨dst, op, ty, pos, after, guard⟩ := o
  unfold kindOf at hk
  cases op <;> simp only at hk
  all_goals first
    | (cases hk; done)
    | skip
  case binOp op t x y yt => (repeat' split at hk) <;> cases hk
  case slice t x lo hi mx => (repeat' split at hk) <;> cases hk
  case convert s d x => (repeat' split at hk) <;> cases hk
  case call c => (repeat' split at hk) <;> cases hk
  all_goals (unfold execA at he ⊢; simp only at he ⊢)
  case alloc t =>
    have he := newR_spec he
    unfold allocA at he ⊢
    split at he
    · split at he
      · obtain ⟨rfl, rfl⟩ := Prod.mk.inj (Option.some.inj he)
        exact ⟨_, rfl, fun cs md a e => by injection e with _ _ e3; exact e3.symm, fun h2 => rfl⟩
      · simp at he
    · simp at he
  case box t x =>
    split at he
    · have he := newR_spec he
      unfold boxA at he ⊢
      split at he
      · obtain ⟨rfl, rfl⟩ := Prod.mk.inj (Option.some.inj he)
        exact ⟨_, rfl, fun cs md a e => by injection e with _ _ e3; exact e3.symm, fun h2 => rfl⟩
      · simp at he
    · simp at he
  case buildSlice t n ps =>
    split at he
    · have he := newR_spec he
      unfold buildSliceA at he ⊢
      split at he
      · split at he
        · rw [cond_eq_ite] at he
          split at he
          · rename_i hc
            split at he
            · obtain ⟨rfl, rfl⟩ := Prod.mk.inj (Option.some.inj he)
              exact ⟨_, rfl, fun cs md a e => by injection e with _ _ e3; exact e3.symm, fun h2 => by rw [cond_eq_ite, if_pos hc]; rfl⟩
            · simp at he
          · simp at he
        · simp at he
      · simp at he
    · simp at he
  case makeMap t r =>
    cases r <;> simp only at he ⊢ <;> first | (simp at he; done) | skip
    injection he with he; injection he with e1 e2; subst e1 e2
    exact ⟨_, rfl, (fun _ _ _ e => by cases e), fun h2 => rfl⟩
  case makeSlice t l c =>
    obtain ⟨a, b, h1, h2, he⟩ := bind2_spec he
    rw [h1, h2]
    simp only [bind2]
    have he := newR_spec he
    unfold makeSliceA at he ⊢
    split at he
    · split at he
      · split at he
        · rename_i hb
          rw [cond_eq_ite] at he
          split at he
          · rename_i hc
            obtain ⟨rfl, rfl⟩ := Prod.mk.inj (Option.some.inj he)
            exact ⟨_, rfl, fun cs md a e => by injection e with _ _ e3; exact e3.symm, fun h3 => by rw [if_pos hb, cond_eq_ite, if_pos hc]; rfl⟩
          · simp at he
        · simp at he
      · simp at he
    · simp at he

abbrev CallT := FuncId → List AV → Heap → Option (Fin × Heap)

def CallHU (call : CallT) : Prop := ∀ f args h r h' E h2, call f args h = some (r, h') → HU h E h2 → ∃ h2', call f args h2 = some (r, h2') ∧ HU h' E h2'

theorem opsA_hu {call : CallT} (hC : CallHU call) (all : Array Oper) : ∀ (os : List Oper) (fresh : Nat) (e : Env) (h : Heap) (out : Out) (s : St) (E : Nat → Option AObj) (h2 : Heap), opsA P call all os fresh e h = some (out, s) → HU h E h2 →
    (∀ b o, E b = some o → b < fresh) → ∃ h2', opsA P call all os fresh e h2 = some (out, ⟨s.env, h2'⟩) ∧ HU s.heap E h2'
  | [], fresh, e, h, out, s, E, h2, he, u, hE => by
    simp only [opsA] at he ⊢
    obtain ⟨rfl, rfl⟩ := Prod.mk.inj (Option.some.inj he)
    exact ⟨h2, rfl, u⟩
  | o :: os, fresh, e, h, out, s, E, h2, he, u, hE => by
    have hE' : ∀ b ob, E b = some ob → b < fresh + 1 := fun b ob hb => Nat.lt_succ_of_lt (hE b ob hb)
    have hf : E fresh = none := by
      cases hh : E fresh with
      | none => rfl
      | some ob => exact absurd (hE _ _ hh) (Nat.lt_irrefl _)
    simp only [opsA] at he ⊢
    split at he
    · simp at he
    · split at he
      · exact opsA_hu hC all os _ _ _ _ _ _ _ he u hE'
      · simp at he
    · split at he
      · simp at he
      · rename_i v h' hx
        obtain ⟨h2', k1, k2⟩ := execA_hu u hf hx
        rw [k1]
        simp only
        split at he
        · exact opsA_hu hC all os _ _ _ _ _ _ _ he k2 hE'
        · simp at he
      · rename_i f args hx
        rw [execA_other hx (fun v h' => by simp) h2 fresh]
        simp only
        split at he
        · rename_i v h' hcall
          obtain ⟨h2', k1, k2⟩ := hC _ _ _ _ _ _ _ hcall u
          rw [k1]
          simp only
          split at he
          · exact opsA_hu hC all os _ _ _ _ _ _ _ he k2 hE'
          · simp at he
        · rename_i v h' hcall
          obtain ⟨h2', k1, k2⟩ := hC _ _ _ _ _ _ _ hcall u
          rw [k1]
          simp only
          obtain ⟨rfl, rfl⟩ := Prod.mk.inj (Option.some.inj he)
          exact ⟨h2', rfl, k2⟩
        · simp at he
      · rename_i v hx
        rw [execA_other hx (fun v h' => by simp) h2 fresh]
        simp only
        obtain ⟨rfl, rfl⟩ := Prod.mk.inj (Option.some.inj he)
        exact ⟨h2, rfl, u⟩

/-- Two traces, the second one with more in the heap. -/
inductive TrHU (E : Nat → Option AObj) : List Ent → List Ent → Prop where
  | nil : TrHU E [] []
  | cons (i : Nat) (sk : Bool) (e : Env) (v : AV) (h h2 h' h2' : Heap) (tr tr2 : List Ent) (u : HU h E h2) (u' : HU h' E h2') (ht : TrHU E tr tr2) : TrHU E (⟨i, sk, e, h, v, h'⟩ :: tr) (⟨i, sk, e, h2, v, h2'⟩ :: tr2)

theorem runL_hu {call : CallT} (hC : CallHU call) (ops : Array Oper) (base : Nat) : ∀ (l : List Nat) (e : Env) (h : Heap) (tr : List Ent) (out : Out) (s : St) (E : Nat → Option AObj) (h2 : Heap), runL P call ops base l e h = some (tr, out, s) → HU h E h2 →
    (∀ b o, E b = some o → b < base) → ∃ tr2 h2', runL P call ops base l e h2 = some (tr2, out, ⟨s.env, h2'⟩) ∧ HU s.heap E h2' ∧ TrHU E tr tr2
  | [], e, h, tr, out, s, E, h2, he, u, hE => by
    simp only [runL] at he ⊢
    obtain ⟨rfl, he'⟩ := Prod.mk.inj (Option.some.inj he)
    obtain ⟨rfl, rfl⟩ := Prod.mk.inj he'
    exact ⟨[], h2, rfl, u, .nil⟩
  | i :: l, e, h, tr, out, s, E, h2, he, u, hE => by
    have hf : E (base + i) = none := by
      cases hh : E (base + i) with
      | none => rfl
      | some ob => have := hE _ _ hh; omega
    simp only [runL] at he ⊢
    split at he
    · simp at he
    · split at he
      · simp at he
      · split at he
        · simp at he
        · split at he
          · rename_i hr
            obtain ⟨tr2, h2', k1, k2, k3⟩ := runL_hu hC ops base l _ _ _ _ _ _ _ hr u hE
            rw [k1]
            simp only
            obtain ⟨rfl, he'⟩ := Prod.mk.inj (Option.some.inj he)
            obtain ⟨rfl, rfl⟩ := Prod.mk.inj he'
            exact ⟨_, h2', rfl, k2, .cons _ _ _ _ _ _ _ _ _ _ u u k3⟩
          · simp at he
      · split at he
        · simp at he
        · rename_i v h' hx
          obtain ⟨h3, m1, m2⟩ := execA_hu u hf hx
          rw [m1]
          simp only
          split at he
          · simp at he
          · split at he
            · rename_i hr
              obtain ⟨tr2, h2', k1, k2, k3⟩ := runL_hu hC ops base l _ _ _ _ _ _ _ hr m2 hE
              rw [k1]
              simp only
              obtain ⟨rfl, he'⟩ := Prod.mk.inj (Option.some.inj he)
              obtain ⟨rfl, rfl⟩ := Prod.mk.inj he'
              exact ⟨_, h2', rfl, k2, .cons _ _ _ _ _ _ _ _ _ _ u m2 k3⟩
            · simp at he
        · rename_i f args hx
          rw [execA_other hx (fun v h' => by simp) h2 (base + i)]
          simp only
          split at he
          · rename_i v h' hcall
            obtain ⟨h3, m1, m2⟩ := hC _ _ _ _ _ _ _ hcall u
            rw [m1]
            simp only
            split at he
            · simp at he
            · split at he
              · rename_i hr
                obtain ⟨tr2, h2', k1, k2, k3⟩ := runL_hu hC ops base l _ _ _ _ _ _ _ hr m2 hE
                rw [k1]
                simp only
                obtain ⟨rfl, he'⟩ := Prod.mk.inj (Option.some.inj he)
                obtain ⟨rfl, rfl⟩ := Prod.mk.inj he'
                exact ⟨_, h2', rfl, k2, .cons _ _ _ _ _ _ _ _ _ _ u m2 k3⟩
              · simp at he
          · rename_i v h' hcall
            obtain ⟨h3, m1, m2⟩ := hC _ _ _ _ _ _ _ hcall u
            rw [m1]
            simp only
            split at he
            · rename_i hif
              rw [if_pos hif]
              obtain ⟨rfl, he'⟩ := Prod.mk.inj (Option.some.inj he)
              obtain ⟨rfl, rfl⟩ := Prod.mk.inj he'
              exact ⟨_, h3, rfl, m2, .nil⟩
            · simp at he
          · simp at he
        · rename_i v hx
          rw [execA_other hx (fun v h' => by simp) h2 (base + i)]
          simp only
          split at he
          · rename_i hif
            rw [if_pos hif]
            obtain ⟨rfl, he'⟩ := Prod.mk.inj (Option.some.inj he)
            obtain ⟨rfl, rfl⟩ := Prod.mk.inj he'
            exact ⟨_, h2, rfl, u, .nil⟩
          · simp at he

theorem TrHU.mem {E : Nat → Option AObj} {tr tr2 : List Ent} (t : TrHU E tr tr2) : ∀ x ∈ tr2, ∃ y ∈ tr, x.i = y.i ∧ x.skip = y.skip ∧ x.e = y.e ∧ x.v = y.v ∧ HU y.h E x.h ∧ HU y.h' E x.h' := by
  induction t with
  | nil => intro x hx; cases hx
  | cons i sk e v h h2 h' h2' tr tr2 u u' ht ih =>
    intro x hx
    rcases List.mem_cons.1 hx with rfl | hx
    · exact ⟨⟨i, sk, e, h, v, h'⟩, by simp, rfl, rfl, rfl, rfl, u, u'⟩
    · obtain ⟨y, hy, rest⟩ := ih x hx
      exact ⟨y, by simp [hy], rest⟩

theorem againOk_hu {E : Nat → Option AObj} {ops : Array Oper} {base : Nat} {r c r2 c2 : Ent} (hr : r2.i = r.i ∧ r2.skip = r.skip ∧ r2.e = r.e ∧ r2.v = r.v) (hc : c2.i = c.i ∧ c2.skip = c.skip) (u : HU c.h' E c2.h')
    (h : againOk P ops base r c = true) : againOk P ops base r2 c2 = true := by
  obtain ⟨h1, h2, h3, h4⟩ := hr
  obtain ⟨h5, h6⟩ := hc
  unfold againOk at h ⊢
  rw [h1, h2, h3, h4, h5, h6]
  simp only [Bool.or_eq_true] at h ⊢
  rcases h with h | h
  · exact .inl h
  · by_cases hk : kindOf P (ops.getD r.i default) = .read
    · right
      split at h
      · rename_i v hh hx
        obtain ⟨_, k⟩ := kind_read hk hx
        rw [k E c2.h' (base + r.i) u]
        exact h
      · simp at h
    · refine .inl (.inl (.inl (.inr ?_)))
      simpa using hk

theorem againAll_hu {E : Nat → Option AObj} {ops : Array Oper} {base : Nat} {tr tr2 : List Ent} (t : TrHU E tr tr2) (h : againAll P ops base tr = true) : againAll P ops base tr2 = true := by
  induction t with
  | nil => rfl
  | cons i sk e v h0 h2 h' h2' tr tr2 u u' ht ih =>
    simp only [againAll, Bool.and_eq_true] at h ⊢
    refine ⟨List.all_eq_true.2 fun x hx => ?_, ih h.2⟩
    obtain ⟨y, hy, e1, e2, e3, e4, e5, e6⟩ := ht.mem x hx
    exact againOk_hu (r := ⟨i, sk, e, h0, v, h'⟩) (c := y) ⟨rfl, rfl, rfl, rfl⟩ ⟨e1, e2⟩ e6 (List.all_eq_true.1 h.1 y hy)

theorem regionA_hu {call : CallT} (hC : CallHU call) {ops : Array Oper} {d : Bool} {s s' : St} {out : Out} {E : Nat → Option AObj} {h2 : Heap} (he : regionA P call ops d s = some (out, s')) (u : HU s.heap E h2) :
    ∃ h2', regionA P call ops d ⟨s.env, h2⟩ = some (out, ⟨s'.env, h2'⟩) ∧ HU s'.heap E h2' := by
  unfold regionA at he ⊢
  simp only [u.next]
  split at he
  · rename_i hd
    rw [if_pos hd]
    split at he
    · rename_i hok
      rw [if_pos hok]
      split at he
      · rename_i tr r hr
        split at he
        · rename_i hag
          obtain rfl := Option.some.inj he
          obtain ⟨tr2, h2', k1, k2, k3⟩ := runL_hu hC ops _ _ _ _ _ _ _ _ _ hr (u.bump (reserve ops)) (fun b o hb => (u.dis b o hb).2)
          rw [k1]
          simp only
          rw [if_pos (againAll_hu k3 hag)]
          exact ⟨h2', rfl, k2⟩
        · simp at he
      · simp at he
    · simp at he
  · rename_i hd
    rw [if_neg hd]
    exact opsA_hu hC ops _ _ _ _ _ _ _ _ he (u.bump (reserve ops)) (fun b o hb => (u.dis b o hb).2)

theorem codeA_hu {call : CallT} (hC : CallHU call) : ∀ (n : Nat) (c : Code) (s s' : St) (out : Out) (E : Nat → Option AObj) (h2 : Heap), codeA P call n c s = some (out, s') → HU s.heap E h2 →
    ∃ h2', codeA P call n c ⟨s.env, h2⟩ = some (out, ⟨s'.env, h2'⟩) ∧ HU s'.heap E h2' := by
  intro n
  induction n with
  | zero => intro c s s' out E h2 he; simp [codeA] at he
  | succ n ih =>
    intro c s s' out E h2 he u
    cases c <;> simp only [codeA] at he ⊢
    case skip =>
      obtain ⟨rfl, rfl⟩ := Prod.mk.inj (Option.some.inj he)
      exact ⟨h2, rfl, u⟩
    case label l =>
      obtain ⟨rfl, rfl⟩ := Prod.mk.inj (Option.some.inj he)
      exact ⟨h2, rfl, u⟩
    case region id ops d => exact regionA_hu hC he u
    case seq a b =>
      cases ha : codeA P call n a s with
      | none => simp [ha] at he
      | some r =>
        obtain ⟨o1, s1⟩ := r
        rw [ha] at he
        obtain ⟨h3, k1, k2⟩ := ih a s s1 o1 E h2 ha u
        rw [k1]
        cases o1 with
        | norm => exact ih b s1 s' out E h3 he k2
        | exit id =>
          obtain ⟨rfl, rfl⟩ := Prod.mk.inj (Option.some.inj he)
          exact ⟨h3, rfl, k2⟩
        | ret =>
          obtain ⟨rfl, rfl⟩ := Prod.mk.inj (Option.some.inj he)
          exact ⟨h3, rfl, k2⟩
        | panic v =>
          obtain ⟨rfl, rfl⟩ := Prod.mk.inj (Option.some.inj he)
          exact ⟨h3, rfl, k2⟩
    case cond c x y =>
      split at he
      · exact ih x s s' out E h2 he u
      · exact ih y s s' out E h2 he u
      · simp at he
    case block id b =>
      cases ha : codeA P call n b s with
      | none => simp [ha] at he
      | some r =>
        obtain ⟨o1, s1⟩ := r
        rw [ha] at he
        obtain ⟨h3, k1, k2⟩ := ih b s s1 o1 E h2 ha u
        rw [k1]
        cases o1 with
        | norm =>
          obtain ⟨rfl, rfl⟩ := Prod.mk.inj (Option.some.inj he)
          exact ⟨h3, rfl, k2⟩
        | exit id' =>
          simp only at he ⊢
          split at he
          · rename_i hid
            obtain ⟨rfl, rfl⟩ := Prod.mk.inj (Option.some.inj he)
            exact ⟨h3, by rw [if_pos hid], k2⟩
          · rename_i hid
            obtain ⟨rfl, rfl⟩ := Prod.mk.inj (Option.some.inj he)
            exact ⟨h3, by rw [if_neg hid], k2⟩
        | ret =>
          obtain ⟨rfl, rfl⟩ := Prod.mk.inj (Option.some.inj he)
          exact ⟨h3, rfl, k2⟩
        | panic v =>
          obtain ⟨rfl, rfl⟩ := Prod.mk.inj (Option.some.inj he)
          exact ⟨h3, rfl, k2⟩
    case loop b =>
      cases ha : codeA P call n b s with
      | none => simp [ha] at he
      | some r =>
        obtain ⟨o1, s1⟩ := r
        rw [ha] at he
        obtain ⟨h3, k1, k2⟩ := ih b s s1 o1 E h2 ha u
        rw [k1]
        cases o1 with
        | norm => exact ih (.loop b) s1 s' out E h3 he k2
        | exit id =>
          obtain ⟨rfl, rfl⟩ := Prod.mk.inj (Option.some.inj he)
          exact ⟨h3, rfl, k2⟩
        | ret =>
          obtain ⟨rfl, rfl⟩ := Prod.mk.inj (Option.some.inj he)
          exact ⟨h3, rfl, k2⟩
        | panic v =>
          obtain ⟨rfl, rfl⟩ := Prod.mk.inj (Option.some.inj he)
          exact ⟨h3, rfl, k2⟩
    case exit id =>
      obtain ⟨rfl, rfl⟩ := Prod.mk.inj (Option.some.inj he)
      exact ⟨h2, rfl, u⟩
    case scope b => exact ih b s s' out E h2 he u
    case ret =>
      obtain ⟨rfl, rfl⟩ := Prod.mk.inj (Option.some.inj he)
      exact ⟨h2, rfl, u⟩
    all_goals (simp at he)

theorem resultsA_hu {h h2 : Heap} {E : Nat → Option AObj} (u : HU h E h2) {e : Env} : ∀ {rs : List ResultVar} {vs : List AV}, resultsA P rs e h = some vs → resultsA P rs e h2 = some vs
  | [], vs, he => he
  | .tmp t :: r, vs, he => by
    simp only [resultsA] at he ⊢
    split at he
    · rename_i hr; rw [resultsA_hu u hr]; exact he
    · simp at he
  | .cell a t :: r, vs, he => by
    simp only [resultsA] at he ⊢
    split at he
    · rename_i hl
      rw [loadA_hu u hl]
      simp only
      split at he
      · rename_i hr; rw [resultsA_hu u hr]; exact he
      · simp at he
    · simp at he

theorem bodyA_hu {call : CallT} (hC : CallHU call) {n : Nat} {fn : Func} {c : Code} {args : List AV} {h h2 : Heap} {r : Fin} {h' : Heap} {E : Nat → Option AObj} (he : bodyA P call n fn c args h = some (r, h')) (u : HU h E h2) :
    ∃ h2', bodyA P call n fn c args h2 = some (r, h2') ∧ HU h' E h2' := by
  unfold bodyA at he ⊢
  cases hc : codeA P call n c ⟨Env.init args fn.ntmps, h⟩ with
  | none => simp [hc] at he
  | some x =>
    obtain ⟨out, s⟩ := x
    rw [hc] at he
    obtain ⟨h3, k1, k2⟩ := codeA_hu hC n c _ s out E h2 hc u
    rw [k1]
    cases out with
    | norm =>
      simp only at he ⊢
      cases hr : resultsA P fn.results.toList s.env s.heap with
      | none => simp [hr] at he
      | some vs =>
        rw [hr] at he
        rw [resultsA_hu k2 hr]
        simp only [Option.map_some] at he ⊢
        obtain ⟨rfl, rfl⟩ := Prod.mk.inj (Option.some.inj he)
        exact ⟨h3, rfl, k2⟩
    | ret =>
      simp only at he ⊢
      cases hr : resultsA P fn.results.toList s.env s.heap with
      | none => simp [hr] at he
      | some vs =>
        rw [hr] at he
        rw [resultsA_hu k2 hr]
        simp only [Option.map_some] at he ⊢
        obtain ⟨rfl, rfl⟩ := Prod.mk.inj (Option.some.inj he)
        exact ⟨h3, rfl, k2⟩
    | panic v =>
      simp only at he ⊢
      obtain ⟨rfl, rfl⟩ := Prod.mk.inj (Option.some.inj he)
      exact ⟨h3, rfl, k2⟩
    | exit id => simp at he

def ToldHU (X : Told) : Prop := ∀ f g, X f = some g → ∀ args h r h' E h2, g args h = some (r, h') → HU h E h2 → ∃ h2', g args h2 = some (r, h2') ∧ HU h' E h2'

theorem callA_hu {X : Told} (hX : ToldHU X) : ∀ n, CallHU (callA P X n) := by
  intro n
  induction n with
  | zero => intro f args h r h' E h2 he; simp [callA] at he
  | succ n ih =>
    intro f args h r h' E h2 he u
    simp only [callA] at he ⊢
    cases hx : X f with
    | some g => rw [hx] at he; exact hX f g hx args h r h' E h2 he u
    | none =>
      rw [hx] at he
      simp only at he ⊢
      split at he
      · split at he
        · exact bodyA_hu ih he u
        · split at he
          · rename_i v hv
            obtain ⟨rfl, rfl⟩ := Prod.mk.inj (Option.some.inj he)
            exact ⟨h2, by simp only [hv], u⟩
          · simp at he
      · simp at he

end Go.Proofs.YtahdafekballcaaGreat.AM
