/-
  AM, part 8: one operation.
-/
import Derived.Laws.Externs
import Derived.Lib.Bytealg
import Derived.Test.YtahdafekballcaaGreatAm7
namespace Go.Proofs.YtahdafekballcaaGreat.AM
open Go Go.RowKit
set_option linter.unusedVariables false
set_option linter.unusedSimpArgs false

variable {P : Program} {ρ : Rho} {B : Nat} {w0 w : World} {h : Heap}

/-- What an operation of the machine must come to. -/
def DoesN (P : Program) (B : Nat) (w0 : World) (ρ : Rho) (h : Heap) (w : World) (fresh : Nat) (s : Sem Next) (v : AV) (h' : Heap) : Prop :=
  ∃ ρ' w' nx, s.run P w = .ok nx w' ∧ ((∃ v', nx = .value v' ∧ VR ρ' v v') ∨ (nx = .skip ∧ v = undefA)) ∧ Sim B w0 ρ' h' w' ∧ Ext ρ ρ' ∧ (∀ b, b ≠ fresh → ρ' b = ρ b) ∧ h'.next = h.next

theorem Does.next {fresh : Nat} {s : Sem Value} {v : AV} {h' : Heap} (d : Does P B w0 ρ h w fresh s v h') : DoesN P B w0 ρ h w fresh (do pure (.value (← s))) v h' := by
  obtain ⟨ρ', w', v', h1, h2, h3, h4, h5, h6⟩ := d
  exact ⟨ρ', w', .value v', by simp [h1], .inl ⟨v', rfl, h2⟩, h3, h4, h5, h6⟩

theorem DoesU.next {fresh : Nat} {s : Sem Unit} {h' : Heap} (d : DoesU P B w0 ρ h w s h') : DoesN P B w0 ρ h w fresh (do s; pure .skip) undefA h' := by
  obtain ⟨w', h1, h2, h3⟩ := d
  exact ⟨ρ, w', .skip, by simp [h1], .inr ⟨rfl, rfl⟩, h2, Ext.refl _, fun _ _ => rfl, h3⟩

theorem pureR_spec {r : Option AV} {v : AV} {h' : Heap} (e : pureR h r = some (.val v h')) : r = some v ∧ h = h' := by
  unfold pureR at e
  split at e
  · injection e with e; injection e with e1 e2; subst e1 e2; exact ⟨rfl, rfl⟩
  · simp at e
theorem newR_spec {r : Option (AV × Heap)} {v : AV} {h' : Heap} (e : newR r = some (.val v h')) : r = some (v, h') := by
  unfold newR at e
  split at e
  · injection e with e; injection e with e1 e2; subst e1 e2; rfl
  · simp at e
theorem skipR_spec {r : Option Heap} {v : AV} {h' : Heap} (e : skipR r = some (.val v h')) : r = some h' ∧ undefA = v := by
  unfold skipR at e
  split at e
  · injection e with e; injection e with e1 e2; subst e1 e2; exact ⟨rfl, rfl⟩
  · simp at e

theorem bind2_spec {α : Type} {x y : Option AV} {f : AV → AV → Option α} {r : α} (e : bind2 x y f = some r) : ∃ a b, x = some a ∧ y = some b ∧ f a b = some r := by
  unfold bind2 at e
  split at e
  · exact ⟨_, _, rfl, rfl, e⟩
  · simp at e

theorem builtinA_ok (S : Sim B w0 ρ h w) {fresh : Nat} {b : Builtin} {ts : Array TypeId} {ty : TypeId} {cs : Array Bool} {args : List AV} {args' : Array Value} {v : AV} {h' : Heap}
    (hfl : b = .append → ρ fresh = none ∧ fresh < h.next) (e : builtinA P h fresh b ts.toList args = some (.val v h')) (ha : VRL ρ args args'.toList) : DoesN P B w0 ρ h w fresh (builtin b ts ty cs args') v h' := by
  unfold builtinA at e
  split at e
  · rename_i t1 t2 s x hts
    obtain ⟨l⟩ := args'
    simp only at ha
    cases ha with
    | cons _ s' _ _ hs ha =>
      cases ha with
      | cons _ x' _ _ hx ha =>
        cases ha
        have e := newR_spec e
        exact (appendA_ok S (hfl rfl).1 (hfl rfl).2 (by rw [← Array.getElem?_toList, hts]; rfl) (by rw [← Array.getElem?_toList, hts]; rfl) e hs hx).next
  · rename_i t1 rest d s hts
    obtain ⟨l⟩ := args'
    simp only at ha
    cases ha with
    | cons _ s' _ _ hs ha =>
      cases ha with
      | cons _ x' _ _ hx ha =>
        cases ha
        have e := newR_spec e
        exact (copyA_ok S (by rw [← Array.getElem?_toList, hts]; rfl) e hs hx).next
  · rename_i t1 rest x hts
    obtain ⟨l⟩ := args'
    simp only at ha
    cases ha with
    | cons _ s' _ _ hs ha =>
      cases ha
      obtain ⟨he2, hh⟩ := pureR_spec e; clear e; subst hh; have e := he2; clear he2
      exact (Does.of_pure S (lenA_ok S ty ts (by rw [← Array.getElem?_toList, hts]; rfl) e hs)).next
  · rename_i t1 rest x hts
    obtain ⟨l⟩ := args'
    simp only at ha
    cases ha with
    | cons _ s' _ _ hs ha =>
      cases ha
      have e := newR_spec e
      exact (clearA_ok S (by rw [← Array.getElem?_toList, hts]; rfl) e hs).next
  · rename_i x r
    obtain ⟨l⟩ := args'
    simp only at ha
    cases ha with
    | cons _ s' _ r' hs ha =>
      obtain ⟨he2, hh⟩ := pureR_spec e; clear e; subst hh; have e := he2; clear he2
      obtain ⟨v', h1, h2⟩ := minmaxA_ok (P := P) (w := w) false e hs ha
      exact (Does.of_pure S ⟨v', by simpa [Builtin.min_] using h1, h2⟩ : Does P B w0 ρ h w fresh (Builtin.min_ ts ty ⟨s' :: r'⟩) v h).next
  · rename_i x r
    obtain ⟨l⟩ := args'
    simp only at ha
    cases ha with
    | cons _ s' _ r' hs ha =>
      obtain ⟨he2, hh⟩ := pureR_spec e; clear e; subst hh; have e := he2; clear he2
      obtain ⟨v', h1, h2⟩ := minmaxA_ok (P := P) (w := w) true e hs ha
      exact (Does.of_pure S ⟨v', by simpa [Builtin.max_] using h1, h2⟩ : Does P B w0 ρ h w fresh (Builtin.max_ ts ty ⟨s' :: r'⟩) v h).next
  · simp at e

theorem builtinA_val {fresh : Nat} {b : Builtin} {ts : List TypeId} {args : List AV} {r : Res} (e : builtinA P h fresh b ts args = some r) : ∃ v h', r = .val v h' := by
  have hp : ∀ (o : Option AV), pureR h o = some r → ∃ v h', r = .val v h' := fun o e => by
    unfold pureR at e; split at e
    · exact ⟨_, _, (Option.some.inj e).symm⟩
    · simp at e
  have hn : ∀ (o : Option (AV × Heap)), newR o = some r → ∃ v h', r = .val v h' := fun o e => by
    unfold newR at e; split at e
    · exact ⟨_, _, (Option.some.inj e).symm⟩
    · simp at e
  unfold builtinA at e
  split at e
  · exact hn _ e
  · exact hn _ e
  · exact hp _ e
  · exact hn _ e
  · exact hp _ e
  · exact hp _ e
  · simp at e

/-- An operation that yields a value. -/
theorem execA_val (S : Sim B w0 ρ h w) {fresh : Nat} {e : Env} {a : Act} (F : FR ρ e a.tmps) {o : Oper} {v : AV} {h' : Heap} (hfl : makes o = true → ρ fresh = none ∧ fresh < h.next)
    (he : execA P e h fresh o = some (.val v h')) : DoesN P B w0 ρ h w fresh (execOp a.eval o) v h' := by
  obtain ⟨dst, op, ty, pos, after, guard⟩ := o
  unfold execA at he
  cases op <;> simp only at he
  case move x => obtain ⟨he2, hh⟩ := pureR_spec he; clear he; subst hh; have he := he2; clear he2; exact ⟨ρ, w, _, rfl, .inl ⟨_, rfl, opv_ok F he⟩, S, Ext.refl _, fun _ _ => rfl, rfl⟩
  case assign x => obtain ⟨he2, hh⟩ := pureR_spec he; clear he; subst hh; have he := he2; clear he2; exact ⟨ρ, w, _, rfl, .inl ⟨_, rfl, opv_ok F he⟩, S, Ext.refl _, fun _ _ => rfl, rfl⟩
  case pick c x y =>
    split at he
    · rename_i b hb
      have hc := opv_ok F hb
      generalize hcv : a.eval c = cv at hc
      cases hc
      obtain ⟨he2, hh⟩ := pureR_spec he; clear he; subst hh; have he := he2; clear he2
      cases b
      · exact ⟨ρ, w, .value (a.eval y), by simp [execOp, hcv, asBool], .inl ⟨_, rfl, opv_ok F (by simpa using he)⟩, S, Ext.refl _, fun _ _ => rfl, rfl⟩
      · exact ⟨ρ, w, .value (a.eval x), by simp [execOp, hcv, asBool], .inl ⟨_, rfl, opv_ok F (by simpa using he)⟩, S, Ext.refl _, fun _ _ => rfl, rfl⟩
    · simp at he
  case alloc t =>
    obtain ⟨hf, hl⟩ := hfl rfl
    exact (allocA_ok S hf hl (newR_spec he)).next
  case box t x =>
    obtain ⟨hf, hl⟩ := hfl rfl
    split at he
    · rename_i u hu
      exact (boxA_ok S hf hl t (newR_spec he) (opv_ok F hu)).next
    · simp at he
  case build t ps =>
    split at he
    · rename_i u hu
      obtain ⟨he2, hh⟩ := pureR_spec he; clear he; subst hh; have he := he2; clear he2
      have d := buildA_ok (w := w) (ps' := ps.map fun (i, x) => (i, a.eval x)) he (by rw [Array.toList_map]; exact parts_ok F hu)
      exact (Does.of_pure S d : Does P B w0 ρ h w fresh (Instr.build t (ps.map fun (i, x) => (i, a.eval x))) v h).next
    · simp at he
  case buildSlice t n ps =>
    obtain ⟨hf, hl⟩ := hfl rfl
    split at he
    · rename_i u hu
      have d := buildSliceA_ok (ps' := ps.map fun (i, x) => (i, a.eval x)) S hf hl (newR_spec he) (by rw [Array.toList_map]; exact parts_ok F hu)
      exact d.next
    · simp at he
  case load t x =>
    split at he
    · rename_i u hu
      obtain ⟨he2, hh⟩ := pureR_spec he; clear he; subst hh; have he := he2; clear he2
      obtain ⟨ad, h1, v', h2, h3⟩ := loadA_ok S he (opv_ok F hu)
      refine (Does.of_pure S ⟨v', ?_, h3⟩ : Does P B w0 ρ h w fresh (Instr.loadAt t (a.eval x)) v h).next
      rw [h1]
      simp only [Instr.loadAt, Instr.sureAddr, Sem.run_bind, Sem.run_pure, Result.andThen_ok, h2]
    · simp at he
  case store t x y =>
    obtain ⟨u, v2, hu, hv, he⟩ := bind2_spec he
    obtain ⟨he2, hh⟩ := skipR_spec he; clear he; subst hh; have he := he2; clear he2
    exact (storeA_ok S he (opv_ok F hu) (opv_ok F hv)).next
  case nilCheck x =>
    split at he
    · rename_i b o hb
      have hc := opv_ok F hb
      injection he with he; injection he with e1 e2; subst e1 e2
      refine ⟨ρ, w, .value (a.eval x), ?_, .inl ⟨_, rfl, hc⟩, S, Ext.refl _, fun _ _ => rfl, rfl⟩
      generalize hcv : a.eval x = cv at hc
      cases hc
      simp [execOp, hcv]
    · rename_i f fa fb hb
      have hc := opv_ok F hb
      injection he with he; injection he with e1 e2; subst e1 e2
      refine ⟨ρ, w, .value (a.eval x), ?_, .inl ⟨_, rfl, hc⟩, S, Ext.refl _, fun _ _ => rfl, rfl⟩
      generalize hcv : a.eval x = cv at hc
      cases hc
      simp [execOp, hcv]
    · simp at he
  case binOp op t x y yt =>
    obtain ⟨u, v2, hu, hv, he⟩ := bind2_spec he
    obtain ⟨he2, hh⟩ := pureR_spec he; clear he; subst hh; have he := he2; clear he2
    exact (Does.of_pure S (binA_ok S he (opv_ok F hu) (opv_ok F hv))).next
  case unOp op t x =>
    split at he
    · rename_i u hu
      obtain ⟨he2, hh⟩ := pureR_spec he; clear he; subst hh; have he := he2; clear he2
      exact (Does.of_pure S (unA_ok he (opv_ok F hu))).next
    · simp at he
  case convert s d x =>
    obtain ⟨hf, hl⟩ := hfl rfl
    split at he
    · rename_i u hu
      exact (convA_ok S hf hl (newR_spec he) (opv_ok F hu)).next
    · simp at he
  case makeInterface t x =>
    split at he
    · simp at he
    · rename_i d v2 hni hu hv
      injection he with he; injection he with e1 e2; subst e1 e2
      refine (Does.of_pure S ⟨.iface t (a.eval x), ?_, .iface _ _ _ (opv_ok F hv)⟩ : Does P B w0 ρ _ w fresh (Instr.makeInterface t (a.eval x)) _ _).next
      simp only [Instr.makeInterface, Sem.run_bind, run_underlying hu, Result.andThen_ok]
      cases d <;> first
        | rfl
        | (exact (hni _ hu).elim)
    · simp at he
  case makeFunc fn first captured =>
    cases fn <;> simp only at he <;> first | (simp at he; done) | skip
    split at he
    · rename_i x y hx hy
      injection he with he; injection he with e1 e2; subst e1 e2
      refine (Does.of_pure S ⟨_, rfl, .fn _ _ _ _ _ ?_ ?_⟩ : Does P B w0 ρ _ w fresh (Instr.makeFunc _ (first.map a.eval) (captured.map a.eval)) _ _).next
      · rw [Array.toList_map]; exact opvs_ok F hx
      · rw [Array.toList_map]; exact opvs_ok F hy
    · simp at he
  case makeMap t r =>
    obtain ⟨hf, hl⟩ := hfl rfl
    cases r <;> simp only at he <;> first | (simp at he; done) | skip
    injection he with he; injection he with e1 e2; subst e1 e2
    have d : Does P B w0 ρ h w fresh (Instr.makeMap t none) (.map fresh) (h.put fresh (some (.map [] 0))) :=
      ⟨ρ.put fresh ⟨w.heap.size, 0, 0⟩, _, .map (some w.heap.size), by simp [Instr.makeMap], .map fresh ⟨w.heap.size, 0, 0⟩ (by simp [Rho.put]), S.newMap hf hl, Rho.ext_put _ hf, put_other _, rfl⟩
    exact d.next
  case makeSlice t l c =>
    obtain ⟨hf, hl⟩ := hfl rfl
    obtain ⟨u, v2, hu, hv, he⟩ := bind2_spec he
    exact (makeSliceA_ok S hf hl (newR_spec he) (opv_ok F hu) (opv_ok F hv)).next
  case slice t x lo hi mx =>
    split at he
    · rename_i x' lo' hi' mx' h1 h2 h3 h4
      obtain ⟨he2, hh⟩ := pureR_spec he; clear he; subst hh; have he := he2; clear he2
      exact (Does.of_pure S (sliceOfA_ok S he (opv_ok F h1) (opvO_ok F h4) (opvO_ok F h3) (opvO_ok F h2))).next
    · simp at he
  case fieldAddr t x f =>
    split at he
    · rename_i u hu
      obtain ⟨he2, hh⟩ := pureR_spec he; clear he; subst hh; have he := he2; clear he2
      exact (Does.of_pure S (fieldAddrA_ok he (opv_ok F hu))).next
    · simp at he
  case field t x f =>
    split at he
    · rename_i u hu
      obtain ⟨he2, hh⟩ := pureR_spec he; clear he; subst hh; have he := he2; clear he2
      exact (Does.of_pure S (fieldA_ok he (opv_ok F hu))).next
    · simp at he
  case indexAddr t x i =>
    obtain ⟨u, v2, hu, hv, he⟩ := bind2_spec he
    obtain ⟨he2, hh⟩ := pureR_spec he; clear he; subst hh; have he := he2; clear he2
    exact (Does.of_pure S (indexAddrA_ok he (opv_ok F hu) (opv_ok F hv))).next
  case index t x i =>
    obtain ⟨u, v2, hu, hv, he⟩ := bind2_spec he
    obtain ⟨he2, hh⟩ := pureR_spec he; clear he; subst hh; have he := he2; clear he2
    exact (Does.of_pure S (indexA_ok he (opv_ok F hu) (opv_ok F hv))).next
  case lookup t m k ok =>
    obtain ⟨u, v2, hu, hv, he⟩ := bind2_spec he
    obtain ⟨he2, hh⟩ := pureR_spec he; clear he; subst hh; have he := he2; clear he2
    exact (Does.of_pure S (lookupA_ok S he (opv_ok F hu) (opv_ok F hv))).next
  case mapUpdate t m k v3 =>
    split at he
    · rename_i x hx
      obtain ⟨u, v2, hu, hv, he⟩ := bind2_spec he
      obtain ⟨he2, hh⟩ := skipR_spec he; clear he; subst hh; have he := he2; clear he2
      exact (mapUpdateA_ok S he (opv_ok F hu) (opv_ok F hv) (opv_ok F hx)).next
    · simp at he
  case insert t m k v3 =>
    split at he
    · rename_i x hx
      obtain ⟨u, v2, hu, hv, he⟩ := bind2_spec he
      obtain ⟨he2, hh⟩ := skipR_spec he; clear he; subst hh; have he := he2; clear he2
      exact (mapUpdateA_ok S he (opv_ok F hu) (opv_ok F hv) (opv_ok F hx)).next
    · simp at he
  case typeAssert x xt t ok =>
    split at he
    · rename_i u hu
      obtain ⟨he2, hh⟩ := pureR_spec he; clear he; subst hh; have he := he2; clear he2
      exact (Does.of_pure S (assertA_ok he (opv_ok F hu))).next
    · simp at he
  case sliceToArrayPointer arr x =>
    split at he
    · rename_i u hu
      obtain ⟨he2, hh⟩ := pureR_spec he; clear he; subst hh; have he := he2; clear he2
      exact (Does.of_pure S (arrayAtA_ok he (opv_ok F hu))).next
    · simp at he
  case range t x =>
    obtain ⟨hf, hl⟩ := hfl rfl
    split at he
    · rename_i s ht hu
      exact (rangeA_ok S hf hl ht (newR_spec he) (opv_ok F hu)).next
    · simp at he
  case next it str =>
    cases str with
    | false => simp at he
    | true =>
      simp only at he
      split at he
      · rename_i u hu
        exact (nextA_ok S (newR_spec he) (opv_ok F hu)).next
      · simp at he
  case extract t i =>
    split at he
    · rename_i vs hb
      have hc := opv_ok F hb
      obtain ⟨he2, hh⟩ := pureR_spec he; clear he; subst hh; have he := he2; clear he2
      generalize hcv : a.eval t = cv at hc
      cases hc
      rename_i vs' hvs
      obtain ⟨v', h1, h2⟩ := VRL.get hvs _ _ he
      refine (Does.of_pure S ⟨v', ?_, h2⟩ : Does P B w0 ρ h w fresh (Instr.extract (a.eval t) i) v h).next
      rw [Array.getElem?_toList] at h1
      rw [hcv]
      simp only [Instr.extract, h1]
      rfl
    · simp at he
  case call c =>
    split at he
    · simp at he
    · rename_i args hargs
      split at he
      · rename_i b hcal
        have := builtinA_ok (ty := ty) (cs := c.args.map fun | .const _ => true | _ => false) S (fun hb => hfl (by simp [makes, hcal, hb])) he (args' := c.args.map a.eval) (by rw [Array.toList_map]; exact opvs_ok F hargs)
        obtain ⟨ρ', w', nx, h1, h2⟩ := this
        refine ⟨ρ', w', nx, ?_, h2⟩
        simp only [execOp, resolve, hcal, Sem.run_bind, Sem.run_pure, Result.andThen_ok, invoke]
        exact h1
      · rename_i f hcal
        split at he
        · simp at he
        · simp at he
      · simp at he
  case panic x =>
    split at he
    · simp at he
    · simp at he
  all_goals (simp at he)


/-- It has a body of its own. -/
def Enterable (P : Program) (f : FuncId) : Prop := ∃ fn, P.funcs[f]? = some fn ∧ (fn.name == "runtime.NumGoroutine") = false ∧ fn.body.isNone = false

theorem callFunc_run {f : FuncId} (hE : Enterable P f) (args : Array Value) : (callFunc f args).run P w = .ok (.enter f args) w := by
  obtain ⟨fn, h1, h2, h3⟩ := hE
  simp only [callFunc, Sem.run_bind, run_program, Result.andThen_ok, h1, h2, h3, Bool.false_eq_true, if_false, Sem.run_pure]

theorem pureR_ne {r : Option AV} {x : Res} (e : pureR h r = some x) : ∃ v h', x = .val v h' := by
  unfold pureR at e; split at e
  · exact ⟨_, _, (Option.some.inj e).symm⟩
  · simp at e
theorem newR_ne {r : Option (AV × Heap)} {x : Res} (e : newR r = some x) : ∃ v h', x = .val v h' := by
  unfold newR at e; split at e
  · exact ⟨_, _, (Option.some.inj e).symm⟩
  · simp at e
theorem skipR_ne {r : Option Heap} {x : Res} (e : skipR r = some x) : ∃ v h', x = .val v h' := by
  unfold skipR at e; split at e
  · exact ⟨_, _, (Option.some.inj e).symm⟩
  · simp at e

/-- What does not yield a value is a call of a function, or a panic. -/
theorem execA_kinds {fresh : Nat} {e : Env} {o : Oper} {r : Res} (he : execA P e h fresh o = some r) :
    (∃ v h', r = .val v h') ∨ (∃ c f g first captured args, o.op = .call c ∧ c.callee = .value f ∧ opv e f = some (.fn g first captured) ∧ opvs e c.args.toList = some args ∧ r = .enter g (first ++ args ++ captured)) ∨
      (∃ x t v, o.op = .panic x ∧ opv e x = some (.iface t v) ∧ r = .panic (.iface t v)) := by
  unfold execA at he
  have b2 : ∀ {x y : Option AV} {f : AV → AV → Option Res}, bind2 x y f = some r → (∀ a b, f a b = some r → ∃ v h', r = .val v h') → ∃ v h', r = .val v h' := fun e hf => by
    obtain ⟨a, b, _, _, e⟩ := bind2_spec e
    exact hf a b e
  split at he
  case h_31 c hc =>
    split at he
    · simp at he
    · rename_i args hargs
      split at he
      · exact .inl (builtinA_val he)
      · rename_i f hcal
        split at he
        · rename_i g first captured hf
          exact .inr (.inl ⟨_, f, g, first, captured, args, hc, hcal, hf, hargs, (Option.some.inj he).symm⟩)
        · simp at he
      · simp at he
  case h_32 x hx =>
    split at he
    · rename_i t v hv
      exact .inr (.inr ⟨_, t, v, hx, hv, (Option.some.inj he).symm⟩)
    · simp at he
  all_goals left
  all_goals first
    | exact pureR_ne he
    | exact newR_ne he
    | exact b2 he (fun a b e => pureR_ne e)
    | exact b2 he (fun a b e => newR_ne e)
    | exact b2 he (fun a b e => skipR_ne e)
    | (split at he <;> first
        | (simp at he; done)
        | exact pureR_ne he
        | exact newR_ne he
        | exact b2 he (fun a b e => skipR_ne e)
        | exact ⟨_, _, (Option.some.inj he).symm⟩)
    | exact ⟨_, _, (Option.some.inj he).symm⟩
    | (simp at he)

theorem VRL.append3 {a b c : List AV} {a' b' c' : Array Value} (h1 : VRL ρ a a'.toList) (h2 : VRL ρ b b'.toList) (h3 : VRL ρ c c'.toList) : VRL ρ (a ++ b ++ c) (a' ++ b' ++ c').toList := by
  rw [Array.toList_append, Array.toList_append]
  exact (h1.append h2).append h3

/-- A call. -/
theorem execA_enter {fresh : Nat} {e : Env} {a : Act} (F : FR ρ e a.tmps) {o : Oper} {f : FuncId} {args : List AV} (he : execA P e h fresh o = some (.enter f args)) (hE : Enterable P f) :
    ∃ args', (execOp a.eval o).run P w = .ok (.enter f args') w ∧ VRL ρ args args'.toList := by
  rcases execA_kinds he with ⟨v, h', hr⟩ | ⟨c, fo, g, first, captured, as, h1, h2, h3, h4, h5⟩ | ⟨x, t, v, _, _, hr⟩
  · cases hr
  · injection h5 with e1 e2
    subst e1 e2
    have hf := opv_ok F h3
    generalize hcv : a.eval fo = cv at hf
    cases hf
    rename_i x' y' hx hy
    refine ⟨x' ++ c.args.map a.eval ++ y', ?_, VRL.append3 hx (by rw [Array.toList_map]; exact opvs_ok F h4) hy⟩
    obtain ⟨dst, op, ty, pos, after, guard⟩ := o
    simp only at h1
    subst h1
    simp only [execOp, resolve, h2, hcv, Deferred.ofValue, Sem.run_bind, Sem.run_pure, Result.andThen_ok, invoke]
    exact callFunc_run hE _
  · cases hr

/-- A call, whatever is called. -/
theorem execA_call {fresh : Nat} {e : Env} {a : Act} (F : FR ρ e a.tmps) {o : Oper} {f : FuncId} {args : List AV} (he : execA P e h fresh o = some (.enter f args)) :
    ∃ args', (execOp a.eval o).run P w = (callFunc f args').run P w ∧ VRL ρ args args'.toList := by
  rcases execA_kinds he with ⟨v, h', hr⟩ | ⟨c, fo, g, first, captured, as, h1, h2, h3, h4, h5⟩ | ⟨x, t, v, _, _, hr⟩
  · cases hr
  · injection h5 with e1 e2
    subst e1 e2
    have hf := opv_ok F h3
    generalize hcv : a.eval fo = cv at hf
    cases hf
    rename_i x' y' hx hy
    refine ⟨x' ++ c.args.map a.eval ++ y', ?_, VRL.append3 hx (by rw [Array.toList_map]; exact opvs_ok F h4) hy⟩
    obtain ⟨dst, op, ty, pos, after, guard⟩ := o
    simp only at h1
    subst h1
    simp only [execOp, resolve, h2, hcv, Deferred.ofValue, Sem.run_bind, Sem.run_pure, Result.andThen_ok, invoke]
  · cases hr

theorem firstAt_ok (c : UInt8) (s : ByteArray) : ∀ (l : List UInt8) (n : Nat), s.data.toList.drop n = l → (List.range' n l.length).find? (fun i => s[i]! == c) = firstAt c l n
  | [], n, h => rfl
  | b :: bs, n, h => by
    have hn : n < s.data.toList.length := by
      have := congrArg List.length h
      simp only [List.length_drop, List.length_cons] at this
      omega
    have h1 : s.data.toList[n]'hn = b := by
      have := List.drop_eq_getElem_cons hn
      rw [h] at this
      injection this with e1 e2
      exact e1.symm
    have h2 : s.data.toList.drop (n + 1) = bs := by
      have := List.drop_eq_getElem_cons hn
      rw [h] at this
      injection this with e1 e2
      exact e2.symm
    have h3 : s[n]! = b := by
      have hs : n < s.size := by simpa using hn
      rw [getElem!_pos s n hs, ← h1]
      rfl
    simp only [List.length_cons, List.range'_succ, List.find?_cons, firstAt]
    rw [h3]
    by_cases hb : b = c
    · subst hb; simp
    · have : (b == c) = false := by simpa using hb
      rw [this, if_neg hb]
      exact firstAt_ok c s bs (n + 1) h2

theorem indexByteA_ok {ρ : Rho} {args : List AV} {v : AV} (he : indexByteA args = some v) (w : World) (vs : Array Value) (hv : VRL ρ args vs.toList) :
    ∃ v', (Extern.BytealgIndexByte.indexByte vs).run P w = .ok v' w ∧ VR ρ v v' := by
  unfold indexByteA at he
  split at he
  · rename_i s c
    obtain rfl := Option.some.inj he
    obtain ⟨l⟩ := vs
    cases hv with
    | cons _ _ _ _ a1 r1 =>
    cases r1 with
    | cons _ _ _ _ a2 r2 =>
    cases r2
    cases a1 with
    | str _ bs hbs =>
    cases a2
    refine ⟨_, run_indexByte_string bs c w, ?_⟩
    have : firstIdx bs c.toNat.toUInt8 = (match firstAt c.toNat.toUInt8 s 0 with | some i => (i : Int) | none => -1) := by
      unfold firstIdx
      have h1 := firstAt_ok c.toNat.toUInt8 bs s 0 (by simpa using hbs)
      have h2 : s.length = bs.size := by rw [← hbs]; simp
      rw [List.range_eq_range', ← h2, h1]
      cases firstAt c.toNat.toUInt8 s 0 <;> rfl
    rw [this]
    exact .int _ _
  · cases he

theorem countA_ok {ρ : Rho} {args : List AV} {v : AV} (he : countA args = some v) (w : World) (vs : Array Value) (hv : VRL ρ args vs.toList) :
    ∃ v', (Extern.BytealgCount.count vs).run P w = .ok v' w ∧ VR ρ v v' := by
  unfold countA at he
  split at he
  · rename_i s c
    obtain rfl := Option.some.inj he
    obtain ⟨l⟩ := vs
    cases hv with
    | cons _ _ _ _ a1 r1 =>
    cases r1 with
    | cons _ _ _ _ a2 r2 =>
    cases r2
    cases a1 with
    | str _ bs hbs =>
    cases a2
    refine ⟨_, Go.Lib.run_countString bs c w, ?_⟩
    unfold Go.Lib.countByte
    rw [hbs]
    exact .int _ _
  · cases he

/-- A function without a body, by its name. -/
theorem externA_ok {f : FuncId} {fn : Func} (hf : P.funcs[f]? = some fn) (hb : fn.body = none) {args : List AV} {v : AV} (he : externA fn args = some v) (ρ : Rho) (w : World) (vs : Array Value) (hv : VRL ρ args vs.toList) :
    ∃ v', (callFunc f vs).run P w = .ok (.value v') w ∧ VR ρ v v' := by
  unfold externA at he
  split at he
  case isFalse => cases he
  rename_i ho
  split at he
  · rename_i hn
    have h1 : Extern.findNext fn = none := by
      unfold Extern.findNext
      rw [hn, ho]
      kernel_rfl
    have h2 : Extern.find fn = some add64Entry := by
      unfold Extern.find
      rw [hn, ho]
      kernel_rfl
    rw [run_callFunc_extern hf (by rw [hn]; decide) (by rw [hb]; rfl) h1 h2]
    unfold add64A at he
    split at he
    · rename_i x y c
      split at he
      · rename_i hc
        obtain rfl := Option.some.inj he
        obtain ⟨l⟩ := vs
        cases hv with
        | cons _ _ _ _ a1 r1 =>
        cases r1 with
        | cons _ _ _ _ a2 r2 =>
        cases r2 with
        | cons _ _ _ _ a3 r3 =>
        cases r3
        cases a1
        cases a2
        cases a3
        rw [run_add64 x y c hc.1 hc.2.1 hc.2.2.1 hc.2.2.2]
        exact ⟨_, rfl, .tup _ _ (.cons _ _ _ _ (.int _ _) (.cons _ _ _ _ (.int _ _) .nil))⟩
      · cases he
    · cases he
  · split at he
    · rename_i hn
      have h1 : Extern.findNext fn = none := by
        unfold Extern.findNext
        rw [hn, ho]
        kernel_rfl
      have h2 : Extern.find fn = some Extern.BytealgIndexByte.indexByte := by
        unfold Extern.find
        rw [hn, ho]
        kernel_rfl
      rw [run_callFunc_extern hf (by rw [hn]; decide) (by rw [hb]; rfl) h1 h2]
      obtain ⟨v', e1, e2⟩ := indexByteA_ok (P := P) he w vs hv
      exact ⟨v', by rw [e1]; rfl, e2⟩
    · split at he
      · rename_i hn
        have h1 : Extern.findNext fn = none := by
          unfold Extern.findNext
          rw [hn, ho]
          kernel_rfl
        have h2 : Extern.find fn = some Extern.BytealgCount.count := by
          unfold Extern.find
          rw [hn, ho]
          kernel_rfl
        rw [run_callFunc_extern hf (by rw [hn]; decide) (by rw [hb]; rfl) h1 h2]
        obtain ⟨v', e1, e2⟩ := countA_ok (P := P) he w vs hv
        exact ⟨v', by rw [e1]; rfl, e2⟩
      · cases he

theorem execA_panic {fresh : Nat} {e : Env} {a : Act} (F : FR ρ e a.tmps) {o : Oper} {v : AV} (he : execA P e h fresh o = some (.panic v)) :
    ∃ v', (execOp a.eval o).run P w = .halt (.panic v') w ∧ VR ρ v v' := by
  rcases execA_kinds he with ⟨v, h', hr⟩ | ⟨c, fo, g, first, captured, as, h1, h2, h3, h4, h5⟩ | ⟨x, t, u, h1, h2, hr⟩
  · cases hr
  · cases h5
  · injection hr with e1
    subst e1
    have hf := opv_ok F h2
    refine ⟨a.eval x, ?_, hf⟩
    generalize hcv : a.eval x = cv at hf
    cases hf
    obtain ⟨dst, op, ty, pos, after, guard⟩ := o
    simp only at h1
    subst h1
    simp only [execOp, hcv, Sem.run_bind, Instr.panic, run_goPanic, Result.andThen_halt]

end Go.Proofs.YtahdafekballcaaGreat.AM
