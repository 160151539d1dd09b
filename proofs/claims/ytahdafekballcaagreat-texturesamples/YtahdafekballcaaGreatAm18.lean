/-
  AM, part 18: code and calls: what AM comes to, the model comes to.
-/
import Derived.Test.YtahdafekballcaaGreatAm17
namespace Go.Proofs.YtahdafekballcaaGreat.AM
open Go Go.RowKit
set_option linter.unusedVariables false
set_option linter.unusedSimpArgs false

variable {P : Program} {call : CallT}

theorem reserve_of {ops : Array Oper} {i : Nat} {o : Oper} (ho : ops[i]? = some o) (hm : makes o = true) : reserve ops = ops.size := by
  unfold reserve
  rw [cond_eq_ite, if_pos]
  exact List.any_eq_true.2 ⟨o, List.mem_of_getElem? (by rw [Array.getElem?_toList]; exact ho), hm⟩

theorem Sim.cleanAt {B : Nat} {w0 w : World} {ρ : Rho} {h : Heap} (S : Sim B w0 ρ h w) (n i : Nat) (hi : i < n) : Clean (h.bump n) (h.next + i) :=
  { off := by
      rw [Heap.get_bump]
      cases hg : h.get (h.next + i) with
      | none => rfl
      | some o => have := S.lt hg; omega
    lt := by rw [Heap.next_bump]; omega
    anc := fun c cs md a hc hx => by
      rw [Heap.get_bump] at hc
      have := S.ancl c cs md a hc _ hx
      omega }

theorem regionA_ok (hm : P.follows .mixedOrders = true) (hC : CallOK P call) (hH : CallHU call) {id : Nat} {ops : Array Oper} {d : Bool} {s s' : St} {out : Out} (he : regionA P call ops d s = some (out, s')) {B : Nat} {w0 : World} {ρ : Rho} {a : Act} {w : World}
    (S : Sim B w0 ρ s.heap w) (F : FR ρ s.env a.tmps) : (Code.region id ops d).wp P (Post B w0 ρ s.heap.next a.defers out s') a w := by
  have hfree : ∀ i o, ops[i]? = some o → makes o = true → ρ (s.heap.next + i) = none ∧ s.heap.next + i < (s.heap.bump (reserve ops)).next := fun i o ho hmk => by
    have hi : i < ops.size := by
      rcases Nat.lt_or_ge i ops.size with h | h
      · exact h
      · rw [Array.getElem?_eq_none h] at ho; cases ho
    refine ⟨?_, by rw [Heap.next_bump, reserve_of ho hmk]; omega⟩
    cases hr : ρ (s.heap.next + i) with
    | none => rfl
    | some p => have := S.dom _ _ hr; omega
  unfold regionA at he
  split at he
  · rename_i hd
    subst hd
    split at he
    · rename_i hok
      split at he
      · rename_i tr r hr
        split at he
        · rename_i hag
          obtain rfl := Option.some.inj he
          refine wp_region_any hm ?_
          obtain ⟨e1, h1, k1, k2⟩ := runL_chain hr
          have U : Setup P call ops s.heap.next s.env (s.heap.bump (reserve ops)) tr e1 h1 (canon P ops) out s' :=
            { hC := hC, hH := hH, F := drawOk_facts hok, ch := k1, en := k2, ag := hag
              cl := fun i o ho hmk => by
                have hi : i < ops.size := by
                  rcases Nat.lt_or_ge i ops.size with h | h
                  · exact h
                  · rw [Array.getElem?_eq_none h] at ho; cases ho
                rw [reserve_of ho hmk]
                exact S.cleanAt _ _ hi }
          have hD0 : ∀ i, (Array.replicate ops.size false).getD i false = false := fun i => by
            rw [Array.getD_eq_getD_getElem?, Array.getElem?_replicate]
            split <;> rfl
          have I : Inv P call ops s.heap.next s.env (s.heap.bump (reserve ops)) tr e1 h1 B w0 ρ s.heap.next a.defers (fun i => (Array.replicate ops.size false).getD i false) ρ s.env (s.heap.bump (reserve ops)) (fun _ => none) [] tr s.env (s.heap.bump (reserve ops)) a w.drew :=
            { etr := by simp, c1 := .nil _ _, c2 := k1, a2 := fun _ _ _ => hD0 _, last := .inl rfl, hu := HU.refl _
              mks := fun x _ _ hx => by rw [hD0] at hx; cases hx
              off := fun b o hb => by cases hb
              S := (S.bump _).drew, ext := Ext.refl _, low := fun _ _ => rfl, nle := by rw [Heap.next_bump]; omega
              free := fun i o ho hmk _ => hfree i o ho hmk
              fr := F, df := rfl
              env := ⟨fun _ _ => rfl, (fun x _ hx => by rw [hD0] at hx; cases hx), rfl⟩
              sub := fun i hi => by rw [hD0] at hi; cases hi
              cl := fun i hi => by have hi : (Array.replicate ops.size false).getD i false = true := hi; rw [hD0] at hi; cases hi }
          exact draw_any U (Nat.le_refl _) ops.size (Array.replicate ops.size false) (List.range ops.size) _ _ _ _ _ _ _ _ _ _ I (by simp) (by simp) (fun i hi _ => List.mem_range.2 hi)
        · simp at he
      · simp at he
    · simp at he
  · rename_i hd
    obtain rfl : d = false := by simpa using hd
    refine wp_region ?_
    have := opsA_ok hC (B := B) (w0 := w0) ops s.heap.next ρ s.heap.next a.defers (Nat.le_refl _) ops.toList 0 s.env (s.heap.bump (reserve ops)) out s' ρ a w (by simpa using he) (by simp) (S.bump _) F rfl (Ext.refl _) (fun _ _ => rfl)
      (fun i o _ ho hmk => hfree i o ho hmk) (by rw [Heap.next_bump]; omega)
    rw [List.range_eq_range']
    simpa using this

/-- One piece of code behind another. -/
theorem Post.trans {B : Nat} {w0 : World} {ρ0 ρ1 : Rho} {N N1 : Nat} {ds : List Deferred} {out : Out} {s : St} {e : Exit} {a : Act} {w : World} (hE : Ext ρ0 ρ1) (hA : ∀ b, b < N → ρ1 b = ρ0 b) (hN : N ≤ N1)
    (h : Post B w0 ρ1 N1 ds out s e a w) : Post B w0 ρ0 N ds out s e a w := by
  obtain ⟨ρ, h1, h2, h3, h4, h5, h6, h7⟩ := h
  exact ⟨ρ, h1, h2, hE.trans h3, fun b hb => by rw [h4 b (by omega)]; exact hA b hb, by omega, h6, h7⟩

theorem codeA_ok (hm : P.follows .mixedOrders = true) (hC : CallOK P call) (hH : CallHU call) : ∀ (n : Nat) (c : Code) (s s' : St) (out : Out), codeA P call n c s = some (out, s') → ∀ (B : Nat) (w0 : World) (ρ : Rho) (a : Act) (w : World),
    Sim B w0 ρ s.heap w → FR ρ s.env a.tmps → c.wp P (Post B w0 ρ s.heap.next a.defers out s') a w := by
  intro n
  induction n using Nat.strongRecOn with
  | _ n0 ihs =>
    intro c s s' out he B w0 ρ a w S F
    cases n0 with
    | zero => simp [codeA] at he
    | succ n =>
    have ih := ihs n (Nat.lt_succ_self n)
    have here : ∀ o ex, OutR ρ o ex → Post B w0 ρ s.heap.next a.defers o s ex a w := fun o ex ho => ⟨ρ, ho, S, Ext.refl _, fun _ _ => rfl, Nat.le_refl _, F, rfl⟩
    -- a piece that does not end in the common way hands its end on
    have seq : ∀ (x : Code) (o1 : Out) (s1 : St) (K : Act → World → Prop), codeA P call n x s = some (o1, s1) → (o1 ≠ .norm → out = o1 ∧ s' = s1) →
        (∀ ρ1 a1 w1, o1 = .norm → Sim B w0 ρ1 s1.heap w1 → FR ρ1 s1.env a1.tmps → Ext ρ ρ1 → (∀ b, b < s.heap.next → ρ1 b = ρ b) → s.heap.next ≤ s1.heap.next → a1.defers = a.defers → K a1 w1) →
        x.wp P (Exit.then K (Post B w0 ρ s.heap.next a.defers out s')) a w := by
      intro x o1 s1 K hx hno hk
      refine wp_mono (ih x s s1 o1 hx B w0 ρ a w S F) fun e a1 w1 hp => ?_
      have hp' := hp
      obtain ⟨ρ1, q1, q2, q3, q4, q5, q6, q7⟩ := hp
      cases e with
      | normal =>
        cases o1 with
        | norm => exact hk ρ1 a1 w1 rfl q2 q6 q3 q4 q5 q7
        | exit id => exact q1.elim
        | ret => exact q1.elim
        | panic v => exact q1.elim
      | exit id =>
        cases o1 with
        | exit id' => obtain ⟨rfl, rfl⟩ := hno (by simp); exact hp'
        | norm => exact q1.elim
        | ret => exact q1.elim
        | panic v => exact q1.elim
      | goto l => cases o1 <;> exact q1.elim
      | ret =>
        cases o1 with
        | ret => obtain ⟨rfl, rfl⟩ := hno (by simp); exact hp'
        | norm => exact q1.elim
        | exit id => exact q1.elim
        | panic v => exact q1.elim
      | panic ch =>
        cases o1 with
        | panic v => obtain ⟨rfl, rfl⟩ := hno (by simp); exact hp'
        | norm => exact q1.elim
        | exit id => exact q1.elim
        | ret => exact q1.elim
      | outgrown => cases o1 <;> exact q1.elim
    cases c <;> simp only [codeA] at he
    case skip =>
      obtain ⟨rfl, rfl⟩ := Prod.mk.inj (Option.some.inj he)
      exact wp_skip (here _ _ trivial)
    case label l =>
      obtain ⟨rfl, rfl⟩ := Prod.mk.inj (Option.some.inj he)
      exact wp_label (here _ _ trivial)
    case region id ops d => exact regionA_ok hm hC hH he S F
    case seq x y =>
      cases hx : codeA P call n x s with
      | none => simp [hx] at he
      | some r =>
        obtain ⟨o1, s1⟩ := r
        rw [hx] at he
        refine wp_seq (seq x o1 s1 _ hx ?_ ?_)
        · intro hne
          cases o1 with
          | norm => exact absurd rfl hne
          | exit id => obtain ⟨rfl, rfl⟩ := Prod.mk.inj (Option.some.inj he); exact ⟨rfl, rfl⟩
          | ret => obtain ⟨rfl, rfl⟩ := Prod.mk.inj (Option.some.inj he); exact ⟨rfl, rfl⟩
          | panic v => obtain ⟨rfl, rfl⟩ := Prod.mk.inj (Option.some.inj he); exact ⟨rfl, rfl⟩
        · rintro ρ1 a1 w1 rfl q2 q6 q3 q4 q5 q7
          refine wp_mono (ih y s1 s' out he B w0 ρ1 a1 w1 q2 q6) fun e a2 w2 hp => ?_
          rw [q7] at hp
          exact hp.trans q3 q4 q5
    case cond c x y =>
      split at he
      · rename_i hc
        have hv := opv_ok F hc
        generalize hcv : a.eval c = cv at hv
        cases hv
        exact wp_cond_true hcv (ih x s s' out he B w0 ρ a w S F)
      · rename_i hc
        have hv := opv_ok F hc
        generalize hcv : a.eval c = cv at hv
        cases hv
        exact wp_cond_false hcv (ih y s s' out he B w0 ρ a w S F)
      · simp at he
    case block id x =>
      cases hx : codeA P call n x s with
      | none => simp [hx] at he
      | some r =>
        obtain ⟨o1, s1⟩ := r
        rw [hx] at he
        refine wp_block (wp_mono (ih x s s1 o1 hx B w0 ρ a w S F) fun e a1 w1 hp => ?_)
        have hp' := hp
        obtain ⟨ρ1, q1, q2, q3, q4, q5, q6, q7⟩ := hp
        cases o1 with
        | norm =>
          obtain ⟨rfl, rfl⟩ := Prod.mk.inj (Option.some.inj he)
          cases e <;> first | exact q1.elim | exact hp'
        | exit id1 =>
          cases e <;> first | exact q1.elim | skip
          rename_i id2
          have : id1 = id2 := q1
          subst this
          simp only at he
          simp only [Exit.inBlock]
          split at he
          · rename_i hid
            obtain ⟨rfl, rfl⟩ := Prod.mk.inj (Option.some.inj he)
            rw [if_pos hid]
            exact ⟨ρ1, trivial, q2, q3, q4, q5, q6, q7⟩
          · rename_i hid
            obtain ⟨rfl, rfl⟩ := Prod.mk.inj (Option.some.inj he)
            rw [if_neg hid]
            exact hp'
        | ret =>
          obtain ⟨rfl, rfl⟩ := Prod.mk.inj (Option.some.inj he)
          cases e <;> first | exact q1.elim | exact hp'
        | panic v =>
          obtain ⟨rfl, rfl⟩ := Prod.mk.inj (Option.some.inj he)
          cases e <;> first | exact q1.elim | exact hp'
    case loop x =>
      have rounds : ∀ (m : Nat) (s : St), codeA P call m (.loop x) s = some (out, s') → m ≤ n + 1 → ∀ (ρ : Rho) (a : Act) (w : World), Sim B w0 ρ s.heap w → FR ρ s.env a.tmps → Code.rounds P x (Post B w0 ρ s.heap.next a.defers out s') m a w := by
        intro m
        induction m with
        | zero => intro s he; simp [codeA] at he
        | succ m ihm =>
          intro s he hle ρ a w S F
          rw [rounds_succ]
          simp only [codeA] at he
          cases hx : codeA P call m x s with
          | none => simp [hx] at he
          | some r =>
            obtain ⟨o1, s1⟩ := r
            rw [hx] at he
            refine wp_mono (ihs m (by omega) x s s1 o1 hx B w0 ρ a w S F) fun e a1 w1 hp => ?_
            have hp' := hp
            obtain ⟨ρ1, q1, q2, q3, q4, q5, q6, q7⟩ := hp
            cases o1 with
            | norm =>
              cases e <;> first | exact q1.elim | skip
              have hr := ihm s1 he (by omega) ρ1 a1 w1 q2 q6
              rw [q7] at hr
              have mono : ∀ (m : Nat) (a' : Act) (w : World), Code.rounds P x (Post B w0 ρ1 s1.heap.next a.defers out s') m a' w → Code.rounds P x (Post B w0 ρ s.heap.next a.defers out s') m a' w := by
                intro m
                induction m with
                | zero => intro a' w h; exact h
                | succ m ih2 =>
                  intro a' w h
                  rw [rounds_succ] at h ⊢
                  refine wp_mono h fun e a2 w2 h2 => ?_
                  cases e <;> first | exact ih2 _ _ h2 | exact h2.trans q3 q4 q5
              exact mono m a1 w1 hr
            | exit id =>
              obtain ⟨rfl, rfl⟩ := Prod.mk.inj (Option.some.inj he)
              cases e <;> first | exact q1.elim | exact hp'
            | ret =>
              obtain ⟨rfl, rfl⟩ := Prod.mk.inj (Option.some.inj he)
              cases e <;> first | exact q1.elim | exact hp'
            | panic v =>
              obtain ⟨rfl, rfl⟩ := Prod.mk.inj (Option.some.inj he)
              cases e <;> first | exact q1.elim | exact hp'
      exact wp_loop_rounds (n + 1) (rounds (n + 1) s (by simpa only [codeA] using he) (Nat.le_refl _) ρ a w S F)
    case exit id =>
      obtain ⟨rfl, rfl⟩ := Prod.mk.inj (Option.some.inj he)
      exact wp_exit (here _ _ rfl)
    case scope x =>
      refine wp_scope_straight (wp_mono (ih x s s' out he B w0 ρ a w S F) fun e a1 w1 hp => ?_)
      cases e with
      | goto l =>
        obtain ⟨ρ1, q1, _⟩ := hp
        cases out <;> exact q1.elim
      | normal => exact hp
      | exit id => exact hp
      | ret => exact hp
      | panic ch => exact hp
      | outgrown => exact hp
    case ret =>
      obtain ⟨rfl, rfl⟩ := Prod.mk.inj (Option.some.inj he)
      exact wp_ret (here _ _ trivial)
    all_goals (simp at he)


/-! ### Calls -/
theorem initT_get : ∀ (l : List AV) (n : Nat) (t : Tr AV) (k : Nat), (initT l n t).get k = if n ≤ k ∧ k < n + l.length then l[k - n]? else t.get k
  | [], n, t, k => by
    simp only [initT, List.length_nil, Nat.add_zero]
    rw [if_neg (by omega)]
  | v :: l, n, t, k => by
    simp only [initT, List.length_cons]
    rw [initT_get l (n + 1), Tr.get_set]
    by_cases h1 : n + 1 ≤ k ∧ k < n + 1 + l.length
    · rw [if_pos h1, if_pos (by omega)]
      obtain ⟨j, rfl⟩ : ∃ j, k = n + 1 + j := ⟨k - (n + 1), by omega⟩
      rw [show n + 1 + j - (n + 1) = j by omega, show n + 1 + j - n = j + 1 by omega]
      rfl
    · rw [if_neg h1]
      by_cases h2 : n = k
      · subst h2
        rw [if_pos rfl, if_pos (by omega)]
        simp
      · rw [if_neg h2, if_neg (by omega)]

theorem Env.init_fr {ρ : Rho} {args : List AV} {vs : Array Value} (h : VRL ρ args vs.toList) (n : Nat) : FR ρ (Env.init args n) (vs ++ Array.replicate (n - vs.size) undef) := by
  have hl : args.length = vs.size := by rw [VRL.length h]; simp
  refine ⟨by simp [Env.init, hl], fun t => ?_⟩
  unfold Env.get Env.init
  simp only
  rw [initT_get]
  rw [Array.getD_eq_getD_getElem?, Array.getElem?_append]
  by_cases ht : t < vs.size
  · rw [if_pos (by omega), if_pos ht, Nat.sub_zero]
    have : t < args.length := by omega
    obtain ⟨v', e1, e2⟩ := VRL.get h t args[t] (List.getElem?_eq_getElem this)
    rw [List.getElem?_eq_getElem this, Option.getD_some]
    rw [Array.getElem?_toList] at e1
    rw [e1]
    exact e2
  · rw [if_neg (by omega), if_neg ht]
    have : (Array.replicate (n - vs.size) undef)[t - vs.size]?.getD undef = undef := by
      rw [Array.getElem?_replicate]; split <;> rfl
    rw [this]
    exact undef_rel

/-- One result. -/
def resF (tm : Array Value) : ResultVar → Sem Value
  | .tmp t => pure (tm.getD t undef)
  | .cell a t => do loadVar t (← asAddr (tm.getD a undef))

theorem results_run {ρ : Rho} {B : Nat} {w0 w : World} {h : Heap} (S : Sim B w0 ρ h w) {e : Env} {tm : Array Value} (F : FR ρ e tm) : ∀ {rs : List ResultVar} {vs : List AV}, resultsA P rs e h = some vs →
    ∃ vs' : List Value, (rs.mapM (resF tm)).run P w = .ok vs' w ∧ VRL ρ vs vs'
  | [], vs, he => by
    simp only [resultsA] at he
    obtain rfl := Option.some.inj he
    exact ⟨[], by simp, .nil⟩
  | .tmp t :: r, vs, he => by
    simp only [resultsA] at he
    split at he
    · rename_i vs2 hr
      obtain rfl := Option.some.inj he
      obtain ⟨vs', k1, k2⟩ := results_run S F hr
      refine ⟨tm.getD t undef :: vs', ?_, .cons _ _ _ _ (F.get t) k2⟩
      rw [List.mapM_cons]
      simp only [resF, Sem.run_bind, Sem.run_pure, Result.andThen_ok, k1]
    · simp at he
  | .cell a t :: r, vs, he => by
    simp only [resultsA] at he
    split at he
    · rename_i v hl
      split at he
      · rename_i vs2 hr
        obtain rfl := Option.some.inj he
        obtain ⟨vs', k1, k2⟩ := results_run S F hr
        obtain ⟨ad, m1, v', m2, m3⟩ := loadA_ok S hl (F.get a)
        refine ⟨v' :: vs', ?_, .cons _ _ _ _ m3 k2⟩
        have hone : (resF tm (.cell a t)).run P w = .ok v' w := by
          simp only [resF, Sem.run_bind, m1, asAddr, Sem.run_pure, Result.andThen_ok, m2]
        rw [List.mapM_cons]
        simp only [Sem.run_bind, hone, Result.andThen_ok, k1, Sem.run_pure]
      · simp at he
    · simp at he

theorem results_ok {ρ : Rho} {B : Nat} {w0 w : World} {h : Heap} (S : Sim B w0 ρ h w) {e : Env} {tm : Array Value} (F : FR ρ e tm) {fn : Func} {vs : List AV} (he : resultsA P fn.results.toList e h = some vs) :
    ∃ v', (results fn tm).run P w = .ok v' w ∧ VR ρ (oneOf vs) v' := by
  obtain ⟨vs', k1, k2⟩ := results_run S F he
  have hres : results fn tm = (do let vs ← fn.results.mapM (resF tm); pure (if h : vs.size = 1 then vs[0] else .tuple vs)) := by
    unfold results
    congr 1
    first
      | done
      | (congr 1
         funext x
         cases x <;> rfl)
  have hA : (fn.results.mapM (resF tm)).run P w = .ok vs'.toArray w := by
    generalize hrs : fn.results = rs at k1
    obtain ⟨l⟩ := rs
    rw [List.mapM_toArray, Sem.run_map]
    simp only at k1
    rw [k1]
    first | rfl | skip
  rw [hres]
  simp only [Sem.run_bind, hA, Result.andThen_ok, Sem.run_pure]
  refine ⟨_, rfl, ?_⟩
  cases k2 with
  | nil => exact .tup _ _ .nil
  | cons v v' vs vs' hv hvs =>
    cases hvs with
    | nil => exact hv
    | cons v2 v2' vs2 vs2' hv2 hvs2 =>
      have : ¬ ((v' :: v2' :: vs2').toArray.size = 1) := by simp
      rw [dif_neg this]
      exact .tup _ _ (.cons _ _ _ _ hv (.cons _ _ _ _ hv2 hvs2))

/-- A function's body. -/
theorem bodyA_ok (hm : P.follows .mixedOrders = true) (hC : CallOK P call) (hH : CallHU call) {f : FuncId} {fn : Func} {c : Code} (hf : P.funcs[f]? = some fn) (hb : fn.body = some c) {n : Nat} {args : List AV} {h : Heap} {r : Fin} {h' : Heap}
    (he : bodyA P call n fn c args h = some (r, h')) {B : Nat} {w0 : World} {ρ : Rho} {w : World} {vs : Array Value} (S : Sim B w0 ρ h w) (hv : VRL ρ args vs.toList) : Calls P f vs w (CallPost B w0 ρ h r h') := by
  unfold bodyA at he
  refine calls_of_wp hf hb ?_
  cases hc : codeA P call n c ⟨Env.init args fn.ntmps, h⟩ with
  | none => simp [hc] at he
  | some x =>
    obtain ⟨out, s⟩ := x
    rw [hc] at he
    refine wp_mono (codeA_ok hm hC hH n c _ s out hc B w0 ρ { tmps := vs ++ Array.replicate (fn.ntmps - vs.size) undef, defers := [] } w S (Env.init_fr hv fn.ntmps)) fun e a w' hp => ?_
    obtain ⟨ρ1, q1, q2, q3, q4, q5, q6, q7⟩ := hp
    have fin : ∀ vs', resultsA P fn.results.toList s.env s.heap = some vs' → r = .ret (oneOf vs') → h' = s.heap → a.defers = [] ∧ ∃ v, (results fn a.tmps).run P w' = .ok v w' ∧ CallPost B w0 ρ h r h' (.returned v) w' := by
      rintro vs' hr rfl rfl
      obtain ⟨v', k1, k2⟩ := results_ok q2 q6 hr
      exact ⟨q7, v', k1, ρ1, q2, q3, q4, q5, k2⟩
    cases out with
    | norm =>
      simp only at he
      cases hr : resultsA P fn.results.toList s.env s.heap with
      | none => simp [hr] at he
      | some vs' =>
        rw [hr] at he
        simp only [Option.map_some] at he
        obtain ⟨h1, h2⟩ := Prod.mk.inj (Option.some.inj he)
        cases e <;> first | exact q1.elim | exact fin vs' hr h1.symm h2.symm
    | ret =>
      simp only at he
      cases hr : resultsA P fn.results.toList s.env s.heap with
      | none => simp [hr] at he
      | some vs' =>
        rw [hr] at he
        simp only [Option.map_some] at he
        obtain ⟨h1, h2⟩ := Prod.mk.inj (Option.some.inj he)
        cases e <;> first | exact q1.elim | exact fin vs' hr h1.symm h2.symm
    | panic v =>
      simp only at he
      obtain ⟨rfl, rfl⟩ := Prod.mk.inj (Option.some.inj he)
      cases e <;> first | exact q1.elim | exact ⟨q7, ρ1, q2, q3, q4, q5, q1⟩
    | exit id => simp at he

/-- What is told otherwise must be true. -/
def ToldOK (P : Program) (X : Told) : Prop := ∀ f g, X f = some g → ∀ args h r h', g args h = some (r, h') → Enterable P f ∧ ∀ (B : Nat) (w0 : World) (ρ : Rho) (w : World) (vs : Array Value),
  Sim B w0 ρ h w → VRL ρ args vs.toList → Calls P f vs w (CallPost B w0 ρ h r h')

/-- What AM comes to, the model comes to. -/
theorem callA_ok (hm : P.follows .mixedOrders = true) (hP : ∀ (f : FuncId) (fn : Func), P.funcs[f]? = some fn → fn.body.isNone = false → (fn.name == "runtime.NumGoroutine") = false) {X : Told} (hX : ToldOK P X) (hXu : ToldHU X) : ∀ n, CallOK P (callA P X n) := by
  intro n
  induction n with
  | zero => intro f args h r h' he; simp [callA] at he
  | succ n ih =>
    intro f args h r h' he
    simp only [callA] at he
    cases hx : X f with
    | some g => rw [hx] at he; exact .inl (hX f g hx args h r h' he)
    | none =>
      rw [hx] at he
      simp only at he
      split at he
      · rename_i fn hf
        split at he
        · rename_i c hb
          refine .inl ⟨⟨fn, hf, hP f fn hf (by rw [hb]; rfl), by rw [hb]; rfl⟩, fun B w0 ρ w vs S hv => ?_⟩
          exact bodyA_ok hm ih (callA_hu hXu n) hf hb he S hv
        · rename_i hb
          split at he
          · rename_i v hv
            obtain ⟨rfl, rfl⟩ := Prod.mk.inj (Option.some.inj he)
            exact .inr ⟨v, rfl, rfl, ⟨fn, hf, hb⟩, fun ρ w vs hvs => externA_ok hf hb hv ρ w vs hvs⟩
          · simp at he
      · simp at he

end Go.Proofs.YtahdafekballcaaGreat.AM
