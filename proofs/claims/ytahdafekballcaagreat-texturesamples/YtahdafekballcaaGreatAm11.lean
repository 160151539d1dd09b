/-
  AM, part 11: what an operation looks at; the kinds; whole runs with more in the heap.
-/
import Derived.Test.YtahdafekballcaaGreatAm10
namespace Go.Proofs.YtahdafekballcaaGreat.AM
open Go Go.RowKit
set_option linter.unusedVariables false
set_option linter.unusedSimpArgs false

variable {P : Program}

/-! ### What an operation looks at -/
def sees (xs : List Operand) (t : Tmp) : Prop := Operand.tmp t ∈ xs

theorem opv_congr {e e2 : Env} {x : Operand} (h : ∀ t, x = .tmp t → e.get t = e2.get t) : opv e x = opv e2 x := by
  cases x <;> simp only [opv]
  rw [h _ rfl]

theorem opvs_congr {e e2 : Env} : ∀ {xs : List Operand}, (∀ t, Operand.tmp t ∈ xs → e.get t = e2.get t) → opvs e xs = opvs e2 xs
  | [], _ => rfl
  | x :: xs, h => by
    simp only [opvs]
    rw [opv_congr (x := x) (fun t ht => h t (by simp [ht])), opvs_congr (xs := xs) (fun t ht => h t (by simp [ht]))]

theorem parts_congr {e e2 : Env} : ∀ {xs : List (Nat × Operand)}, (∀ t, Operand.tmp t ∈ xs.map (·.2) → e.get t = e2.get t) → parts e xs = parts e2 xs
  | [], _ => rfl
  | (i, x) :: xs, h => by
    simp only [parts]
    rw [opv_congr (x := x) (fun t ht => h t (by simp [ht])), parts_congr (xs := xs) (fun t ht => h t (by simp at ht; simp [ht]))]

theorem opvO_congr {e e2 : Env} {x : Option Operand} (h : ∀ t, x = some (.tmp t) → e.get t = e2.get t) : opvO e x = opvO e2 x := by
  cases x <;> simp only [opvO]
  rw [opv_congr (fun t ht => h t (by rw [ht]))]

/-- An operation that sees the same does the same. -/
theorem execA_congr {e e2 : Env} {h : Heap} {fresh : Nat} {o : Oper} (hc : ∀ t, Operand.tmp t ∈ o.op.operands.toList → e.get t = e2.get t) : execA P e h fresh o = execA P e2 h fresh o := by
  obtain ⟨dst, op, ty, pos, after, guard⟩ := o
  simp only at hc
  unfold execA
  cases op <;> simp only [Op.operands] at hc ⊢
  case pick c x y => rw [opv_congr (x := c) (fun t ht => hc t (by simp [ht])), opv_congr (x := x) (fun t ht => hc t (by simp [ht])), opv_congr (x := y) (fun t ht => hc t (by simp [ht]))]
  case build t ps => rw [parts_congr (fun t ht => hc t (by simpa using ht))]
  case buildSlice t n ps => rw [parts_congr (fun t ht => hc t (by simpa using ht))]
  case makeFunc fn first captured =>
    cases fn <;> first
      | rfl
      | (simp only; rw [opvs_congr (xs := first.toList) (fun t ht => hc t (by simp at ht ⊢; exact .inl ht)), opvs_congr (xs := captured.toList) (fun t ht => hc t (by simp at ht ⊢; exact .inr ht))])
  case slice t x lo hi mx =>
    rw [opv_congr (x := x) (fun t ht => hc t (by simp [ht])), opvO_congr (x := lo) (fun t ht => hc t (by simp [ht])), opvO_congr (x := hi) (fun t ht => hc t (by simp [ht])), opvO_congr (x := mx) (fun t ht => hc t (by simp [ht]))]
  case call c =>
    obtain ⟨callee, args, argTypes⟩ := c
    simp only [Call.operands] at hc ⊢
    rw [opvs_congr (xs := args.toList) (fun t ht => hc t (by simp at ht ⊢; exact .inr ht))]
    cases callee with
    | value f => simp only; rw [opv_congr (x := f) (fun t ht => hc t (by simp [ht]))]
    | invoke r m => rfl
    | builtin b => rfl
  case mapUpdate t m k v => rw [opv_congr (x := m) (fun t ht => hc t (by simp [ht])), opv_congr (x := k) (fun t ht => hc t (by simp [ht])), opv_congr (x := v) (fun t ht => hc t (by simp [ht]))]
  case insert t m k v => rw [opv_congr (x := m) (fun t ht => hc t (by simp [ht])), opv_congr (x := k) (fun t ht => hc t (by simp [ht])), opv_congr (x := v) (fun t ht => hc t (by simp [ht]))]
  case makeMap t r => cases r <;> rfl
  case move x => rw [opv_congr (x := x) (fun t ht => hc t (by simp [ht]))]
  case assign x => rw [opv_congr (x := x) (fun t ht => hc t (by simp [ht]))]
  case box t x => rw [opv_congr (x := x) (fun t ht => hc t (by simp [ht]))]
  case load t x => rw [opv_congr (x := x) (fun t ht => hc t (by simp [ht]))]
  case store t x y => rw [opv_congr (x := x) (fun t ht => hc t (by simp [ht])), opv_congr (x := y) (fun t ht => hc t (by simp [ht]))]
  case nilCheck x => rw [opv_congr (x := x) (fun t ht => hc t (by simp [ht]))]
  case binOp op t x y yt => rw [opv_congr (x := x) (fun t ht => hc t (by simp [ht])), opv_congr (x := y) (fun t ht => hc t (by simp [ht]))]
  case unOp op t x => rw [opv_congr (x := x) (fun t ht => hc t (by simp [ht]))]
  case convert s d x => rw [opv_congr (x := x) (fun t ht => hc t (by simp [ht]))]
  case makeInterface t x => rw [opv_congr (x := x) (fun t ht => hc t (by simp [ht]))]
  case makeSlice t x y => rw [opv_congr (x := x) (fun t ht => hc t (by simp [ht])), opv_congr (x := y) (fun t ht => hc t (by simp [ht]))]
  case fieldAddr t x f => rw [opv_congr (x := x) (fun t ht => hc t (by simp [ht]))]
  case field t x f => rw [opv_congr (x := x) (fun t ht => hc t (by simp [ht]))]
  case indexAddr t x y => rw [opv_congr (x := x) (fun t ht => hc t (by simp [ht])), opv_congr (x := y) (fun t ht => hc t (by simp [ht]))]
  case index t x y => rw [opv_congr (x := x) (fun t ht => hc t (by simp [ht])), opv_congr (x := y) (fun t ht => hc t (by simp [ht]))]
  case lookup t x y ok => rw [opv_congr (x := x) (fun t ht => hc t (by simp [ht])), opv_congr (x := y) (fun t ht => hc t (by simp [ht]))]
  case typeAssert x xt a ok => rw [opv_congr (x := x) (fun t ht => hc t (by simp [ht]))]
  case extract x i => rw [opv_congr (x := x) (fun t ht => hc t (by simp [ht]))]
  case panic x => rw [opv_congr (x := x) (fun t ht => hc t (by simp [ht]))]
  case sliceToArrayPointer arr x => rw [opv_congr (x := x) (fun t ht => hc t (by simp [ht]))]
  case range t x => rw [opv_congr (x := x) (fun t ht => hc t (by simp [ht]))]
  case next x str =>
    cases str
    · rfl
    · simp only; rw [opv_congr (x := x) (fun t ht => hc t (by simp [ht]))]
  all_goals rfl

theorem wantedA_congr {ops : Array Oper} {e e2 : Env} {o : Oper} (hs : e.sz = e2.sz) (hc : ∀ j w d, o.guard = some (j, w) → (ops[j]?).bind (·.dst) = some d → e.get d = e2.get d) : wantedA ops e o = wantedA ops e2 o := by
  unfold wantedA
  cases hg : o.guard with
  | none => rfl
  | some jw =>
    obtain ⟨j, w⟩ := jw
    simp only
    cases hd : (ops[j]?).bind (·.dst) with
    | none => rfl
    | some d => simp only; rw [hs, hc j w d hg hd]

/-! ### The kinds -/
theorem kind_read {e : Env} {h : Heap} {fresh : Nat} {o : Oper} {v : AV} {h' : Heap} (hk : kindOf P o = .read) (he : execA P e h fresh o = some (.val v h')) :
    h = h' ∧ ∀ E h2 fr, HU h E h2 → execA P e h2 fr o = some (.val v h2) := by
  obtain ⟨dst, op, ty, pos, after, guard⟩ := o
  unfold kindOf at hk
  cases op <;> simp only at hk
  all_goals first
    | (cases hk; done)
    | skip
  case load t x =>
    unfold execA at he ⊢
    simp only at he ⊢
    split at he
    · obtain ⟨k, rfl⟩ := pureR_spec he
      exact ⟨rfl, fun E h2 fr u => by rw [loadA_hu u k]; rfl⟩
    · simp at he
  case lookup t m k ok =>
    unfold execA at he ⊢
    simp only at he ⊢
    obtain ⟨a, b, h1, h2, he⟩ := bind2_spec he
    obtain ⟨k, rfl⟩ := pureR_spec he
    exact ⟨rfl, fun E h3 fr u => by rw [h1, h2]; simp only [bind2]; rw [lookupA_hu u k]; rfl⟩
  case binOp op t x y yt =>
    unfold execA at he ⊢
    simp only at he ⊢
    obtain ⟨a, b, h1, h2, he⟩ := bind2_spec he
    obtain ⟨k, rfl⟩ := pureR_spec he
    exact ⟨rfl, fun E h3 fr u => by rw [h1, h2]; simp only [bind2]; rw [binA_hu u k]; rfl⟩
  case slice t x lo hi mx =>
    unfold execA at he ⊢
    simp only at he ⊢
    split at he
    · obtain ⟨k, rfl⟩ := pureR_spec he
      exact ⟨rfl, fun E h2 fr u => by rw [sliceOfA_hu u k]; rfl⟩
    · simp at he
  case convert s d x =>
    unfold execA at he ⊢
    simp only at he ⊢
    split at he
    · rename_i u hu
      have he := newR_spec he
      have key : h = h' ∧ ∀ E h2 fr, HU h E h2 → convA P h2 fr s d u = some (v, h2) := by
        split at hk
        · cases hk
        · cases hk
        · cases hk
        · rename_i el hs hd
          unfold convA at he ⊢
          rw [hs, hd] at he ⊢
          simp only at he ⊢
          cases u <;> simp only at he ⊢ <;> first | (simp at he; done) | skip
          case int k n =>
            obtain ⟨rfl, rfl⟩ := Prod.mk.inj (Option.some.inj he)
            exact ⟨rfl, fun _ _ _ _ => rfl⟩
          case str q =>
            obtain ⟨rfl, rfl⟩ := Prod.mk.inj (Option.some.inj he)
            exact ⟨rfl, fun _ _ _ _ => rfl⟩
          case nils =>
            split at he
            · rename_i hel
              obtain ⟨rfl, rfl⟩ := Prod.mk.inj (Option.some.inj he)
              exact ⟨rfl, fun _ _ _ _ => rfl⟩
            · simp at he
          case slice b o len cap ex sz =>
            split at he
            · rename_i hel
              rw [cond_eq_ite] at he
              split at he
              · rename_i hc
                split at he
                · rename_i l hcut
                  cases hb : bytesA l with
                  | none => simp [hb] at he
                  | some q =>
                    simp only [hb, Option.map_some] at he
                    obtain ⟨rfl, rfl⟩ := Prod.mk.inj (Option.some.inj he)
                    refine ⟨rfl, fun E h2 fr u => ?_⟩
                    rw [cond_eq_ite, if_pos hc, rdA_hu u hcut]
                    simp only [hb, Option.map_some]
                · simp at he
              · simp at he
            · simp at he
        · cases hk
      obtain ⟨k1, k2⟩ := key
      exact ⟨k1, fun E h2 fr u => by rw [k2 E h2 fr u]; rfl⟩
    · simp at he
  case call c =>
    unfold execA at he ⊢
    simp only at he ⊢
    split at he
    · simp at he
    · cases hcal : c.callee with
      | value f => rw [hcal] at hk; cases hk
      | invoke r m => rw [hcal] at hk; cases hk
      | builtin b =>
        rw [hcal] at hk he
        simp only at he ⊢
        cases b <;> simp only at hk <;> first | (cases hk; done) | skip
        unfold builtinA at he ⊢
        split at he
        all_goals first
          | (rename_i heq _ _; cases heq; done)
          | skip
        all_goals (try (simp at he; done))
        all_goals first
          | (obtain ⟨k, rfl⟩ := pureR_spec he
             exact ⟨rfl, fun E h2 fr u => by
               first
                 | (rw [lenA_hu u k]; rfl)
                 | (simp_all)⟩)
          | simp_all

theorem kind_pure {e : Env} {h : Heap} {fresh : Nat} {o : Oper} {v : AV} {h' : Heap} (hk : kindOf P o = .pure) (he : execA P e h fresh o = some (.val v h')) :
    h = h' ∧ ∀ h2 fr, execA P e h2 fr o = some (.val v h2) := by
  have pr : ∀ {r : Option AV}, pureR h r = some (.val v h') → h = h' ∧ ∀ h2 : Heap, pureR h2 r = some (.val v h2) := fun e => by
    obtain ⟨rfl, rfl⟩ := pureR_spec e
    exact ⟨rfl, fun _ => rfl⟩
  have b2 : ∀ {x y : Option AV} {f g : AV → AV → Option AV}, bind2 x y (fun a b => pureR h (f a b)) = some (.val v h') → ∃ a b, x = some a ∧ y = some b ∧ f a b = some v ∧ h = h' := fun e => by
    obtain ⟨a, b, h1, h2, e⟩ := bind2_spec e
    obtain ⟨k, rfl⟩ := pureR_spec e
    exact ⟨a, b, h1, h2, k, rfl⟩
  obtain ⟨dst, op, ty, pos, after, guard⟩ := o
  unfold kindOf at hk
  cases op <;> simp only at hk
  all_goals first
    | (cases hk; done)
    | skip
  all_goals (unfold execA at he ⊢; simp only at he ⊢)
  case move x => obtain ⟨k1, k2⟩ := pr he; exact ⟨k1, fun h2 _ => k2 h2⟩
  case assign x => obtain ⟨k1, k2⟩ := pr he; exact ⟨k1, fun h2 _ => k2 h2⟩
  case pick c x y =>
    split at he
    · obtain ⟨k1, k2⟩ := pr he; exact ⟨k1, fun h2 _ => k2 h2⟩
    · simp at he
  case build t ps =>
    split at he
    · obtain ⟨k1, k2⟩ := pr he; exact ⟨k1, fun h2 _ => k2 h2⟩
    · simp at he
  case nilCheck x =>
    split at he
    · injection he with he; injection he with e1 e2; subst e1 e2; exact ⟨rfl, fun _ _ => rfl⟩
    · injection he with he; injection he with e1 e2; subst e1 e2; exact ⟨rfl, fun _ _ => rfl⟩
    · simp at he
  case unOp op t x =>
    split at he
    · obtain ⟨k1, k2⟩ := pr he; exact ⟨k1, fun h2 _ => k2 h2⟩
    · simp at he
  case makeInterface t x =>
    split at he
    · simp at he
    · injection he with he; injection he with e1 e2; subst e1 e2; exact ⟨rfl, fun _ _ => rfl⟩
    · simp at he
  case makeFunc fn first captured =>
    cases fn <;> simp only at he ⊢ <;> first | (simp at he; done) | skip
    split at he
    · injection he with he; injection he with e1 e2; subst e1 e2; exact ⟨rfl, fun _ _ => rfl⟩
    · simp at he
  case fieldAddr t x f =>
    split at he
    · obtain ⟨k1, k2⟩ := pr he; exact ⟨k1, fun h2 _ => k2 h2⟩
    · simp at he
  case field t x f =>
    split at he
    · obtain ⟨k1, k2⟩ := pr he; exact ⟨k1, fun h2 _ => k2 h2⟩
    · simp at he
  case indexAddr t x i =>
    obtain ⟨a, b, h1, h2, he⟩ := bind2_spec he
    obtain ⟨k1, k2⟩ := pr he
    exact ⟨k1, fun h3 _ => by rw [h1, h2]; exact k2 h3⟩
  case index t x i =>
    obtain ⟨a, b, h1, h2, he⟩ := bind2_spec he
    obtain ⟨k1, k2⟩ := pr he
    exact ⟨k1, fun h3 _ => by rw [h1, h2]; exact k2 h3⟩
  case typeAssert x xt t ok =>
    split at he
    · obtain ⟨k1, k2⟩ := pr he; exact ⟨k1, fun h2 _ => k2 h2⟩
    · simp at he
  case extract t i =>
    split at he
    · obtain ⟨k1, k2⟩ := pr he; exact ⟨k1, fun h2 _ => k2 h2⟩
    · simp at he
  case binOp op t x y yt =>
    obtain ⟨a, b, h1, h2, he⟩ := bind2_spec he
    obtain ⟨k, rfl⟩ := pureR_spec he
    refine ⟨rfl, fun h3 _ => ?_⟩
    rw [h1, h2]
    simp only [bind2]
    have hne : ∀ (e : TypeId), op = .eql ∨ op = .neq → P.underlying t ≠ some (.pointer e) := fun el ho hu => by
      rcases ho with rfl | rfl <;> simp only [hu] at hk <;> cases hk
    have heq : ∀ c r, op = .eql ∨ op = .neq → eqA P h t c a b = some r → eqA P h3 t c a b = some r := fun c r ho e => by
      unfold eqA at e ⊢
      split at e
      case h_5 => split at e
                  · rename_i hu; exact absurd hu (hne _ ho)
                  · simp at e
      all_goals exact e
    have key : binA P h3 op t (isConst x || isConst y) a b = some v := by
      unfold binA at k ⊢
      split at k
      · exact k
      · exact k
      · exact k
      · split at k
        · cases he2 : eqA P h t (isConst x || isConst y) a b with
          | none => simp [he2] at k
          | some r => rw [he2] at k; rw [heq _ r (.inl rfl) he2]; exact k
        · cases he2 : eqA P h t (isConst x || isConst y) a b with
          | none => simp [he2] at k
          | some r => rw [he2] at k; rw [heq _ r (.inr rfl) he2]; exact k
        · simp at k
    rw [key]; rfl
  case slice t x lo hi mx =>
    split at he
    · rename_i x' lo' hi' mx' h1 h2 h3 h4
      obtain ⟨k, rfl⟩ := pureR_spec he
      refine ⟨rfl, fun hh _ => ?_⟩
      have key : sliceOfA P hh t x' lo' hi' mx' = some v := by
        unfold sliceOfA at k ⊢
        split at k
        case h_4 => split at k
                    · rename_i hu; rw [hu] at hk; cases hk
                    · simp at k
        all_goals exact k
      rw [key]; rfl
    · simp at he
  case convert s d x =>
    split at he
    · rename_i u hu
      have he := newR_spec he
      have key : h = h' ∧ ∀ h2 fr, convA P h2 fr s d u = some (v, h2) := by
        unfold convA at he ⊢
        split at hk
        · rename_i hs hd
          rw [hs, hd] at he ⊢
          simp only at he ⊢
          cases u <;> simp only at he ⊢ <;> first | (simp at he; done) | skip
          all_goals (obtain ⟨rfl, rfl⟩ := Prod.mk.inj (Option.some.inj he); exact ⟨rfl, fun _ _ => rfl⟩)
        · rename_i hs hd
          rw [hs, hd] at he ⊢
          simp only at he ⊢
          cases u <;> simp only at he ⊢ <;> first | (simp at he; done) | skip
          all_goals (obtain ⟨rfl, rfl⟩ := Prod.mk.inj (Option.some.inj he); exact ⟨rfl, fun _ _ => rfl⟩)
        · rename_i hs hd
          rw [hs, hd] at he ⊢
          simp only at he ⊢
          cases u <;> simp only at he ⊢ <;> first | (simp at he; done) | skip
          case int k n =>
            obtain ⟨rfl, rfl⟩ := Prod.mk.inj (Option.some.inj he); exact ⟨rfl, fun _ _ => rfl⟩
          case str q =>
            obtain ⟨rfl, rfl⟩ := Prod.mk.inj (Option.some.inj he); exact ⟨rfl, fun _ _ => rfl⟩
        · cases hk
        · cases hk
      obtain ⟨k1, k2⟩ := key
      exact ⟨k1, fun h2 fr => by rw [k2 h2 fr]; rfl⟩
    · simp at he
  case call c =>
    split at he
    · simp at he
    · cases hcal : c.callee with
      | value f => rw [hcal] at hk; cases hk
      | invoke r m => rw [hcal] at hk; cases hk
      | builtin b =>
        rw [hcal] at hk he
        simp only at he ⊢
        cases b <;> simp only at hk <;> first | (cases hk; done) | skip
        · unfold builtinA at he ⊢
          split at he
          all_goals first
            | contradiction
            | (simp at he; done)
            | (obtain ⟨k1, k2⟩ := pr he; exact ⟨k1, fun h2 _ => by first | exact k2 h2 | (simp_all)⟩)
            | simp_all
        · unfold builtinA at he ⊢
          split at he
          all_goals first
            | contradiction
            | (simp at he; done)
            | (obtain ⟨k1, k2⟩ := pr he; exact ⟨k1, fun h2 _ => by first | exact k2 h2 | (simp_all)⟩)
            | simp_all

end Go.Proofs.YtahdafekballcaaGreat.AM
