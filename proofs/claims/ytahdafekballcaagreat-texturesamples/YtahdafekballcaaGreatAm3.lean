/-
  AM, part 3: operations on values and places, against the model's.
-/
import Derived.Test.YtahdafekballcaaGreatAm2
import Derived.Laws.StructEq
import Derived.ChangeKeysEq
namespace Go.Proofs.YtahdafekballcaaGreat.AM
open Go Go.RowKit
set_option linter.unusedVariables false
set_option linter.unusedSimpArgs false

variable {P : Program} {ρ : Rho} {B : Nat} {w0 w : World} {h : Heap}

def guardBody (t : TypeId) (ox oy : Operand) (a b : Value) : Sem Unit :=
  match a, b with
  | .nilIface, .nilIface => do
    if (ox matches .const _) || (oy matches .const _) then return
    if ← Op.eqGuardIn Op.maxDepth t a b then unsupported (.noEntry "binop/eql: two nil values of an interface type with methods, neither of them the literal nil")
  | .agg _, .agg _ => do
    if !(← program).eqGuardType (← program).depth t then return
    if ← Op.eqGuardIn Op.maxDepth t a b then unsupported (.noEntry "binop/eql: two nil values of an interface type with methods, in a part of a struct or an array")
  | _, _ => pure ()

theorem eqGuard_eql (t : TypeId) (ox oy : Operand) (a b : Value) : eqGuard .eql t ox oy a b = guardBody t ox oy a b := rfl
theorem eqGuard_neq (t : TypeId) (ox oy : Operand) (a b : Value) : eqGuard .neq t ox oy a b = guardBody t ox oy a b := rfl

theorem guardBody_run (t : TypeId) (ox oy : Operand) (a b : Value) (h1 : a = .nilIface → b = .nilIface → isConst ox = true ∨ isConst oy = true) (h2 : ∀ x y, a = .agg x → b = .agg y → False) :
    (guardBody t ox oy a b).run P w = .ok () w := by
  unfold guardBody
  split
  · have := h1 rfl rfl
    rw [if_pos]
    · rfl
    · rcases this with h | h
      · cases ox <;> simp [isConst] at h ⊢
      · cases oy <;> simp [isConst] at h ⊢
  · exact (h2 _ _ rfl rfl).elim
  · rfl

theorem eqGuard_run (op : BinOp) (t : TypeId) (ox oy : Operand) (a b : Value) (h1 : a = .nilIface → b = .nilIface → isConst ox = true ∨ isConst oy = true) (h2 : ∀ x y, a = .agg x → b = .agg y → False) :
    (eqGuard op t ox oy a b).run P w = .ok () w := by
  cases op <;> first
    | rfl
    | (rw [eqGuard_eql]; exact guardBody_run t ox oy a b h1 h2)
    | (rw [eqGuard_neq]; exact guardBody_run t ox oy a b h1 h2)

theorem eqA_neither {t : TypeId} {con : Bool} {x y : AV} {r : Bool} {a b : Value} (e : eqA P h t con x y = some r) (hx : VR ρ x a) (hy : VR ρ y b) :
    (a = .nilIface → b = .nilIface → con = true) ∧ (∀ x y, a = .agg x → b = .agg y → False) ∧ (∀ op, op = .eql ∨ op = .neq → binOp op t a b = (if op = .eql then (do pure (.bool (← Op.equal t a b))) else (do pure (.bool (!(← Op.equal t a b)))))) := by
  unfold eqA at e
  split at e
  all_goals (try (simp at e; done))
  all_goals (cases hx; cases hy)
  all_goals
    refine ⟨fun h1 h2 => ?_, fun x y h1 h2 => ?_, fun op ho => ?_⟩
    · first
        | (cases h1; done)
        | (cases h2; done)
        | (split at e
           · split at e
             · assumption
             · simp at e
           · simp at e)
    · first
        | (cases h1; done)
        | (cases h2; done)
    · rcases ho with rfl | rfl <;> rfl

theorem partA_ok {t : TypeId} {cs : List AV} {cs' : Array Value} {o : Nat} {v : AV} (e : partA P t cs o = some v) (hx : VRL ρ cs cs'.toList) : ∃ v', (part t cs' o).run P w = .ok v' w ∧ VR ρ v v' := by
  unfold partA at e
  split at e
  · rename_i hagg
    split at e
    · rename_i n hn
      cases hc : cut cs o n with
      | none => simp [hc] at e
      | some l =>
        simp only [hc, Option.map_some] at e
        obtain rfl := Option.some.inj e
        obtain ⟨h1, rfl, h2⟩ := cut_spec hc
        refine ⟨.agg (cs'.extract o (o + n)), ?_, .agg _ _ ?_⟩
        · simp only [part, Sem.run_bind, run_isAgg' hagg, Result.andThen_ok, if_true, run_sizeOf' hn, Sem.run_pure]
        · have := VRL.take n (VRL.drop o hx)
          simpa [Array.toList_extract, List.extract_eq_take_drop] using this
    · simp at e
  · rename_i hagg
    obtain ⟨v', hv', r⟩ := VRL.get hx o v e
    refine ⟨v', ?_, r⟩
    simp only [part, Sem.run_bind, run_isAgg' hagg, Result.andThen_ok, Bool.false_eq_true, if_false]
    rw [Array.getElem?_toList] at hv'
    rw [hv']
    rfl
  · simp at e

theorem eqLeaf_ok (d : Nat) {t : TypeId} {x y : AV} {x' y' : Value} {r : Bool} (e : eqLeaf P t x y = some r) (hx : VR ρ x x') (hy : VR ρ y y') : (Op.equalIn (d + 1) t x' y').run P w = .ok r w := by
  unfold eqLeaf at e
  split at e
  · cases hx; cases hy
    split at e
    · rename_i hu
      split at e
      · rename_i hk
        subst hk
        obtain rfl := Option.some.inj e
        exact run_equalIn_int w d t _ _ _ _ hu
      · simp at e
    · simp at e
  · cases hx; cases hy
    rename_i bs hbs bs' hbs'
    split at e
    · rename_i hu
      obtain rfl := Option.some.inj e
      rw [run_equalIn_string w d t _ _ hu, ByteArray.toList_eq, ByteArray.toList_eq, hbs, hbs']
    · simp at e
  · cases hx; cases hy
    split at e
    · rename_i hu
      obtain rfl := Option.some.inj e
      exact run_equalIn_bool' w d t _ _ hu
    · simp at e
  · cases hx; cases hy
    split at e
    · rename_i hu
      obtain rfl := Option.some.inj e
      simp only [Op.equalIn, Sem.run_bind, run_underlying hu, Result.andThen_ok]; rfl
    · simp at e
  · cases hx; cases hy
    split at e
    · rename_i hu
      obtain rfl := Option.some.inj e
      simp only [Op.equalIn, Sem.run_bind, run_underlying hu, Result.andThen_ok]; rfl
    · simp at e
  · cases hx; cases hy
    split at e
    · rename_i hu
      obtain rfl := Option.some.inj e
      simp only [Op.equalIn, Sem.run_bind, run_underlying hu, Result.andThen_ok]; rfl
    · simp at e
  · simp at e

theorem eqFs_ok {f : TypeId → AV → AV → Option Bool} {D : Nat} (hf : ∀ t a b r a' b', f t a b = some r → VR ρ a a' → VR ρ b b' → (Op.equalIn D t a' b').run P w = .ok r w) {xs ys : List AV} {xs' ys' : Array Value} (hx : VRL ρ xs xs'.toList) (hy : VRL ρ ys ys'.toList) :
    ∀ (fs : List Field) (r : Bool), eqFs P f fs xs ys = some r → (Op.eqFields D xs' ys' fs).run P w = .ok r w
  | [], r, e => by obtain rfl := Option.some.inj e; simp [Op.eqFields]
  | fd :: fs, r, e => by
    rw [eqFs] at e
    simp only [Op.eqFields]
    by_cases hn : fd.name = "_"
    · rw [if_pos hn] at e
      rw [if_neg (by simpa using hn)]
      exact eqFs_ok hf hx hy fs r e
    · rw [if_neg hn] at e
      rw [if_pos (by simpa using hn)]
      split at e
      · rename_i a b ha hb
        obtain ⟨a', p1, q1⟩ := partA_ok (w := w) ha hx
        obtain ⟨b', p2, q2⟩ := partA_ok (w := w) hb hy
        simp only [Sem.run_bind, p1, p2, Result.andThen_ok]
        split at e
        · rename_i h1
          simp only [hf _ _ _ _ _ _ h1 q1 q2, Result.andThen_ok, Bool.not_true, Bool.false_eq_true, if_false]
          exact eqFs_ok hf hx hy fs r e
        · rename_i hne
          cases hr : f fd.type a b with
          | none => rw [hr] at e; cases e
          | some c =>
            cases c with
            | true => exact absurd hr hne
            | false =>
              rw [hr] at e
              obtain rfl := Option.some.inj e
              simp only [hf _ _ _ _ _ _ hr q1 q2, Result.andThen_ok, Bool.not_false, if_true, Sem.run_pure]
      · simp at e

theorem eqEs_ok {f : AV → AV → Option Bool} {D : Nat} {e0 : TypeId} (hf : ∀ a b r a' b', f a b = some r → VR ρ a a' → VR ρ b b' → (Op.equalIn D e0 a' b').run P w = .ok r w) {xs ys : List AV} {xs' ys' : Array Value} (hx : VRL ρ xs xs'.toList) (hy : VRL ρ ys ys'.toList) {sz : Nat} :
    ∀ (is : List Nat) (r : Bool), eqEs P f e0 sz xs ys is = some r → (Op.eqItems D e0 sz xs' ys' is).run P w = .ok r w
  | [], r, e => by obtain rfl := Option.some.inj e; simp [Op.eqItems]
  | i :: is, r, e => by
    rw [eqEs] at e
    simp only [Op.eqItems]
    split at e
    · rename_i a b ha hb
      obtain ⟨a', p1, q1⟩ := partA_ok (w := w) ha hx
      obtain ⟨b', p2, q2⟩ := partA_ok (w := w) hb hy
      simp only [Sem.run_bind, p1, p2, Result.andThen_ok]
      split at e
      · rename_i h1
        simp only [hf _ _ _ _ _ h1 q1 q2, Result.andThen_ok, Bool.not_true, Bool.false_eq_true, if_false]
        exact eqEs_ok hf hx hy is r e
      · rename_i hne
        cases hr : f a b with
        | none => rw [hr] at e; cases e
        | some c =>
          cases c with
          | true => exact absurd hr hne
          | false =>
            rw [hr] at e
            obtain rfl := Option.some.inj e
            simp only [hf _ _ _ _ _ hr q1 q2, Result.andThen_ok, Bool.not_false, if_true, Sem.run_pure]
    · simp at e

theorem eqD_ok : ∀ (d : Nat) (D : Nat) {t : TypeId} {x y : AV} {x' y' : Value} {r : Bool}, eqD P d t x y = some r → VR ρ x x' → VR ρ y y' → (Op.equalIn (D + d) t x' y').run P w = .ok r w
  | 0, D, t, x, y, x', y', r, e, hx, hy => by simp [eqD] at e
  | d + 1, D, t, x, y, x', y', r, e, hx, hy => by
    rw [eqD.eq_def] at e
    dsimp only at e
    split at e
    · rename_i xs ys
      cases hx with
      | agg _ xs' hxs =>
      cases hy with
      | agg _ ys' hys =>
      split at e
      · rename_i fs hu
        split at e
        · cases e
        · rename_i hs
          have hfo : P.fieldsOf t = fs := by unfold Program.fieldsOf; rw [hu]
          rw [show D + (d + 1) = (D + d) + 1 from rfl, run_equalIn_struct w (D + d) t xs' ys' (by rw [hfo]; exact hu) (by simpa using hs), hfo]
          exact eqFs_ok (fun t a b r a' b' h1 h2 h3 => eqD_ok d D h1 h2 h3) hxs hys _ _ e
      · rename_i n el hu
        split at e
        · rename_i sz hsz
          obtain ⟨i, hi, hisz⟩ : ∃ i, P.info? el = some i ∧ i.size = sz := by
            unfold sizeA at hsz
            cases hq : P.info? el with
            | none => rw [hq] at hsz; cases hsz
            | some i => rw [hq] at hsz; exact ⟨i, rfl, Option.some.inj hsz⟩
          have hc : P.cellsOf el = sz := by
            unfold Program.cellsOf; rw [hi]; exact hisz
          rw [show D + (d + 1) = (D + d) + 1 from rfl, run_equalIn_array w (D + d) xs' ys' hu hi, hc]
          exact eqEs_ok (fun a b r a' b' h1 h2 h3 => eqD_ok d D h1 h2 h3) hxs hys _ _ e
        · cases e
      · cases e
    · exact eqLeaf_ok (D + d) e hx hy

theorem binA_ok (S : Sim B w0 ρ h w) {op : BinOp} {t : TypeId} {ox oy : Operand} {x y v : AV} {a b : Value} (e : binA P h op t (isConst ox || isConst oy) x y = some v) (hx : VR ρ x a) (hy : VR ρ y b) :
    ∃ v', (do eqGuard op t ox oy a b; binOp op t a b : Sem Value).run P w = .ok v' w ∧ VR ρ v v' := by
  unfold binA at e
  split at e
  · rename_i k n k' m
    cases hx; cases hy
    have hg := eqGuard_run (P := P) (w := w) op t ox oy (.int k n) (.int k' m) (fun h => by cases h) (fun _ _ h => by cases h)
    simp only [Sem.run_bind, hg, Result.andThen_ok]
    split at e
    · exact ⟨_, shift_run t e, shift_scal e⟩
    · exact ⟨_, shift_run t e, shift_scal e⟩
    · rename_i h1 h2
      split at e
      · rename_i hk
        subst hk
        exact ⟨_, arith_run t e ⟨h1, h2⟩, arith_scal e⟩
      · simp at e
  · rename_i x y
    cases hx; cases hy
    rename_i bs hbs bs' hbs'
    have hg := eqGuard_run (P := P) (w := w) op t ox oy (.string bs) (.string bs') (fun h => by cases h) (fun _ _ h => by cases h)
    simp only [Sem.run_bind, hg, Result.andThen_ok]
    exact strop_ok t hbs hbs' e
  · rename_i xs ys
    cases hx with
    | agg _ xs' hxs =>
    cases hy with
    | agg _ ys' hys =>
    split at e
    · cases e
    · rename_i hm
      have hg := run_eqGuard_agg (P := P) w op t ox oy xs' ys' (by simpa using hm)
      simp only [Sem.run_bind, hg, Result.andThen_ok]
      split at e
      · cases he : eqD P 6 t (.agg xs) (.agg ys) with
        | none => rw [he] at e; cases e
        | some r =>
          rw [he] at e
          obtain rfl := Option.some.inj e
          rw [run_eql_struct, eqD_ok 6 9994 he (.agg _ _ hxs) (.agg _ _ hys)]
          exact ⟨_, rfl, .bool _⟩
      · cases he : eqD P 6 t (.agg xs) (.agg ys) with
        | none => rw [he] at e; cases e
        | some r =>
          rw [he] at e
          obtain rfl := Option.some.inj e
          rw [run_neq_struct, eqD_ok 6 9994 he (.agg _ _ hxs) (.agg _ _ hys)]
          exact ⟨_, rfl, .bool _⟩
      · cases e
  · split at e
    · cases he : eqA P h t (isConst ox || isConst oy) x y with
      | none => simp [he] at e
      | some r =>
        simp only [he, Option.map_some] at e
        obtain rfl := Option.some.inj e
        obtain ⟨h1, h2, h3⟩ := eqA_neither he hx hy
        have hg := eqGuard_run (P := P) (w := w) .eql t ox oy a b (fun u v => by simpa using h1 u v) h2
        simp only [Sem.run_bind, hg, Result.andThen_ok]
        rw [h3 .eql (.inl rfl), if_pos rfl]
        simp only [Sem.run_bind, eqA_ok S he hx hy, Result.andThen_ok]
        exact ⟨_, rfl, .bool _⟩
    · cases he : eqA P h t (isConst ox || isConst oy) x y with
      | none => simp [he] at e
      | some r =>
        simp only [he, Option.map_some] at e
        obtain rfl := Option.some.inj e
        obtain ⟨h1, h2, h3⟩ := eqA_neither he hx hy
        have hg := eqGuard_run (P := P) (w := w) .neq t ox oy a b (fun u v => by simpa using h1 u v) h2
        simp only [Sem.run_bind, hg, Result.andThen_ok]
        rw [h3 .neq (.inr rfl), if_neg (by intro h; cases h)]
        simp only [Sem.run_bind, eqA_ok S he hx hy, Result.andThen_ok]
        exact ⟨_, rfl, .bool _⟩
    · simp at e

theorem unA_ok {op : UnOp} {x v : AV} {a : Value} (e : unA op x = some v) (hx : VR ρ x a) : ∃ v', (Op.unary op a).run P w = .ok v' w ∧ VR ρ v v' := by
  unfold unA at e
  split at e
  · rename_i k n
    cases hx
    split at e
    · obtain rfl := Option.some.inj e
      exact ⟨_, rfl, .int _ _⟩
    · obtain rfl := Option.some.inj e
      exact ⟨_, rfl, .int _ _⟩
    · simp at e
  · cases hx
    split at e
    · obtain rfl := Option.some.inj e
      exact ⟨_, rfl, .bool _⟩
    · simp at e
  · simp at e

/-! ### Places -/
theorem fieldAddrA_ok {t : TypeId} {x v : AV} {a : Value} {f : Nat} (e : fieldAddrA P t x f = some v) (hx : VR ρ x a) : ∃ v', (Instr.fieldAt t a f).run P w = .ok v' w ∧ VR ρ v v' := by
  unfold fieldAddrA at e
  split at e
  · rename_i b o fs hu
    cases hx
    rename_i p hp
    split at e
    · rename_i fd hfd
      split at e
      · rename_i n hn
        obtain rfl := Option.some.inj e
        refine ⟨.pointer (some ⟨p.blk, p.base + (o + fd.offset), none⟩), ?_, .ptr _ _ p hp⟩
        simp only [Instr.fieldAt, Sem.run_bind, run_underlying hu, Result.andThen_ok, hfd, Instr.sureAddr, Sem.run_pure, fieldPlace, run_sizeOf' hn]
        rw [if_neg (by omega)]
        simp only [Sem.run_pure, Result.andThen_ok, Addr.add_none, Nat.add_assoc]
      · simp at e
    · simp at e
  · simp at e

theorem fieldA_ok {t : TypeId} {x v : AV} {a : Value} {f : Nat} (e : fieldA P t x f = some v) (hx : VR ρ x a) : ∃ v', (Instr.field t a f).run P w = .ok v' w ∧ VR ρ v v' := by
  unfold fieldA at e
  split at e
  · rename_i cs fs hu
    cases hx
    rename_i cs' hcs
    split at e
    · rename_i fd hfd
      obtain ⟨v', h1, h2⟩ := partA_ok (w := w) e hcs
      refine ⟨v', ?_, h2⟩
      simp only [Instr.field, Sem.run_bind, run_underlying hu, Result.andThen_ok, hfd, asAgg, Sem.run_pure, h1]
    · simp at e
  · simp at e

theorem indexAddrA_ok {t : TypeId} {x i v : AV} {a j : Value} (e : indexAddrA P t x i = some v) (hx : VR ρ x a) (hi : VR ρ i j) : ∃ v', (Instr.indexAt t a j).run P w = .ok v' w ∧ VR ρ v v' := by
  unfold indexAddrA at e
  split at e
  · rename_i k n
    cases hi
    split at e
    · rename_i b o n' el hu
      cases hx
      rename_i p hp
      split at e
      · rename_i sz hsz
        split at e
        · rename_i hin
          obtain rfl := Option.some.inj e
          refine ⟨.pointer (some ⟨p.blk, p.base + (o + n.toNat * sz), none⟩), ?_, .ptr _ _ p hp⟩
          simp only [Instr.indexAt, asIntOf, Sem.run_bind, Sem.run_pure, Result.andThen_ok, run_underlying hu, Instr.sureAddr]
          rw [if_pos hin]
          simp only [Sem.run_bind, run_sizeOf' hsz, Result.andThen_ok, Sem.run_pure, Addr.add_none, Nat.add_assoc]
        · simp at e
      · simp at e
    · rename_i b o len cap ex sz el hu
      cases hx
      rename_i p c' ad hp h1 h2 h3 h4
      split at e
      · rename_i n' hn'
        rw [cond_eq_ite] at e
        split at e
        · rename_i hsz
          obtain rfl : n' = sz := Nat.eq_of_beq_eq_true hsz
          split at e
          · rename_i hin
            obtain rfl := Option.some.inj e
            rcases h4 with h4 | ⟨rfl, h4⟩
            · omega
            refine ⟨.pointer (some ⟨p.blk, p.base + (o + n.toNat * n'), none⟩), ?_, .ptr _ _ p hp⟩
            simp only [Instr.indexAt, asIntOf, Sem.run_bind, Sem.run_pure, Result.andThen_ok, run_underlying hu]
            rw [if_pos hin]
            simp only [Sem.run_bind, run_sizeOf' hn', Result.andThen_ok, Sem.run_pure, Addr.add_none, Nat.add_assoc]
          · simp at e
        · simp at e
      · simp at e
    · simp at e
  · simp at e

theorem indexA_ok {t : TypeId} {x i v : AV} {a j : Value} (e : indexA P t x i = some v) (hx : VR ρ x a) (hi : VR ρ i j) : ∃ v', (Instr.index t a j).run P w = .ok v' w ∧ VR ρ v v' := by
  unfold indexA at e
  split at e
  · rename_i k n
    cases hi
    split at e
    · rename_i cs n' el hu
      cases hx
      rename_i cs' hcs
      split at e
      · rename_i sz hsz
        split at e
        · rename_i hin
          obtain ⟨v', h1, h2⟩ := partA_ok (w := w) e hcs
          refine ⟨v', ?_, h2⟩
          simp only [Instr.index, asIntOf, Sem.run_bind, Sem.run_pure, Result.andThen_ok, run_underlying hu]
          rw [if_pos hin]
          simp only [Sem.run_bind, run_sizeOf' hsz, Result.andThen_ok, h1]
        · simp at e
      · simp at e
    · rename_i s hu
      cases hx
      rename_i bs hbs
      split at e
      · rename_i h0
        cases hg : s[n.toNat]? with
        | none => simp [hg] at e
        | some c =>
          simp only [hg, Option.map_some] at e
          obtain rfl := Option.some.inj e
          refine ⟨.int .u8 c.toNat, ?_, .int _ _⟩
          have hlt : n.toNat < bs.size := by
            have := List.getElem?_eq_some_iff.1 hg
            obtain ⟨h, _⟩ := this
            rw [← hbs, Array.length_toList] at h
            exact h
          have hb : bs[n.toNat]? = some c := by
            rw [ByteArray.getElem?_lt' bs _ hlt]
            rw [← hbs] at hg
            rw [Array.getElem?_toList] at hg
            have h2 : n.toNat < bs.data.size := hlt
            rw [Array.getElem?_eq_getElem h2] at hg
            exact hg
          simp only [Instr.index, asIntOf, Sem.run_bind, Sem.run_pure, Result.andThen_ok, run_underlying hu]
          rw [if_pos h0, hb]
          rfl
      · simp at e
    · simp at e
  · simp at e

theorem boundA_ok {len d m n : Nat} {x : AV} {a : Value} (e : boundA len d m (some x) = some n) (hx : VR ρ x a) (code : BoundsCode) : (Instr.sliceBound a m code).run P w = .ok n w ∧ n ≤ m := by
  unfold boundA at e
  cases x <;> simp only at e <;> first | (simp at e; done) | skip
  rename_i k i
  cases hx
  split at e
  · rename_i hin
    obtain rfl := Option.some.inj e
    simp only [Instr.sliceBound, asIntOf, Sem.run_bind, Sem.run_pure, Result.andThen_ok]
    rw [if_pos hin]
    exact ⟨rfl, by omega⟩
  · simp at e

/-- Operands that may be missing. -/
inductive VRO (ρ : Rho) : Option AV → Option Value → Prop where
  | none : VRO ρ none none
  | some (v : AV) (v' : Value) (h : VR ρ v v') : VRO ρ (some v) (some v')

theorem opvO_ok {e : Env} {a : Act} (F : FR ρ e a.tmps) {x : Option Operand} {v : Option AV} (hx : opvO e x = some v) : VRO ρ v (x.map a.eval) := by
  cases x with
  | none => simp [opvO] at hx; subst hx; exact .none
  | some x =>
    simp only [opvO] at hx
    cases hv : opv e x with
    | none => simp [hv] at hx
    | some u => simp [hv] at hx; subst hx; exact .some _ _ (opv_ok F hv)

theorem sliceBounds_ok {isSlice : Bool} {len cap m hh l : Nat} {mx hi lo : Option AV} {mx' hi' lo' : Option Value} (hm : VRO ρ mx mx') (hh' : VRO ρ hi hi') (hl : VRO ρ lo lo') (hc : mx.isSome = true → hi.isSome = true)
    (e1 : boundA len cap cap mx = some m) (e2 : boundA len len m hi = some hh) (e3 : boundA len 0 hh lo = some l) (hlen : len ≤ cap) :
    (Instr.sliceBounds isSlice len cap lo' hi' mx').run P w = .ok (l, hh, m) w ∧ l ≤ hh ∧ hh ≤ m ∧ m ≤ cap := by
  have hM : mx' = none ∧ m = cap ∨ ∃ v, mx' = some v ∧ ∀ code, (Instr.sliceBound v cap code).run P w = .ok m w ∧ m ≤ cap := by
    cases hm with
    | none => simp [boundA] at e1; exact .inl ⟨rfl, e1.symm⟩
    | some v v' r => exact .inr ⟨v', rfl, fun code => boundA_ok e1 r code⟩
  have hmc : m ≤ cap := by
    rcases hM with ⟨_, h⟩ | ⟨_, _, h⟩
    · omega
    · exact (h .index).2
  have hH : hi' = none ∧ hh = len ∨ ∃ v, hi' = some v ∧ ∀ code, (Instr.sliceBound v m code).run P w = .ok hh w ∧ hh ≤ m := by
    cases hh' with
    | none => simp [boundA] at e2; exact .inl ⟨rfl, e2.symm⟩
    | some v v' r => exact .inr ⟨v', rfl, fun code => boundA_ok e2 r code⟩
  have hL : lo' = none ∧ l = 0 ∨ ∃ v, lo' = some v ∧ ∀ code, (Instr.sliceBound v hh code).run P w = .ok l w ∧ l ≤ hh := by
    cases hl with
    | none => simp [boundA] at e3; exact .inl ⟨rfl, e3.symm⟩
    | some v v' r => exact .inr ⟨v', rfl, fun code => boundA_ok e3 r code⟩
  rcases hM with ⟨rfl, rfl⟩ | ⟨vm, rfl, hM⟩
  · rcases hH with ⟨rfl, rfl⟩ | ⟨vh, rfl, hH⟩
    · rcases hL with ⟨rfl, rfl⟩ | ⟨vl, rfl, hL⟩
      · exact ⟨by simp [Instr.sliceBounds], by omega, by omega, by omega⟩
      · exact ⟨by simp [Instr.sliceBounds, (hL _).1], (hL .index).2, by omega, by omega⟩
    · rcases hL with ⟨rfl, rfl⟩ | ⟨vl, rfl, hL⟩
      · exact ⟨by simp [Instr.sliceBounds, (hH _).1], by omega, (hH .index).2, by omega⟩
      · exact ⟨by simp [Instr.sliceBounds, (hH _).1, (hL _).1], (hL .index).2, (hH .index).2, by omega⟩
  · rcases hH with ⟨rfl, rfl⟩ | ⟨vh, rfl, hH⟩
    · exfalso
      cases hm; cases hh'
      simp at hc
    · rcases hL with ⟨rfl, rfl⟩ | ⟨vl, rfl, hL⟩
      · exact ⟨by simp [Instr.sliceBounds, (hM _).1, (hH _).1], by omega, (hH .index).2, hmc⟩
      · exact ⟨by simp [Instr.sliceBounds, (hM _).1, (hH _).1, (hL _).1], (hL .index).2, (hH .index).2, hmc⟩


theorem drop_take_extract (bs : ByteArray) (l hh : Nat) : (bs.extract l hh).data.toList = (bs.data.toList.drop l).take (hh - l) := by
  simp [Array.toList_extract, List.extract_eq_take_drop]

theorem sliceOfA_ok (S : Sim B w0 ρ h w) {t : TypeId} {x v : AV} {a : Value} {lo hi mx : Option AV} {lo' hi' mx' : Option Value} (e : sliceOfA P h t x lo hi mx = some v) (hx : VR ρ x a)
    (hm : VRO ρ mx mx') (hh' : VRO ρ hi hi') (hl : VRO ρ lo lo') : ∃ v', (Instr.sliceAt t a lo' hi' mx').run P w = .ok v' w ∧ VR ρ v v' := by
  unfold sliceOfA at e
  split at e
  · rename_i s
    cases hx
    rename_i bs hbs
    split at e
    · rename_i hu
      cases hm
      split at e
      · rename_i hh e2
        split at e
        · rename_i l e3
          obtain rfl := Option.some.inj e
          have hs : bs.size = s.length := by rw [← hbs, Array.length_toList]; rfl
          obtain ⟨h1, h2, h3, h4⟩ := sliceBounds_ok (P := P) (w := w) (isSlice := false) (cap := s.length) .none hh' hl (by simp) rfl e2 e3 (Nat.le_refl _)
          refine ⟨.string (bs.extract l hh), ?_, .str _ _ ?_⟩
          · simp [Instr.sliceAt, Instr.slice, run_underlying hu, hs, h1]
          · rw [drop_take_extract, hbs]
        · simp at e
      · simp at e
    · simp at e
  · cases hx
    split at e
    · rename_i el hu
      split at e
      · rename_i sz hsz
        rw [cond_eq_ite] at e
        split at e
        · simp at e
        · rename_i hc
          split at e
          · rename_i m e1
            split at e
            · rename_i hh e2
              split at e
              · rename_i l e3
                obtain rfl := Option.some.inj e
                obtain ⟨h1, h2, h3, h4⟩ := sliceBounds_ok (P := P) (w := w) (isSlice := true) hm hh' hl (by
                  intro h5
                  cases h6 : hi with
                  | none => rw [h5, h6] at hc; simp at hc
                  | some u => rfl) e1 e2 e3 (Nat.le_refl _)
                refine ⟨.slice none 0 0, ?_, .nils⟩
                obtain rfl : m = 0 := by omega
                obtain rfl : hh = 0 := by omega
                obtain rfl : l = 0 := by omega
                simp [Instr.sliceAt, Instr.slice, run_underlying hu, h1, run_sizeOf' hsz]
              · simp at e
            · simp at e
          · simp at e
      · simp at e
    · simp at e
  · rename_i b o len cap ex sz
    cases hx
    rename_i p c' ad hp g1 g3 g2 g4
    split at e
    · rename_i el hu
      split at e
      · rename_i n hn
        rw [cond_eq_ite] at e
        split at e
        · simp at e
        · rename_i hc
          simp only [Bool.or_eq_true, Bool.not_eq_true', Bool.and_eq_true, not_or, not_and, Bool.not_eq_false] at hc
          obtain ⟨hc1, hc2⟩ := hc
          obtain rfl : n = sz := Nat.eq_of_beq_eq_true hc1
          split at e
          · rename_i m e1
            split at e
            · rename_i hh e2
              split at e
              · rename_i l e3
                obtain rfl := Option.some.inj e
                -- the concrete bounds: the concrete cap may be greater
                have key : ∃ m', (Instr.sliceBounds true len c' lo' hi' mx').run P w = .ok (l, hh, m') w ∧ l ≤ hh ∧ hh ≤ m ∧ m ≤ m' ∧ m' ≤ c' ∧ ((ex || mx.isSome) = true → m' = m) := by
                  cases hm with
                  | some u u' r =>
                    obtain ⟨h1, h2, h3, h4⟩ := sliceBounds_ok (P := P) (w := w) (isSlice := true) (len := len) (cap := c') (.some u u' r) hh' hl (by
                      intro h5
                      cases h6 : hi with
                      | none => rw [h6] at hc2; simp at hc2
                      | some u => rfl) (show boundA len c' c' (some u) = some m by
                        unfold boundA at e1 ⊢
                        cases u <;> simp only at e1 ⊢ <;> first | (simp at e1; done) | skip
                        split at e1
                        · rename_i hin
                          rw [if_pos (by omega)]; exact e1
                        · simp at e1) e2 e3 (by omega)
                    exact ⟨m, h1, h2, h3, Nat.le_refl _, h4, fun _ => rfl⟩
                  | none =>
                    simp only [boundA] at e1
                    obtain rfl := Option.some.inj e1
                    obtain ⟨h1, h2, h3, h4⟩ := sliceBounds_ok (P := P) (w := w) (isSlice := true) (len := len) (cap := c') (mx := none) .none hh' hl (by simp) rfl
                      (show boundA len len c' hi = some hh by
                        cases hi with
                        | none => exact e2
                        | some u =>
                          unfold boundA at e2 ⊢
                          cases u <;> simp only at e2 ⊢ <;> first | (simp at e2; done) | skip
                          split at e2
                          · rename_i hin
                            rw [if_pos (by omega)]; exact e2
                          · simp at e2) e3 (by omega)
                    have h5 : hh ≤ cap := by
                      cases hi with
                      | none => simp [boundA] at e2; omega
                      | some u =>
                        unfold boundA at e2
                        cases u <;> simp only at e2 <;> first | (simp at e2; done) | skip
                        split at e2
                        · rename_i hin
                          have := Option.some.inj e2
                          omega
                        · simp at e2
                    exact ⟨c', h1, h2, h5, g1, Nat.le_refl _, fun he => g2 (by simpa using he)⟩
                obtain ⟨m', k1, k2, k3, k4, k5, k6⟩ := key
                refine ⟨.slice (some (if m' = l then ad else ad.add (l * n))) (hh - l) (m' - l), ?_, ?_⟩
                · by_cases hml : m' = l
                  · subst hml
                    simp [Instr.sliceAt, Instr.slice, run_underlying hu, k1, run_sizeOf' hn]
                  · simp [Instr.sliceAt, Instr.slice, run_underlying hu, k1, run_sizeOf' hn, hml]
                · refine .slice _ _ _ _ _ _ p _ _ hp (by omega) (fun he => by rw [k6 he]) (by omega) ?_
                  by_cases hml : m' = l
                  · exact .inl (by omega)
                  · rcases g4 with g4 | ⟨rfl, g4⟩
                    · omega
                    · right
                      rw [if_neg hml, Addr.add_none, Nat.add_assoc]
                      refine ⟨rfl, ?_⟩
                      have h7 : l * n + (m' - l) * n = m' * n := by rw [← Nat.add_mul]; congr 1; omega
                      have h8 : m' * n ≤ c' * n := Nat.mul_le_mul_right _ k5
                      omega
              · simp at e
            · simp at e
          · simp at e
      · simp at e
    · simp at e
  · cases hx
    rename_i b o p hp
    split at e
    · rename_i n el hu
      cases hm
      split at e
      · rename_i sz cs md anc hsz hg
        rw [cond_eq_ite] at e
        split at e
        · rename_i hle
          have hle := Nat.le_of_ble_eq_true hle
          split at e
          · rename_i hh e2
            split at e
            · rename_i l e3
              obtain rfl := Option.some.inj e
              obtain ⟨h1, h2, h3, h4⟩ := sliceBounds_ok (P := P) (w := w) (isSlice := false) (mx := none) .none hh' hl (by simp) rfl e2 e3 (Nat.le_refl _)
              obtain ⟨T, cc, fz, f1, f2, f3, f4, f5⟩ := S.cellsAt hg hp
              refine ⟨.slice (some (if n = l then ⟨p.blk, p.base + o, none⟩ else Addr.add ⟨p.blk, p.base + o, none⟩ (l * sz))) (hh - l) (n - l), ?_, ?_⟩
              · simp [Instr.sliceAt, run_underlying hu, Instr.sureAddr, h1, run_sizeOf' hsz]
              · refine .slice _ _ _ _ _ _ p _ _ hp (Nat.le_refl _) (fun _ => rfl) (by omega) ?_
                by_cases hml : n = l
                · exact .inl (by omega)
                · right
                  rw [if_neg hml, Addr.add_none, Nat.add_assoc]
                  refine ⟨rfl, ?_⟩
                  have h7 : l * sz + (n - l) * sz = n * sz := by rw [← Nat.add_mul]; congr 1; omega
                  omega
            · simp at e
          · simp at e
        · simp at e
      · simp at e
    · simp at e
  · simp at e

theorem lenA_ok (S : Sim B w0 ρ h w) {t : TypeId} {x v : AV} {a : Value} (ty : TypeId) (r : Array TypeId) (hr : r[0]? = some t) (e : lenA P h t x = some v) (hx : VR ρ x a) :
    ∃ v', (Builtin.len_ r ty #[a]).run P w = .ok v' w ∧ VR ρ v v' := by
  unfold lenA at e
  split at e
  · rename_i hu
    split at e
    · cases hx
      rename_i s bs hbs
      obtain rfl := Option.some.inj e
      refine ⟨.int .i64 s.length, ?_, .int _ _⟩
      have hs : bs.size = s.length := by rw [← hbs, Array.length_toList]; rfl
      simp [Builtin.len_, hr, run_underlying hu, goInt, hs]
    · simp at e
  · rename_i n el hu
    obtain rfl := Option.some.inj e
    refine ⟨.int .i64 n, ?_, .int _ _⟩
    simp [Builtin.len_, hr, run_underlying hu, goInt]
  · rename_i el hu
    split at e
    · cases hx
      obtain rfl := Option.some.inj e
      exact ⟨.int .i64 0, by simp [Builtin.len_, hr, run_underlying hu, goInt], .int _ _⟩
    · cases hx
      obtain rfl := Option.some.inj e
      exact ⟨.int .i64 _, by simp [Builtin.len_, hr, run_underlying hu, goInt], .int _ _⟩
    · simp at e
  · rename_i k el hu
    split at e
    · cases hx
      obtain rfl := Option.some.inj e
      exact ⟨.int .i64 0, by simp [Builtin.len_, hr, run_underlying hu, goInt], .int _ _⟩
    · cases hx
      rename_i r' p hp
      split at e
      · rename_i es c hg
        rw [cond_eq_ite] at e
        split at e
        case isFalse => simp at e
        rename_i hpl
        obtain rfl := Option.some.inj e
        obtain ⟨q, ob, e1, e2, e3, e4⟩ := S.map _ _ _ hg
        rw [hp] at e1; obtain rfl := Option.some.inj e1
        obtain ⟨es', rfl, e3'⟩ := e3.plain hpl
        have hl : es'.size = es.length := by
          have : ∀ {l : List (AV × AV × Nat)} {l' : List MapEntry}, ER ρ l l' → l'.length = l.length := by
            intro l l' h
            induction h with
            | nil => rfl
            | cons _ _ _ _ _ _ _ _ _ _ ih => simp [ih]
          have := this e3'
          simpa using this
        refine ⟨.int .i64 es.length, ?_, .int _ _⟩
        simp [Builtin.len_, hr, run_underlying hu, goInt, getObj, Sem.run, e2, hl]
      · simp at e
    · simp at e
  · simp at e

theorem minmaxA_ok (mx : Bool) : ∀ {r : List AV} {x v : AV} {r' : List Value} {x' : Value}, minmaxA mx x r = some v → VR ρ x x' → VRL ρ r r' →
    ∃ v', (r'.foldlM (if mx then Builtin.max2 else Builtin.min2) x').run P w = .ok v' w ∧ VR ρ v v'
  | [], x, v, _, x', e, hx, .nil => by
    simp only [minmaxA] at e
    obtain rfl := Option.some.inj e
    exact ⟨x', by simp, hx⟩
  | y :: r, x, v, _, x', e, hx, .cons _ y' _ r' hy hr => by
    unfold minmaxA at e
    split at e
    · rename_i heq; simp at heq
    · rename_i heq
      obtain ⟨rfl, rfl⟩ := List.cons.inj heq
      cases hx; cases hy
      cases mx with
      | true =>
        obtain ⟨v', h1, h2⟩ := minmaxA_ok true e (.int _ _) hr
        refine ⟨v', ?_, h2⟩
        simp only [if_true] at h1 ⊢
        simp only [List.foldlM_cons, Builtin.max2, Sem.run_bind, Sem.run_pure, Result.andThen_ok]
        exact h1
      | false =>
        obtain ⟨v', h1, h2⟩ := minmaxA_ok false e (.int _ _) hr
        refine ⟨v', ?_, h2⟩
        simp only [Bool.false_eq_true, if_false] at h1 ⊢
        simp only [List.foldlM_cons, Builtin.min2, Sem.run_bind, Sem.run_pure, Result.andThen_ok]
        exact h1
    · simp at e

end Go.Proofs.YtahdafekballcaaGreat.AM
