/-
  AM, part 2: the operations that make nothing: what they come to in a world.
-/
import Derived.Test.YtahdafekballcaaGreatAm1
import Derived.Laws.Strings
import Derived.Laws.BytesString
namespace Go.Proofs.YtahdafekballcaaGreat.AM
open Go Go.RowKit
set_option linter.unusedVariables false
set_option linter.unusedSimpArgs false

/-- In the world w the action yields a value that v stands for, and does nothing. -/
def Yields1 (P : Program) (ρ : Rho) (w : World) (s : Sem Value) (v : AV) : Prop := ∃ v', s.run P w = .ok v' w ∧ VR ρ v v'

variable {P : Program} {ρ : Rho} {B : Nat} {w0 w : World} {h : Heap}

/-- A value of one cell that leads nowhere. -/
def scal : AV → Value
  | .bool b => .bool b
  | .int k n => .int k n
  | _ => undef

theorem arith_run {op : BinOp} {k : IntKind} {x y : Int} {v : AV} (t : TypeId) (e : arith op k x y = some v) (hs : op ≠ .shl ∧ op ≠ .shr) : (binOp op t (.int k x) (.int k y)).run P w = .ok (scal v) w := by
  have hk : ¬ (k ≠ k) := fun h => h rfl
  cases op <;> simp only [arith] at e <;> first
    | exact absurd rfl hs.1
    | exact absurd rfl hs.2
    | (obtain rfl := Option.some.inj e
       simp only [binOp, if_neg hk]
       rfl)
    | (by_cases h0 : y = 0
       · rw [if_pos h0] at e; simp at e
       · rw [if_neg h0] at e
         obtain rfl := Option.some.inj e
         simp only [binOp, if_neg hk, Op.intDiv, if_neg h0]
         rfl)

theorem arith_scal {op : BinOp} {k : IntKind} {x y : Int} {v : AV} (e : arith op k x y = some v) : VR ρ v (scal v) := by
  cases op <;> simp only [arith] at e <;> (try split at e) <;> first
    | (simp at e; done)
    | (obtain rfl := Option.some.inj e; constructor)

theorem shift_run {op : BinOp} {k k' : IntKind} {x y : Int} {v : AV} (t : TypeId) (e : shiftA op k x y = some v) : (binOp op t (.int k x) (.int k' y)).run P w = .ok (scal v) w := by
  unfold shiftA at e
  by_cases h0 : y < 0
  · rw [if_pos h0] at e; simp at e
  · rw [if_neg h0] at e
    cases op <;> simp only at e <;> first
      | (simp at e; done)
      | (obtain rfl := Option.some.inj e
         simp only [binOp, Op.shift, if_neg h0]
         rfl)

theorem shift_scal {op : BinOp} {k : IntKind} {x y : Int} {v : AV} (e : shiftA op k x y = some v) : VR ρ v (scal v) := by
  unfold shiftA at e
  by_cases h0 : y < 0
  · rw [if_pos h0] at e; simp at e
  · rw [if_neg h0] at e
    cases op <;> simp only at e <;> first
      | (simp at e; done)
      | (obtain rfl := Option.some.inj e; constructor)

theorem strop_ok {op : BinOp} {x y : List UInt8} {a b : ByteArray} {v : AV} (t : TypeId) (hx : a.data.toList = x) (hy : b.data.toList = y) (e : strop op x y = some v) :
    Yields1 P ρ w (binOp op t (.string a) (.string b)) v := by
  subst hx hy
  have hb : binOp op t (.string a) (.string b) = Op.stringOp op a b ∨ True := .inr trivial
  cases op <;> simp only [strop] at e <;> first
    | (simp at e; done)
    | (obtain rfl := Option.some.inj e
       refine ⟨.bool _, ?_, .bool _⟩
       simp only [binOp, Op.stringOp, ByteArray.toList_eq]
       rfl)
    | (cases h0 : Nat.ble (a.data.toList.length + b.data.toList.length) 9223372036854775807 with
       | false => rw [h0] at e; simp at e
       | true =>
         rw [h0] at e
         obtain rfl := Option.some.inj e
         have h1 := Nat.le_of_ble_eq_true h0
         rw [Array.length_toList, Array.length_toList] at h1
         have h1 : a.size + b.size ≤ 9223372036854775807 := h1
         refine ⟨.string (a ++ b), ?_, .str _ _ (by simp)⟩
         have h2 : ¬ (((a.size + b.size : Nat) : Int) > IntKind.i64.max) := by rw [IntKind.max_i64]; omega
         simp only [binOp, Op.stringOp, if_neg h2]
         rfl)

theorem liveRw_spec {b : Nat} (e : liveRw h b = true) : ∃ cs anc, h.get b = some (.cells cs (.rw true) anc) := by
  unfold liveRw at e
  split at e
  · rename_i cs anc hg; exact ⟨cs, anc, hg⟩
  · simp at e

/-- Two variables of two blocks of the call's own are two. -/
theorem sameAddr_two (S : Sim B w0 ρ h w) {b b' : Nat} {p p' : Pos} (hp : ρ b = some p) (hp' : ρ b' = some p') (hne : b ≠ b') (l : liveRw h b = true) (l' : liveRw h b' = true) (o o' : Nat) :
    (sameAddr ⟨p.blk, o, none⟩ ⟨p'.blk, o', none⟩).run P w = .ok false w := by
  obtain ⟨cs, anc, hg⟩ := liveRw_spec l
  obtain ⟨cs', anc', hg'⟩ := liveRw_spec l'
  obtain ⟨q, T, cc, fz, e1, e2, e3, e4, e5, e6⟩ := S.blk _ _ _ _ hg
  rw [hp] at e1; obtain rfl := Option.some.inj e1
  obtain ⟨q', T', cc', fz', f1, f2, f3, f4, f5, f6⟩ := S.blk _ _ _ _ hg'
  rw [hp'] at f1; obtain rfl := Option.some.inj f1
  have hb : p.blk ≠ p'.blk := fun e => by
    obtain ⟨_, _, md2, _, ee, hmd, _⟩ := S.sep b cs _ anc p b' _ p' hg hp hg' hp' hne e
    injection ee with _ e2 _
    exact hmd _ e2.symm
  obtain rfl := (e6 true rfl).2.2 rfl
  obtain rfl := (f6 true rfl).2.2 rfl
  have hs : w.shape? p.blk = some (T, cc.size) := by simp [World.shape?, e2]
  have hs' : w.shape? p'.blk = some (T', cc'.size) := by simp [World.shape?, f2]
  have hz : ∀ i, w.frozen? ⟨p.blk, i, none⟩ = false := fun i => by simp [World.frozen?, e2]
  have hz' : ∀ i, w.frozen? ⟨p'.blk, i, none⟩ = false := fun i => by simp [World.frozen?, f2]
  have hbb : (p.blk == p'.blk) = false := by simpa using hb
  simp [sameAddr, hbb, hz, hz', noView, viewAt, hs, hs', mayBeOne, stringish]

theorem sameAddr_same (k o o' : Nat) : (sameAddr ⟨k, o, none⟩ ⟨k, o', none⟩).run P w = .ok (o == o') w := by
  unfold sameAddr
  dsimp only
  rw [if_pos (by simp), Sem.run_pure]
  congr 1
  by_cases h : o = o'
  · subst h; rw [beq_self_eq_true, beq_self_eq_true]
  · have : ¬ ((⟨k, o, none⟩ : Addr) = ⟨k, o', none⟩) := fun e => h (by injection e)
    rw [beq_eq_false_iff_ne.mpr this, beq_eq_false_iff_ne.mpr h]

theorem eqA_ok' (S : Sim B w0 ρ h w) (d : Nat) {t : TypeId} {con : Bool} {x y : AV} {x' y' : Value} {r : Bool} (e : eqA P h t con x y = some r) (hx : VR ρ x x') (hy : VR ρ y y') :
    (Op.equalIn (d + 1) t x' y').run P w = .ok r w := by
  unfold eqA at e
  split at e
  all_goals (try (simp at e; done))
  all_goals (cases hx; cases hy)
  all_goals (split at e <;> first | (simp at e; done) | skip)
  all_goals (rename_i hu; simp only [Op.equalIn, Sem.run_bind, run_underlying hu, Result.andThen_ok])
  all_goals (first | (obtain rfl := Option.some.inj e; rfl) | skip)
  · rename_i b o b' o' p hp p' hp' _ _
    split at e
    · rename_i n hn
      rw [run_sizeOf' hn]
      simp only [Result.andThen_ok, ne_eq, Nat.add_one_ne_zero, not_false_eq_true, if_true]
      by_cases hbb : b = b'
      · subst hbb
        rw [hp] at hp'
        obtain rfl := Option.some.inj hp'
        rw [if_pos rfl] at e
        obtain rfl := Option.some.inj e
        rw [sameAddr_same]
        congr 1
        by_cases ho : o = o'
        · subst ho; rw [beq_self_eq_true, beq_self_eq_true]
        · have : ¬ (p.base + o = p.base + o') := by omega
          rw [beq_eq_false_iff_ne.mpr this, beq_eq_false_iff_ne.mpr ho]
      · rw [if_neg hbb] at e
        split at e
        · rename_i hl
          obtain rfl := Option.some.inj e
          simp only [Bool.and_eq_true] at hl
          exact sameAddr_two S hp hp' hbb hl.1 hl.2 _ _
        · simp at e
    · simp at e
  · split at e
    · obtain rfl := Option.some.inj e; rfl
    · simp at e

theorem eqA_ok (S : Sim B w0 ρ h w) {t : TypeId} {con : Bool} {x y : AV} {x' y' : Value} {r : Bool} (e : eqA P h t con x y = some r) (hx : VR ρ x x') (hy : VR ρ y y') :
    (Op.equal t x' y').run P w = .ok r w := eqA_ok' S 9999 e hx hy


/-! ### Frames -/
structure FR (ρ : Rho) (e : Env) (tm : Array Value) : Prop where
  size : tm.size = e.sz
  get : ∀ t, VR ρ (e.get t) (tm.getD t undef)

theorem FR.mono {ρ ρ' : Rho} (hE : Ext ρ ρ') {e : Env} {tm : Array Value} (F : FR ρ e tm) : FR ρ' e tm := ⟨F.size, fun t => (F.get t).mono hE⟩

theorem undef_rel : VR ρ undefA undef := .tup _ _ .nil

theorem FR.put {e e' : Env} {a : Act} (F : FR ρ e a.tmps) {d : Option Tmp} {v : AV} {v' : Value} (hp : putA e d v = some e') (hv : VR ρ v v') : FR ρ e' (a.put d v').tmps := by
  cases d with
  | none => simp [putA] at hp; subst hp; exact F
  | some d =>
    simp only [putA, cond_eq_ite] at hp
    split at hp
    · rename_i hlt
      obtain rfl := Option.some.inj hp
      have hlt : d < e.sz := Nat.le_of_ble_eq_true hlt
      refine ⟨by simp [Act.put, Env.sz_put, F.size], fun t => ?_⟩
      rw [Env.get_put]
      simp only [Act.put, Array.getD_eq_getD_getElem?, Array.getElem?_setIfInBounds]
      by_cases ht : d = t
      · subst ht; simp [F.size, hlt, hv]
      · have := F.get t
        rw [Array.getD_eq_getD_getElem?] at this
        simpa [ht] using this
    · simp at hp

theorem opv_ok {e : Env} {a : Act} (F : FR ρ e a.tmps) {x : Operand} {v : AV} (hx : opv e x = some v) : VR ρ v (a.eval x) := by
  cases x with
  | tmp t => simp only [opv] at hx; obtain rfl := Option.some.inj hx; exact F.get t
  | const c => exact ofConst_rel hx
  | global g => simp [opv] at hx
  | func f => simp only [opv] at hx; obtain rfl := Option.some.inj hx; exact .fn _ _ _ _ _ .nil .nil

theorem opvs_ok {e : Env} {a : Act} (F : FR ρ e a.tmps) : ∀ {xs : List Operand} {vs : List AV}, opvs e xs = some vs → VRL ρ vs (xs.map a.eval)
  | [], vs, h => by simp [opvs] at h; subst h; exact .nil
  | x :: xs, vs, h => by
    simp only [opvs] at h
    split at h
    · simp at h
    · rename_i v hv
      split at h
      · simp at h
      · rename_i vs' hvs
        obtain rfl := Option.some.inj h
        exact .cons _ _ _ _ (opv_ok F hv) (opvs_ok F hvs)

/-! ### Reading -/
theorem cut_spec {cs l : List AV} {o n : Nat} (e : cut cs o n = some l) : o + n ≤ cs.length ∧ l = (cs.drop o).take n ∧ l.length = n := by
  unfold cut at e
  rw [cond_eq_ite] at e
  split at e
  · rename_i hle
    have := Nat.le_of_ble_eq_true hle
    obtain rfl := Option.some.inj e
    exact ⟨this, rfl, by simp; omega⟩
  · simp at e

/-- The cells of a block that an abstract one tells. -/
theorem Sim.cellsAt (S : Sim B w0 ρ h w) {b : Nat} {cs : List AV} {md : Md} {anc : List Nat} {p : Pos} (hg : h.get b = some (.cells cs md anc)) (hp : ρ b = some p) :
    ∃ T cc fz, w.heap[p.blk]? = some (.cells cc T fz) ∧ p.base + p.room = cc.size ∧ cs.length ≤ p.room ∧ VRL ρ cs ((cc.toList.drop p.base).take cs.length) ∧
      (∀ pl, md = .rw pl → B ≤ p.blk ∧ (∀ i, i < cc.size → ¬ (fz.1 ≤ i ∧ i < fz.2)) ∧ (pl = true → fz = (0, 0))) := by
  obtain ⟨q, T, cc, fz, e1, e2, e3, e4, e5, e6⟩ := S.blk _ _ _ _ hg
  rw [hp] at e1; obtain rfl := Option.some.inj e1
  exact ⟨T, cc, fz, e2, e3, e4, e5, e6⟩

theorem Sim.loadCells (S : Sim B w0 ρ h w) {b o n : Nat} {cs l : List AV} {md : Md} {anc : List Nat} {p : Pos} (hg : h.get b = some (.cells cs md anc)) (hp : ρ b = some p) (hc : cut cs o n = some l) :
    ∃ l', (Go.loadCells ⟨p.blk, p.base + o, none⟩ n).run P w = .ok l' w ∧ VRL ρ l l'.toList := by
  obtain ⟨T, cc, fz, e2, e3, e4, e5, e6⟩ := S.cellsAt hg hp
  obtain ⟨h1, rfl, h2⟩ := cut_spec hc
  refine ⟨_, run_loadCells_blk e2 (p.base + o) n (by omega), ?_⟩
  have h3 := VRL.take n (VRL.drop o e5)
  simp only
  have h4 : (((cc.toList.drop p.base).take cs.length).drop o).take n = (cc.toList.drop (p.base + o)).take n := by
    rw [List.drop_take, List.drop_drop, List.take_take, Nat.min_eq_left (by omega)]
  rw [h4] at h3
  exact h3

theorem Sim.loadCell (S : Sim B w0 ρ h w) {b o : Nat} {cs : List AV} {v : AV} {md : Md} {anc : List Nat} {p : Pos} (hg : h.get b = some (.cells cs md anc)) (hp : ρ b = some p) (hc : cs[o]? = some v) :
    ∃ v', (Go.load ⟨p.blk, p.base + o, none⟩).run P w = .ok v' w ∧ VR ρ v v' := by
  obtain ⟨T, cc, fz, e2, e3, e4, e5, e6⟩ := S.cellsAt hg hp
  obtain ⟨v', hv', r⟩ := VRL.get e5 o v hc
  rw [List.getElem?_take] at hv'
  split at hv'
  · rw [List.getElem?_drop, Array.getElem?_toList] at hv'
    refine ⟨v', ?_, r⟩
    rw [run_load, cell_of_heap e2, hv']
  · simp at hv'

theorem rdA_some {b : Nat} {cs : List AV} {md : Md} {anc : List Nat} (hg : h.get b = some (.cells cs md anc)) : rdA h b = cs := by unfold rdA; rw [hg]

/-- The same, of what a block holds. -/
theorem Sim.loadRd (S : Sim B w0 ρ h w) {b o n : Nat} {l : List AV} {p : Pos} (hp : ρ b = some p) (hc : cut (rdA h b) o n = some l) :
    ∃ l', (Go.loadCells ⟨p.blk, p.base + o, none⟩ n).run P w = .ok l' w ∧ VRL ρ l l'.toList := by
  have empty : rdA h b = [] → ∃ l', (Go.loadCells ⟨p.blk, p.base + o, none⟩ n).run P w = .ok l' w ∧ VRL ρ l l'.toList := fun he => by
    rw [he] at hc
    obtain ⟨h1, h2, h3⟩ := cut_spec hc
    simp only [List.length_nil] at h1
    obtain rfl : n = 0 := by omega
    refine ⟨#[], by simp [Go.loadCells, loadCellsFrom], ?_⟩
    rw [h2]; simpa using VRL.nil
  cases hg : h.get b with
  | none => exact empty (by unfold rdA; rw [hg])
  | some ob =>
    cases ob with
    | cells cs md anc => rw [rdA_some hg] at hc; exact S.loadCells hg hp hc
    | map es c => exact empty (by unfold rdA; rw [hg])

theorem Sim.loadRd1 (S : Sim B w0 ρ h w) {b o : Nat} {v : AV} {p : Pos} (hp : ρ b = some p) (hc : (rdA h b)[o]? = some v) : ∃ v', (Go.load ⟨p.blk, p.base + o, none⟩).run P w = .ok v' w ∧ VR ρ v v' := by
  cases hg : h.get b with
  | none => unfold rdA at hc; rw [hg] at hc; simp at hc
  | some ob =>
    cases ob with
    | cells cs md anc => rw [rdA_some hg] at hc; exact S.loadCell hg hp hc
    | map es c => unfold rdA at hc; rw [hg] at hc; simp at hc

theorem loadA_ok (S : Sim B w0 ρ h w) {t : TypeId} {a v : AV} {a' : Value} (e : loadA P h t a = some v) (ha : VR ρ a a') :
    ∃ ad, a' = .pointer (some ad) ∧ ∃ v', (loadVar t ad).run P w = .ok v' w ∧ VR ρ v v' := by
  unfold loadA at e
  split at e
  · cases ha
    rename_i b o p hp
    refine ⟨_, rfl, ?_⟩
    split at e
    · rename_i hagg
      split at e
      · rename_i n hn
        cases hc : cut (rdA h b) o n with
        | none => simp [hc] at e
        | some l =>
          simp only [hc, Option.map_some] at e
          obtain rfl := Option.some.inj e
          obtain ⟨l', hl, hr⟩ := S.loadRd (P := P) hp hc
          exact ⟨.agg l', by simp [loadVar, run_isAgg' hagg, run_sizeOf' hn, hl], .agg _ _ hr⟩
      · simp at e
    · rename_i hagg
      obtain ⟨v', hl, hr⟩ := S.loadRd1 (P := P) hp e
      exact ⟨v', by simp only [loadVar, Sem.run_bind, run_isAgg' hagg, Result.andThen_ok]; exact hl, hr⟩
    · simp at e
  · simp at e

end Go.Proofs.YtahdafekballcaaGreat.AM
