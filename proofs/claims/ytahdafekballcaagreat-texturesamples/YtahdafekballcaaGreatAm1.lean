/-
  AM, part 1: what an abstract state says of a world: values, blocks; and how a world's blocks are read, written and made.
-/
import Derived.Test.YtahdafekballcaaGreatAm0
import Derived.Below
import Derived.LoopN
import Derived.Scope
import Derived.Laws.Cells
import Derived.Laws.Append
import Derived.Laws.Entries
namespace Go.Proofs.YtahdafekballcaaGreat.AM
open Go Go.RowKit
set_option linter.unusedVariables false

/-! ### Where an abstract block lies -/
structure Pos where
  blk : Nat
  base : Nat
  room : Nat

abbrev Rho := Nat → Option Pos

mutual
inductive VR (ρ : Rho) : AV → Value → Prop where
  | junk (v : Value) : VR ρ .junk v
  | bool (b : Bool) : VR ρ (.bool b) (.bool b)
  | int (k : IntKind) (n : Int) : VR ρ (.int k n) (.int k n)
  | str (s : List UInt8) (bs : ByteArray) (h : bs.data.toList = s) : VR ρ (.str s) (.string bs)
  | nilp : VR ρ .nilp (.pointer none)
  | ptr (b o : Nat) (p : Pos) (h : ρ b = some p) : VR ρ (.ptr b o) (.pointer (some ⟨p.blk, p.base + o, none⟩))
  | nils : VR ρ .nils (.slice none 0 0)
  | slice (b o len cap : Nat) (ex : Bool) (sz : Nat) (p : Pos) (c' : Nat) (a : Addr) (h : ρ b = some p) (h1 : cap ≤ c') (h2 : ex = true → c' = cap) (h3 : len ≤ cap)
      (h4 : c' = 0 ∨ (a = ⟨p.blk, p.base + o, none⟩ ∧ o + c' * sz ≤ p.room)) : VR ρ (.slice b o len cap ex sz) (.slice (some a) len c')
  | nilm : VR ρ .nilm (.map none)
  | map (r : Nat) (p : Pos) (h : ρ r = some p) : VR ρ (.map r) (.map (some p.blk))
  | fn (f : FuncId) (x y : List AV) (x' y' : Array Value) (h : VRL ρ x x'.toList) (h' : VRL ρ y y'.toList) : VR ρ (.fn f x y) (.func (.func f) x' y')
  | nilf : VR ρ .nilf .nilFunc
  | iface (t : TypeId) (v : AV) (v' : Value) (h : VR ρ v v') : VR ρ (.iface t v) (.iface t v')
  | nili : VR ρ .nili .nilIface
  | agg (x : List AV) (x' : Array Value) (h : VRL ρ x x'.toList) : VR ρ (.agg x) (.agg x')
  | tup (x : List AV) (x' : Array Value) (h : VRL ρ x x'.toList) : VR ρ (.tup x) (.tuple x')
inductive VRL (ρ : Rho) : List AV → List Value → Prop where
  | nil : VRL ρ [] []
  | cons (v : AV) (v' : Value) (vs : List AV) (vs' : List Value) (h : VR ρ v v') (hs : VRL ρ vs vs') : VRL ρ (v :: vs) (v' :: vs')
end

/-- ρ' says all that ρ says. -/
def Ext (ρ ρ' : Rho) : Prop := ∀ b p, ρ b = some p → ρ' b = some p
theorem Ext.refl (ρ : Rho) : Ext ρ ρ := fun _ _ h => h
theorem Ext.trans {a b c : Rho} (h : Ext a b) (k : Ext b c) : Ext a c := fun x p hx => k x p (h x p hx)

mutual
theorem VR.mono {ρ ρ' : Rho} (h : Ext ρ ρ') : ∀ {v : AV} {v' : Value}, VR ρ v v' → VR ρ' v v'
  | _, _, .junk v => .junk v
  | _, _, .bool b => .bool b
  | _, _, .int k n => .int k n
  | _, _, .str s bs e => .str s bs e
  | _, _, .nilp => .nilp
  | _, _, .ptr b o p e => .ptr b o p (h b p e)
  | _, _, .nils => .nils
  | _, _, .slice b o len cap ex sz p c' a e h1 h2 h3 h4 => .slice b o len cap ex sz p c' a (h b p e) h1 h2 h3 h4
  | _, _, .nilm => .nilm
  | _, _, .map r p e => .map r p (h r p e)
  | _, _, .fn f x y x' y' e e' => .fn f x y x' y' (VRL.mono h e) (VRL.mono h e')
  | _, _, .nilf => .nilf
  | _, _, .iface t v v' e => .iface t v v' (VR.mono h e)
  | _, _, .nili => .nili
  | _, _, .agg x x' e => .agg x x' (VRL.mono h e)
  | _, _, .tup x x' e => .tup x x' (VRL.mono h e)
theorem VRL.mono {ρ ρ' : Rho} (h : Ext ρ ρ') : ∀ {v : List AV} {v' : List Value}, VRL ρ v v' → VRL ρ' v v'
  | _, _, .nil => .nil
  | _, _, .cons v v' vs vs' e es => .cons v v' vs vs' (VR.mono h e) (VRL.mono h es)
end

theorem VRL.length {ρ : Rho} : ∀ {x : List AV} {y : List Value}, VRL ρ x y → x.length = y.length
  | _, _, .nil => rfl
  | _, _, .cons _ _ _ _ _ h => by simp [VRL.length h]

theorem VRL.get {ρ : Rho} : ∀ {x : List AV} {y : List Value}, VRL ρ x y → ∀ (i : Nat) (v : AV), x[i]? = some v → ∃ v', y[i]? = some v' ∧ VR ρ v v'
  | _, _, .nil, i, v, h => by simp at h
  | _, _, .cons a a' _ _ h hs, 0, v, e => by simp at e; subst e; exact ⟨a', rfl, h⟩
  | _, _, .cons a a' _ _ h hs, i + 1, v, e => by simp at e; simpa using VRL.get hs i v e

theorem VRL.of_get {ρ : Rho} : ∀ {x : List AV} {y : List Value}, x.length = y.length → (∀ (i : Nat) (v : AV), x[i]? = some v → ∃ v', y[i]? = some v' ∧ VR ρ v v') → VRL ρ x y
  | [], [], _, _ => .nil
  | [], _ :: _, h, _ => by simp at h
  | _ :: _, [], h, _ => by simp at h
  | a :: x, b :: y, h, g => by
    obtain ⟨v', e, r⟩ := g 0 a rfl
    simp at e
    subst e
    exact .cons _ _ _ _ r (VRL.of_get (by simpa using h) fun i v e => by simpa using g (i + 1) v (by simpa using e))

theorem VRL.append {ρ : Rho} : ∀ {x : List AV} {y : List Value} {u : List AV} {v : List Value}, VRL ρ x y → VRL ρ u v → VRL ρ (x ++ u) (y ++ v)
  | _, _, _, _, .nil, h => h
  | _, _, _, _, .cons _ _ _ _ e es, h => .cons _ _ _ _ e (VRL.append es h)

theorem VRL.drop {ρ : Rho} : ∀ (n : Nat) {x : List AV} {y : List Value}, VRL ρ x y → VRL ρ (x.drop n) (y.drop n)
  | 0, _, _, h => by simpa using h
  | n + 1, _, _, .nil => by simpa using VRL.nil
  | n + 1, _, _, .cons _ _ _ _ e es => by simpa using VRL.drop n es

theorem VRL.take {ρ : Rho} : ∀ (n : Nat) {x : List AV} {y : List Value}, VRL ρ x y → VRL ρ (x.take n) (y.take n)
  | 0, _, _, h => by simpa using VRL.nil
  | n + 1, _, _, .nil => by simpa using VRL.nil
  | n + 1, _, _, .cons _ _ _ _ e es => by simpa using VRL.cons _ _ _ _ e (VRL.take n es)

theorem VRL.set {ρ : Rho} : ∀ {x : List AV} {y : List Value} (i : Nat) {v : AV} {v' : Value}, VRL ρ x y → VR ρ v v' → VRL ρ (x.set i v) (y.set i v')
  | _, _, i, _, _, .nil, h => by simpa using VRL.nil
  | _, _, 0, _, _, .cons _ _ _ _ e es, h => by simpa using VRL.cons _ _ _ _ h es
  | _, _, i + 1, _, _, .cons _ _ _ _ e es, h => by simpa using VRL.cons _ _ _ _ e (VRL.set i es h)

theorem VR.cells {ρ : Rho} {v : AV} {v' : Value} {cs : List AV} (h : VR ρ v v') (hc : v.cells = some cs) : VRL ρ cs v'.cells.toList := by
  cases h <;> simp [AV.cells] at hc <;> subst hc <;> simp only [Value.cells] <;>
    first
      | assumption
      | (refine .cons _ _ _ _ ?_ .nil; constructor <;> assumption)
      | (refine .cons _ _ _ _ ?_ .nil; constructor)

theorem VR.oneCell {ρ : Rho} {v : AV} {v' : Value} (h : VR ρ v v') (hc : v.isCell = true) : v'.oneCell' = true := by
  cases h <;> simp [AV.isCell] at hc <;> rfl

/-! ### Constants -/
theorem ofScalar_rel {ρ : Rho} {v : Value} {a : AV} (h : ofScalar v = some a) : VR ρ a v := by
  unfold ofScalar at h
  split at h <;> first
    | (obtain rfl := Option.some.inj h; constructor; done)
    | (obtain rfl := Option.some.inj h; exact .str _ _ rfl)
    | simp at h

theorem ofScalars_rel {ρ : Rho} : ∀ {vs : List Value} {as : List AV}, ofScalars vs = some as → VRL ρ as vs
  | [], as, h => by simp [ofScalars] at h; subst h; exact .nil
  | v :: vs, as, h => by
    simp only [ofScalars] at h
    split at h
    · simp at h
    · rename_i a ha
      split at h
      · simp at h
      · rename_i as' hs
        obtain rfl := Option.some.inj h
        exact .cons _ _ _ _ (ofScalar_rel ha) (ofScalars_rel hs)

theorem ofConst_rel {ρ : Rho} {v : Value} {a : AV} (h : ofConst v = some a) : VR ρ a v := by
  unfold ofConst at h
  split at h
  · rename_i cs
    cases hs : ofScalars cs.toList with
    | none => simp [hs] at h
    | some as => simp [hs] at h; subst h; exact .agg _ _ (ofScalars_rel hs)
  · rename_i t v
    cases hs : ofScalar v with
    | none => simp [hs] at h
    | some as => simp [hs] at h; subst h; exact .iface _ _ _ (ofScalar_rel hs)
  · rename_i vs
    split at h
    · rename_i hz
      obtain rfl := Option.some.inj h
      exact .tup _ _ (by have : vs = #[] := by simpa using hz
                         subst this; exact .nil)
    · simp at h
  · exact ofScalar_rel h

/-! ### A world's blocks -/
/-- The world with another thing in block k. -/
def withBlk (w : World) (k : Nat) (o : Obj) : World := { w with heap := w.heap.setIfInBounds k o }

theorem heap_withBlk (w : World) (k : Nat) (o : Obj) (j : Nat) (hk : k < w.heap.size) : (withBlk w k o).heap[j]? = if k = j then some o else w.heap[j]? := by
  simp only [withBlk, Array.getElem?_setIfInBounds]
  split
  · rfl
  · rfl
theorem size_withBlk (w : World) (k : Nat) (o : Obj) : (withBlk w k o).heap.size = w.heap.size := by simp [withBlk]

theorem lt_of_heap {w : World} {k : Nat} {o : Obj} (h : w.heap[k]? = some o) : k < w.heap.size := by
  rcases Nat.lt_or_ge k w.heap.size with h' | h'
  · exact h'
  · simp [Array.getElem?_eq_none h'] at h

theorem cell_of_heap {w : World} {k : Nat} {cc : Array Value} {T : TypeId} {fz : Nat × Nat} (h : w.heap[k]? = some (.cells cc T fz)) (i : Nat) :
    w.cell? ⟨k, i, none⟩ = cc[i]? := by
  simp [World.cell?, h]

theorem frozen_of_heap {w : World} {k : Nat} {cc : Array Value} {T : TypeId} {fz : Nat × Nat} (h : w.heap[k]? = some (.cells cc T fz)) (i : Nat) (hf : ¬ (fz.1 ≤ i ∧ i < fz.2)) :
    w.frozen? ⟨k, i, none⟩ = false := by
  simp only [World.frozen?, h]
  simp only [Bool.and_eq_false_iff, decide_eq_false_iff_not]
  omega

theorem Addr.add_none (k o n : Nat) : Addr.add ⟨k, o, none⟩ n = ⟨k, o + n, none⟩ := by
  simp only [Addr.add]
  split
  · rename_i h; subst h; rfl
  · rfl

/-- Concrete cells laid over others. -/
def layV : List Value → Nat → List Value → List Value
  | cs, _, [] => cs
  | cs, o, v :: vs => layV (cs.set o v) (o + 1) vs

theorem length_layV : ∀ (vs cs : List Value) (o : Nat), (layV cs o vs).length = cs.length
  | [], cs, o => rfl
  | v :: vs, cs, o => by simp only [layV]; rw [length_layV vs]; simp
theorem length_lay : ∀ (vs cs : List AV) (o : Nat), (lay cs o vs).length = cs.length
  | [], cs, o => rfl
  | v :: vs, cs, o => by simp only [lay]; rw [length_lay vs]; simp

theorem VRL.lay {ρ : Rho} : ∀ {vs : List AV} {vs' : List Value} {cs : List AV} {cs' : List Value} (o : Nat), VRL ρ cs cs' → VRL ρ vs vs' → VRL ρ (lay cs o vs) (layV cs' o vs')
  | _, _, _, _, _, h, .nil => h
  | _, _, _, _, o, h, .cons _ _ _ _ e es => VRL.lay (o + 1) (VRL.set o h e) es

theorem get_lay : ∀ (vs cs : List AV) (o i : Nat), o + vs.length ≤ cs.length → (lay cs o vs)[i]? = if o ≤ i ∧ i < o + vs.length then vs[i - o]? else cs[i]?
  | [], cs, o, i, h => by
    simp only [lay, List.length_nil, Nat.add_zero]
    rw [if_neg (by omega)]
  | v :: vs, cs, o, i, h => by
    simp only [List.length_cons] at h ⊢
    simp only [lay]
    rw [get_lay vs (cs.set o v) (o + 1) i (by rw [List.length_set]; omega)]
    by_cases h1 : o + 1 ≤ i ∧ i < o + 1 + vs.length
    · rw [if_pos h1, if_pos (by omega)]
      obtain ⟨j, rfl⟩ : ∃ j, i = o + 1 + j := ⟨i - (o + 1), by omega⟩
      rw [show o + 1 + j - (o + 1) = j by omega, show o + 1 + j - o = j + 1 by omega]
      rfl
    · rw [if_neg h1]
      by_cases h2 : o = i
      · subst h2
        rw [if_pos (by omega), List.getElem?_set_self (by omega)]
        simp
      · rw [if_neg (by omega)]
        rw [List.getElem?_set_ne h2]

theorem get_layV : ∀ (vs cs : List Value) (o i : Nat), o + vs.length ≤ cs.length → (layV cs o vs)[i]? = if o ≤ i ∧ i < o + vs.length then vs[i - o]? else cs[i]?
  | [], cs, o, i, h => by
    simp only [layV, List.length_nil, Nat.add_zero]
    rw [if_neg (by omega)]
  | v :: vs, cs, o, i, h => by
    simp only [List.length_cons] at h ⊢
    simp only [layV]
    rw [get_layV vs (cs.set o v) (o + 1) i (by rw [List.length_set]; omega)]
    by_cases h1 : o + 1 ≤ i ∧ i < o + 1 + vs.length
    · rw [if_pos h1, if_pos (by omega)]
      obtain ⟨j, rfl⟩ : ∃ j, i = o + 1 + j := ⟨i - (o + 1), by omega⟩
      rw [show o + 1 + j - (o + 1) = j by omega, show o + 1 + j - o = j + 1 by omega]
      rfl
    · rw [if_neg h1]
      by_cases h2 : o = i
      · subst h2
        rw [if_pos (by omega), List.getElem?_set_self (by omega)]
        simp
      · rw [if_neg (by omega)]
        rw [List.getElem?_set_ne h2]

theorem setCell_eq {w : World} {k : Nat} {cc : Array Value} {T : TypeId} {fz : Nat × Nat} (h : w.heap[k]? = some (.cells cc T fz)) (i : Nat) (v : Value) :
    w.setCell ⟨k, i, none⟩ v = withBlk w k (.cells (cc.setIfInBounds i v) T fz) := by
  unfold World.setCell withBlk
  congr 1
  apply Array.ext_getElem?
  intro j
  simp only [Array.getElem?_modify, Array.getElem?_setIfInBounds]
  have hk := lt_of_heap h
  by_cases hj : k = j
  · subst hj
    simp only [if_true, h, Option.map_some, hk]
    rfl
  · simp [hj]

theorem withBlk_self {w : World} {k : Nat} {o : Obj} (h : w.heap[k]? = some o) : withBlk w k o = w := by
  have : w.heap.setIfInBounds k o = w.heap := by
    apply Array.ext_getElem?
    intro j
    simp only [Array.getElem?_setIfInBounds]
    by_cases hj : k = j
    · subst hj; simp only [if_true, h, lt_of_heap h]
    · simp [hj]
  unfold withBlk
  rw [this]

theorem withBlk_withBlk (w : World) (k : Nat) (o o' : Obj) : withBlk (withBlk w k o) k o' = withBlk w k o' := by
  simp [withBlk]

/-- Several cells of one block, stored one behind the other. -/
theorem run_storeCells {P : Program} : ∀ (vs : List Value) (w : World) (k off i : Nat) (cc : Array Value) (T : TypeId) (fz : Nat × Nat),
    w.heap[k]? = some (.cells cc T fz) → (∀ v ∈ vs, v.oneCell' = true) → off + i + vs.length ≤ cc.size → (∀ j, j < cc.size → ¬ (fz.1 ≤ j ∧ j < fz.2)) →
    (storeCells ⟨k, off, none⟩ vs i).run P w = .ok () (withBlk w k (.cells (layV cc.toList (off + i) vs).toArray T fz)) := by
  intro vs
  induction vs with
  | nil =>
    intro w k off i cc T fz h _ _ _
    simp only [storeCells, layV, Sem.run_pure]
    rw [withBlk_self (by simpa using h)]
  | cons v vs ih =>
    intro w k off i cc T fz h hv hl hf
    simp only [List.length_cons] at hl
    have hlt : off + i < cc.size := by omega
    have hc : w.cell? ⟨k, off + i, none⟩ = some cc[off + i] := by rw [cell_of_heap h]; simp [hlt]
    have hz := frozen_of_heap h (off + i) (hf _ hlt)
    simp only [storeCells, Sem.run_bind, Addr.add_none]
    rw [run_store P w ⟨k, off + i, none⟩ v .plain (hv v (by simp)), hc]
    simp only [hz, Bool.false_eq_true, if_false, Result.andThen_ok]
    rw [setCell_eq h]
    rw [ih (withBlk w k (.cells (cc.setIfInBounds (off + i) v) T fz)) k off (i + 1) (cc.setIfInBounds (off + i) v) T fz (by rw [heap_withBlk _ _ _ _ (lt_of_heap h)]; simp)
      (fun u hu => hv u (by simp [hu])) (by simp; omega) (by simpa using hf)]
    rw [withBlk_withBlk]
    simp [layV, Nat.add_assoc]

/-- Cells of one block, read. -/
theorem run_loadCells_blk {P : Program} {w : World} {k : Nat} {cc : Array Value} {T : TypeId} {fz : Nat × Nat} (h : w.heap[k]? = some (.cells cc T fz)) (off n : Nat) (hn : off + n ≤ cc.size) :
    (loadCells ⟨k, off, none⟩ n).run P w = .ok ((cc.toList.drop off).take n).toArray w := by
  have := run_loadCells_list (P := P) w ⟨k, off, none⟩ ((cc.toList.drop off).take n) (fun j v hj => by
    rw [Addr.add_none, cell_of_heap h]
    rw [List.getElem?_take] at hj
    split at hj
    · rw [List.getElem?_drop] at hj; simpa using hj
    · simp at hj)
  rw [show ((cc.toList.drop off).take n).length = n by simp; omega] at this
  exact this

/-! ### Types -/
section
variable {P : Program}
theorem run_typeInfo' {t : TypeId} {i : TypeInfo} (h : P.info? t = some i) (w : World) : (typeInfo t).run P w = .ok i w := by
  simp [typeInfo, h]
theorem run_sizeOf' {t : TypeId} {n : Nat} (h : sizeA P t = some n) (w : World) : (sizeOf t).run P w = .ok n w := by
  unfold sizeA at h
  cases hi : P.info? t with
  | none => simp [hi] at h
  | some i => simp [hi] at h; simp [sizeOf, run_typeInfo' hi, h]
theorem run_isAgg' {t : TypeId} {b : Bool} (h : aggA P t = some b) (w : World) : (isAgg t).run P w = .ok b w := by
  unfold aggA at h
  cases hu : P.underlying t with
  | none => simp [hu] at h
  | some d =>
    rw [hu] at h
    simp only [isAgg, Sem.run_bind, run_underlying hu, Result.andThen_ok]
    cases d <;> simp at h <;> subst h <;> rfl
theorem run_zeroValue' {t : TypeId} {z : AV} (h : zeroA P t = some z) (w : World) (ρ : Rho) : ∃ v, (zeroValue t).run P w = .ok v w ∧ VR ρ z v := by
  unfold zeroA at h
  cases hi : P.info? t with
  | none => simp [hi] at h
  | some i =>
    simp only [hi] at h
    cases hz : i.zero with
    | none => simp [hz] at h
    | some v =>
      simp only [hz] at h
      exact ⟨v, by simp [zeroValue, run_typeInfo' hi, hz], ofConst_rel h⟩
end

/-! ### What an abstract heap says of a world -/
inductive ER (ρ : Rho) : List (AV × AV × Nat) → List MapEntry → Prop where
  | nil : ER ρ [] []
  | cons (k v : AV) (n : Nat) (k' v' : Value) (es : List (AV × AV × Nat)) (es' : List MapEntry) (hk : VR ρ k k') (hv : VR ρ v v') (h : ER ρ es es') :
      ER ρ ((k, v, n) :: es) ({ key := k', val := v', born := n } :: es')

theorem ER.mono {ρ ρ' : Rho} (h : Ext ρ ρ') : ∀ {es : List (AV × AV × Nat)} {es' : List MapEntry}, ER ρ es es' → ER ρ' es es'
  | _, _, .nil => .nil
  | _, _, .cons k v n k' v' es es' hk hv e => .cons k v n k' v' es es' (hk.mono h) (hv.mono h) (ER.mono h e)

/-- What a block that holds no cells stands for: a map; or a text that is gone through. -/
inductive MO (ρ : Rho) (p : Pos) : List (AV × AV × Nat) → Nat → Obj → Prop where
  | map (es : List (AV × AV × Nat)) (es' : Array MapEntry) (c : Nat) (hpl : plainE es = true) (h : ER ρ es es'.toList) : MO ρ p es c (.map es' c)
  | iter (s : List UInt8) (bs : ByteArray) (n c : Nat) (hs : bs.data.toList = s) (hp : p.base = 0) : MO ρ p [(.tup [.str s], .junk, n)] c (.stringIter bs c)

theorem MO.mono {ρ ρ' : Rho} {p : Pos} (h : Ext ρ ρ') {es : List (AV × AV × Nat)} {c : Nat} {ob : Obj} (m : MO ρ p es c ob) : MO ρ' p es c ob := by
  cases m with
  | map es0 es' c0 hpl h2 => exact .map _ _ _ hpl (h2.mono h)
  | iter s bs n c0 hs hp => exact .iter _ _ _ _ hs hp

theorem MO.plain {ρ : Rho} {p : Pos} {es : List (AV × AV × Nat)} {c : Nat} {ob : Obj} (m : MO ρ p es c ob) (h : plainE es = true) : ∃ es', ob = .map es' c ∧ ER ρ es es'.toList := by
  cases m with
  | map es0 es' c0 hpl h2 => exact ⟨es', rfl, h2⟩
  | iter s bs n c0 hs hp => cases h

theorem MO.no_cells {ρ : Rho} {p : Pos} {es : List (AV × AV × Nat)} {c : Nat} {cc : Array Value} {T : TypeId} {fz : Nat × Nat} (m : MO ρ p es c (.cells cc T fz)) : False := by cases m

structure Sim (B : Nat) (w0 : World) (ρ : Rho) (h : Heap) (w : World) : Prop where
  below : Below B w0 w
  bsize : B ≤ w0.heap.size
  dom : ∀ b p, ρ b = some p → b < h.next
  blk : ∀ b cs md anc, h.get b = some (.cells cs md anc) → ∃ p T cc fz, ρ b = some p ∧ w.heap[p.blk]? = some (.cells cc T fz) ∧ p.base + p.room = cc.size ∧ cs.length ≤ p.room ∧
    VRL ρ cs ((cc.toList.drop p.base).take cs.length) ∧ (∀ pl, md = .rw pl → B ≤ p.blk ∧ (∀ i, i < cc.size → ¬ (fz.1 ≤ i ∧ i < fz.2)) ∧ (pl = true → fz = (0, 0)))
  map : ∀ r es c, h.get r = some (.map es c) → ∃ p ob, ρ r = some p ∧ w.heap[p.blk]? = some ob ∧ MO ρ p es c ob ∧ B ≤ p.blk
  sep : ∀ b cs pl anc p b2 o2 p2, h.get b = some (.cells cs (.rw pl) anc) → ρ b = some p → h.get b2 = some o2 → ρ b2 = some p2 → b ≠ b2 → p.blk = p2.blk →
    b2 ∈ anc ∧ ∃ cs2 md2 anc2, o2 = .cells cs2 md2 anc2 ∧ (∀ pl2, md2 ≠ .rw pl2) ∧ p2.base + cs2.length ≤ p.base + cs.length
  msep : ∀ r es c p b2 o2 p2, h.get r = some (.map es c) → ρ r = some p → h.get b2 = some o2 → ρ b2 = some p2 → r ≠ b2 → p.blk ≠ p2.blk
  ancl : ∀ b cs md a, h.get b = some (.cells cs md a) → ∀ x ∈ a, x < h.next

theorem Sim.lt {B : Nat} {w0 : World} {ρ : Rho} {h : Heap} {w : World} (S : Sim B w0 ρ h w) {b : Nat} {o : AObj} (hb : h.get b = some o) : b < h.next := by
  cases o with
  | cells cs md anc => obtain ⟨p, _, _, _, hp, _⟩ := S.blk b cs md anc hb; exact S.dom b p hp
  | map es c => obtain ⟨p, _, hp, _⟩ := S.map b es c hb; exact S.dom b p hp

theorem Sim.bump {B : Nat} {w0 : World} {ρ : Rho} {h : Heap} {w : World} (S : Sim B w0 ρ h w) (n : Nat) : Sim B w0 ρ (h.bump n) w :=
  { below := S.below, bsize := S.bsize, dom := fun b p hp => Nat.lt_of_lt_of_le (S.dom b p hp) (Nat.le_add_right _ _), blk := S.blk, map := S.map, sep := S.sep, msep := S.msep, ancl := fun b cs md a hg x hx => Nat.lt_of_lt_of_le (S.ancl b cs md a hg x hx) (Nat.le_add_right _ _) }

/-- A world that holds the same blocks. -/
theorem Sim.world {B : Nat} {w0 : World} {ρ : Rho} {h : Heap} {w w' : World} (S : Sim B w0 ρ h w) (hb : Below B w0 w') (hh : ∀ (k : Nat) (o : Obj), w.heap[k]? = some o → w'.heap[k]? = some o) : Sim B w0 ρ h w' :=
  { below := hb, bsize := S.bsize, dom := S.dom, sep := S.sep, msep := S.msep, ancl := S.ancl,
    blk := fun b cs md anc hg => by
      obtain ⟨p, T, cc, fz, h1, h2, h3⟩ := S.blk b cs md anc hg
      exact ⟨p, T, cc, fz, h1, hh _ _ h2, h3⟩
    map := fun r es c hg => by
      obtain ⟨p, es', h1, h2, h3⟩ := S.map r es c hg
      exact ⟨p, es', h1, hh _ _ h2, h3⟩ }

theorem Sim.drew {B : Nat} {w0 : World} {ρ : Rho} {h : Heap} {w : World} (S : Sim B w0 ρ h w) : Sim B w0 ρ h w.drew := S.world S.below.drew fun _ _ h => h

/-- Blocks may be forgotten. -/
theorem Sim.forget {B : Nat} {w0 : World} {ρ : Rho} {h h' : Heap} {w : World} (S : Sim B w0 ρ h w) (hn : h.next ≤ h'.next) (hg : ∀ b o, h'.get b = some o → h.get b = some o) : Sim B w0 ρ h' w :=
  { below := S.below, bsize := S.bsize, dom := fun b p hp => Nat.lt_of_lt_of_le (S.dom b p hp) hn,
    blk := fun b cs md anc h => S.blk b cs md anc (hg _ _ h), map := fun r es c h => S.map r es c (hg _ _ h),
    sep := fun b cs pl anc p b2 o2 p2 h1 h2 h3 h4 h5 h6 => S.sep b cs pl anc p b2 o2 p2 (hg _ _ h1) h2 (hg _ _ h3) h4 h5 h6,
    msep := fun r es c p b2 o2 p2 h1 h2 h3 h4 h5 => S.msep r es c p b2 o2 p2 (hg _ _ h1) h2 (hg _ _ h3) h4 h5
    ancl := fun b cs md a h1 x hx => Nat.lt_of_lt_of_le (S.ancl b cs md a (hg _ _ h1) x hx) hn }

def Rho.put (ρ : Rho) (b : Nat) (p : Pos) : Rho := fun c => if b = c then some p else ρ c
theorem Rho.ext_put {ρ : Rho} {b : Nat} (p : Pos) (h : ρ b = none) : Ext ρ (ρ.put b p) := fun c q hc => by
  unfold Rho.put
  rw [if_neg (fun e => by subst e; rw [h] at hc; cases hc)]
  exact hc

theorem heap_push (w : World) (o : Obj) (k : Nat) : ({ w with heap := w.heap.push o } : World).heap[k]? = if k = w.heap.size then some o else w.heap[k]? := by
  simp only [Array.getElem?_push]

/-- A new block of cells. -/
theorem Sim.new {B : Nat} {w0 : World} {ρ : Rho} {h : Heap} {w : World} (S : Sim B w0 ρ h w) {fresh : Nat} (hf : ρ fresh = none) (hl : fresh < h.next) {cs : List AV} {cc : Array Value} (T : TypeId) (fz : Nat × Nat)
    (pl : Bool) (hle : cs.length ≤ cc.size) (hv : VRL ρ cs (cc.toList.take cs.length)) (hfz : ∀ i, i < cc.size → ¬ (fz.1 ≤ i ∧ i < fz.2)) (hpl : pl = true → fz = (0, 0)) :
    Sim B w0 (ρ.put fresh ⟨w.heap.size, 0, cc.size⟩) (newA h fresh cs pl) (w.alloc (.cells cc T fz)) := by
  have hE := Rho.ext_put (ρ := ρ) (b := fresh) ⟨w.heap.size, 0, cc.size⟩ hf
  have hB : B ≤ w.heap.size := Nat.le_trans S.bsize S.below.size
  have old : ∀ k o, w.heap[k]? = some o → (w.alloc (.cells cc T fz)).heap[k]? = some o := fun k o hk => by
    rw [show (w.alloc (.cells cc T fz)).heap[k]? = _ from heap_push w _ k, if_neg (Nat.ne_of_lt (lt_of_heap hk))]; exact hk
  have new : (w.alloc (.cells cc T fz)).heap[w.heap.size]? = some (.cells cc T fz) := by
    rw [show (w.alloc (.cells cc T fz)).heap[w.heap.size]? = _ from heap_push w _ _, if_pos rfl]
  have hput : ∀ c q, ρ.put fresh ⟨w.heap.size, 0, cc.size⟩ c = some q → (c = fresh ∧ q = ⟨w.heap.size, 0, cc.size⟩) ∨ (c ≠ fresh ∧ ρ c = some q) := fun c q hc => by
    unfold Rho.put at hc
    split at hc
    · rename_i e; exact .inl ⟨e.symm, (Option.some.inj hc).symm⟩
    · rename_i e; exact .inr ⟨fun e' => e e'.symm, hc⟩
  have hgeto : ∀ b o, (newA h fresh cs pl).get b = some o → (b = fresh ∧ o = .cells cs (.rw pl) []) ∨ (b ≠ fresh ∧ h.get b = some o) := fun b o hb => by
    unfold newA at hb
    rw [Heap.get_put] at hb
    split at hb
    · rename_i e; exact .inl ⟨e.symm, (Option.some.inj hb).symm⟩
    · rename_i e; exact .inr ⟨fun e' => e e'.symm, hb⟩
  have blt : ∀ b o p, h.get b = some o → ρ b = some p → p.blk < w.heap.size := fun b o p hb hp => by
    cases o with
    | cells cs' md anc =>
      obtain ⟨p', _, _, _, h1, h2, _⟩ := S.blk b cs' md anc hb
      rw [hp] at h1; obtain rfl := Option.some.inj h1
      exact lt_of_heap h2
    | map es c =>
      obtain ⟨p', _, h1, h2, _⟩ := S.map b es c hb
      rw [hp] at h1; obtain rfl := Option.some.inj h1
      exact lt_of_heap h2
  refine { below := S.below.alloc hB _, bsize := S.bsize, dom := ?_, blk := ?_, map := ?_, sep := ?_, msep := ?_, ancl := ?_ }
  rotate_right
  · intro b cs' md a hg x hx
    rcases hgeto b _ hg with ⟨rfl, e⟩ | ⟨hne, hg⟩
    · injection e with e1 e2 e3
      subst e3; cases hx
    · exact S.ancl b cs' md a hg x hx
  · intro b p hp
    rcases hput b p hp with ⟨rfl, _⟩ | ⟨_, hp⟩
    · exact hl
    · exact S.dom b p hp
  · intro b cs' md anc hg
    rcases hgeto b _ hg with ⟨rfl, e⟩ | ⟨hne, hg⟩
    · injection e with e1 e2 e3
      subst e1
      refine ⟨⟨w.heap.size, 0, cc.size⟩, T, cc, fz, by simp [Rho.put], new, by simp, hle, ?_, fun pl' e => ⟨hB, hfz, fun ht => hpl (by subst ht; rw [e2] at e; injection e)⟩⟩
      simpa using hv.mono hE
    · obtain ⟨p, T', cc', fz', h1, h2, h3, h4, h5, h6⟩ := S.blk b cs' md anc hg
      exact ⟨p, T', cc', fz', hE _ _ h1, old _ _ h2, h3, h4, h5.mono hE, h6⟩
  · intro r es c hg
    rcases hgeto r _ hg with ⟨rfl, e⟩ | ⟨hne, hg⟩
    · cases e
    · obtain ⟨p, es', h1, h2, h3, h4⟩ := S.map r es c hg
      exact ⟨p, es', hE _ _ h1, old _ _ h2, h3.mono hE, h4⟩
  · intro b cs' pl' anc p b2 o2 p2 h1 h2 h3 h4 h5 h6
    rcases hgeto b _ h1 with ⟨rfl, e⟩ | ⟨hne, h1'⟩
    · rcases hput _ _ h2 with ⟨_, rfl⟩ | ⟨hx, _⟩
      · rcases hgeto b2 _ h3 with ⟨e2, _⟩ | ⟨hne2, h3'⟩
        · exact absurd e2.symm h5
        · rcases hput _ _ h4 with ⟨e3, _⟩ | ⟨_, h4'⟩
          · exact absurd e3 hne2
          · have := blt _ _ _ h3' h4'
            simp at h6; omega
      · exact absurd rfl hx
    · rcases hput _ _ h2 with ⟨e2, _⟩ | ⟨_, h2'⟩
      · exact absurd e2 hne
      · rcases hgeto b2 _ h3 with ⟨e3, e4⟩ | ⟨hne2, h3'⟩
        · rcases hput _ _ h4 with ⟨_, rfl⟩ | ⟨hx, _⟩
          · have := blt _ _ _ h1' h2'
            simp at h6; omega
          · exact absurd e3 hx
        · rcases hput _ _ h4 with ⟨e4, _⟩ | ⟨_, h4'⟩
          · exact absurd e4 hne2
          · exact S.sep b cs' pl' anc p b2 o2 p2 h1' h2' h3' h4' h5 h6
  · intro r es c p b2 o2 p2 h1 h2 h3 h4 h5 h6
    rcases hgeto r _ h1 with ⟨rfl, e⟩ | ⟨hne, h1'⟩
    · cases e
    · rcases hput _ _ h2 with ⟨e2, _⟩ | ⟨_, h2'⟩
      · exact absurd e2 hne
      · rcases hgeto b2 _ h3 with ⟨e3, e4⟩ | ⟨hne2, h3'⟩
        · rcases hput _ _ h4 with ⟨_, rfl⟩ | ⟨hx, _⟩
          · have := blt _ _ _ h1' h2'
            simp at h6; omega
          · exact absurd e3 hx
        · rcases hput _ _ h4 with ⟨e4, _⟩ | ⟨_, h4'⟩
          · exact absurd e4 hne2
          · exact S.msep r es c p b2 o2 p2 h1' h2' h3' h4' h5 h6

end Go.Proofs.YtahdafekballcaaGreat.AM
